/- DERIVED. Walk of narthexlaw14's InbufPlays. -/
import Derived.Test.YtojklmbbepgciaaInbDo
namespace Go.Proofs.Ytojklmbbepgciaa
open Go.RowKit

theorem AkI.cells8 {w : World} {B : Nat} {oa : Option Addr} {n cap : Nat} {L : List AkI} (h : Vw encI w B (.slice oa n cap) L) {i : Nat} {a : AkI} (ha : L[i]? = some a) :
    ∃ b off, oa = some ⟨b, off, none⟩ ∧ b < B ∧ w.cell? ⟨b, off + i * 8, none⟩ = some (.int .i64 a.kd) ∧ w.cell? ⟨b, off + i * 8 + 1, none⟩ = some (.int .i64 a.off) ∧ w.cell? ⟨b, off + i * 8 + 2, none⟩ = some (.int .i64 a.size) ∧
      w.cell? ⟨b, off + i * 8 + 3, none⟩ = some (.int .i64 a.most) ∧ w.cell? ⟨b, off + i * 8 + 4, none⟩ = some (.bool a.fin) ∧ w.cell? ⟨b, off + i * 8 + 5, none⟩ = some (.bool a.raw) ∧ w.cell? ⟨b, off + i * 8 + 6, none⟩ = some (.int .u64 a.at_) ∧
      w.cell? ⟨b, off + i * 8 + 7, none⟩ = some a.vd := by
  obtain ⟨b, off, h1, h2, h3⟩ := h.el encI_len ha
  refine ⟨b, off, h1, h2, ?_, h3 1 (by omega), h3 2 (by omega), h3 3 (by omega), h3 4 (by omega), h3 5 (by omega), h3 6 (by omega), h3 7 (by omega)⟩
  have := h3 0 (by omega)
  simpa [encI] using this
/-- The two buffers, all of new blocks. -/
structure Pair (W w : World) (b m : Nat) (s : IB) (fp fm : Nat → Prop) : Prop where
  two : Two w b m s fp fm
  new : ∀ k, fp k ∨ fm k → W.heap.size ≤ k
  below : Below W.heap.size W w
theorem Pair.later {W w w' : World} {b m : Nat} {s : IB} {fp fm : Nat → Prop} (h : Pair W w b m s fp fm) (hb : Below w.heap.size w w') : Pair W w' b m s fp fm := ⟨h.two.below hb, h.new, below_call h.below h.below.size hb⟩
theorem Pair.went {W w w' : World} {b m : Nat} {s s' : IB} {fp fm fp' fm' : Nat → Prop} (h : Pair W w b m s fp fm) (ht : Two w' b m s' fp' fm') (hw : Went (fun k => fp k ∨ fm k) (fun k => fp' k ∨ fm' k) w w') : Pair W w' b m s' fp' fm' :=
  ⟨ht, fun k hk => by
    have := h.below.size
    rcases hw.new k hk with q | q
    · exact h.new k q
    · omega, Upd.belowOf h.below hw.upd (fun j hj q => by have := h.new j q; omega)⟩
theorem Pair.view {W w : World} {b m : Nat} {s : IB} {fp fm : Nat → Prop} (h : Pair W w b m s fp fm) {α : Type} {enc : α → List Value} {v : Value} {xs : List α} (hv : Vw enc W W.heap.size v xs) : VwA enc (fun k => fp k ∨ fm k) w v xs :=
  (hv.below h.below).apart h.below.size h.new
theorem ref_zero (w : World) : RbAt (w.alloc (.cells #[.int .u64 0, .int .u64 0, .int .u64 0, .bool false, .slice none 0 0, .slice none 0 0] 41)) w.heap.size IB.zero (fun j => j = w.heap.size ∨ (none : Option Nat) = some j ∨ (none : Option Nat) = some j) :=
  ⟨.slice none 0 0, .slice none 0 0, none, none, ⟨alloc_at _ _, SlG.nil _, SlG.nil _, IB.zero_ok⟩, rfl⟩
theorem pair_zero {W w : World} {b : Nat} {fp : Nat → Prop} (h : IbAt w b IB.zero fp) (hn : ∀ k, fp k → W.heap.size ≤ k) (hb : Below W.heap.size W w) :
    ∃ fm, Pair W (w.alloc (.cells #[.int .u64 0, .int .u64 0, .int .u64 0, .bool false, .slice none 0 0, .slice none 0 0] 41)) b w.heap.size IB.zero fp fm := by
  refine ⟨_, ⟨h.below ((Below.refl _ _).alloc (Nat.le_refl _) _), ref_zero w, fun k h1 h2 => ?_⟩, fun k hk => ?_, hb.alloc hb.size _⟩
  · have := h.lt.2 k h1
    rcases h2 with h2 | h2 | h2
    · omega
    · cases h2
    · cases h2
  · rcases hk with hk | hk | hk | hk
    · exact hn k hk
    · have := hb.size
      omega
    · cases hk
    · cases hk

set_option maxRecDepth 100000 in
set_option maxHeartbeats 4000000 in
theorem plays_walk (vl : Value) (L : List AkI) (w : World) (hl : Vw encI w w.heap.size vl L) (hL : ∀ a ∈ L, AkIOk w w.heap.size a) :
    Calls Try.prog 5 #[vl] w fun e w' => e = .returned (.bool true) ∧ Below w.heap.size w w' := by
  obtain ⟨ol, capl, rfl, hcl1, hcl2⟩ := hl.shape
  have HVL := Lib.hid hl
  have HLO := Lib.hid hL
  clear hl hL
  generalize hn : L.length = len at *
  have HN := Lib.hid hn
  clear hn
  go_enter Try.func5, Try.ntmps5
  go_wp2_with fail
  refine (bnew_any _).mono ?_
  rintro e w1 ⟨b, fp1, rfl, hi, hn, hb⟩
  obtain ⟨fm1, hp⟩ := pair_zero hi hn hb
  have H0 := Lib.hid hp
  clear hi hn hb hp
  generalize hm : w1.heap.size = m at *
  go_wp2_with fail
  have H1 := Lib.hid (show ∃ s fp fm, Pair w (w1.alloc (.cells #[.int .u64 0, .int .u64 0, .int .u64 0, .bool false, .slice none 0 0, .slice none 0 0] 41)) b m s fp fm from ⟨_, _, _, H0.out⟩)
  clear H0
  go_loopw [5] (fun i wr => ∃ k : Nat, i = .int .i64 k ∧ k ≤ 60 ∧ ∃ s fp fm, Pair w wr b m s fp fm) (fun i _ => 60 - (intOf i).toNat)
  case atStart => exact ⟨0, rfl, by omega, H1.out⟩
  case round =>
    obtain ⟨k, rfl, hk, s, fp, fm, hst⟩ := hrel
    have HST := Lib.hid hst
    clear hst H1 hm
    by_cases hlt : k < len
    · by_cases hlt2 : k < 60
      · obtain ⟨a, hak⟩ : ∃ a, L[k]? = some a := ⟨_, List.getElem?_eq_getElem (by rw [HN.out]; exact hlt)⟩
        obtain ⟨c, ofc, rfl, hc, q0, q1, q2, q3, q4, q5, q6, q7⟩ := AkI.cells8 HVL.out hak
        have hok := Lib.hid (HLO.out a (List.mem_of_getElem? hak))
        obtain ⟨kd, off, size, most, fin, raw, at_, vd⟩ := a
        simp only at q0 q1 q2 q3 q4 q5 q6 q7
        obtain ⟨d, hd, hby⟩ := hok.out.data
        have HD := Lib.hid (HST.out.view hd)
        have HBY := Lib.hid hby
        obtain ⟨od, capd, e7, _, _⟩ := hd.shape
        simp only at e7
        have hbl := HST.out.below
        have q0 := cell_keep hbl hc q0
        have q1 := cell_keep hbl hc q1
        have q2 := cell_keep hbl hc q2
        have q3 := cell_keep hbl hc q3
        have q4 := cell_keep hbl hc q4
        have q5 := cell_keep hbl hc q5
        have q6 := cell_keep hbl hc q6
        have q7 := cell_keep hbl hc q7
        clear hbl hak hd hby
        subst e7
        generalize d.length = dl at *
        go_wp2_with fail
        refine (do_any b m s fp fm ⟨kd, off, size, most, fin, raw, at_, .slice od dl capd⟩ d _ (by exact HST.out.two) ⟨hok.out.kd, hok.out.off, hok.out.most, hok.out.at_⟩ (by exact HD.out) HBY.out).mono ?_
        rintro e w3 ⟨rfl, s', fp', fm', ht, hw⟩
        have H3 := Lib.hid (HST.out.went ht hw)
        clear ht hw HST q0 q1 q2 q3 q4 q5 q6 q7
        go_wp2_with fail
        go_roundw
        case rel => exact ⟨k + 1, by go_num, by omega, _, _, _, H3.out⟩
        case measure => simp [intOf]; omega
      · go_wp2_with fail
        refine (known_any _).mono ?_
        rintro e w3 ⟨rfl, hb⟩
        go_wp2_with fail
        go_ret
        exact ⟨rfl, (HST.out.later hb).below⟩
    · go_wp2_with fail
      refine (known_any _).mono ?_
      rintro e w3 ⟨rfl, hb⟩
      go_wp2_with fail
      go_ret
      exact ⟨rfl, (HST.out.later hb).below⟩
end Go.Proofs.Ytojklmbbepgciaa
