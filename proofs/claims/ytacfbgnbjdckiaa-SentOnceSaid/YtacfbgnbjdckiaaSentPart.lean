/- DERIVED. Walk of sent's part: what a closure says of each packet. -/
import Derived.Test.YtacfbgnbjdckiaaSentS
import Derived.Deep.DeepCutAuto
namespace Go.Proofs.Ytacfbgnbjdckiaa
open Go.RowKit

/-- In the middle: what was taken, and what is left, of the first packets. -/
structure PMid (w wr : World) (L : List Pk) (f : Pk → Bool) (k : Nat) (v5 v6 : Value) (o5 o6 : Option Nat) : Prop where
  out : SlG encQ 32 wr v5 o5 ((L.take k).filter f)
  left : SlG encQ 32 wr v6 o6 ((L.take k).filter fun p => !f p)
  n5 : ∀ g, o5 = some g → w.heap.size ≤ g
  n6 : ∀ g, o6 = some g → w.heap.size ≤ g
  ne : ∀ g, o5 = some g → o6 ≠ some g
  below : Below w.heap.size w wr
theorem PMid.later {w wr W : World} {L : List Pk} {f : Pk → Bool} {k : Nat} {v5 v6 : Value} {o5 o6 : Option Nat} (h : PMid w wr L f k v5 v6 o5 o6) (hb : Below wr.heap.size wr W) : PMid w W L f k v5 v6 o5 o6 :=
  ⟨h.out.below hb, h.left.below hb, h.n5, h.n6, h.ne, below_call h.below h.below.size hb⟩
theorem take_filter {L : List Pk} {k : Nat} {p : Pk} (h : L[k]? = some p) (f : Pk → Bool) : (L.take (k + 1)).filter f = (L.take k).filter f ++ (if f p then [p] else []) := by
  rw [List.take_add_one, h, List.filter_append]
  simp [List.filter]
  cases f p <;> rfl
theorem PMid.push5 {w wr W : World} {L : List Pk} {f : Pk → Bool} {k : Nat} {v5 v6 v' : Value} {o5 o6 o' : Option Nat} {p : Pk} (h : PMid w wr L f k v5 v6 o5 o6) (hp : L[k]? = some p) (hf : f p = true) (hs : SlG encQ 32 W v' o' ((L.take k).filter f ++ [p]))
    (ho : o' = o5 ∨ ∃ g, o' = some g ∧ wr.heap.size ≤ g) (hu : Upd (fun j => o5 = some j) wr W) : PMid w W L f (k + 1) v' v6 o' o6 := by
  refine ⟨by rw [take_filter hp, hf]; exact hs, ?_, og_new h.n5 h.below.size ho, h.n6, ?_, Upd.belowOf h.below hu (fun j hj e => by have := h.n5 j e; omega)⟩
  · rw [take_filter hp]
    simp only [hf, Bool.not_true, Bool.false_eq_true, if_false, List.append_nil]
    exact h.left.keeps hu (fun g e q => h.ne g q e)
  · intro g hg q
    rcases ho with rfl | ⟨g', rfl, h2⟩
    · exact h.ne g hg q
    · cases hg
      have := h.left.lt g q
      omega
theorem PMid.push6 {w wr W : World} {L : List Pk} {f : Pk → Bool} {k : Nat} {v5 v6 v' : Value} {o5 o6 o' : Option Nat} {p : Pk} (h : PMid w wr L f k v5 v6 o5 o6) (hp : L[k]? = some p) (hf : f p = false) (hs : SlG encQ 32 W v' o' (((L.take k).filter fun p => !f p) ++ [p]))
    (ho : o' = o6 ∨ ∃ g, o' = some g ∧ wr.heap.size ≤ g) (hu : Upd (fun j => o6 = some j) wr W) : PMid w W L f (k + 1) v5 v' o5 o' := by
  refine ⟨?_, by rw [take_filter hp]; simp only [hf, Bool.not_false, if_true]; exact hs, h.n5, og_new h.n6 h.below.size ho, ?_, Upd.belowOf h.below hu (fun j hj e => by have := h.n6 j e; omega)⟩
  · rw [take_filter hp]
    simp only [hf, Bool.false_eq_true, if_false, List.append_nil]
    exact h.out.keeps hu (fun g e q => h.ne g e q)
  · intro g hg q
    rcases ho with rfl | ⟨g', rfl, h2⟩
    · exact h.ne g hg q
    · cases q
      have := h.out.lt g hg
      omega
theorem Vw.pkt {w : World} {B : Nat} {oa : Option Addr} {n cap : Nat} {L : List Pk} (h : Vw encQ w B (.slice oa n cap) L) {i : Nat} {p : Pk} (ha : L[i]? = some p) :
    ∃ b off, oa = some ⟨b, off, none⟩ ∧ b < B ∧ w.cell? ⟨b, off + i * 5, none⟩ = some (.int .u64 p.n) ∧ w.cell? ⟨b, off + i * 5 + 1, none⟩ = some (.int .i64 p.t) ∧ w.cell? ⟨b, off + i * 5 + 2, none⟩ = some (.int .i64 p.z) ∧
      w.cell? ⟨b, off + i * 5 + 3, none⟩ = some (.bool p.a) ∧ w.cell? ⟨b, off + i * 5 + 4, none⟩ = some (.slice none 0 0) := by
  obtain ⟨b, off, h1, h2, h3⟩ := h.el encQ_len ha
  refine ⟨b, off, h1, h2, ?_, h3 1 (by omega), h3 2 (by omega), h3 3 (by omega), h3 4 (by omega)⟩
  have := h3 0 (by omega)
  simpa [encQ] using this

set_option maxRecDepth 100000 in
set_option maxHeartbeats 2000000 in
theorem part_any (b : Nat) (s : LS) (fp : Nat → Prop) (f : Pk → Bool) (F : Nat) (cp : Value) (w : World) (h : LAt w b s fp) (hcf : ∀ (args : Array Value) (W : World), (callFunc F args).run Try.prog W = .ok (.enter F args) W)
    (hf : ∀ p ∈ s.L, ∀ W, Below w.heap.size w W → Calls Try.prog F #[.agg (encQ p).toArray, cp] W fun e W' => e = .returned (.bool (f p)) ∧ Below W.heap.size W W') :
    Calls Try.prog 23 #[.pointer (some ⟨b, 0, none⟩), .func (.func F) #[] #[cp]] w
      fun e w' => ∃ v o, e = .returned v ∧ SlG encQ 32 w' v o (s.L.filter f) ∧ (∀ g, o = some g → w.heap.size ≤ g) ∧ (∃ fp', LAt w' b { s with L := s.L.filter fun p => !f p } fp' ∧ ∀ g, fp' g → g = b ∨ w.heap.size ≤ g) ∧ Upd (fun j => j = b) w w' := by
  obtain ⟨i0, hi0, hz0, hz1, hz2'⟩ := info_parts infoP
  obtain ⟨v, og, hL, hfp⟩ := h
  obtain ⟨oa, cap, rfl, hc1, hc2⟩ := hL.row.shape
  have c0 : w.cell? ⟨b, 0, none⟩ = some (.slice oa s.L.length cap) := (cell_at hL.blk 0).trans rfl
  have HL := Lib.hid hL
  have HF := Lib.hid hf
  have hl64 := hL.ok.len
  clear hL hf hfp
  have HV := Lib.hid HL.out.row.vw
  generalize hn : s.L.length = len at *
  have HN := Lib.hid hn
  clear hn
  go_enter Try.func23, Try.ntmps23
  go_wp2_with fail
  have HM0 := Lib.hid (show PMid w w s.L f 0 (.slice none 0 0) (.slice none 0 0) none none from ⟨SlG.nil _, SlG.nil _, by simp, by simp, by simp, Below.refl _ _⟩)
  go_loopw [5, 6, 14] (fun a c i wr => ∃ k : Nat, i = .int .i64 k ∧ k ≤ len ∧ ∃ o5 o6, PMid w wr s.L f k a c o5 o6) (fun _ _ i _ => len - (intOf i).toNat)
  case atStart => exact ⟨0, rfl, by omega, _, _, HM0.out⟩
  case round =>
    obtain ⟨k, rfl, hk, o5, o6, hm⟩ := hrel
    have HM := Lib.hid hm
    clear hm HM0
    by_cases hlt : k < len
    · obtain ⟨p, hp⟩ : ∃ p, s.L[k]? = some p := ⟨_, List.getElem?_eq_getElem (by rw [HN.out]; exact hlt)⟩
      obtain ⟨c, ofc, rfl, hc, q0, q1, q2, q3, q4⟩ := HV.out.pkt hp
      have HP := Lib.hid hp
      have HFP := Lib.hid (HF.out p (List.mem_of_getElem? hp))
      have q0 := cell_keep HM.out.below hc q0
      have q1 := cell_keep HM.out.below hc q1
      have q2 := cell_keep HM.out.below hc q2
      have q3 := cell_keep HM.out.below hc q3
      have q4 := cell_keep HM.out.below hc q4
      clear hp
      go_wp2_with fail
      have ha0 : Below wr.heap.size wr (wr.alloc (.cells #[.int .u64 p.n, .int .i64 p.t, .int .i64 p.z, .bool p.a, .slice none 0 0] 32)) := (Below.refl _ _).alloc (Nat.le_refl _) _
      have HZ := Lib.hid (alloc_at wr (.cells #[.int .u64 p.n, .int .i64 p.t, .int .i64 p.z, .bool p.a, .slice none 0 0] 32))
      have HM1 := Lib.hid (HM.out.later ha0)
      refine (HFP.out _ (by exact HM1.out.below)).mono ?_
      rintro e w3 ⟨rfl, hb3⟩
      have HM3 := Lib.hid (HM1.out.later hb3)
      have hz3 := below_keeps hb3 HZ.out (heap_lt HZ.out)
      obtain ⟨z, hz⟩ : ∃ z, wr.heap.size = z := ⟨_, rfl⟩
      rw [hz] at hz3
      have z0 := (cell_at hz3 0).trans (by rfl : _ = some (Value.int .u64 p.n))
      have z1 := (cell_at hz3 1).trans (by rfl : _ = some (Value.int .i64 p.t))
      have z2 := (cell_at hz3 2).trans (by rfl : _ = some (Value.int .i64 p.z))
      have z3 := (cell_at hz3 3).trans (by rfl : _ = some (Value.bool p.a))
      have z4 := (cell_at hz3 4).trans (by rfl : _ = some (Value.slice none 0 0))
      have hk64 : k ≤ 64 := by omega
      have HL5 := Lib.hid (show ((s.L.take k).filter f).length ≤ k from Nat.le_trans (List.length_filter_le _ _) (List.length_take_le _ _))
      have HL6 := Lib.hid (show ((s.L.take k).filter fun p => !f p).length ≤ k from Nat.le_trans (List.length_filter_le _ _) (List.length_take_le _ _))
      clear ha0 hb3 HM HM1 q0 q1 q2 q3 q4 hz3
      cases hfp : f p
      · go_wp2_with (refine wpList_pushV encQ_len encQ_one Try.underlying38 hi0 hz1 hz0 zeroP rfl (.tmp 25) (.tmp 27) rfl (by exact HM3.out.left.alloc _) (by exact (SlG.vw (og := some w3.heap.size) (xs := [p]) (.inr ⟨w3.heap.size, [], rfl, rfl, alloc_at _ _, by simp⟩))) rfl rfl (by rw [hz2']; have := HL6.out; simp; omega) (by have := HL6.out; simp; omega) ?_)
        intro W4 v4 o4 hs4 ho4 hu4
        have H4 := Lib.hid ((HM3.out.later ((Below.refl _ _).alloc (Nat.le_refl _) _)).push6 HP.out hfp hs4 (by simpa using ho4) hu4)
        clear hs4 ho4 hu4 HM3 z0 z1 z2 z3 z4
        go_wp2_with fail
        go_roundw
        case rel => exact ⟨k + 1, by go_num, by omega, _, _, H4.out⟩
        case measure => simp [intOf]; omega
      · go_wp2_with (refine wpList_pushV encQ_len encQ_one Try.underlying38 hi0 hz1 hz0 zeroP rfl (.tmp 21) (.tmp 23) rfl (by exact HM3.out.out.alloc _) (by exact (SlG.vw (og := some w3.heap.size) (xs := [p]) (.inr ⟨w3.heap.size, [], rfl, rfl, alloc_at _ _, by simp⟩))) rfl rfl (by rw [hz2']; have := HL5.out; simp; omega) (by have := HL5.out; simp; omega) ?_)
        intro W4 v4 o4 hs4 ho4 hu4
        have H4 := Lib.hid ((HM3.out.later ((Below.refl _ _).alloc (Nat.le_refl _) _)).push5 HP.out hfp hs4 (by simpa using ho4) hu4)
        clear hs4 ho4 hu4 HM3 z0 z1 z2 z3 z4
        go_wp2_with fail
        go_roundw
        case rel => exact ⟨k + 1, by go_num, by omega, _, _, H4.out⟩
        case measure => simp [intOf]; omega
    · obtain rfl : k = len := by omega
      have htk : s.L.take k = s.L := by rw [← HN.out, List.take_length]
      have h5 := HM.out.out
      have h6 := HM.out.left
      rw [htk] at h5 h6
      obtain ⟨oB, cB, e6, hcB1, hcB2⟩ := h6.shape
      obtain ⟨nl, hnl⟩ : ∃ nl, (s.L.filter fun p => !f p).length = nl := ⟨_, rfl⟩
      rw [hnl] at e6
      subst e6
      have hkb := below_keeps HM.out.below HL.out.blk (heap_lt HL.out.blk)
      have y0 := (cell_at hkb 0).trans (by rfl : _ = some (Value.slice oa k cap))
      have y1 := free_at hkb 0
      have hu : Upd (fun j => j = b) wr (wr.setCell ⟨b, 0, none⟩ (.slice oB nl cB)) := (Upd.refl (fun j => j = b) wr).setCell ⟨b, 0, none⟩ (.inl rfl) _
      have a5 := slg_apart h5 hkb (by decide)
      have a6 := slg_apart h6 hkb (by decide)
      have ho := HL.out.ok
      have HF5 := Lib.hid (h5.keeps hu (fun g e q => a5 (by rw [e, q])))
      have HFN := Lib.hid (show ∃ fp', LAt (wr.setCell ⟨b, 0, none⟩ (.slice oB nl cB)) b { s with L := s.L.filter fun p => !f p } fp' ∧ ∀ g, fp' g → g = b ∨ w.heap.size ≤ g from
        ⟨_, ⟨_, o6, ⟨set_at hkb 0 _, h6.keeps hu (fun g e q => a6 (by rw [e, q])), ⟨Nat.le_trans (List.length_filter_le _ _) ho.len, ho.nx, ho.ak, fun p hp => ho.num p (List.mem_filter.1 hp).1, fun p hp => ho.z p (List.mem_filter.1 hp).1, fun p hp => ho.t p (List.mem_filter.1 hp).1⟩⟩, rfl⟩, fun g hg => by
          rcases hg with hg | hg
          · exact .inl hg
          · exact .inr (HM.out.n6 g hg)⟩)
      have HUU := Lib.hid (((Upd.below HM.out.below).mono (fun j hj x => by omega) : Upd (fun j => j = b) w wr).then hu)
      clear h5 h6 hkb hu a5 a6 ho htk hnl
      go_wp2_with fail
      go_ret
      exact ⟨_, o5, rfl, HF5.out, HM.out.n5, HFN.out, HUU.out⟩
end Go.Proofs.Ytacfbgnbjdckiaa
