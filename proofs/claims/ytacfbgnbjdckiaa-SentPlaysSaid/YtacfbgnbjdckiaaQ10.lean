/- DERIVED. Walk of narthexlaw11's known. -/
import Derived.Test.YtacfbgnbjdckiaaRows
import Derived.Test.YtacfbgnbjdckiaaQ1
import Derived.Test.YtacfbgnbjdckiaaQ2
import Derived.Test.YtacfbgnbjdckiaaQ9
namespace Go.Proofs.Ytacfbgnbjdckiaa
open Go.RowKit

def pk9 (i : Nat) : Pk := ⟨i, 0, 9, true, none, 0, 0⟩
def ls9 (k : Nat) : LS := ⟨(List.range k).map pk9, k, 0, false⟩
theorem ls9_succ (k : Nat) : (ls9 k).puts (pk9 k) = ls9 (k + 1) := by
  unfold LS.puts ls9
  rw [List.range_succ, List.map_append]
  rfl
theorem ls9_core (k : Nat) : (ls9 k).core = ls9 k := by
  unfold LS.core ls9
  simp only [List.map_map]
  rfl
theorem ls9_err : ∀ k, k < 5 → (ls9 k).addErr (pk9 k) = 0 := by decide
theorem ls9_add {k : Nat} (h : k < 5) : (ls9 k).addS (pk9 k) = ls9 (k + 1) := by
  rw [adds_self (ls9_err k h) rfl, ls9_succ]
theorem core_of_eq {p q : Pk} (h1 : q.n = p.n) (h2 : q.t = p.t) (h3 : q.z = p.z) (h4 : q.a = p.a) (h5 : q.fl = p.fl) : q.core = p.core := by
  unfold Pk.core
  rw [h1, h2, h3, h4, h5]
theorem nofr (w : World) (p : Pk) (h1 : p.fa = none) (h2 : p.fl = 0) (h3 : p.fc = 0) : PkF w p ∧ p.fo = none := by
  unfold PkF Pk.vf Pk.fo
  rw [h1, h2, h3]
  exact ⟨⟨by omega, SlG.nil _⟩, rfl⟩
theorem ladd_k (b : Nat) (s : LS) (fp : Nat → Prop) (k : Nat) (w : World) (h : LAt kP w b s fp) (hs : s.core = ls9 k) (hk : k < 5) :
    Calls Try.prog 8 #[.pointer (some ⟨b, 0, none⟩), .agg #[.int .u64 k, .int .i64 0, .int .i64 9, .bool true, .slice none 0 0]] w fun e w' => e = .returned (.int .i64 0) ∧ ∃ s', s'.core = ls9 (k + 1) ∧ LM kP w w' fp b s' := by
  have hn := nofr w (pk9 k) rfl rfl rfl
  have hc : s.core = (ls9 k).core := by rw [hs, ls9_core]
  refine (ladd_any b s fp (pk9 k) w h (by show _ ≤ (0 : Int) ∧ (0 : Int) ≤ _; omega) (by show _ ≤ (9 : Int) ∧ (9 : Int) ≤ _; omega) (by show k < _; omega) hn.1 (fun g e => by rw [hn.2] at e; cases e)).mono ?_
  rintro e w' ⟨rfl, q, h1, h2, h3, h4, h5, hm⟩
  have he : s.addErr (pk9 k) = 0 := by rw [sim_addErr hc rfl]; exact ls9_err k hk
  refine ⟨by rw [he], s.addS q, ?_, hm⟩
  rw [sim_addS hc (core_of_eq h1 h2 h3 h4 h5), ls9_add hk, ls9_core]
theorem rg_bd {lo hi : Nat} (h : lo < 18446744073709551616) (h2 : hi < 18446744073709551616) : ∀ r ∈ [(lo, hi)], r.1 < 18446744073709551616 ∧ r.2 < 18446744073709551616 := by
  intro r hr
  rw [List.mem_singleton.1 hr]
  exact ⟨h, h2⟩
set_option maxRecDepth 100000 in
set_option maxHeartbeats 2000000 in
theorem known_any (w : World) : Calls Try.prog 14 #[] w fun e w' => e = .returned (.bool true) ∧ Below w.heap.size w w' := by
  go_enter Try.func14, Try.ntmps14
  go_wp2_with fail
  refine (lnew_any _).mono ?_
  rintro e w1 ⟨b, rfl, hm⟩
  have H0 := Lib.hid (show ∃ s, LMine kP w w1 b s ∧ s.core = ls9 0 from ⟨_, hm, rfl⟩)
  clear hm
  go_upto_block 0 with fail
  go_cut [] (fun wx => ∃ s, LMine kP w wx b s ∧ s.core = ls9 5)
  case first =>
    go_wp2_with fail
    go_loopw [2] (fun i wr => ∃ k : Nat, i = .int .u64 k ∧ k ≤ 5 ∧ ∃ s, LMine kP w wr b s ∧ s.core = ls9 k) (fun i _ => 5 - (intOf i).toNat)
    case atStart => exact ⟨0, rfl, by omega, H0.out⟩
    case round =>
      obtain ⟨k, rfl, hk, s, hm, hc⟩ := hrel
      have HM := Lib.hid hm
      have HC := Lib.hid hc
      clear hm H0 hc
      by_cases hlt : k < 5
      · obtain ⟨fp, hO, hnw, hb⟩ := HM.out
        go_wp2_with fail
        refine (ladd_k b s fp k _ (by exact hO) HC.out hlt).mono ?_
        rintro e w2 ⟨rfl, s', hc', hm⟩
        have h2 := lm_mine hnw hb hm
        have H2 := Lib.hid (And.intro h2 hc')
        clear h2 hm hO hnw hb HM hc'
        go_wp2_with fail
        go_roundw
        case rel => exact ⟨k + 1, by go_num, by omega, s', H2.out.1, H2.out.2⟩
        case measure => simp [intOf]; omega
      · obtain rfl : k = 5 := by omega
        go_wp2_with fail
        go_meet
        case rel => exact ⟨s, HM.out, HC.out⟩
  case rest =>
    obtain ⟨s, hm1, hc⟩ := hcut
    have H1 := Lib.hid hm1
    have hcc : s.core = (ls9 5).core := by rw [hc, ls9_core]
    have HCC := Lib.hid hcc
    clear hm1 hc H0 hcc
    generalize wc = w2 at *
    go_wp2_with fail
    obtain ⟨fp, hO, hnw, hb⟩ := H1.out.alloc (.cells #[.int .u64 4, .int .u64 5] 37)
    refine (lack_any b s fp _ [(4, 5)] _ (by exact hO) (by exact one_vw w2 4 5) (by simp) (by simp) (rg_bd (by omega) (by omega))).mono ?_
    rintro e w3 ⟨v1, o1, v2, o2, he, hs1, hs2, hg1, hg2, hm⟩
    have hE : s.ackErr [(4, 5)] = 0 := by rw [sim_ackErr HCC.out]; decide
    rw [hE] at he hs1 hs2 hm
    simp only [if_true] at hs1 hs2 hm
    subst he
    have H3 := Lib.hid (lm_mine hnw hb hm)
    have hl1 : (s.got [(4, 5)]).length = 1 := by rw [core_len (sim_got HCC.out _)]; decide
    have hl2 : (s.lost [(4, 5)]).length = 2 := by rw [core_len (sim_lost HCC.out _)]; decide
    obtain ⟨a1, c1, e1, _, _⟩ := hs1.shape
    obtain ⟨a2, c2, e2, _, _⟩ := hs2.shape
    rw [hl1] at e1
    rw [hl2] at e2
    subst e1 e2
    have hc2 := sim_acks HCC.out [(4, 5)]
    have HFL := Lib.hid (show sumZ (s.acks [(4, 5)]).L = 18 from by rw [core_sum (LS.core_eq hc2).1]; decide)
    have HE2 := Lib.hid (show (s.acks [(4, 5)]).ackErr [(5, 6)] = 14 from by rw [sim_ackErr hc2]; decide)
    have HNX := Lib.hid (show (s.acks [(4, 5)]).nx = 5 from (LS.core_eq hc2).2.1.trans rfl)
    generalize s.acks [(4, 5)] = s2 at *
    clear hO hnw hb hm hs1 hs2 hg1 hg2 hl1 hl2 H1 hc2 hE
    go_wp2_with fail
    obtain ⟨fp, hO, hnw, hb⟩ := H3.out.alloc (.cells #[.int .u64 5, .int .u64 6] 37)
    refine (lack_any b s2 fp _ [(5, 6)] _ (by exact hO) (by exact one_vw w3 5 6) (by simp) (by simp) (rg_bd (by omega) (by omega))).mono ?_
    rintro e w4 ⟨v3, o3, v4, o4, he, hs3, hs4, hg3, hg4, hm⟩
    rw [HE2.out] at he hm
    simp only [show ¬ (14 : Int) = 0 by decide, if_false] at hm
    subst he
    have H4 := Lib.hid (lm_mine hnw hb hm)
    obtain ⟨a3, c3, e3, _, _⟩ := hs3.shape
    obtain ⟨a4, c4, e4, _, _⟩ := hs4.shape
    subst e3 e4
    clear hO hnw hb hm hs3 hs4 hg3 hg4 H3
    go_wp2_with fail
    all_goals
      obtain ⟨fp, hO, hnw, hb⟩ := H4.out
      refine (lflight_any b _ fp _ (by exact hO)).mono ?_
      rw [HFL.out]
      rintro e w5 ⟨rfl, hb5⟩
      have H5 := Lib.hid (H4.out.later hb5)
      clear hO hnw hb hb5 H4
      go_wp2_with fail
      obtain ⟨fp, hO, hnw, hb⟩ := H5.out
      refine (lnext_q b _ fp _ (by exact hO)).mono ?_
      rintro e w6 ⟨rfl, q, rfl⟩
      have H6 := Lib.hid (H5.out.drewN q)
      clear hO hnw hb H5
      rw [HNX.out]
      generalize w5.drewN q = w6 at *
      go_wp2_with fail
      go_ret
      exact ⟨rfl, H6.out.below⟩
end Go.Proofs.Ytacfbgnbjdckiaa

/- DERIVED. A slice of ints that is only read. -/
namespace Go.Proofs.Ytacfbgnbjdckiaa
open Go.RowKit

def encN (n : Int) : List Value := [.int .i64 n]
theorem Vw.num {w : World} {B : Nat} {oa : Option Addr} {n cap : Nat} {xs : List Int} (h : Vw encN w B (.slice oa n cap) xs) {i : Nat} {x : Int} (hx : xs[i]? = some x) :
    ∃ b off, oa = some ⟨b, off, none⟩ ∧ b < B ∧ w.cell? ⟨b, off + i, none⟩ = some (.int .i64 x) := by
  obtain ⟨b, off, h1, h2, h3⟩ := h.el (k := 1) (fun _ => rfl) hx
  refine ⟨b, off, h1, h2, ?_⟩
  have := h3 0 (by omega)
  simpa [encN] using this
def encU (n : Nat) : List Value := [.int .u64 n]
theorem encU_len (n : Nat) : (encU n).length = 1 := rfl
theorem Vw.num64 {w : World} {B : Nat} {oa : Option Addr} {n cap : Nat} {xs : List Nat} (h : Vw encU w B (.slice oa n cap) xs) {i : Nat} {x : Nat} (hx : xs[i]? = some x) :
    ∃ b off, oa = some ⟨b, off, none⟩ ∧ b < B ∧ w.cell? ⟨b, off + i, none⟩ = some (.int .u64 x) := by
  obtain ⟨b, off, h1, h2, h3⟩ := h.el (k := 1) (fun _ => rfl) hx
  refine ⟨b, off, h1, h2, ?_⟩
  have := h3 0 (by omega)
  simpa [encU] using this
end Go.Proofs.Ytacfbgnbjdckiaa

/- DERIVED. Walk of narthexkeep's Ranges. -/
namespace Go.Proofs.Ytacfbgnbjdckiaa
open Go.RowKit

theorem Vw.u64 {w : World} {B : Nat} {oa : Option Addr} {n cap : Nat} {xs : List Nat} (h : Vw encU w B (.slice oa n cap) xs) {i x : Nat} (hx : xs[i]? = some x) :
    ∃ b off, oa = some ⟨b, off, none⟩ ∧ b < B ∧ w.cell? ⟨b, off + i, none⟩ = some (.int .u64 x) := by
  obtain ⟨b, off, h1, h2, h3⟩ := h.el encU_len hx
  refine ⟨b, off, h1, h2, ?_⟩
  have := h3 0 (by omega)
  simpa [encU] using this
def katN (xs : List Nat) (f : Nat) : Nat → Nat × List Rg
  | 0 => (f, [])
  | k + 1 => ((katN xs f k).1 + xs.getD (2 * k) 0 % 30 + 1 + xs.getD (2 * k + 1) 0 % 20 + 1,
    (katN xs f k).2 ++ [((katN xs f k).1 + xs.getD (2 * k) 0 % 30, (katN xs f k).1 + xs.getD (2 * k) 0 % 30 + 1 + xs.getD (2 * k + 1) 0 % 20)])
theorem katN_succ (xs : List Nat) (f k : Nat) {lo hi : Nat} (hlo : (katN xs f k).1 + xs.getD (2 * k) 0 % 30 = lo) (hhi : lo + 1 + xs.getD (2 * k + 1) 0 % 20 = hi) : katN xs f (k + 1) = (hi + 1, (katN xs f k).2 ++ [(lo, hi)]) := by
  subst hlo hhi
  rfl
theorem katN_len (xs : List Nat) (f : Nat) : ∀ k, (katN xs f k).2.length = k
  | 0 => rfl
  | k + 1 => by simp [katN, katN_len xs f k]
theorem katN_le (xs : List Nat) (f : Nat) : ∀ k, f ≤ (katN xs f k).1 ∧ (katN xs f k).1 ≤ f + 50 * k
  | 0 => by simp [katN]
  | k + 1 => by
    obtain ⟨h1, h2⟩ := katN_le xs f k
    simp only [katN]
    omega
theorem katN_top (xs : List Nat) (f : Nat) : ∀ k, ∀ r ∈ (katN xs f k).2, f ≤ r.1 ∧ r.1 < r.2 ∧ r.2 < (katN xs f k).1
  | 0 => by simp [katN]
  | k + 1 => by
    intro r hr
    obtain ⟨h1, _⟩ := katN_le xs f k
    simp only [katN] at hr ⊢
    rcases List.mem_append.1 hr with h | h
    · have := katN_top xs f k r h
      omega
    · simp only [List.mem_singleton] at h
      subst h
      simp only
      omega
theorem katN_norm (xs : List Nat) (f : Nat) (hf : f ≤ 4611686018427387000) : ∀ k, k ≤ 16 → Norm (katN xs f k).2
  | 0, _ => ⟨by simp [katN], by simp [katN]⟩
  | k + 1, hk => by
    have ih := katN_norm xs f hf k (by omega)
    have hle := katN_le xs f (k + 1)
    have ht := katN_top xs f (k + 1)
    have hp := katN_top xs f k
    refine ⟨fun r hr => ?_, ?_⟩
    · have := ht r hr
      omega
    · simp only [katN]
      rw [List.pairwise_append]
      refine ⟨ih.2, by simp, fun a ha b hb => ?_⟩
      simp only [List.mem_singleton] at hb
      subst hb
      have := hp a ha
      simp only
      omega
/-- What Ranges answers. -/
def kRngs (xs : List Nat) (f : Nat) : List Rg := if min 16 (xs.length / 2) = 0 then [(f, f + 1)] else (katN xs f (min 16 (xs.length / 2))).2
theorem kRngs_norm (xs : List Nat) (f : Nat) (hf : f ≤ 4611686018427387000) : Norm (kRngs xs f) ∧ (kRngs xs f).length ≤ 16 ∧ 0 < (kRngs xs f).length := by
  unfold kRngs
  split
  · exact ⟨one_norm (by omega) (by omega), by simp, by simp⟩
  · refine ⟨katN_norm xs f hf _ (by omega), by rw [katN_len]; omega, by rw [katN_len]; omega⟩
def KRPost (w : World) (xs : List Nat) (f : Nat) (e : Ending) (w' : World) : Prop := ∃ v' og, e = .returned v' ∧ SlG encR 37 w' v' og (kRngs xs f) ∧ (∀ g, og = some g → w.heap.size ≤ g) ∧ Below w.heap.size w w'
set_option maxRecDepth 100000 in
set_option maxHeartbeats 2000000 in
theorem krng_any (v : Value) (xs : List Nat) (f : Nat) (w : World) (h : Vw encU w w.heap.size v xs) (hx : ∀ x ∈ xs, x < 18446744073709551616) (hf : f ≤ 4611686018427387910) :
    Calls Try.prog 9 #[v, .int .u64 f] w (KRPost w xs f) := by
  obtain ⟨i0, hi0, hz0, hz1, hz2'⟩ := info_parts infoR
  obtain ⟨oa, cap, rfl, hc1, hc2⟩ := h.shape
  have HV := Lib.hid h
  have HX := Lib.hid hx
  clear h hx
  generalize hlen : xs.length = len at *
  have HL := Lib.hid hlen
  clear hlen
  go_enter Try.func9, Try.ntmps9
  go_wp2_with fail
  have HM0 := Lib.hid (show SlG encR 37 w (.slice none 0 0) none (katN xs f 0).2 ∧ Below w.heap.size w w from ⟨SlG.nil _, Below.refl _ _⟩)
  go_loopw [5, 6, 7, 8, 9] (fun l a i _ _ wr => ∃ k : Nat, i = .int .i64 (2 * k : Nat) ∧ a = .int .u64 (katN xs f k).1 ∧ k ≤ 16 ∧ 2 * k ≤ len ∧ ∃ og, SlG encR 37 wr l og (katN xs f k).2 ∧ (∀ g, og = some g → w.heap.size ≤ g) ∧ Below w.heap.size w wr) (fun _ _ i _ _ _ => 100 - (intOf i).toNat)
  case atStart => exact ⟨0, rfl, rfl, by omega, by omega, none, HM0.out.1, by simp, HM0.out.2⟩
  case round =>
    obtain ⟨k, rfl, rfl, hk, hkl, og, hs, hn, hb⟩ := hrel
    have HB := Lib.hid hb
    have HN := Lib.hid hn
    obtain ⟨ol, cl, rfl, hcl1, hcl2⟩ := hs.shape
    rw [katN_len] at hs hcl1 ⊢
    have HS := Lib.hid hs
    obtain ⟨hle1, hle2⟩ := katN_le xs f k
    generalize hat : (katN xs f k).1 = at_ at *
    have HAT := Lib.hid hat
    obtain ⟨k2, hk2⟩ : ∃ k2, 2 * k = k2 := ⟨_, rfl⟩
    have HK2 := Lib.hid hk2
    rw [hk2] at hkl ⊢
    have hk2b : k2 ≤ 32 := by omega
    clear hb hn hs hat HM0
    obtain ⟨k3, hk3, hk3b⟩ : ∃ k3 : Nat, (k2 : Int) + 1 = (k3 : Int) ∧ k2 + 1 = k3 := ⟨k2 + 1, by omega, rfl⟩
    by_cases h1 : k3 < len
    · by_cases h2 : k < 16
      · obtain ⟨x, hx⟩ : ∃ x, xs[k2]? = some x := ⟨_, List.getElem?_eq_getElem (by rw [HL.out]; omega)⟩
        obtain ⟨y, hy⟩ : ∃ y, xs[k3]? = some y := ⟨_, List.getElem?_eq_getElem (by rw [HL.out]; omega)⟩
        have hxb := HX.out x (List.mem_of_getElem? hx)
        have hyb := HX.out y (List.mem_of_getElem? hy)
        obtain ⟨c, ofc, rfl, hc, q0⟩ := HV.out.u64 hx
        obtain ⟨c', ofc', e', _, q1⟩ := HV.out.u64 hy
        cases e'
        have q0 := cell_keep HB.out hc q0
        have q1 := cell_keep HB.out hc q1
        have hmx : (x : Int) % 30 = ((x % 30 : Nat) : Int) := by omega
        have hmy : (y : Int) % 20 = ((y % 20 : Nat) : Int) := by omega
        obtain ⟨lo, hlo, hlo2⟩ : ∃ lo : Nat, (at_ : Int) + ((x % 30 : Nat) : Int) = (lo : Int) ∧ at_ + x % 30 = lo := ⟨at_ + x % 30, by omega, rfl⟩
        obtain ⟨lo1, hlo1, hlo12⟩ : ∃ lo1 : Nat, (lo : Int) + 1 = (lo1 : Int) ∧ lo + 1 = lo1 := ⟨lo + 1, by omega, rfl⟩
        obtain ⟨hi, hhi, hhi2⟩ : ∃ hi : Nat, (lo1 : Int) + ((y % 20 : Nat) : Int) = (hi : Int) ∧ lo1 + y % 20 = hi := ⟨lo1 + y % 20, by omega, rfl⟩
        have hmlt : x % 30 < 30 ∧ y % 20 < 20 := ⟨Nat.mod_lt _ (by omega), Nat.mod_lt _ (by omega)⟩
        have HST := Lib.hid (show katN xs f (k + 1) = (hi + 1, (katN xs f k).2 ++ [(lo, hi)]) from by
          refine katN_succ xs f k ?_ ?_
          · rw [HAT.out, HK2.out, List.getD_eq_getElem?_getD, hx]
            exact hlo2
          · rw [HK2.out, hk3b, List.getD_eq_getElem?_getD, hy]
            simp only [Option.getD_some]
            omega)
        obtain ⟨hm1, hm2⟩ := hmlt
        have hb1 : at_ ≤ 4611686018427388800 := by omega
        have hb2 : lo ≤ 4611686018427388900 := by omega
        have hb3 : hi ≤ 4611686018427389000 := by omega
        have hb4 : lo1 ≤ 4611686018427388901 := by omega
        generalize x % 30 = xm at *
        generalize y % 20 = ym at *
        clear hx hy hle1 hle2 hlo2 hlo12 hhi2
        have w1 : IntKind.u64.wrap (lo : Int) = lo := IntWalk.u64_in _ (by omega)
        have w2 : IntKind.u64.wrap (hi : Int) = hi := IntWalk.u64_in _ (by omega)
        have w3 : IntKind.u64.wrap (lo1 : Int) = lo1 := IntWalk.u64_in _ (by omega)
        have h1i : (k3 : Int) < (len : Int) := by omega
        go_wp2_with (refine wpList_pushV encR_len encR_one Try.underlying33 hi0 hz1 hz0 zeroR rfl (.tmp 39) (.tmp 43) rfl (by exact HS.out.alloc _) (by exact (SlG.vw (og := some wr.heap.size) (xs := [(lo, hi)]) (.inr ⟨wr.heap.size, [], rfl, rfl, alloc_at _ _, by simp⟩))) rfl rfl (by rw [hz2', katN_len]; simp; omega) (by rw [katN_len]; simp; omega) ?_)
        intro W4 v4 o4 hs4 ho4 hu4
        have H4 := Lib.hid (show SlG encR 37 W4 v4 o4 (katN xs f (k + 1)).2 ∧ (∀ g, o4 = some g → w.heap.size ≤ g) ∧ Below w.heap.size w W4 from by
          have hs := HB.out.size
          have h9 := HB.out.alloc hs (.cells #[.int .u64 lo, .int .u64 hi] 37)
          refine ⟨by rw [HST.out]; exact hs4, fun g hg => ?_, Upd.belowOf h9 hu4 (fun j hj e => by have := HN.out j e; omega)⟩
          rcases ho4 with rfl | ⟨g', rfl, h4⟩
          · exact HN.out g hg
          · cases hg
            first | omega | (simp at h4; omega))
        have HHI := Lib.hid (show (katN xs f (k + 1)).1 = hi + 1 from by rw [HST.out])
        clear hs4 ho4 hu4
        obtain ⟨h5, hh5, hh52⟩ : ∃ h5 : Nat, (hi : Int) + 1 = (h5 : Int) ∧ hi + 1 = h5 := ⟨hi + 1, by omega, rfl⟩
        have w5 : IntKind.u64.wrap (h5 : Int) = h5 := IntWalk.u64_in _ (by omega)
        rw [hh52] at HHI
        clear hh52
        go_wp2_with fail
        go_roundw
        case rel => exact ⟨k + 1, by congr 1; have := HK2.out; omega, by rw [HHI.out], by omega, by have := HK2.out; omega, o4, H4.out.1, H4.out.2.1, H4.out.2.2⟩
        case measure => simp [intOf]; omega
      · obtain rfl : k = 16 := by omega
        have h1i : (k3 : Int) < (len : Int) := by omega
        have HR := Lib.hid (show kRngs xs f = (katN xs f 16).2 from by
          unfold kRngs
          have : min 16 (xs.length / 2) = 16 := by have := HL.out; have := HK2.out; omega
          rw [if_neg (by omega), this])
        go_wp2_with fail
        go_ret
        exact ⟨_, og, rfl, by rw [HR.out]; exact HS.out, HN.out, HB.out⟩
    · have h1i : ¬ (k3 : Int) < (len : Int) := by omega
      have HM := Lib.hid (show min 16 (xs.length / 2) = k from by have := HL.out; have := HK2.out; omega)
      by_cases h0 : k = 0
      · subst h0
        have HR := Lib.hid (show kRngs xs f = [(f, f + 1)] from by
          unfold kRngs
          rw [HM.out]
          rfl)
        have hwf : IntKind.u64.wrap ((f : Int) + 1) = ((f + 1 : Nat) : Int) := by rw [IntWalk.u64_in _ (by omega)]; omega
        go_wp2_with fail
        go_ret
        exact ⟨_, some wr.heap.size, rfl, by rw [HR.out]; exact .inr ⟨wr.heap.size, [], rfl, rfl, alloc_at _ _, by simp⟩, by intro g hg; cases hg; exact HB.out.size, HB.out.alloc HB.out.size _⟩
      · have h0i : ¬ (k : Int) = 0 := by omega
        have h0b : ((k : Int) == 0) = false := by simp; omega
        have HR := Lib.hid (show kRngs xs f = (katN xs f k).2 from by
          unfold kRngs
          rw [HM.out, if_neg h0])
        go_wp2_with fail
        go_ret
        exact ⟨_, og, rfl, by rw [HR.out]; exact HS.out, HN.out, HB.out⟩
end Go.Proofs.Ytacfbgnbjdckiaa

/- DERIVED. Walks of narthexbook's small functions. -/
namespace Go.Proofs.Ytacfbgnbjdckiaa
open Go.RowKit

def withinS (n lo hi : Int) : Int := if lo ≤ n ∧ n ≤ hi then n else lo + n % (hi - lo + 1)
theorem withinS_bd (n lo hi : Int) (h : lo ≤ hi) : lo ≤ withinS n lo hi ∧ withinS n lo hi ≤ hi := by
  unfold withinS
  split
  · assumption
  · have := Int.emod_nonneg n (b := hi - lo + 1) (by omega)
    have := Int.emod_lt_of_pos n (b := hi - lo + 1) (by omega)
    omega
theorem tmod_fix (n m : Int) (hm : 0 < m) : (if n.tmod m < 0 then n.tmod m + m else n.tmod m) = n % m := by
  have h1 := Int.emod_nonneg n (b := m) (by omega)
  have h2 := Int.emod_lt_of_pos n (b := m) hm
  rcases Int.le_total 0 n with hn | hn
  · rw [Int.tmod_eq_emod_of_nonneg hn]
    split <;> omega
  · have h3 := Int.tmod_eq_emod (a := n) (b := m)
    have h4 := Int.emod_eq_zero_of_dvd (a := m) (b := n)
    have h5 : ((m.natAbs : Nat) : Int) = m := by omega
    split at h3
    · rename_i hd
      simp only [Int.sub_zero, Int.cast_ofNat_Int] at h3
      rcases hd with hd | hd
      · obtain rfl : n = 0 := by omega
        simp
      · have := h4 hd
        split <;> omega
    · split <;> omega
theorem tmod_bd (n m : Int) (hm : 0 < m) : -m ≤ n.tmod m ∧ n.tmod m < m := by
  have h := tmod_fix n m hm
  have h1 := Int.emod_nonneg n (b := m) (by omega)
  have h2 := Int.emod_lt_of_pos n (b := m) hm
  split at h <;> omega


set_option maxHeartbeats 1000000 in
theorem within_any (n lo hi : Int) (w : World) (h : lo ≤ hi) (h1 : -1099511627776 ≤ lo) (h2 : hi ≤ 1099511627776) (hn : -9223372036854775808 ≤ n) (hn2 : n ≤ 9223372036854775807) :
    Calls Try.prog 15 #[.int .i64 n, .int .i64 lo, .int .i64 hi] w fun e w' =>
      e = .returned (.int .i64 (withinS n lo hi)) ∧ w = w' := by
  obtain ⟨b1, b2⟩ := tmod_bd n (hi - lo + 1) (by omega)
  have hfix := Lib.hid (tmod_fix n (hi - lo + 1) (by omega))
  by_cases hc : lo ≤ n
  all_goals by_cases hd : n ≤ hi
  all_goals
    go_enter Try.func15, Try.ntmps15
    go_wp2
  all_goals (first | (exfalso; omega) | skip)
  all_goals go_ret
  all_goals refine ⟨ret_i64 ?_, rfl⟩
  all_goals have hfx := hfix.out
  all_goals unfold withinS
  all_goals first | (rw [if_pos ⟨hc, hd⟩]; done) | (rw [if_neg (by omega)]; split at hfx <;> omega)

end Go.Proofs.Ytacfbgnbjdckiaa

/- DERIVED. narthexlaw11's Asks; what do answers (printed by mksqdo.py). -/
namespace Go.Proofs.Ytacfbgnbjdckiaa
open Go.RowKit

def I64 (n : Int) : Prop := -9223372036854775808 ≤ n ∧ n ≤ 9223372036854775807
structure AkS where
  kd : Int
  sk : Int
  sz : Int
  asks : Bool
  tm : Int
  fr : Nat
  vrows : Value
  pn : Nat
  pt : Int
  pz : Int
  pa : Bool
  pfa : Option Addr
  pfl : Nat
  pfc : Nat
  vr : Value
def encAS (a : AkS) : List Value := [.int .i64 a.kd, .int .i64 a.sk, .int .i64 a.sz, .bool a.asks, .int .i64 a.tm, .int .u64 a.fr, a.vrows, .int .u64 a.pn, .int .i64 a.pt, .int .i64 a.pz, .bool a.pa, .slice a.pfa a.pfl a.pfc, a.vr]
theorem encAS_len (a : AkS) : (encAS a).length = 13 := rfl
def RgsOk (w : World) (B : Nat) (v : Value) : Prop := ∃ rs, Vw encR w B v rs ∧ ∀ r ∈ rs, r.1 < 18446744073709551616 ∧ r.2 < 18446744073709551616
structure AkSOk (w : World) (B : Nat) (a : AkS) : Prop where
  kd : I64 a.kd
  sk : I64 a.sk
  sz : I64 a.sz
  tm : I64 a.tm
  fr : a.fr < 18446744073709551616
  rows : ∃ xs, Vw encU w B a.vrows xs ∧ ∀ x ∈ xs, x < 18446744073709551616
  pn : a.pn < 18446744073709551616
  pt : I64 a.pt
  pz : I64 a.pz
  rg : RgsOk w B a.vr
theorem AkSOk.below {w w' : World} {B : Nat} {a : AkS} (h : AkSOk w B a) (hb : Below B w w') : AkSOk w' B a := by
  obtain ⟨xs, h1, h2⟩ := h.rows
  obtain ⟨rs, h3, h4⟩ := h.rg
  exact ⟨h.kd, h.sk, h.sz, h.tm, h.fr, ⟨xs, h1.below hb, h2⟩, h.pn, h.pt, h.pz, ⟨rs, h3.below hb, h4⟩⟩
theorem vwa_vw {α : Type} {enc : α → List Value} {fp : Nat → Prop} {w : World} {v : Value} {xs : List α} (h : VwA enc fp w v xs) : Vw enc w w.heap.size v xs := by
  obtain ⟨oa, cap, h1, h2, h3, h4⟩ := h
  refine ⟨oa, cap, h1, h2, h3, ?_⟩
  rcases h4 with h4 | ⟨b, off, h4, h5, _, h6⟩
  · exact .inl h4
  · exact .inr ⟨b, off, h4, h5, h6⟩
theorem LM.upd {K : TypeId × Bool} {w w' : World} {fp : Nat → Prop} {b : Nat} {s : LS} (h : LM K w w' fp b s) : Upd fp w w' := by
  obtain ⟨_, _, h, _⟩ := h
  exact h
/-- Behind a call of do. -/
def DoPost (W : World) (b c : Nat) (e : Ending) (w' : World) : Prop := e = .returned (.bool true) ∧ ∃ s' d' fp' fq', Two W w' b c s' d' fp' fq' ∧ s'.core = d'.core
def LS.ackS (s : LS) (rs : List Rg) : LS := if s.ackErr rs = 0 then s.acks rs else s
theorem sim_ackS {s d : LS} (h : s.core = d.core) (rs : List Rg) : (s.ackS rs).core = (d.ackS rs).core := by
  unfold LS.ackS
  rw [sim_ackErr h]
  split
  · exact sim_acks h rs
  · exact h
theorem sim_ack1 {s d : LS} (h : s.core = d.core) (rs : List Rg) : (if s.ackErr rs = 0 then s.got rs else []).map Pk.core = (if d.ackErr rs = 0 then d.got rs else []).map Pk.core := by
  rw [sim_ackErr h]
  split
  · exact sim_got h rs
  · rfl
theorem sim_ack2 {s d : LS} (h : s.core = d.core) (rs : List Rg) : (if s.ackErr rs = 0 then s.lost rs else []).map Pk.core = (if d.ackErr rs = 0 then d.lost rs else []).map Pk.core := by
  rw [sim_ackErr h]
  split
  · exact sim_lost h rs
  · rfl
theorem ack_len {s : LS} (h : s.Ok) (rs : List Rg) : (if s.ackErr rs = 0 then s.got rs else []).length ≤ 1000 ∧ (if s.ackErr rs = 0 then s.lost rs else []).length ≤ 1000 := by
  have := h.len
  have h1 : (s.got rs).length ≤ s.L.length := List.length_filter_le _ _
  have h2 : (s.lost rs).length ≤ s.L.length := List.length_filter_le _ _
  constructor <;> split <;> first | omega | simp
theorem kRngs_bd (xs : List Nat) (f : Nat) (hf : f ≤ 4611686018427387910) : ∀ r ∈ kRngs xs f, r.1 < 18446744073709551616 ∧ r.2 < 18446744073709551616 := by
  intro r hr
  unfold kRngs at hr
  split at hr
  · rw [List.mem_singleton.1 hr]
    exact ⟨by show f < _; omega, by show f + 1 < _; omega⟩
  · have h1 := katN_top xs f _ r hr
    have h2 := katN_le xs f (min 16 (xs.length / 2))
    omega
theorem kRngs_len (xs : List Nat) (f : Nat) : (kRngs xs f).length ≤ 1000 := by
  unfold kRngs
  split
  · simp
  · rw [katN_len]
    omega
end Go.Proofs.Ytacfbgnbjdckiaa

/- DERIVED. What do answers: Ack (printed by mksqdo.py). -/
namespace Go.Proofs.Ytacfbgnbjdckiaa
open Go.RowKit

set_option maxRecDepth 100000 in
set_option maxHeartbeats 4000000 in
theorem do_ack6 {W : World} (b c : Nat) (s d : LS) (fp fq : Nat → Prop) (sk sz : Int) (asks : Bool) (tm : Int) (fr : Nat) (vrows : Value) (pn : Nat) (pt pz : Int) (pa : Bool) (pfa : Option Addr) (pfl pfc : Nat) (vr : Value) (w : World) (h : Two W w b c s d fp fq) (hs : s.core = d.core)
    (ha : AkSOk W W.heap.size ⟨6, sk, sz, asks, tm, fr, vrows, pn, pt, pz, pa, pfa, pfl, pfc, vr⟩) :
    Calls Try.prog 18 #[.pointer (some ⟨b, 0, none⟩), .pointer (some ⟨c, 0, none⟩), .agg #[.int .i64 6, .int .i64 sk, .int .i64 sz, .bool asks, .int .i64 tm, .int .u64 fr, vrows, .int .u64 pn, .int .i64 pt, .int .i64 pz, .bool pa, .slice pfa pfl pfc, vr]] w (DoPost W b c) := by
  have H := Lib.hid h
  have HSIM := Lib.hid hs
  have HA := Lib.hid (ha.below h.below)
  have hfr := ha.fr
  have hW := h.below.size
  obtain ⟨nx, hnx⟩ : ∃ nx, s.nx = nx := ⟨_, rfl⟩
  have hnx2 : d.nx = nx := by rw [← (LS.core_eq hs).2.1]; exact hnx
  have hnxb : nx ≤ 4611686018427387904 := by rw [← hnx]; exact h.p.ok.nx
  have HNX := Lib.hid (And.intro hnx hnx2)
  obtain ⟨hsk1, hsk2⟩ := ha.sk
  obtain ⟨hsz1, hsz2⟩ := ha.sz
  obtain ⟨htm1, htm2⟩ := ha.tm
  obtain ⟨hpt1, hpt2⟩ := ha.pt
  obtain ⟨hpz1, hpz2⟩ := ha.pz
  have hpn := ha.pn
  simp only at hfr hsk1 hsk2 hsz1 hsz2 htm1 htm2 hpt1 hpt2 hpz1 hpz2 hpn
  obtain ⟨rs0, hvr, hrs0⟩ := ha.rg
  obtain ⟨xs, hxs, hxsb⟩ := ha.rows
  have HVR := Lib.hid (And.intro (hvr.below h.below) hrs0)
  have HXS := Lib.hid (And.intro (hxs.below h.below) hxsb)
  clear h hs ha hnx hnx2 hvr hrs0 hxs hxsb
  go_enter Try.func18, Try.ntmps18
  go_upto_region 0 with fail
  go_cut [5, 6] (fun v f wx => ∃ z, v = .pointer (some ⟨z, 0, none⟩) ∧ f = .bool false ∧ w.heap.size ≤ z ∧ Below w.heap.size w wx ∧ wx.heap[z]? = some (.cells #[.int .i64 6, .int .i64 sk, .int .i64 sz, .bool asks, .int .i64 tm, .int .u64 fr, vrows, .int .u64 pn, .int .i64 pt, .int .i64 pz, .bool pa, .slice pfa pfl pfc, vr] 56 (0, 0)))
  case first =>
    go_wp2_with fail
    go_meet
    case rel => exact ⟨_, rfl, rfl, Nat.le_refl _, (Below.refl _ _).alloc (Nat.le_refl _) _, alloc_at _ _⟩
  case rest =>
  obtain ⟨z, rfl, rfl, hz, hb, hkz⟩ := hcut
  have H1 := Lib.hid (H.out.later hb)
  have HKZ := Lib.hid hkz
  have HZ := Lib.hid (show ¬ fp z ∧ ¬ fq z from ⟨fun q => by have := H.out.p.lt.2 z q; omega, fun q => by have := H.out.d.lt.2 z q; omega⟩)
  have HB := Lib.hid hb
  have hzl := heap_lt hkz
  have hbs := hb.size
  have hcz : ¬ c = z := by have := H.out.d.lt.2 c H.out.d.lt.1; omega
  have hzc : ¬ z = c := fun e => hcz e.symm
  have z0 := (cell_at hkz 0).trans (by rfl : _ = some (Value.int .i64 6))
  have c1 : wc.cell? ⟨c, 1, none⟩ = some (.int .u64 nx) := by rw [H1.out.d.cells.1, HNX.out.2]
  clear hb hkz
  generalize wc = w1 at *
  obtain ⟨n2, hn2, hn2p⟩ : ∃ n2 : Nat, (nx : Int) + 2 = (n2 : Int) ∧ nx + 2 = n2 := ⟨nx + 2, by omega, rfl⟩
  have hwn2 : IntKind.u64.wrap (n2 : Int) = n2 := IntWalk.u64_in _ (by omega)
  have hn20 : ¬ (n2 : Int) = 0 := by omega
  have hn20n : ¬ n2 = 0 := by omega
  obtain ⟨f, hf, hfb⟩ : ∃ f : Nat, (fr : Int).tmod (n2 : Int) = (f : Int) ∧ f < n2 := ⟨fr % n2, by rw [Int.tmod_eq_emod_of_nonneg (by omega)]; omega, Nat.mod_lt _ (by omega)⟩
  have hwf : IntKind.u64.wrap (f : Int) = f := IntWalk.u64_in _ (by omega)
  have z5 := (cell_at HKZ.out 5).trans (by rfl : _ = some (Value.int .u64 fr))
  have z6 := (cell_at HKZ.out 6).trans (by rfl : _ = some vrows)
  have HSof := Lib.hid (show ∀ W, Below w1.heap.size w1 W → W.cell? ⟨z, 6, none⟩ = some vrows ∧ W.cell? ⟨z, 5, none⟩ = some (.int .u64 fr) ∧ W.cell? ⟨c, 1, none⟩ = some (.int .u64 nx) from fun W hb => ⟨cell_keep hb (heap_lt HKZ.out) z6, cell_keep hb (heap_lt HKZ.out) z5, cell_keep hb (H1.out.d.lt.2 c H1.out.d.lt.1) c1⟩)
  go_upto_region 11 with fail
  go_cut [7] (fun v wx => ∃ og, SlG encR 37 wx v og (kRngs xs f) ∧ (∀ g, og = some g → w1.heap.size ≤ g) ∧ Below w1.heap.size w1 wx)
  case first =>
    go_wp2_with fail
    refine wp_region_till (S := fun w' => w'.cell? ⟨z, 6, none⟩ = some vrows ∧ w'.cell? ⟨z, 5, none⟩ = some (.int .u64 fr) ∧ w'.cell? ⟨c, 1, none⟩ = some (.int .u64 nx)) [] (by kernel_rfl) (by exact HSof.out _ ((Below.refl _ _).drew)) (fun hHeld => ?_)
    refine wpTill_take0 (i := 0) (oi := ⟨some 57, _, _, _, _, _⟩) (v := ?_) rfl (by kernel_rfl) (fun _ _ _ h => h) (Or.inl ⟨by rfl, ?_⟩) (fun _ => hHeld) ?_
    rotate_left
    · intro w hSw
      (try dsimp only at hSw)
      go_simp
      try with_reducible rfl
    try simp only [Act.put, List.setIfInBounds_toArray, List.set_cons_zero, List.set_cons_succ]
    refine wpTill_take (i := 1) (oi := ⟨some 58, _, _, _, _, _⟩) (v := ?_) rfl (by kernel_rfl) (fun _ _ _ h => h) (Or.inl ⟨by rfl, ?_⟩) (by exact hHeld) ?_
    rotate_left
    · intro w hSw
      (try dsimp only at hSw)
      go_simp
      try with_reducible rfl
    try simp only [Act.put, List.setIfInBounds_toArray, List.set_cons_zero, List.set_cons_succ]
    refine wpTill_take0 (i := 2) (oi := ⟨some 59, _, _, _, _, _⟩) (v := ?_) rfl (by kernel_rfl) (fun _ _ _ h => h) (Or.inl ⟨by rfl, ?_⟩) (fun _ => hHeld) ?_
    rotate_left
    · intro w hSw
      (try dsimp only at hSw)
      go_simp
      try with_reducible rfl
    try simp only [Act.put, List.setIfInBounds_toArray, List.set_cons_zero, List.set_cons_succ]
    refine wpTill_take (i := 3) (oi := ⟨some 60, _, _, _, _, _⟩) (v := ?_) rfl (by kernel_rfl) (fun _ _ _ h => h) (Or.inl ⟨by rfl, ?_⟩) (by exact hHeld) ?_
    rotate_left
    · intro w hSw
      (try dsimp only at hSw)
      go_simp
      try with_reducible rfl
    try simp only [Act.put, List.setIfInBounds_toArray, List.set_cons_zero, List.set_cons_succ]
    refine wpTill_take0 (i := 4) (oi := ⟨some 61, _, _, _, _, _⟩) (v := ?_) rfl (by kernel_rfl) (fun _ _ _ h => h) (Or.inl ⟨by rfl, ?_⟩) (fun _ => hHeld) ?_
    rotate_left
    · intro w hSw
      (try dsimp only at hSw)
      go_simp
      try with_reducible rfl
    try simp only [Act.put, List.setIfInBounds_toArray, List.set_cons_zero, List.set_cons_succ]
    refine wpTill_take0 (i := 5) (oi := ⟨some 62, _, _, _, _, _⟩) (v := ?_) rfl (by kernel_rfl) (fun _ _ _ h => h) (Or.inl ⟨by rfl, ?_⟩) (fun _ => hHeld) ?_
    rotate_left
    · intro w hSw
      (try dsimp only at hSw)
      go_simp
      try with_reducible rfl
    try simp only [Act.put, List.setIfInBounds_toArray, List.set_cons_zero, List.set_cons_succ]
    refine wpTill_take0 (i := 6) (oi := ⟨some 63, _, _, _, _, _⟩) (v := ?_) rfl (by kernel_rfl) (fun _ _ _ h => h) (Or.inl ⟨by rfl, ?_⟩) (fun _ => hHeld) ?_
    rotate_left
    · intro w hSw
      (try dsimp only at hSw)
      go_simp
      try with_reducible rfl
    try simp only [Act.put, List.setIfInBounds_toArray, List.set_cons_zero, List.set_cons_succ]
    refine wpTill_take (i := 7) (oi := ⟨some 64, _, _, _, _, _⟩) (v := ?_) rfl (by kernel_rfl) (fun _ _ _ h => h) (Or.inl ⟨by rfl, ?_⟩) (by exact hHeld) ?_
    rotate_left
    · intro w hSw
      (try dsimp only at hSw)
      go_simp
      try with_reducible rfl
    try simp only [Act.put, List.setIfInBounds_toArray, List.set_cons_zero, List.set_cons_succ]
    refine wpTill_take0 (i := 8) (oi := ⟨some 65, _, _, _, _, _⟩) (v := ?_) rfl (by kernel_rfl) (fun _ _ _ h => h) (Or.inl ⟨by rfl, ?_⟩) (fun _ => hHeld) ?_
    rotate_left
    · intro w hSw
      (try dsimp only at hSw)
      go_simp
      try with_reducible rfl
    try simp only [Act.put, List.setIfInBounds_toArray, List.set_cons_zero, List.set_cons_succ]
    refine wpTill_take0 (i := 9) (oi := ⟨some 66, _, _, _, _, _⟩) (v := ?_) rfl (by kernel_rfl) (fun _ _ _ h => h) (Or.inl ⟨by rfl, ?_⟩) (fun _ => hHeld) ?_
    rotate_left
    · intro w hSw
      (try dsimp only at hSw)
      go_simp
      try with_reducible rfl
    try simp only [Act.put, List.setIfInBounds_toArray, List.set_cons_zero, List.set_cons_succ]
    refine wpTill_ready (rs := [10]) (by kernel_rfl) (by simp) ?_
    refine AllTill.cons (o := ⟨some 67, _, _, _, _, _⟩) rfl (fun K hK => ?_) AllTill.nil
    go_simp
    go_at_call 9
    refine (krng_any vrows xs f _ (by exact (HXS.out.1.below (HB.out.drew.mono hW)).mono (Nat.le_trans hW HB.out.drew.size)) HXS.out.2 (by omega)).mono ?_
    rintro e w2 ⟨v2, og, rfl, hs, hg, hb⟩
    have HR := Lib.hid (And.intro hs (And.intro hg hb))
    clear hs hg hb
    go_wp2_with fail
    refine hK.out _ _ (by exact HSof.out _ ((Below.refl _ _).drew.trans HR.out.2.2)) (fun hHeld => ?_)
    clear hK K
    try simp only [Act.put, List.setIfInBounds_toArray, List.set_cons_zero, List.set_cons_succ]
    refine wpTill_take0 (i := 11) (oi := ⟨some 7, _, _, _, _, _⟩) (v := ?_) rfl (by kernel_rfl) (fun _ _ _ h => h) (Or.inl ⟨by rfl, ?_⟩) (fun _ => hHeld) ?_
    rotate_left
    · intro w hSw
      (try dsimp only at hSw)
      go_simp
      try with_reducible rfl
    try simp only [Act.put, List.setIfInBounds_toArray, List.set_cons_zero, List.set_cons_succ]
    refine wpTill_done (by kernel_rfl) ?_ _
    go_wp2_with fail
    go_meet
    case rel => exact ⟨og, HR.out.1, fun g e => HR.out.2.1 g e, (Below.refl _ _).drew.trans HR.out.2.2⟩
  case rest =>
  obtain ⟨og, hsr, hgr, hbr⟩ := hcut
  have H2 := Lib.hid (H1.out.later hbr)
  have HKZ2 := Lib.hid (below_keeps hbr HKZ.out (heap_lt HKZ.out))
  have HB2 := Lib.hid (below_call HB.out HB.out.size hbr)
  have HSR := Lib.hid hsr
  have HGR := Lib.hid (show ∀ g, og = some g → ¬ (fp g ∨ g = c) from fun g e q => by
    have h1 := hgr g e
    rcases q with q | q
    · have := H1.out.p.lt.2 g q
      omega
    · have := H1.out.d.lt.2 c H1.out.d.lt.1
      omega)
  have z0 := (cell_at HKZ2.out 0).trans (by rfl : _ = some (Value.int .i64 6))
  have c1 : wc.cell? ⟨c, 1, none⟩ = some (.int .u64 nx) := by rw [H2.out.d.cells.1, HNX.out.2]
  clear hsr hgr hbr z5 z6 H1 HKZ HSof
  generalize wc = w2 at *
  have HVA := Lib.hid (HSR.out.vwa (fp := fun j => fp j ∨ j = c) (fun g e => HGR.out g e))
  have HRL := Lib.hid (And.intro (kRngs_len xs f) (kRngs_bd xs f (by omega)))
  go_wp2_with fail
  refine (lack_any b s fp _ (kRngs xs f) _ (by exact H2.out.p) (by exact vwa_vw HVA.out) (Nat.le_refl _) HRL.out.1 HRL.out.2).mono ?_
  rintro e w3 ⟨v1, o1, v2, o2, rfl, hs1, hs2, hg1, hg2, hm⟩
  obtain ⟨fp3, h3⟩ := H2.out.goP hm
  have H3 := Lib.hid h3
  have HVA3 := Lib.hid (HVA.out.upd hm.upd (fun k hk => .inl hk))
  have HS1 := Lib.hid hs1
  have HS2 := Lib.hid hs2
  have HG := Lib.hid (And.intro hg1 hg2)
  have HLT := Lib.hid H2.out.d.lt.2
  have HLEN := Lib.hid (ack_len H2.out.p.ok (kRngs xs f))
  clear hs1 hs2 hg1 hg2 hm h3
  go_wp2_with fail
  refine (dack_any c d fq _ (kRngs xs f) _ (by exact H3.out.d) (fun w5 hu => vwa_vw (HVA3.out.upd hu (fun k hk => .inr hk))) HRL.out.1 HRL.out.2).mono ?_
  rintro e w4 ⟨v3, o3, v4, o4, rfl, hs3, hs4, hg3, hg4, hm⟩
  obtain ⟨fq4, h4⟩ := H3.out.goD hm
  have H4 := Lib.hid (show Two W w4 b c (s.ackS (kRngs xs f)) (d.ackS (kRngs xs f)) fp3 fq4 from h4)
  have HS14 := Lib.hid (HS1.out.keeps hm.upd (fun g e q => by have := HG.out.1 g e; have := HLT.out g q; omega))
  have HS24 := Lib.hid (HS2.out.keeps hm.upd (fun g e q => by have := HG.out.2 g e; have := HLT.out g q; omega))
  have HS3 := Lib.hid hs3
  have HS4 := Lib.hid hs4
  have HER := Lib.hid (sim_ackErr HSIM.out (kRngs xs f))
  obtain ⟨er, her⟩ : ∃ er, d.ackErr (kRngs xs f) = er := ⟨_, rfl⟩
  rw [HER.out, her]
  clear her
  clear hs3 hs4 hg3 hg4 hm h4
  go_wp2_with fail
  refine (packs_eq v1 v3 _ _ _ (by exact HS14.out.vw) (by exact HS3.out.vw) (sim_ack1 HSIM.out (kRngs xs f)) HLEN.out.1).mono ?_
  rintro e w5 ⟨rfl, n5, rfl⟩
  go_wp2_with fail
  refine (packs_eq v2 v4 _ _ _ (by exact (HS24.out.drewN n5).vw) (by exact (HS4.out.drewN n5).vw) (sim_ack2 HSIM.out (kRngs xs f)) HLEN.out.2).mono ?_
  rintro e w6 ⟨rfl, n6, rfl⟩
  have H6 := Lib.hid (H4.out.later (below_drewN (below_drewN (Below.refl _ _) n5) n6))
  generalize (w4.drewN n5).drewN n6 = w6 at *
  go_wp2_with fail
  refine (same_two b c _ _ fp3 fq4 _ (by exact H6.out) (sim_ackS HSIM.out (kRngs xs f))).mono ?_
  rintro e w7 ⟨rfl, h7⟩
  have H7 := Lib.hid h7
  clear h7
  go_wp2_with fail
  go_ret
  exact ⟨rfl, _, _, _, _, H7.out, sim_ackS HSIM.out (kRngs xs f)⟩
set_option maxRecDepth 100000 in
set_option maxHeartbeats 4000000 in
theorem do_ack9 {W : World} (b c : Nat) (s d : LS) (fp fq : Nat → Prop) (sk sz : Int) (asks : Bool) (tm : Int) (fr : Nat) (vrows : Value) (pn : Nat) (pt pz : Int) (pa : Bool) (pfa : Option Addr) (pfl pfc : Nat) (vr : Value) (w : World) (h : Two W w b c s d fp fq) (hs : s.core = d.core)
    (ha : AkSOk W W.heap.size ⟨9, sk, sz, asks, tm, fr, vrows, pn, pt, pz, pa, pfa, pfl, pfc, vr⟩) :
    Calls Try.prog 18 #[.pointer (some ⟨b, 0, none⟩), .pointer (some ⟨c, 0, none⟩), .agg #[.int .i64 9, .int .i64 sk, .int .i64 sz, .bool asks, .int .i64 tm, .int .u64 fr, vrows, .int .u64 pn, .int .i64 pt, .int .i64 pz, .bool pa, .slice pfa pfl pfc, vr]] w (DoPost W b c) := by
  have H := Lib.hid h
  have HSIM := Lib.hid hs
  have HA := Lib.hid (ha.below h.below)
  have hfr := ha.fr
  have hW := h.below.size
  obtain ⟨nx, hnx⟩ : ∃ nx, s.nx = nx := ⟨_, rfl⟩
  have hnx2 : d.nx = nx := by rw [← (LS.core_eq hs).2.1]; exact hnx
  have hnxb : nx ≤ 4611686018427387904 := by rw [← hnx]; exact h.p.ok.nx
  have HNX := Lib.hid (And.intro hnx hnx2)
  obtain ⟨hsk1, hsk2⟩ := ha.sk
  obtain ⟨hsz1, hsz2⟩ := ha.sz
  obtain ⟨htm1, htm2⟩ := ha.tm
  obtain ⟨hpt1, hpt2⟩ := ha.pt
  obtain ⟨hpz1, hpz2⟩ := ha.pz
  have hpn := ha.pn
  simp only at hfr hsk1 hsk2 hsz1 hsz2 htm1 htm2 hpt1 hpt2 hpz1 hpz2 hpn
  obtain ⟨rs0, hvr, hrs0⟩ := ha.rg
  obtain ⟨xs, hxs, hxsb⟩ := ha.rows
  have HVR := Lib.hid (And.intro (hvr.below h.below) hrs0)
  have HXS := Lib.hid (And.intro (hxs.below h.below) hxsb)
  clear h hs ha hnx hnx2 hvr hrs0 hxs hxsb
  go_enter Try.func18, Try.ntmps18
  go_upto_region 0 with fail
  go_cut [5, 6] (fun v f wx => ∃ z, v = .pointer (some ⟨z, 0, none⟩) ∧ f = .bool false ∧ w.heap.size ≤ z ∧ Below w.heap.size w wx ∧ wx.heap[z]? = some (.cells #[.int .i64 9, .int .i64 sk, .int .i64 sz, .bool asks, .int .i64 tm, .int .u64 fr, vrows, .int .u64 pn, .int .i64 pt, .int .i64 pz, .bool pa, .slice pfa pfl pfc, vr] 56 (0, 0)))
  case first =>
    go_wp2_with fail
    go_meet
    case rel => exact ⟨_, rfl, rfl, Nat.le_refl _, (Below.refl _ _).alloc (Nat.le_refl _) _, alloc_at _ _⟩
  case rest =>
  obtain ⟨z, rfl, rfl, hz, hb, hkz⟩ := hcut
  have H1 := Lib.hid (H.out.later hb)
  have HKZ := Lib.hid hkz
  have HZ := Lib.hid (show ¬ fp z ∧ ¬ fq z from ⟨fun q => by have := H.out.p.lt.2 z q; omega, fun q => by have := H.out.d.lt.2 z q; omega⟩)
  have HB := Lib.hid hb
  have hzl := heap_lt hkz
  have hbs := hb.size
  have hcz : ¬ c = z := by have := H.out.d.lt.2 c H.out.d.lt.1; omega
  have hzc : ¬ z = c := fun e => hcz e.symm
  have z0 := (cell_at hkz 0).trans (by rfl : _ = some (Value.int .i64 9))
  have c1 : wc.cell? ⟨c, 1, none⟩ = some (.int .u64 nx) := by rw [H1.out.d.cells.1, HNX.out.2]
  clear hb hkz
  generalize wc = w1 at *
  obtain ⟨n2, hn2, hn2p⟩ : ∃ n2 : Nat, (nx : Int) + 2 = (n2 : Int) ∧ nx + 2 = n2 := ⟨nx + 2, by omega, rfl⟩
  have hwn2 : IntKind.u64.wrap (n2 : Int) = n2 := IntWalk.u64_in _ (by omega)
  have hn20 : ¬ (n2 : Int) = 0 := by omega
  have hn20n : ¬ n2 = 0 := by omega
  obtain ⟨f, hf, hfb⟩ : ∃ f : Nat, (fr : Int).tmod (n2 : Int) = (f : Int) ∧ f < n2 := ⟨fr % n2, by rw [Int.tmod_eq_emod_of_nonneg (by omega)]; omega, Nat.mod_lt _ (by omega)⟩
  have hwf : IntKind.u64.wrap (f : Int) = f := IntWalk.u64_in _ (by omega)
  have z5 := (cell_at HKZ.out 5).trans (by rfl : _ = some (Value.int .u64 fr))
  have z6 := (cell_at HKZ.out 6).trans (by rfl : _ = some vrows)
  have HSof := Lib.hid (show ∀ W, Below w1.heap.size w1 W → W.cell? ⟨z, 6, none⟩ = some vrows ∧ W.cell? ⟨z, 5, none⟩ = some (.int .u64 fr) ∧ W.cell? ⟨c, 1, none⟩ = some (.int .u64 nx) from fun W hb => ⟨cell_keep hb (heap_lt HKZ.out) z6, cell_keep hb (heap_lt HKZ.out) z5, cell_keep hb (H1.out.d.lt.2 c H1.out.d.lt.1) c1⟩)
  go_upto_region 11 with fail
  go_cut [7] (fun v wx => ∃ og, SlG encR 37 wx v og (kRngs xs f) ∧ (∀ g, og = some g → w1.heap.size ≤ g) ∧ Below w1.heap.size w1 wx)
  case first =>
    go_wp2_with fail
    refine wp_region_till (S := fun w' => w'.cell? ⟨z, 6, none⟩ = some vrows ∧ w'.cell? ⟨z, 5, none⟩ = some (.int .u64 fr) ∧ w'.cell? ⟨c, 1, none⟩ = some (.int .u64 nx)) [] (by kernel_rfl) (by exact HSof.out _ ((Below.refl _ _).drew)) (fun hHeld => ?_)
    refine wpTill_take0 (i := 0) (oi := ⟨some 57, _, _, _, _, _⟩) (v := ?_) rfl (by kernel_rfl) (fun _ _ _ h => h) (Or.inl ⟨by rfl, ?_⟩) (fun _ => hHeld) ?_
    rotate_left
    · intro w hSw
      (try dsimp only at hSw)
      go_simp
      try with_reducible rfl
    try simp only [Act.put, List.setIfInBounds_toArray, List.set_cons_zero, List.set_cons_succ]
    refine wpTill_take (i := 1) (oi := ⟨some 58, _, _, _, _, _⟩) (v := ?_) rfl (by kernel_rfl) (fun _ _ _ h => h) (Or.inl ⟨by rfl, ?_⟩) (by exact hHeld) ?_
    rotate_left
    · intro w hSw
      (try dsimp only at hSw)
      go_simp
      try with_reducible rfl
    try simp only [Act.put, List.setIfInBounds_toArray, List.set_cons_zero, List.set_cons_succ]
    refine wpTill_take0 (i := 2) (oi := ⟨some 59, _, _, _, _, _⟩) (v := ?_) rfl (by kernel_rfl) (fun _ _ _ h => h) (Or.inl ⟨by rfl, ?_⟩) (fun _ => hHeld) ?_
    rotate_left
    · intro w hSw
      (try dsimp only at hSw)
      go_simp
      try with_reducible rfl
    try simp only [Act.put, List.setIfInBounds_toArray, List.set_cons_zero, List.set_cons_succ]
    refine wpTill_take (i := 3) (oi := ⟨some 60, _, _, _, _, _⟩) (v := ?_) rfl (by kernel_rfl) (fun _ _ _ h => h) (Or.inl ⟨by rfl, ?_⟩) (by exact hHeld) ?_
    rotate_left
    · intro w hSw
      (try dsimp only at hSw)
      go_simp
      try with_reducible rfl
    try simp only [Act.put, List.setIfInBounds_toArray, List.set_cons_zero, List.set_cons_succ]
    refine wpTill_take0 (i := 4) (oi := ⟨some 61, _, _, _, _, _⟩) (v := ?_) rfl (by kernel_rfl) (fun _ _ _ h => h) (Or.inl ⟨by rfl, ?_⟩) (fun _ => hHeld) ?_
    rotate_left
    · intro w hSw
      (try dsimp only at hSw)
      go_simp
      try with_reducible rfl
    try simp only [Act.put, List.setIfInBounds_toArray, List.set_cons_zero, List.set_cons_succ]
    refine wpTill_take0 (i := 5) (oi := ⟨some 62, _, _, _, _, _⟩) (v := ?_) rfl (by kernel_rfl) (fun _ _ _ h => h) (Or.inl ⟨by rfl, ?_⟩) (fun _ => hHeld) ?_
    rotate_left
    · intro w hSw
      (try dsimp only at hSw)
      go_simp
      try with_reducible rfl
    try simp only [Act.put, List.setIfInBounds_toArray, List.set_cons_zero, List.set_cons_succ]
    refine wpTill_take0 (i := 6) (oi := ⟨some 63, _, _, _, _, _⟩) (v := ?_) rfl (by kernel_rfl) (fun _ _ _ h => h) (Or.inl ⟨by rfl, ?_⟩) (fun _ => hHeld) ?_
    rotate_left
    · intro w hSw
      (try dsimp only at hSw)
      go_simp
      try with_reducible rfl
    try simp only [Act.put, List.setIfInBounds_toArray, List.set_cons_zero, List.set_cons_succ]
    refine wpTill_take (i := 7) (oi := ⟨some 64, _, _, _, _, _⟩) (v := ?_) rfl (by kernel_rfl) (fun _ _ _ h => h) (Or.inl ⟨by rfl, ?_⟩) (by exact hHeld) ?_
    rotate_left
    · intro w hSw
      (try dsimp only at hSw)
      go_simp
      try with_reducible rfl
    try simp only [Act.put, List.setIfInBounds_toArray, List.set_cons_zero, List.set_cons_succ]
    refine wpTill_take0 (i := 8) (oi := ⟨some 65, _, _, _, _, _⟩) (v := ?_) rfl (by kernel_rfl) (fun _ _ _ h => h) (Or.inl ⟨by rfl, ?_⟩) (fun _ => hHeld) ?_
    rotate_left
    · intro w hSw
      (try dsimp only at hSw)
      go_simp
      try with_reducible rfl
    try simp only [Act.put, List.setIfInBounds_toArray, List.set_cons_zero, List.set_cons_succ]
    refine wpTill_take0 (i := 9) (oi := ⟨some 66, _, _, _, _, _⟩) (v := ?_) rfl (by kernel_rfl) (fun _ _ _ h => h) (Or.inl ⟨by rfl, ?_⟩) (fun _ => hHeld) ?_
    rotate_left
    · intro w hSw
      (try dsimp only at hSw)
      go_simp
      try with_reducible rfl
    try simp only [Act.put, List.setIfInBounds_toArray, List.set_cons_zero, List.set_cons_succ]
    refine wpTill_ready (rs := [10]) (by kernel_rfl) (by simp) ?_
    refine AllTill.cons (o := ⟨some 67, _, _, _, _, _⟩) rfl (fun K hK => ?_) AllTill.nil
    go_simp
    go_at_call 9
    refine (krng_any vrows xs f _ (by exact (HXS.out.1.below (HB.out.drew.mono hW)).mono (Nat.le_trans hW HB.out.drew.size)) HXS.out.2 (by omega)).mono ?_
    rintro e w2 ⟨v2, og, rfl, hs, hg, hb⟩
    have HR := Lib.hid (And.intro hs (And.intro hg hb))
    clear hs hg hb
    go_wp2_with fail
    refine hK.out _ _ (by exact HSof.out _ ((Below.refl _ _).drew.trans HR.out.2.2)) (fun hHeld => ?_)
    clear hK K
    try simp only [Act.put, List.setIfInBounds_toArray, List.set_cons_zero, List.set_cons_succ]
    refine wpTill_take0 (i := 11) (oi := ⟨some 7, _, _, _, _, _⟩) (v := ?_) rfl (by kernel_rfl) (fun _ _ _ h => h) (Or.inl ⟨by rfl, ?_⟩) (fun _ => hHeld) ?_
    rotate_left
    · intro w hSw
      (try dsimp only at hSw)
      go_simp
      try with_reducible rfl
    try simp only [Act.put, List.setIfInBounds_toArray, List.set_cons_zero, List.set_cons_succ]
    refine wpTill_done (by kernel_rfl) ?_ _
    go_wp2_with fail
    go_meet
    case rel => exact ⟨og, HR.out.1, fun g e => HR.out.2.1 g e, (Below.refl _ _).drew.trans HR.out.2.2⟩
  case rest =>
  obtain ⟨og, hsr, hgr, hbr⟩ := hcut
  have H2 := Lib.hid (H1.out.later hbr)
  have HKZ2 := Lib.hid (below_keeps hbr HKZ.out (heap_lt HKZ.out))
  have HB2 := Lib.hid (below_call HB.out HB.out.size hbr)
  have HSR := Lib.hid hsr
  have HGR := Lib.hid (show ∀ g, og = some g → ¬ (fp g ∨ g = c) from fun g e q => by
    have h1 := hgr g e
    rcases q with q | q
    · have := H1.out.p.lt.2 g q
      omega
    · have := H1.out.d.lt.2 c H1.out.d.lt.1
      omega)
  have z0 := (cell_at HKZ2.out 0).trans (by rfl : _ = some (Value.int .i64 9))
  have c1 : wc.cell? ⟨c, 1, none⟩ = some (.int .u64 nx) := by rw [H2.out.d.cells.1, HNX.out.2]
  clear hsr hgr hbr z5 z6 H1 HKZ HSof
  generalize wc = w2 at *
  have hvr := HVR.out.1
  obtain ⟨orr, cr, rfl, hcr1, hcr2⟩ := hvr.shape
  have z12 := (cell_at HKZ2.out 12).trans (by rfl : _ = some (Value.slice orr rs0.length cr))
  have HVA0 := Lib.hid (show VwA encR (fun j => fp j ∨ j = c) w2 (.slice orr rs0.length cr) rs0 from (hvr.below (HB2.out.mono hW)).apart (Nat.le_trans hW HB2.out.size) (fun k hk => by
    rcases hk with hk | hk
    · exact H2.out.np k hk
    · rw [hk]
      exact H2.out.nd c H2.out.d.lt.1))
  clear hvr
  obtain ⟨nr, hnr⟩ : ∃ nr, rs0.length = nr := ⟨_, rfl⟩
  rw [hnr] at HVA0 z12 hcr1
  by_cases h5 : 5 < nr
  · have h5i : (5 : Int) < (nr : Int) := by omega
    have h5c : 5 ≤ cr := by omega
    have HVA := Lib.hid (HVA0.out.front encR_len 5 (by omega))
    have HRL := Lib.hid (show (rs0.take 5).length ≤ 1000 ∧ ∀ r ∈ rs0.take 5, r.1 < 18446744073709551616 ∧ r.2 < 18446744073709551616 from ⟨by rw [List.length_take]; omega, fun r hr => HVR.out.2 r (List.mem_of_mem_take hr)⟩)
    clear hnr
    go_wp2_with fail
    refine (lack_any b s fp _ (rs0.take 5) _ (by exact H2.out.p) (by exact vwa_vw HVA.out) (Nat.le_refl _) HRL.out.1 HRL.out.2).mono ?_
    rintro e w3 ⟨v1, o1, v2, o2, rfl, hs1, hs2, hg1, hg2, hm⟩
    obtain ⟨fp3, h3⟩ := H2.out.goP hm
    have H3 := Lib.hid h3
    have HVA3 := Lib.hid (HVA.out.upd hm.upd (fun k hk => .inl hk))
    have HS1 := Lib.hid hs1
    have HS2 := Lib.hid hs2
    have HG := Lib.hid (And.intro hg1 hg2)
    have HLT := Lib.hid H2.out.d.lt.2
    have HLEN := Lib.hid (ack_len H2.out.p.ok (rs0.take 5))
    clear hs1 hs2 hg1 hg2 hm h3
    go_wp2_with fail
    refine (dack_any c d fq _ (rs0.take 5) _ (by exact H3.out.d) (fun w5 hu => vwa_vw (HVA3.out.upd hu (fun k hk => .inr hk))) HRL.out.1 HRL.out.2).mono ?_
    rintro e w4 ⟨v3, o3, v4, o4, rfl, hs3, hs4, hg3, hg4, hm⟩
    obtain ⟨fq4, h4⟩ := H3.out.goD hm
    have H4 := Lib.hid (show Two W w4 b c (s.ackS (rs0.take 5)) (d.ackS (rs0.take 5)) fp3 fq4 from h4)
    have HS14 := Lib.hid (HS1.out.keeps hm.upd (fun g e q => by have := HG.out.1 g e; have := HLT.out g q; omega))
    have HS24 := Lib.hid (HS2.out.keeps hm.upd (fun g e q => by have := HG.out.2 g e; have := HLT.out g q; omega))
    have HS3 := Lib.hid hs3
    have HS4 := Lib.hid hs4
    have HER := Lib.hid (sim_ackErr HSIM.out (rs0.take 5))
    obtain ⟨er, her⟩ : ∃ er, d.ackErr (rs0.take 5) = er := ⟨_, rfl⟩
    rw [HER.out, her]
    clear her
    clear hs3 hs4 hg3 hg4 hm h4
    go_wp2_with fail
    refine (packs_eq v1 v3 _ _ _ (by exact HS14.out.vw) (by exact HS3.out.vw) (sim_ack1 HSIM.out (rs0.take 5)) HLEN.out.1).mono ?_
    rintro e w5 ⟨rfl, n5, rfl⟩
    go_wp2_with fail
    refine (packs_eq v2 v4 _ _ _ (by exact (HS24.out.drewN n5).vw) (by exact (HS4.out.drewN n5).vw) (sim_ack2 HSIM.out (rs0.take 5)) HLEN.out.2).mono ?_
    rintro e w6 ⟨rfl, n6, rfl⟩
    have H6 := Lib.hid (H4.out.later (below_drewN (below_drewN (Below.refl _ _) n5) n6))
    generalize (w4.drewN n5).drewN n6 = w6 at *
    go_wp2_with fail
    refine (same_two b c _ _ fp3 fq4 _ (by exact H6.out) (sim_ackS HSIM.out (rs0.take 5))).mono ?_
    rintro e w7 ⟨rfl, h7⟩
    have H7 := Lib.hid h7
    clear h7
    go_wp2_with fail
    go_ret
    exact ⟨rfl, _, _, _, _, H7.out, sim_ackS HSIM.out (rs0.take 5)⟩
  · have h5i : ¬ (5 : Int) < (nr : Int) := by omega
    have HVA := HVA0
    have HRL := Lib.hid (show rs0.length ≤ 1000 ∧ ∀ r ∈ rs0, r.1 < 18446744073709551616 ∧ r.2 < 18446744073709551616 from ⟨by omega, HVR.out.2⟩)
    clear hnr
    go_wp2_with fail
    refine (lack_any b s fp _ rs0 _ (by exact H2.out.p) (by exact vwa_vw HVA.out) (Nat.le_refl _) HRL.out.1 HRL.out.2).mono ?_
    rintro e w3 ⟨v1, o1, v2, o2, rfl, hs1, hs2, hg1, hg2, hm⟩
    obtain ⟨fp3, h3⟩ := H2.out.goP hm
    have H3 := Lib.hid h3
    have HVA3 := Lib.hid (HVA.out.upd hm.upd (fun k hk => .inl hk))
    have HS1 := Lib.hid hs1
    have HS2 := Lib.hid hs2
    have HG := Lib.hid (And.intro hg1 hg2)
    have HLT := Lib.hid H2.out.d.lt.2
    have HLEN := Lib.hid (ack_len H2.out.p.ok rs0)
    clear hs1 hs2 hg1 hg2 hm h3
    go_wp2_with fail
    refine (dack_any c d fq _ rs0 _ (by exact H3.out.d) (fun w5 hu => vwa_vw (HVA3.out.upd hu (fun k hk => .inr hk))) HRL.out.1 HRL.out.2).mono ?_
    rintro e w4 ⟨v3, o3, v4, o4, rfl, hs3, hs4, hg3, hg4, hm⟩
    obtain ⟨fq4, h4⟩ := H3.out.goD hm
    have H4 := Lib.hid (show Two W w4 b c (s.ackS rs0) (d.ackS rs0) fp3 fq4 from h4)
    have HS14 := Lib.hid (HS1.out.keeps hm.upd (fun g e q => by have := HG.out.1 g e; have := HLT.out g q; omega))
    have HS24 := Lib.hid (HS2.out.keeps hm.upd (fun g e q => by have := HG.out.2 g e; have := HLT.out g q; omega))
    have HS3 := Lib.hid hs3
    have HS4 := Lib.hid hs4
    have HER := Lib.hid (sim_ackErr HSIM.out rs0)
    obtain ⟨er, her⟩ : ∃ er, d.ackErr rs0 = er := ⟨_, rfl⟩
    rw [HER.out, her]
    clear her
    clear hs3 hs4 hg3 hg4 hm h4
    go_wp2_with fail
    refine (packs_eq v1 v3 _ _ _ (by exact HS14.out.vw) (by exact HS3.out.vw) (sim_ack1 HSIM.out rs0) HLEN.out.1).mono ?_
    rintro e w5 ⟨rfl, n5, rfl⟩
    go_wp2_with fail
    refine (packs_eq v2 v4 _ _ _ (by exact (HS24.out.drewN n5).vw) (by exact (HS4.out.drewN n5).vw) (sim_ack2 HSIM.out rs0) HLEN.out.2).mono ?_
    rintro e w6 ⟨rfl, n6, rfl⟩
    have H6 := Lib.hid (H4.out.later (below_drewN (below_drewN (Below.refl _ _) n5) n6))
    generalize (w4.drewN n5).drewN n6 = w6 at *
    go_wp2_with fail
    refine (same_two b c _ _ fp3 fq4 _ (by exact H6.out) (sim_ackS HSIM.out rs0)).mono ?_
    rintro e w7 ⟨rfl, h7⟩
    have H7 := Lib.hid h7
    clear h7
    go_wp2_with fail
    go_ret
    exact ⟨rfl, _, _, _, _, H7.out, sim_ackS HSIM.out rs0⟩
end Go.Proofs.Ytacfbgnbjdckiaa
