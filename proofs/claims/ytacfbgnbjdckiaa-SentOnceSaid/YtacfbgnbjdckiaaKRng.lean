/- DERIVED. Walk of narthexkeep's Ranges. -/
import Derived.Test.YtacfbgnbjdckiaaSentKnown
namespace Go.Proofs.Ytacfbgnbjdckiaa
open Go.RowKit

def encU (n : Nat) : List Value := [.int .u64 n]
theorem encU_len (n : Nat) : (encU n).length = 1 := rfl
theorem Vw.u64 {w : World} {B : Nat} {oa : Option Addr} {n cap : Nat} {xs : List Nat} (h : Vw encU w B (.slice oa n cap) xs) {i x : Nat} (hx : xs[i]? = some x) :
    ∃ b off, oa = some ⟨b, off, none⟩ ∧ b < B ∧ w.cell? ⟨b, off + i, none⟩ = some (.int .u64 x) := by
  obtain ⟨b, off, h1, h2, h3⟩ := h.el encU_len hx
  refine ⟨b, off, h1, h2, ?_⟩
  have := h3 0 (by omega)
  simpa [encU] using this
def katN (xs : List Nat) (f : Nat) : Nat → Nat × List Rg
  | 0 => (f, [])
  | k + 1 => ((katN xs f k).1 + xs.getD (2 * k) 0 % 30 + 1 + xs.getD (2 * k + 1) 0 % 20 + 1,
    (katN xs f k).2 ++ [((katN xs f k).1 + xs.getD (2 * k) 0 % 30, (katN xs f k).1 + xs.getD (2 * k) 0 % 30 + 1 + xs.getD (2 * k + 1) 0 % 20)])
theorem katN_succ (xs : List Nat) (f k : Nat) {lo hi : Nat} (hlo : (katN xs f k).1 + xs.getD (2 * k) 0 % 30 = lo) (hhi : lo + 1 + xs.getD (2 * k + 1) 0 % 20 = hi) : katN xs f (k + 1) = (hi + 1, (katN xs f k).2 ++ [(lo, hi)]) := by
  subst hlo hhi
  rfl
theorem katN_len (xs : List Nat) (f : Nat) : ∀ k, (katN xs f k).2.length = k
  | 0 => rfl
  | k + 1 => by simp [katN, katN_len xs f k]
theorem katN_le (xs : List Nat) (f : Nat) : ∀ k, f ≤ (katN xs f k).1 ∧ (katN xs f k).1 ≤ f + 50 * k
  | 0 => by simp [katN]
  | k + 1 => by
    obtain ⟨h1, h2⟩ := katN_le xs f k
    simp only [katN]
    omega
theorem katN_top (xs : List Nat) (f : Nat) : ∀ k, ∀ r ∈ (katN xs f k).2, f ≤ r.1 ∧ r.1 < r.2 ∧ r.2 < (katN xs f k).1
  | 0 => by simp [katN]
  | k + 1 => by
    intro r hr
    obtain ⟨h1, _⟩ := katN_le xs f k
    simp only [katN] at hr ⊢
    rcases List.mem_append.1 hr with h | h
    · have := katN_top xs f k r h
      omega
    · simp only [List.mem_singleton] at h
      subst h
      simp only
      omega
theorem katN_norm (xs : List Nat) (f : Nat) (hf : f ≤ 4611686018427387000) : ∀ k, k ≤ 16 → Norm (katN xs f k).2
  | 0, _ => ⟨by simp [katN], by simp [katN]⟩
  | k + 1, hk => by
    have ih := katN_norm xs f hf k (by omega)
    have hle := katN_le xs f (k + 1)
    have ht := katN_top xs f (k + 1)
    have hp := katN_top xs f k
    refine ⟨fun r hr => ?_, ?_⟩
    · have := ht r hr
      omega
    · simp only [katN]
      rw [List.pairwise_append]
      refine ⟨ih.2, by simp, fun a ha b hb => ?_⟩
      simp only [List.mem_singleton] at hb
      subst hb
      have := hp a ha
      simp only
      omega
/-- What Ranges answers. -/
def kRngs (xs : List Nat) (f : Nat) : List Rg := if min 16 (xs.length / 2) = 0 then [(f, f + 1)] else (katN xs f (min 16 (xs.length / 2))).2
theorem kRngs_norm (xs : List Nat) (f : Nat) (hf : f ≤ 4611686018427387000) : Norm (kRngs xs f) ∧ (kRngs xs f).length ≤ 16 ∧ 0 < (kRngs xs f).length := by
  unfold kRngs
  split
  · exact ⟨one_norm (by omega) (by omega), by simp, by simp⟩
  · refine ⟨katN_norm xs f hf _ (by omega), by rw [katN_len]; omega, by rw [katN_len]; omega⟩
def KRPost (w : World) (xs : List Nat) (f : Nat) (e : Ending) (w' : World) : Prop := ∃ v' og, e = .returned v' ∧ SlG encR 37 w' v' og (kRngs xs f) ∧ (∀ g, og = some g → w.heap.size ≤ g) ∧ Below w.heap.size w w'
set_option maxRecDepth 100000 in
set_option maxHeartbeats 2000000 in
theorem krng_any (v : Value) (xs : List Nat) (f : Nat) (w : World) (h : Vw encU w w.heap.size v xs) (hx : ∀ x ∈ xs, x < 18446744073709551616) (hf : f ≤ 4611686018427387910) :
    Calls Try.prog 9 #[v, .int .u64 f] w (KRPost w xs f) := by
  obtain ⟨i0, hi0, hz0, hz1, hz2'⟩ := info_parts infoR
  obtain ⟨oa, cap, rfl, hc1, hc2⟩ := h.shape
  have HV := Lib.hid h
  have HX := Lib.hid hx
  clear h hx
  generalize hlen : xs.length = len at *
  have HL := Lib.hid hlen
  clear hlen
  go_enter Try.func9, Try.ntmps9
  go_wp2_with fail
  have HM0 := Lib.hid (show SlG encR 37 w (.slice none 0 0) none (katN xs f 0).2 ∧ Below w.heap.size w w from ⟨SlG.nil _, Below.refl _ _⟩)
  go_loopw [5, 6, 7, 8, 9] (fun l a i _ _ wr => ∃ k : Nat, i = .int .i64 (2 * k : Nat) ∧ a = .int .u64 (katN xs f k).1 ∧ k ≤ 16 ∧ 2 * k ≤ len ∧ ∃ og, SlG encR 37 wr l og (katN xs f k).2 ∧ (∀ g, og = some g → w.heap.size ≤ g) ∧ Below w.heap.size w wr) (fun _ _ i _ _ _ => 100 - (intOf i).toNat)
  case atStart => exact ⟨0, rfl, rfl, by omega, by omega, none, HM0.out.1, by simp, HM0.out.2⟩
  case round =>
    obtain ⟨k, rfl, rfl, hk, hkl, og, hs, hn, hb⟩ := hrel
    have HB := Lib.hid hb
    have HN := Lib.hid hn
    obtain ⟨ol, cl, rfl, hcl1, hcl2⟩ := hs.shape
    rw [katN_len] at hs hcl1 ⊢
    have HS := Lib.hid hs
    obtain ⟨hle1, hle2⟩ := katN_le xs f k
    generalize hat : (katN xs f k).1 = at_ at *
    have HAT := Lib.hid hat
    obtain ⟨k2, hk2⟩ : ∃ k2, 2 * k = k2 := ⟨_, rfl⟩
    have HK2 := Lib.hid hk2
    rw [hk2] at hkl ⊢
    have hk2b : k2 ≤ 32 := by omega
    clear hb hn hs hat HM0
    obtain ⟨k3, hk3, hk3b⟩ : ∃ k3 : Nat, (k2 : Int) + 1 = (k3 : Int) ∧ k2 + 1 = k3 := ⟨k2 + 1, by omega, rfl⟩
    by_cases h1 : k3 < len
    · by_cases h2 : k < 16
      · obtain ⟨x, hx⟩ : ∃ x, xs[k2]? = some x := ⟨_, List.getElem?_eq_getElem (by rw [HL.out]; omega)⟩
        obtain ⟨y, hy⟩ : ∃ y, xs[k3]? = some y := ⟨_, List.getElem?_eq_getElem (by rw [HL.out]; omega)⟩
        have hxb := HX.out x (List.mem_of_getElem? hx)
        have hyb := HX.out y (List.mem_of_getElem? hy)
        obtain ⟨c, ofc, rfl, hc, q0⟩ := HV.out.u64 hx
        obtain ⟨c', ofc', e', _, q1⟩ := HV.out.u64 hy
        cases e'
        have q0 := cell_keep HB.out hc q0
        have q1 := cell_keep HB.out hc q1
        have hmx : (x : Int) % 30 = ((x % 30 : Nat) : Int) := by omega
        have hmy : (y : Int) % 20 = ((y % 20 : Nat) : Int) := by omega
        obtain ⟨lo, hlo, hlo2⟩ : ∃ lo : Nat, (at_ : Int) + ((x % 30 : Nat) : Int) = (lo : Int) ∧ at_ + x % 30 = lo := ⟨at_ + x % 30, by omega, rfl⟩
        obtain ⟨lo1, hlo1, hlo12⟩ : ∃ lo1 : Nat, (lo : Int) + 1 = (lo1 : Int) ∧ lo + 1 = lo1 := ⟨lo + 1, by omega, rfl⟩
        obtain ⟨hi, hhi, hhi2⟩ : ∃ hi : Nat, (lo1 : Int) + ((y % 20 : Nat) : Int) = (hi : Int) ∧ lo1 + y % 20 = hi := ⟨lo1 + y % 20, by omega, rfl⟩
        have hmlt : x % 30 < 30 ∧ y % 20 < 20 := ⟨Nat.mod_lt _ (by omega), Nat.mod_lt _ (by omega)⟩
        have HST := Lib.hid (show katN xs f (k + 1) = (hi + 1, (katN xs f k).2 ++ [(lo, hi)]) from by
          refine katN_succ xs f k ?_ ?_
          · rw [HAT.out, HK2.out, List.getD_eq_getElem?_getD, hx]
            exact hlo2
          · rw [HK2.out, hk3b, List.getD_eq_getElem?_getD, hy]
            simp only [Option.getD_some]
            omega)
        obtain ⟨hm1, hm2⟩ := hmlt
        have hb1 : at_ ≤ 4611686018427388800 := by omega
        have hb2 : lo ≤ 4611686018427388900 := by omega
        have hb3 : hi ≤ 4611686018427389000 := by omega
        have hb4 : lo1 ≤ 4611686018427388901 := by omega
        generalize x % 30 = xm at *
        generalize y % 20 = ym at *
        clear hx hy hle1 hle2 hlo2 hlo12 hhi2
        have w1 : IntKind.u64.wrap (lo : Int) = lo := IntWalk.u64_in _ (by omega)
        have w2 : IntKind.u64.wrap (hi : Int) = hi := IntWalk.u64_in _ (by omega)
        have w3 : IntKind.u64.wrap (lo1 : Int) = lo1 := IntWalk.u64_in _ (by omega)
        have h1i : (k3 : Int) < (len : Int) := by omega
        go_wp2_with (refine wpList_pushV encR_len encR_one Try.underlying33 hi0 hz1 hz0 zeroR rfl (.tmp 39) (.tmp 43) rfl (by exact HS.out.alloc _) (by exact (SlG.vw (og := some wr.heap.size) (xs := [(lo, hi)]) (.inr ⟨wr.heap.size, [], rfl, rfl, alloc_at _ _, by simp⟩))) rfl rfl (by rw [hz2', katN_len]; simp; omega) (by rw [katN_len]; simp; omega) ?_)
        intro W4 v4 o4 hs4 ho4 hu4
        have H4 := Lib.hid (show SlG encR 37 W4 v4 o4 (katN xs f (k + 1)).2 ∧ (∀ g, o4 = some g → w.heap.size ≤ g) ∧ Below w.heap.size w W4 from by
          have hs := HB.out.size
          have h9 := HB.out.alloc hs (.cells #[.int .u64 lo, .int .u64 hi] 37)
          refine ⟨by rw [HST.out]; exact hs4, fun g hg => ?_, Upd.belowOf h9 hu4 (fun j hj e => by have := HN.out j e; omega)⟩
          rcases ho4 with rfl | ⟨g', rfl, h4⟩
          · exact HN.out g hg
          · cases hg
            first | omega | (simp at h4; omega))
        have HHI := Lib.hid (show (katN xs f (k + 1)).1 = hi + 1 from by rw [HST.out])
        clear hs4 ho4 hu4
        obtain ⟨h5, hh5, hh52⟩ : ∃ h5 : Nat, (hi : Int) + 1 = (h5 : Int) ∧ hi + 1 = h5 := ⟨hi + 1, by omega, rfl⟩
        have w5 : IntKind.u64.wrap (h5 : Int) = h5 := IntWalk.u64_in _ (by omega)
        rw [hh52] at HHI
        clear hh52
        go_wp2_with fail
        go_roundw
        case rel => exact ⟨k + 1, by congr 1; have := HK2.out; omega, by rw [HHI.out], by omega, by have := HK2.out; omega, o4, H4.out.1, H4.out.2.1, H4.out.2.2⟩
        case measure => simp [intOf]; omega
      · obtain rfl : k = 16 := by omega
        have h1i : (k3 : Int) < (len : Int) := by omega
        have HR := Lib.hid (show kRngs xs f = (katN xs f 16).2 from by
          unfold kRngs
          have : min 16 (xs.length / 2) = 16 := by have := HL.out; have := HK2.out; omega
          rw [if_neg (by omega), this])
        go_wp2_with fail
        go_ret
        exact ⟨_, og, rfl, by rw [HR.out]; exact HS.out, HN.out, HB.out⟩
    · have h1i : ¬ (k3 : Int) < (len : Int) := by omega
      have HM := Lib.hid (show min 16 (xs.length / 2) = k from by have := HL.out; have := HK2.out; omega)
      by_cases h0 : k = 0
      · subst h0
        have HR := Lib.hid (show kRngs xs f = [(f, f + 1)] from by
          unfold kRngs
          rw [HM.out]
          rfl)
        have hwf : IntKind.u64.wrap ((f : Int) + 1) = ((f + 1 : Nat) : Int) := by rw [IntWalk.u64_in _ (by omega)]; omega
        go_wp2_with fail
        go_ret
        exact ⟨_, some wr.heap.size, rfl, by rw [HR.out]; exact .inr ⟨wr.heap.size, [], rfl, rfl, alloc_at _ _, by simp⟩, by intro g hg; cases hg; exact HB.out.size, HB.out.alloc HB.out.size _⟩
      · have h0i : ¬ (k : Int) = 0 := by omega
        have h0b : ((k : Int) == 0) = false := by simp; omega
        have HR := Lib.hid (show kRngs xs f = (katN xs f k).2 from by
          unfold kRngs
          rw [HM.out, if_neg h0])
        go_wp2_with fail
        go_ret
        exact ⟨_, og, rfl, by rw [HR.out]; exact HS.out, HN.out, HB.out⟩
end Go.Proofs.Ytacfbgnbjdckiaa
