/- DERIVED. Walk of the set's Has. -/
import Derived.Deep.RegionWith
import Derived.Deep.CutBlock
import Derived.Deep.DeepCutAuto
import Derived.Test.YtacfbgnbjdckiaaQ4
import Derived.Test.YtacfbgnbjdckiaaQ5
namespace Go.Proofs.Ytacfbgnbjdckiaa
open Go.RowKit

set_option maxHeartbeats 400000 in
theorem has_fn (n c : Nat) (r : Rg) (w : World) (hc : w.cell? ⟨c, 0, none⟩ = some (.int .u64 n)) :
    Calls Try.prog 40 #[.agg #[.int .u64 r.1, .int .u64 r.2], .pointer (some ⟨c, 0, none⟩)] w fun e w' => e = .returned (.bool (hasP n r)) ∧ Below w.heap.size w w' := by
  have ha := fun o => Lib.cell?_alloc_some o hc
  by_cases h1 : r.1 ≤ n
  all_goals by_cases h2 : n < r.2
  all_goals
    go_enter Try.func40, Try.ntmps40
    go_wp2
    go_ret
    exact ⟨fn_end (by simp [hasP, h1, h2]; try omega), (Below.refl _ _).alloc (Nat.le_refl _) _⟩

set_option maxRecDepth 100000 in
set_option maxHeartbeats 400000 in
theorem index_has (n c : Nat) (v : Value) (og : Option Nat) (xs : List Rg) (w : World) (hs : Sl w v og xs) (hc : w.cell? ⟨c, 0, none⟩ = some (.int .u64 n)) :
    Calls Try.prog 54 #[v, .func (.func 40) #[] #[.pointer (some ⟨c, 0, none⟩)]] w
      fun e w' => ∃ z : Int, e = .returned (.int .i64 z) ∧ decide (0 ≤ z) = xs.any (hasP n) ∧ Below w.heap.size w w' := by
  obtain ⟨oa, cap, rfl, hcap, hcap2⟩ := hs.shape
  have HS := Lib.hid hs
  have HC := Lib.hid hc
  clear hs hc
  generalize hn : xs.length = len at *
  have HN := Lib.hid hn
  clear hn
  go_enter Try.func54, Try.ntmps54
  go_wp2_with fail
  go_loopw [8] (fun i wr => ∃ k : Nat, i = .int .i64 k ∧ k ≤ len ∧ (xs.take k).any (hasP n) = false ∧ Below w.heap.size w wr) (fun i _ => len - (intOf i).toNat)
  case atStart => exact ⟨0, rfl, by omega, by simp, Below.refl _ _⟩
  case round =>
    obtain ⟨k, rfl, hk, hany, hb⟩ := hrel
    have HA := Lib.hid hany
    have HB := Lib.hid hb
    clear hany hb
    by_cases hlt : k < len
    · obtain ⟨r, hr⟩ : ∃ r, xs[k]? = some r := ⟨_, List.getElem?_eq_getElem (by rw [HN.out]; exact hlt)⟩
      obtain ⟨g, hog, rfl, hgl, c0, c1⟩ := HS.out.atS hr
      have HR := Lib.hid hr
      have d0 := (HB.out.cell (p := ⟨g, k * 2, none⟩) hgl).trans c0
      have d1 := (HB.out.cell (p := ⟨g, k * 2 + 1, none⟩) hgl).trans c1
      clear c0 c1 hog hr
      have hcl := cell_in HC.out
      have hfn := Lib.hid (has_fn n c r wr ((HB.out.cell (p := ⟨c, 0, none⟩) hcl).trans HC.out))
      cases hp : hasP n r
      all_goals go_wp2_with fail
      all_goals (refine hfn.out.mono ?_; rintro e w' ⟨rfl, hb'⟩)
      all_goals (have HB' := Lib.hid (below_call HB.out HB.out.size hb'))
      all_goals clear hb'
      · rw [hp]
        go_wp2
        go_roundw
        case rel => exact ⟨k + 1, by go_num, by omega, by rw [take_any HR.out, HA.out, hp]; rfl, HB'.out⟩
        case measure => simp [intOf]; omega
      · rw [hp]
        go_wp2
        go_ret
        refine ⟨k, rfl, ?_, HB'.out⟩
        have h1 : xs.any (hasP n) = true := List.any_eq_true.2 ⟨r, List.mem_of_getElem? HR.out, hp⟩
        rw [h1]
        simp
    · go_wp2
      go_ret
      refine ⟨-1, rfl, ?_, HB.out⟩
      have := HA.out
      rw [List.take_of_length_le (by rw [HN.out]; omega)] at this
      rw [this]
      rfl
set_option maxHeartbeats 400000 in
theorem contains_has (n c : Nat) (v : Value) (og : Option Nat) (xs : List Rg) (w : World) (hs : Sl w v og xs) (hc : w.cell? ⟨c, 0, none⟩ = some (.int .u64 n)) :
    Calls Try.prog 38 #[v, .func (.func 40) #[] #[.pointer (some ⟨c, 0, none⟩)]] w
      fun e w' => e = .returned (.bool (xs.any (hasP n))) ∧ Below w.heap.size w w' := by
  have HI := Lib.hid (index_has n c v og xs w hs hc)
  clear hs hc
  go_enter Try.func38, Try.ntmps38
  go_wp2_with fail
  refine HI.out.mono ?_
  rintro e w' ⟨z, rfl, hz, hb⟩
  have HZ := Lib.hid hz
  have HB := Lib.hid hb
  clear hz hb
  go_wp2
  go_ret
  exact ⟨fn_end HZ.out, HB.out⟩


set_option maxHeartbeats 400000 in
theorem shas_any (b : Nat) (most : Int) (og : Option Nat) (xs : List Rg) (n : Nat) (w : World) (h : SetAt w b most og xs) :
    Calls Try.prog 25 #[.pointer (some ⟨b, 0, none⟩), .int .u64 n] w fun e w' => e = .returned (.bool (xs.any (hasP n))) ∧ Below w.heap.size w w' := by
  obtain ⟨v, hb, hs, hne⟩ := h
  have c1 := cell_at hb 1
  simp at c1
  have ha := fun o => Lib.cell?_alloc_some o c1
  have HS := Lib.hid hs
  clear hb hs
  go_enter Try.func25, Try.ntmps25
  go_wp2_with fail
  refine (contains_has n w.heap.size v og xs _ (HS.out.below ((Below.refl _ _).alloc (Nat.le_refl _) _)) (by simp)).mono ?_
  rintro e w' ⟨rfl, hb⟩
  have HB := Lib.hid (below_call ((Below.refl w.heap.size w).alloc (Nat.le_refl _) _) (by simp) hb)
  clear hb ha c1
  go_wp2
  go_ret
  exact ⟨rfl, HB.out⟩

end Go.Proofs.Ytacfbgnbjdckiaa

/- DERIVED. Plain laws of lists of ranges: the program's answers are the document's. -/
namespace Go.Proofs.Ytacfbgnbjdckiaa
open Go.RowKit

theorem from_ge (xs : List Rg) : ∀ f : Nat, f ≤ xs.foldl fromR f := by
  induction xs with
  | nil => intro f; exact Nat.le_refl _
  | cons r xs ih =>
    intro f
    refine Nat.le_trans ?_ (ih (fromR f r))
    unfold fromR
    split <;> omega
theorem from_above (xs : List Rg) (f : Nat) (h : ∀ r ∈ xs, f < r.1) : xs.foldl fromR f = f := by
  induction xs with
  | nil => rfl
  | cons r xs ih =>
    have h1 := h r (List.mem_cons_self ..)
    simp only [List.foldl_cons]
    rw [show fromR f r = f by rw [fromR, if_neg (by omega)]]
    exact ih (fun x hx => h x (List.mem_cons_of_mem _ hx))
theorem end_above (xs : List Rg) (f e : Nat) (h : ∀ r ∈ xs, e ≤ r.1) : xs.foldl (endR f) e = e := by
  induction xs with
  | nil => rfl
  | cons r xs ih =>
    have h1 := h r (List.mem_cons_self ..)
    simp only [List.foldl_cons]
    rw [show endR f e r = e by unfold endR; split <;> omega]
    exact ih (fun x hx => h x (List.mem_cons_of_mem _ hx))
theorem Norm.tail {r : Rg} {xs : List Rg} (h : Norm (r :: xs)) : Norm xs := ⟨fun x hx => h.1 x (List.mem_cons_of_mem _ hx), (List.pairwise_cons.1 h.2).2⟩
theorem Norm.head {r : Rg} {xs : List Rg} (h : Norm (r :: xs)) : (r.1 < r.2 ∧ r.2 ≤ 4611686018427387904) ∧ ∀ x ∈ xs, r.2 < x.1 := ⟨h.1 r (List.mem_cons_self ..), (List.pairwise_cons.1 h.2).1⟩
theorem gapF_is (t : Nat) : ∀ (xs : List Rg) (f : Nat), Norm xs →
    (gapF xs f t).1 = xs.foldl fromR f ∧ (gapF xs f t).2 = xs.foldl (endR (xs.foldl fromR f)) t ∧ ((gapF xs f t).2 ≤ (gapF xs f t).1 ↔ t ≤ (gapF xs f t).1)
  | [], f, _ => ⟨rfl, rfl, Iff.rfl⟩
  | r :: xs, f, hn => by
    obtain ⟨⟨h1, h2⟩, h3⟩ := hn.head
    unfold gapF
    by_cases c1 : r.2 ≤ f
    · rw [if_pos c1]
      obtain ⟨i1, i2, i3⟩ := gapF_is t xs f hn.tail
      have e1 : fromR f r = f := by rw [fromR, if_neg (by omega)]
      have g := from_ge xs f
      have e2 : endR (xs.foldl fromR f) t r = t := by rw [endR, if_neg (by omega)]
      simp only [List.foldl_cons, e1, e2]
      exact ⟨i1, i2, i3⟩
    · rw [if_neg c1]
      by_cases c2 : f < r.1
      · rw [if_pos c2]
        have e1 : fromR f r = f := by rw [fromR, if_neg (by omega)]
        have e2 : endR f t r = min t r.1 := by rw [endR, if_pos c2]
        simp only [List.foldl_cons, e1]
        rw [from_above xs f (fun x hx => by have := h3 x hx; omega), e2, end_above xs f _ (fun x hx => by have := h3 x hx; omega)]
        exact ⟨rfl, rfl, by omega⟩
      · rw [if_neg c2]
        obtain ⟨i1, i2, i3⟩ := gapF_is t xs r.2 hn.tail
        have e1 : fromR f r = r.2 := by rw [fromR, if_pos (by omega)]
        have g := from_ge xs r.2
        have e2 : endR (xs.foldl fromR r.2) t r = t := by rw [endR, if_neg (by omega)]
        simp only [List.foldl_cons, e1, e2]
        exact ⟨i1, i2, i3⟩
theorem gapR_is (xs : List Rg) (f t : Nat) (hn : Norm xs) : gapR xs f t = gapL xs f t := by
  obtain ⟨i1, i2, i3⟩ := gapF_is t xs f hn
  unfold gapR gapL
  by_cases h : t ≤ xs.foldl fromR f
  · rw [if_pos h, if_pos (by rw [i3, i1]; exact h)]
  · rw [if_neg h, if_neg (by rw [i3, i1]; exact h), ← i2, ← i1]
end Go.Proofs.Ytacfbgnbjdckiaa

/- DERIVED. Plain laws: the two ways to add a range are one. -/
namespace Go.Proofs.Ytacfbgnbjdckiaa
open Go.RowKit

def addN : List Rg → Rg → List Rg
  | [], x => [x]
  | r :: rs, x => if r.2 < x.1 then r :: addN rs x else if x.2 < r.1 then x :: r :: rs else addN rs (min x.1 r.1, max x.2 r.2)

theorem ra_after (rs : List Rg) : ∀ (ys : List Rg) (x : Rg), (∀ r ∈ rs, ¬ r.2 < x.1 ∧ x.2 < r.1) → rs.foldl Ra.step ⟨ys, x, true⟩ = ⟨ys ++ rs, x, true⟩ := by
  induction rs with
  | nil => intro ys x _; simp
  | cons r rs ih =>
    intro ys x h
    obtain ⟨h1, h2⟩ := h r (List.mem_cons_self ..)
    simp only [List.foldl_cons]
    rw [show Ra.step ⟨ys, x, true⟩ r = ⟨ys ++ [r], x, true⟩ by simp [Ra.step, h1, h2], ih _ _ (fun a ha => h a (List.mem_cons_of_mem _ ha))]
    simp
def Ra.fin (s : Ra) : List Rg := if s.done then s.out else s.out ++ [s.x]
theorem ra_is (rs : List Rg) : ∀ (ys : List Rg) (x : Rg), x.1 < x.2 → Norm rs → (rs.foldl Ra.step ⟨ys, x, false⟩).fin = ys ++ addN rs x := by
  induction rs with
  | nil => intro ys x _ _; simp [Ra.fin, addN]
  | cons r rs ih =>
    intro ys x hx hn
    obtain ⟨⟨h1, h2⟩, h3⟩ := hn.head
    simp only [List.foldl_cons, addN]
    by_cases c1 : r.2 < x.1
    · rw [if_pos c1, show Ra.step ⟨ys, x, false⟩ r = ⟨ys ++ [r], x, false⟩ by simp [Ra.step, c1], ih _ _ hx hn.tail]
      simp
    · rw [if_neg c1]
      by_cases c2 : x.2 < r.1
      · rw [if_pos c2, show Ra.step ⟨ys, x, false⟩ r = ⟨ys ++ [x] ++ [r], x, true⟩ by simp [Ra.step, c1, c2], ra_after _ _ _ (fun a ha => by
          have := h3 a ha
          have := hn.1 a (List.mem_cons_of_mem _ ha)
          omega)]
        simp [Ra.fin]
      · rw [if_neg c2, show Ra.step ⟨ys, x, false⟩ r = ⟨ys, (min x.1 r.1, max x.2 r.2), false⟩ by simp [Ra.step, c1, c2], ih _ _ (by simp only []; omega) hn.tail]
theorem addR_is {xs : List Rg} {lo hi : Nat} (h : lo < hi) (hn : Norm xs) : addR lo hi xs = addN xs (lo, hi) := by
  have := ra_is xs [] (lo, hi) h hn
  rw [List.nil_append] at this
  exact this

theorem addN_mid (hi : Nat) : ∀ (rs : List Rg) (x : Rg), x.1 < x.2 → Norm rs → (∀ r ∈ rs, x.1 ≤ r.2) → (∀ r ∈ rs, x.2 < r.1 ↔ hi < r.1) →
    addN rs x = fuse x (rs.takeWhile (fun x => decide (x.1 ≤ hi))) :: rs.drop (rs.takeWhile (fun x => decide (x.1 ≤ hi))).length
  | [], x, _, _, _, _ => by simp [addN, fuse]
  | r :: rs, x, hx, hn, hb, hc => by
    obtain ⟨⟨h1, h2⟩, h3⟩ := hn.head
    have b1 := hb r (List.mem_cons_self ..)
    have c1 := hc r (List.mem_cons_self ..)
    rw [addN, if_neg (by omega)]
    by_cases c2 : x.2 < r.1
    · rw [if_pos c2, List.takeWhile_cons_of_neg (by simpa using c1.1 c2)]
      simp [fuse]
    · have c3 : ¬ hi < r.1 := fun h => c2 (c1.2 h)
      rw [if_neg c2, List.takeWhile_cons_of_pos (by simpa using Nat.le_of_not_lt c3), addN_mid hi rs _ (by simp only []; omega) hn.tail (fun a ha => by
        have := h3 a ha
        have := hn.1 a (List.mem_cons_of_mem _ ha)
        simp only []
        omega) (fun a ha => by
        have := h3 a ha
        have := hn.1 a (List.mem_cons_of_mem _ ha)
        have := hc a (List.mem_cons_of_mem _ ha)
        simp only []
        omega)]
      simp [fuse]
theorem addRaw_is {lo hi : Nat} (h : lo < hi) : ∀ (xs : List Rg), Norm xs → addRaw xs lo hi = addN xs (lo, hi)
  | [], _ => by simp [addRaw, iOf, kOf, fuse, addN]
  | r :: rs, hn => by
    obtain ⟨⟨h1, h2⟩, h3⟩ := hn.head
    by_cases c1 : r.2 < lo
    · have ih := addRaw_is h rs hn.tail
      have hi1 : iOf (r :: rs) lo = iOf rs lo + 1 := by unfold iOf; rw [List.takeWhile_cons_of_pos (by simpa using c1)]; simp
      have hk1 : kOf (r :: rs) (iOf (r :: rs) lo) hi = kOf rs (iOf rs lo) hi + 1 := by rw [hi1]; unfold kOf; simp; omega
      rw [addN, if_pos c1, ← ih]
      unfold addRaw
      rw [hk1, hi1]
      simp
    · have hi0 : iOf (r :: rs) lo = 0 := by unfold iOf; rw [List.takeWhile_cons_of_neg (by simpa using c1)]; rfl
      have := addN_mid hi (r :: rs) (lo, hi) h hn (fun a ha => by
        rcases List.mem_cons.1 ha with rfl | ha
        · simp only []; omega
        · have := h3 a ha
          have := hn.1 a (List.mem_cons_of_mem _ ha)
          simp only []
          omega) (fun a _ => Iff.rfl)
      rw [this]
      unfold addRaw
      rw [hi0]
      unfold kOf
      simp only [List.take_zero, List.nil_append, List.drop_zero, Nat.zero_add]
      congr 2
      exact (List.prefix_iff_eq_take.1 (List.takeWhile_prefix _)).symm
theorem addRaw_addR {xs : List Rg} {lo hi : Nat} (h : lo < hi) (hn : Norm xs) : addR lo hi xs = addRaw xs lo hi := by rw [addR_is h hn, addRaw_is h xs hn]
end Go.Proofs.Ytacfbgnbjdckiaa

/- DERIVED. Plain laws: what adds, cuts, trims keep; what is in a list behind them. -/
namespace Go.Proofs.Ytacfbgnbjdckiaa
open Go.RowKit

theorem addN_above (L : Nat) : ∀ (rs : List Rg) (x : Rg), L < x.1 → (∀ r ∈ rs, L < r.1) → ∀ a ∈ addN rs x, L < a.1
  | [], x, hx, _, a, ha => by simp [addN] at ha; subst ha; exact hx
  | r :: rs, x, hx, hr, a, ha => by
    have h1 := hr r (List.mem_cons_self ..)
    have h2 : ∀ r ∈ rs, L < r.1 := fun b hb => hr b (List.mem_cons_of_mem _ hb)
    unfold addN at ha
    split at ha
    · rcases List.mem_cons.1 ha with rfl | ha
      · exact h1
      · exact addN_above L rs x hx h2 a ha
    · split at ha
      · rcases List.mem_cons.1 ha with rfl | ha
        · exact hx
        · exact hr a ha
      · exact addN_above L rs _ (by simp only []; omega) h2 a ha
theorem addN_norm : ∀ (rs : List Rg) (x : Rg), x.1 < x.2 → x.2 ≤ 4611686018427387904 → Norm rs → Norm (addN rs x)
  | [], x, h1, h2, _ => ⟨by intro a ha; simp [addN] at ha; subst ha; exact ⟨h1, h2⟩, by simp [addN]⟩
  | r :: rs, x, h1, h2, hn => by
    obtain ⟨⟨h3, h4⟩, h5⟩ := hn.head
    unfold addN
    split
    · rename_i c
      have ih := addN_norm rs x h1 h2 hn.tail
      refine ⟨?_, List.pairwise_cons.2 ⟨addN_above r.2 rs x c h5, ih.2⟩⟩
      intro a ha
      rcases List.mem_cons.1 ha with rfl | ha
      · exact ⟨h3, h4⟩
      · exact ih.1 a ha
    · split
      · rename_i c1 c2
        refine ⟨?_, List.pairwise_cons.2 ⟨?_, hn.2⟩⟩
        · intro a ha
          rcases List.mem_cons.1 ha with rfl | ha
          · exact ⟨h1, h2⟩
          · exact hn.1 a ha
        · intro a ha
          rcases List.mem_cons.1 ha with rfl | ha
          · exact c2
          · have := h5 a ha
            omega
      · exact addN_norm rs _ (by simp only []; omega) (by simp only []; omega) hn.tail
theorem addN_len : ∀ (rs : List Rg) (x : Rg), (addN rs x).length ≤ rs.length + 1
  | [], x => by simp [addN]
  | r :: rs, x => by
    unfold addN
    split
    · have := addN_len rs x
      simp only [List.length_cons]
      omega
    · split
      · simp
      · have := addN_len rs (min x.1 r.1, max x.2 r.2)
        simp only [List.length_cons]
        omega
theorem Norm.drop {xs : List Rg} (h : Norm xs) (k : Nat) : Norm (xs.drop k) :=
  ⟨fun r hr => h.1 r (List.mem_of_mem_drop hr), h.2.sublist (List.drop_sublist _ _)⟩
theorem trim_norm {xs : List Rg} (most : Int) (h : Norm xs) : Norm (trimL most xs) := h.drop _
theorem trim_len (most : Int) (xs : List Rg) (h : 0 ≤ most) : ((trimL most xs).length : Int) ≤ most ∧ (trimL most xs).length ≤ xs.length := by
  unfold trimL
  rw [List.length_drop]
  omega
theorem cut1_in {lo hi : Nat} {r a : Rg} (hr : r.1 < r.2) (ha : a ∈ cut1 lo hi r) : r.1 ≤ a.1 ∧ a.1 < a.2 ∧ a.2 ≤ r.2 := by
  unfold cut1 at ha
  split at ha
  · simp at ha
    subst ha
    omega
  · rename_i c
    rcases List.mem_append.1 ha with ha | ha
    · split at ha
      · simp at ha
        subst ha
        simp only []
        omega
      · simp at ha
    · split at ha
      · simp at ha
        subst ha
        simp only []
        omega
      · simp at ha
theorem cut1_norm {lo hi : Nat} {r : Rg} (hr : r.1 < r.2 ∧ r.2 ≤ 4611686018427387904) : Norm (cut1 lo hi r) := by
  refine ⟨fun a ha => by have := cut1_in hr.1 ha; omega, ?_⟩
  unfold cut1
  split
  · simp
  · split <;> split <;> simp
    omega
theorem cut_norm (lo hi : Nat) : ∀ xs : List Rg, Norm xs → Norm (cutRaw lo hi xs)
  | [], _ => ⟨by simp [cutRaw], by simp [cutRaw]⟩
  | r :: xs, hn => by
    obtain ⟨h1, h2⟩ := hn.head
    have ih := cut_norm lo hi xs hn.tail
    have hc := cut1_norm (lo := lo) (hi := hi) h1
    have e : cutRaw lo hi (r :: xs) = cut1 lo hi r ++ cutRaw lo hi xs := by simp [cutRaw]
    rw [e]
    refine ⟨?_, List.pairwise_append.2 ⟨hc.2, ih.2, ?_⟩⟩
    · intro a ha
      rcases List.mem_append.1 ha with ha | ha
      · exact hc.1 a ha
      · exact ih.1 a ha
    · intro a ha b hb
      obtain ⟨c, hc1, hc2⟩ := List.mem_flatMap.1 hb
      have := cut1_in h1.1 ha
      have := cut1_in (hn.tail.1 c hc1).1 hc2
      have := h2 c hc1
      omega
end Go.Proofs.Ytacfbgnbjdckiaa

/- DERIVED. Plain laws: which numbers are in a list behind an add, a cut; how many. -/
namespace Go.Proofs.Ytacfbgnbjdckiaa
open Go.RowKit

theorem any_addN (n : Nat) : ∀ (rs : List Rg) (x : Rg), x.1 < x.2 → Norm rs → (addN rs x).any (hasP n) = (hasP n x || rs.any (hasP n))
  | [], x, _, _ => by simp [addN]
  | r :: rs, x, hx, hn => by
    obtain ⟨⟨h1, h2⟩, h3⟩ := hn.head
    unfold addN
    split
    · rw [List.any_cons, any_addN n rs x hx hn.tail, List.any_cons]
      cases hasP n r <;> cases hasP n x <;> simp
    · split
      · simp [List.any_cons]
      · rename_i c1 c2
        rw [any_addN n rs _ (by simp only []; omega) hn.tail, List.any_cons]
        have e : hasP n (min x.1 r.1, max x.2 r.2) = (hasP n x || hasP n r) := by
          rw [Bool.eq_iff_iff]
          simp only [hasP, Bool.and_eq_true, decide_eq_true_eq, Bool.or_eq_true]
          omega
        rw [e, Bool.or_assoc]
theorem any_cut1 (n lo hi : Nat) (r : Rg) (_hr : r.1 < r.2) (h : lo < hi) : (cut1 lo hi r).any (hasP n) = (hasP n r && !(hasP n (lo, hi))) := by
  rw [Bool.eq_iff_iff]
  unfold cut1
  repeat' split
  all_goals simp only [List.any_append, List.any_cons, List.any_nil, hasP, Bool.and_eq_true, Bool.or_eq_true, decide_eq_true_eq, Bool.not_eq_true', Bool.and_eq_false_iff, decide_eq_false_iff_not, Bool.or_false, Bool.false_or, Bool.false_eq_true, false_iff, not_and, not_or]
  all_goals first | omega | (intro h1; omega)
theorem any_cut (n lo hi : Nat) (h : lo < hi) : ∀ xs : List Rg, Norm xs → (cutRaw lo hi xs).any (hasP n) = (xs.any (hasP n) && !(hasP n (lo, hi)))
  | [], _ => by simp [cutRaw]
  | r :: xs, hn => by
    have e : cutRaw lo hi (r :: xs) = cut1 lo hi r ++ cutRaw lo hi xs := by simp [cutRaw]
    rw [e, List.any_append, any_cut1 n lo hi r hn.head.1.1 h, any_cut n lo hi h xs hn.tail, List.any_cons]
    cases hasP n r <;> cases xs.any (hasP n) <;> simp
theorem cut_none {lo hi : Nat} (h : hi ≤ lo) (xs : List Rg) : cutRaw lo hi xs = xs := by
  induction xs with
  | nil => simp [cutRaw]
  | cons r xs ih =>
    have e : cutRaw lo hi (r :: xs) = cut1 lo hi r ++ cutRaw lo hi xs := by simp [cutRaw]
    rw [e, ih, cut1, if_pos (.inl h)]
    rfl
theorem trim_all {most : Int} {xs : List Rg} (h : (xs.length : Int) ≤ most) : trimL most xs = xs := by
  unfold trimL
  rw [show xs.length - most.toNat = 0 by omega, List.drop_zero]
end Go.Proofs.Ytacfbgnbjdckiaa

/- DERIVED. Plain laws: counting the numbers of a list of ranges; gaps. -/
namespace Go.Proofs.Ytacfbgnbjdckiaa
open Go.RowKit

/-- How many numbers below n are such. -/
def cnt (p : Nat → Bool) : Nat → Nat
  | 0 => 0
  | n + 1 => cnt p n + if p n then 1 else 0
theorem cnt_or {p q : Nat → Bool} : ∀ n, (∀ k, k < n → p k = true → q k = false) → cnt (fun k => p k || q k) n = cnt p n + cnt q n
  | 0, _ => rfl
  | n + 1, h => by
    simp only [cnt]
    rw [cnt_or n (fun k hk => h k (by omega))]
    have h1 := h n (by omega)
    have key : ∀ a b : Bool, (a = true → b = false) → (if (a || b) = true then 1 else 0) = (if a = true then 1 else 0) + (if b = true then 1 else 0) := by decide
    rw [key _ _ h1]
    omega
theorem cnt_eq {p q : Nat → Bool} : ∀ n, (∀ k, k < n → p k = q k) → cnt p n = cnt q n
  | 0, _ => rfl
  | n + 1, h => by simp only [cnt]; rw [cnt_eq n (fun k hk => h k (by omega)), h n (by omega)]
theorem cnt_rg (r : Rg) (h : r.1 < r.2) : ∀ n, cnt (fun k => hasP k r) n = min n r.2 - min n r.1
  | 0 => by simp [cnt]
  | n + 1 => by
    simp only [cnt]
    rw [cnt_rg r h n]
    simp only [hasP, Bool.and_eq_true, decide_eq_true_eq]
    split <;> omega
def mem (xs : List Rg) (k : Nat) : Bool := xs.any (hasP k)
theorem mem_lo {xs : List Rg} (_hn : Norm xs) {a : Nat} (h : ∀ r ∈ xs, a < r.1) {k : Nat} (hk : k ≤ a) : mem xs k = false := by
  unfold mem
  rw [List.any_eq_false]
  intro r hr
  have := h r hr
  simp [hasP]
  omega
theorem cntL_cnt (a : Nat) : ∀ xs : List Rg, Norm xs → (∀ r ∈ xs, r.2 ≤ a) → cntL xs = cnt (mem xs) a
  | [], _, _ => by
    have : ∀ n, cnt (mem []) n = 0 := by
      intro n
      induction n with
      | zero => rfl
      | succ n ih => simp [cnt, ih, mem]
    rw [this]
    rfl
  | r :: xs, hn, ha => by
    obtain ⟨⟨h1, h2⟩, h3⟩ := hn.head
    have e : cnt (mem (r :: xs)) a = cnt (fun k => hasP k r || mem xs k) a := cnt_eq a (fun k _ => by simp [mem])
    rw [e, cnt_or a (fun k _ hk => by
      simp [hasP] at hk
      exact mem_lo hn.tail h3 (by omega)), ← cntL_cnt a xs hn.tail (fun x hx => ha x (List.mem_cons_of_mem _ hx)), cnt_rg r h1]
    have := ha r (List.mem_cons_self ..)
    have e2 : cntL (r :: xs) = r.2 - r.1 + cntL xs := by simp [cntL]
    rw [e2]
    omega
theorem cnt_all {p : Nat → Bool} {a : Nat} : ∀ d, (∀ k, a ≤ k → k < a + d → p k = true) → cnt p (a + d) = cnt p a + d
  | 0, _ => rfl
  | d + 1, h => by
    rw [← Nat.add_assoc, cnt, cnt_all d (fun k h1 h2 => h k h1 (by omega)), h (a + d) (by omega) (by omega)]
    simp
    omega
theorem cnt_none {p : Nat → Bool} {a : Nat} : ∀ d, (∀ k, a ≤ k → k < a + d → p k = false) → cnt p (a + d) = cnt p a
  | 0, _ => rfl
  | d + 1, h => by
    rw [← Nat.add_assoc, cnt, cnt_none d (fun k h1 h2 => h k h1 (by omega)), h (a + d) (by omega) (by omega)]
    simp

/-- What a gap is. -/
theorem gapF_facts (t : Nat) : ∀ (xs : List Rg) (f : Nat), Norm xs → f ≤ (gapF xs f t).1 ∧ (gapF xs f t).2 ≤ t ∧
    (∀ k, f ≤ k → k < (gapF xs f t).1 → mem xs k = true) ∧ (∀ k, (gapF xs f t).1 ≤ k → k < (gapF xs f t).2 → mem xs k = false)
  | [], f, _ => ⟨Nat.le_refl _, Nat.le_refl _, fun k h1 h2 => by simp [gapF] at h2; omega, fun k _ _ => rfl⟩
  | r :: xs, f, hn => by
    obtain ⟨⟨h1, h2⟩, h3⟩ := hn.head
    unfold gapF
    by_cases c1 : r.2 ≤ f
    · rw [if_pos c1]
      obtain ⟨i1, i2, i3, i4⟩ := gapF_facts t xs f hn.tail
      refine ⟨i1, i2, fun k a b => ?_, fun k a b => ?_⟩
      · have := i3 k a b
        simp [mem] at this ⊢
        exact .inr this
      · have := i4 k a b
        unfold mem at *
        rw [List.any_cons, this]
        simp [hasP]
        omega
    · rw [if_neg c1]
      by_cases c2 : f < r.1
      · rw [if_pos c2]
        refine ⟨Nat.le_refl _, Nat.min_le_left _ _, fun k a b => by simp only at b; omega, fun k a b => ?_⟩
        simp only at a b
        have := mem_lo hn.tail (a := r.2) h3 (k := k) (by omega)
        unfold mem at *
        rw [List.any_cons, this]
        simp [hasP]
        omega
      · rw [if_neg c2]
        obtain ⟨i1, i2, i3, i4⟩ := gapF_facts t xs r.2 hn.tail
        refine ⟨by omega, i2, fun k a b => ?_, fun k a b => ?_⟩
        · by_cases hk : k < r.2
          · simp [mem, hasP]
            left
            omega
          · have := i3 k (by omega) b
            simp [mem] at this ⊢
            exact .inr this
        · have := i4 k a b
          unfold mem at *
          rw [List.any_cons, this]
          simp [hasP]
          omega
theorem gap_step {xs : List Rg} {f t : Nat} {r : Rg} (hn : Norm xs) (h : gapL xs f t = (r, true)) :
    f ≤ r.1 ∧ r.1 < r.2 ∧ r.2 ≤ t ∧ (∀ k, r.1 ≤ k → k < r.2 → xs.any (hasP k) = false) ∧ cnt (mem xs) r.2 = cnt (mem xs) f + (r.1 - f) := by
  obtain ⟨i1, i2, i3, i4⟩ := gapF_facts t xs f hn
  unfold gapL at h
  split at h
  · simp at h
  · rename_i c
    have h' : gapF xs f t = r := congrArg Prod.fst h
    rw [h'] at i1 i2 i3 i4 c
    refine ⟨i1, by omega, i2, i4, ?_⟩
    have e1 : r.2 = r.1 + (r.2 - r.1) := by omega
    have e2 : r.1 = f + (r.1 - f) := by omega
    have e3 := cnt_none (p := mem xs) (a := r.1) (r.2 - r.1) (fun k a b => i4 k a (by omega))
    have e4 := cnt_all (p := mem xs) (a := f) (r.1 - f) (fun k a b => i3 k a (by omega))
    rw [← e1] at e3
    rw [← e2] at e4
    omega
theorem gap_end {xs : List Rg} {f t : Nat} {g : Rg} (hn : Norm xs) (hf : f ≤ t) (ht : ∀ r ∈ xs, r.2 ≤ t) (h : gapL xs f t = (g, false)) : cntL xs = cnt (mem xs) f + (t - f) := by
  obtain ⟨i1, i2, i3, i4⟩ := gapF_facts t xs f hn
  obtain ⟨_, _, j3⟩ := gapF_is t xs f hn
  unfold gapL at h
  split at h
  · rename_i c
    have hle := j3.1 c
    rw [cntL_cnt t xs hn ht, show t = f + (t - f) from by omega, cnt_all _ (fun k a b => i3 k a (by omega))]
    omega
  · simp at h
end Go.Proofs.Ytacfbgnbjdckiaa

/- DERIVED. Walks of the document's has, Oldest, Last, Flight. -/
namespace Go.Proofs.Ytacfbgnbjdckiaa
open Go.RowKit

theorem Vw.rng {w : World} {B : Nat} {oa : Option Addr} {n cap : Nat} {L : List Rg} (h : Vw encR w B (.slice oa n cap) L) {i : Nat} {r : Rg} (ha : L[i]? = some r) :
    ∃ b off, oa = some ⟨b, off, none⟩ ∧ b < B ∧ w.cell? ⟨b, off + i * 2, none⟩ = some (.int .u64 r.1) ∧ w.cell? ⟨b, off + i * 2 + 1, none⟩ = some (.int .u64 r.2) := by
  obtain ⟨b, off, h1, h2, h3⟩ := h.el encR_len ha
  refine ⟨b, off, h1, h2, ?_, h3 1 (by omega)⟩
  have := h3 0 (by omega)
  simpa [encR] using this
theorem any_take_succ {rs : List Rg} {f : Rg → Bool} {k : Nat} {r : Rg} (hr : rs[k]? = some r) : (rs.take (k + 1)).any f = ((rs.take k).any f || f r) := by
  rw [List.take_add_one, hr]
  simp
theorem any_of_get {rs : List Rg} {f : Rg → Bool} {k : Nat} {r : Rg} (hr : rs[k]? = some r) (hf : f r = true) : rs.any f = true :=
  List.any_eq_true.2 ⟨r, List.mem_of_getElem? hr, hf⟩
set_option maxRecDepth 100000 in
set_option maxHeartbeats 2000000 in
theorem dhas_any (v : Value) (rs : List Rg) (n : Nat) (w : World) {B : Nat} (h : Vw encR w B v rs) (hl : rs.length ≤ 1000) :
    Calls Try.prog 41 #[v, .int .u64 n] w fun e w' => e = .returned (.bool (rs.any (hasP n))) ∧ w' = w := by
  obtain ⟨oa, cap, rfl, hc1, hc2⟩ := h.shape
  have H := Lib.hid h
  clear h
  generalize hlen : rs.length = len at *
  have HL := Lib.hid hlen
  have HA0 := Lib.hid (show (rs.take 0).any (hasP n) = false from rfl)
  clear hlen
  go_enter Try.func41, Try.ntmps41
  go_wp2_with fail
  go_loopw [5] (fun i wr => ∃ k : Nat, i = .int .i64 k ∧ k ≤ len ∧ wr = w ∧ (rs.take k).any (hasP n) = false) (fun i _ => len - (intOf i).toNat)
  case atStart => exact ⟨0, rfl, by omega, rfl, HA0.out⟩
  case round =>
    obtain ⟨k, rfl, hk, rfl, ha⟩ := hrel
    have HA := Lib.hid ha
    clear ha HA0
    by_cases hlt : k < len
    · obtain ⟨r, hr⟩ : ∃ r, rs[k]? = some r := ⟨_, List.getElem?_eq_getElem (by rw [HL.out]; exact hlt)⟩
      obtain ⟨c, ofc, rfl, hc, q0, q1⟩ := H.out.rng hr
      have HR := Lib.hid hr
      clear hr
      by_cases h1 : r.1 ≤ n
      · have h1i : (r.1 : Int) ≤ (n : Int) := by omega
        by_cases h2 : n < r.2
        · have h2i : (n : Int) < (r.2 : Int) := by omega
          go_wp2_with fail
          go_ret
          exact ⟨fn_end (any_of_get HR.out (by unfold hasP; simp [h1, h2])).symm, rfl⟩
        · have h2i : ¬ (n : Int) < (r.2 : Int) := by omega
          have HN := Lib.hid (show (rs.take (k + 1)).any (hasP n) = false from by rw [any_take_succ HR.out, HA.out]; unfold hasP; simp [h2])
          go_wp2_with fail
          go_roundw
          case rel => exact ⟨k + 1, by go_num, by omega, trivial, HN.out⟩
          case measure => simp [intOf]; omega
      · have h1i : ¬ (r.1 : Int) ≤ (n : Int) := by omega
        have HN := Lib.hid (show (rs.take (k + 1)).any (hasP n) = false from by rw [any_take_succ HR.out, HA.out]; unfold hasP; simp [h1])
        go_wp2_with fail
        go_roundw
        case rel => exact ⟨k + 1, by go_num, by omega, trivial, HN.out⟩
        case measure => simp [intOf]; omega
    · obtain rfl : k = len := by omega
      have htk : rs.take k = rs := by rw [← HL.out, List.take_length]
      rw [htk] at HA
      go_wp2_with fail
      go_ret
      exact ⟨fn_end HA.out.symm, rfl⟩
set_option maxRecDepth 100000 in
set_option maxHeartbeats 2000000 in
theorem dlast_some (b : Nat) (s : LS) (fp : Nat → Prop) (p : Pk) (w : World) (h : LAt kD w b s fp) (hp : s.L[s.L.length - 1]? = some p) : Calls Try.prog 44 #[.pointer (some ⟨b, 0, none⟩)] w fun e w' => e = .returned (.tuple #[.int .i64 p.t, .bool true]) ∧ w' = w := by
  obtain ⟨vL, og, hL, _⟩ := h
  obtain ⟨oa, cap, rfl, hc1, hc2⟩ := hL.row.shape
  have c0 : w.cell? ⟨b, 0, none⟩ = some (.slice oa s.L.length cap) := (cell_at hL.blk 0).trans rfl
  obtain ⟨c, ofc, rfl, hc, _, q1, _, q3, _⟩ := hL.row.vw.pkt hp
  rw [hL.ok.ask p (List.mem_of_getElem? hp)] at q3
  have hpos : 0 < s.L.length := by have := (List.getElem?_eq_some_iff.1 hp).1; omega
  have hl := hL.ok.len
  clear hL hp
  generalize s.L.length = len at *
  have hsub : (len : Int) - 1 = ((len - 1 : Nat) : Int) := by omega
  have hsb : len - 1 < len := by omega
  have hge : ¬ ((len - 1 : Nat) : Int) < 0 := by omega
  have hge2 : (0 : Int) ≤ ((len - 1 : Nat) : Int) := by omega
  go_enter Try.func44, Try.ntmps44
  go_wp2_with fail
  go_loopw [4] (fun i wr => i = .int .i64 ((len - 1 : Nat) : Int) ∧ wr = w) (fun _ _ => 0)
  case atStart => exact ⟨by rw [← hsub], rfl⟩
  case round =>
    obtain ⟨rfl, rfl⟩ := hrel
    go_wp2_with fail
    go_ret2
    exact ⟨rfl, rfl⟩
set_option maxRecDepth 100000 in
set_option maxHeartbeats 2000000 in
theorem dlast_none (b : Nat) (s : LS) (fp : Nat → Prop) (w : World) (h : LAt kD w b s fp) (hp : s.L = []) : Calls Try.prog 44 #[.pointer (some ⟨b, 0, none⟩)] w fun e w' => e = .returned (.tuple #[.int .i64 0, .bool false]) ∧ w' = w := by
  obtain ⟨vL, og, hL, _⟩ := h
  obtain ⟨oa, cap, rfl, hc1, hc2⟩ := hL.row.shape
  have c0 : w.cell? ⟨b, 0, none⟩ = some (.slice oa 0 cap) := by rw [cell_at hL.blk, hp]; rfl
  clear hL
  go_enter Try.func44, Try.ntmps44
  go_wp2_with fail
  go_loopw [4] (fun i wr => i = .int .i64 (-1) ∧ wr = w) (fun _ _ => 0)
  case atStart => exact ⟨rfl, rfl⟩
  case round =>
    obtain ⟨rfl, rfl⟩ := hrel
    go_wp2_with fail
    go_ret2
    exact ⟨rfl, rfl⟩
def sumZ (L : List Pk) : Int := (L.map (·.z)).foldl (· + ·) 0
theorem sumZ_snoc (L : List Pk) (p : Pk) : sumZ (L ++ [p]) = sumZ L + p.z := by simp [sumZ]
theorem sumZ_le : ∀ {L : List Pk}, (∀ p ∈ L, 0 ≤ p.z ∧ p.z ≤ 512) → 0 ≤ sumZ L ∧ sumZ L ≤ 512 * L.length := by
  have key : ∀ (L : List Pk) (a : Int), (∀ p ∈ L, 0 ≤ p.z ∧ p.z ≤ 512) → a ≤ (L.map (·.z)).foldl (· + ·) a ∧ (L.map (·.z)).foldl (· + ·) a ≤ a + 512 * L.length := by
    intro L
    induction L with
    | nil => intro a _; simp
    | cons p L ih =>
      intro a h
      have h1 := h p (List.mem_cons_self ..)
      have h2 := ih (a + p.z) (fun q hq => h q (List.mem_cons_of_mem _ hq))
      simp only [List.map_cons, List.foldl_cons, List.length_cons]
      omega
  intro L h
  have := key L 0 h
  unfold sumZ
  omega
set_option maxRecDepth 100000 in
set_option maxHeartbeats 2000000 in
theorem dflight_any (b : Nat) (s : LS) (fp : Nat → Prop) (w : World) (h : LAt kD w b s fp) : Calls Try.prog 46 #[.pointer (some ⟨b, 0, none⟩)] w fun e w' => e = .returned (.int .i64 (sumZ s.L)) ∧ w' = w := by
  obtain ⟨vL, og, hL, _⟩ := h
  obtain ⟨oa, cap, rfl, hc1, hc2⟩ := hL.row.shape
  have c0 : w.cell? ⟨b, 0, none⟩ = some (.slice oa s.L.length cap) := (cell_at hL.blk 0).trans rfl
  have HV := Lib.hid hL.row.vw
  have HOK := Lib.hid hL.ok
  have hl := hL.ok.len
  clear hL
  generalize hlen : s.L.length = len at *
  have HLEN := Lib.hid hlen
  have HS0 := Lib.hid (show (0 : Int) = sumZ (s.L.take 0) from rfl)
  clear hlen
  go_enter Try.func46, Try.ntmps46
  go_wp2_with fail
  go_loopw [3, 4] (fun n i wr => ∃ k : Nat, i = .int .i64 k ∧ k ≤ len ∧ n = .int .i64 (sumZ (s.L.take k)) ∧ wr = w) (fun _ i _ => len - (intOf i).toNat)
  case atStart => exact ⟨0, rfl, by omega, by rw [← HS0.out], rfl⟩
  case round =>
    obtain ⟨k, rfl, hk, rfl, rfl⟩ := hrel
    clear HS0
    by_cases hlt : k < len
    · obtain ⟨p, hp⟩ : ∃ p, s.L[k]? = some p := ⟨_, List.getElem?_eq_getElem (by rw [HLEN.out]; exact hlt)⟩
      obtain ⟨c, ofc, rfl, hc, q0, q1, q2, q3, q4⟩ := HV.out.pkt hp
      rw [HOK.out.ask p (List.mem_of_getElem? hp)] at q3
      have hzp := HOK.out.z p (List.mem_of_getElem? hp)
      have hsn : sumZ (s.L.take (k + 1)) = sumZ (s.L.take k) + p.z := by
        rw [List.take_add_one, hp]
        exact sumZ_snoc _ _
      have hsb := sumZ_le (L := s.L.take k) (fun q hq => HOK.out.z q (List.mem_of_mem_take hq))
      have htl : (s.L.take k).length ≤ 64 := by rw [List.length_take, HLEN.out]; omega
      have HSN := Lib.hid hsn
      generalize sumZ (s.L.take k) = sk at *
      obtain ⟨hs1, hs2⟩ := hsb
      have hs3 : sk ≤ 40000 := by omega
      clear hp hs2 htl hsn
      go_wp2_with fail
      go_roundw
      case rel => exact ⟨k + 1, by go_num, by omega, by rw [HSN.out], trivial⟩
      case measure => simp [intOf]; omega
    · obtain rfl : k = len := by omega
      have htk : s.L.take k = s.L := by rw [← HLEN.out, List.take_length]
      have HTK := Lib.hid htk
      clear htk
      go_wp2_with fail
      go_ret
      refine ⟨?_, rfl⟩
      rw [HTK.out]
      first | rfl | trivial
set_option maxRecDepth 100000 in
set_option maxHeartbeats 2000000 in
theorem dold_some (b : Nat) (s : LS) (fp : Nat → Prop) (p : Pk) (w : World) (h : LAt kD w b s fp) (hp : s.L[0]? = some p) : Calls Try.prog 43 #[.pointer (some ⟨b, 0, none⟩)] w fun e w' => e = .returned (.tuple #[.agg #[.int .u64 p.n, .int .i64 p.t, .int .i64 p.z, .bool true, .slice p.fa p.fl p.fc], .bool true]) ∧ Below w.heap.size w w' := by
  obtain ⟨vL, og, hL, _⟩ := h
  obtain ⟨oa, cap, rfl, hc1, hc2⟩ := hL.row.shape
  have HBLK := Lib.hid hL.blk
  obtain ⟨c, ofc, rfl, hc, q0, q1, q2, q3, q4⟩ := hL.row.vw.pkt hp
  rw [hL.ok.ask p (List.mem_of_getElem? hp)] at q3
  simp only [Nat.zero_mul, Nat.add_zero] at q0 q1 q2 q3 q4
  have hpos : 0 < s.L.length := by have := (List.getElem?_eq_some_iff.1 hp).1; omega
  have hl := hL.ok.len
  clear hL hp
  have HC := Lib.hid (show ∀ W, Below w.heap.size w W → W.cell? ⟨b, 0, none⟩ = some (.slice (some ⟨c, ofc, none⟩) s.L.length cap) from fun W hb => (cell_at (below_keeps hb HBLK.out (heap_lt HBLK.out)) 0).trans rfl)
  clear HBLK
  generalize s.L.length = len at *
  go_enter Try.func43, Try.ntmps43
  go_upto_region 0 with fail
  go_cut [2] (fun v wx => ∃ y, v = .pointer (some ⟨y, 0, none⟩) ∧ w.heap.size ≤ y ∧ Below w.heap.size w wx ∧ wx.heap[y]? = some (.cells #[.int .u64 0, .int .i64 0, .int .i64 0, .bool false, .slice none 0 0] 32 (0, 0)))
  case first =>
    go_wp2_with fail
    go_meet
    case rel => exact ⟨_, rfl, Nat.le_refl _, (Below.refl _ _).alloc (Nat.le_refl _) _, alloc_at _ _⟩
  case rest =>
    obtain ⟨y, rfl, hy, hb, hky⟩ := hcut
    generalize wc = w1 at *
    have HB := Lib.hid hb
    have HKY := Lib.hid hky
    have c0 := HC.out _ hb
    have q0 := cell_keep hb hc q0
    have q1 := cell_keep hb hc q1
    have q2 := cell_keep hb hc q2
    have q3 := cell_keep hb hc q3
    have q4 := cell_keep hb hc q4
    clear hb hky
    go_wp2_with fail
    go_loopw [4] (fun i wr => i = .int .i64 0 ∧ wr = w1) (fun _ _ => 0)
    case atStart => exact ⟨rfl, rfl⟩
    case round =>
      obtain ⟨rfl, rfl⟩ := hrel
      have hky := HKY.out
      have y0 := (cell_at hky 0).trans (by rfl : _ = some (Value.int .u64 0))
      have g0 := free_at hky 0
      have y1 := (cell_at hky 1).trans (by rfl : _ = some (Value.int .i64 0))
      have g1 := free_at hky 1
      have y2 := (cell_at hky 2).trans (by rfl : _ = some (Value.int .i64 0))
      have g2 := free_at hky 2
      have y3 := (cell_at hky 3).trans (by rfl : _ = some (Value.bool false))
      have g3 := free_at hky 3
      have y4 := (cell_at hky 4).trans (by rfl : _ = some (Value.slice none 0 0))
      have g4 := free_at hky 4
      clear hky
      go_wp2_with fail
      (try simp only [Exit.inBlock, Exit.then])
      refine bodyPost_ret (v := .tuple #[.agg #[.int .u64 p.n, .int .i64 p.t, .int .i64 p.z, .bool true, .slice p.fa p.fl p.fc], .bool true]) ?_ rfl ⟨rfl, ?_⟩
      · rw [results_cell_tmp rfl]
        go_simp
      · exact ((((HB.out.setCell (p := ⟨y, 0, none⟩) hy _).setCell (p := ⟨y, 1, none⟩) hy _).setCell (p := ⟨y, 2, none⟩) hy _).setCell (p := ⟨y, 3, none⟩) hy _).setCell (p := ⟨y, 4, none⟩) hy _
set_option maxRecDepth 100000 in
set_option maxHeartbeats 2000000 in
theorem dold_none (b : Nat) (s : LS) (fp : Nat → Prop) (w : World) (h : LAt kD w b s fp) (hp : s.L = []) : Calls Try.prog 43 #[.pointer (some ⟨b, 0, none⟩)] w fun e w' => e = .returned (.tuple #[.agg #[.int .u64 0, .int .i64 0, .int .i64 0, .bool false, .slice none 0 0], .bool false]) ∧ Below w.heap.size w w' := by
  obtain ⟨vL, og, hL, _⟩ := h
  obtain ⟨oa, cap, rfl, hc1, hc2⟩ := hL.row.shape
  have HBLK := Lib.hid hL.blk
  have HC := Lib.hid (show ∀ W, Below w.heap.size w W → W.cell? ⟨b, 0, none⟩ = some (.slice oa 0 cap) from fun W hb => by rw [cell_at (below_keeps hb HBLK.out (heap_lt HBLK.out)), hp]; rfl)
  clear hL HBLK
  go_enter Try.func43, Try.ntmps43
  go_upto_region 0 with fail
  go_cut [2] (fun v wx => ∃ y, v = .pointer (some ⟨y, 0, none⟩) ∧ w.heap.size ≤ y ∧ Below w.heap.size w wx ∧ wx.heap[y]? = some (.cells #[.int .u64 0, .int .i64 0, .int .i64 0, .bool false, .slice none 0 0] 32 (0, 0)))
  case first =>
    go_wp2_with fail
    go_meet
    case rel => exact ⟨_, rfl, Nat.le_refl _, (Below.refl _ _).alloc (Nat.le_refl _) _, alloc_at _ _⟩
  case rest =>
    obtain ⟨y, rfl, hy, hb, hky⟩ := hcut
    generalize wc = w1 at *
    have HB := Lib.hid hb
    have HKY := Lib.hid hky
    have c0 := HC.out _ hb
    clear hb hky
    go_wp2_with fail
    go_loopw [4] (fun i wr => i = .int .i64 0 ∧ wr = w1) (fun _ _ => 0)
    case atStart => exact ⟨rfl, rfl⟩
    case round =>
      obtain ⟨rfl, rfl⟩ := hrel
      have hky := HKY.out
      have y0 := (cell_at hky 0).trans (by rfl : _ = some (Value.int .u64 0))
      have g0 := free_at hky 0
      have y1 := (cell_at hky 1).trans (by rfl : _ = some (Value.int .i64 0))
      have g1 := free_at hky 1
      have y2 := (cell_at hky 2).trans (by rfl : _ = some (Value.int .i64 0))
      have g2 := free_at hky 2
      have y3 := (cell_at hky 3).trans (by rfl : _ = some (Value.bool false))
      have g3 := free_at hky 3
      have y4 := (cell_at hky 4).trans (by rfl : _ = some (Value.slice none 0 0))
      have g4 := free_at hky 4
      clear hky
      go_wp2_with fail
      (try simp only [Exit.inBlock, Exit.then])
      refine bodyPost_ret (v := .tuple #[.agg #[.int .u64 0, .int .i64 0, .int .i64 0, .bool false, .slice none 0 0], .bool false]) ?_ rfl ⟨rfl, ?_⟩
      · rw [results_cell_tmp rfl]
        go_simp
      · exact ((((HB.out.setCell (p := ⟨y, 0, none⟩) hy _).setCell (p := ⟨y, 1, none⟩) hy _).setCell (p := ⟨y, 2, none⟩) hy _).setCell (p := ⟨y, 3, none⟩) hy _).setCell (p := ⟨y, 4, none⟩) hy _
end Go.Proofs.Ytacfbgnbjdckiaa
