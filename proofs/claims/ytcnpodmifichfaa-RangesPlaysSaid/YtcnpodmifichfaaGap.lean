/- DERIVED. Largest, Count, Gap of a set of ranges. -/
import Derived.Test.YtcnpodmifichfaaFind
import Derived.Laws.ResultCell
import Derived.Deep.RegionWith
import Derived.Deep.CutBlock
import Derived.Deep.DeepCutAuto
namespace Go.Proofs.Ytcnpodmifichfaa
open Go.RowKit

/-- Rising ranges, none touching another, of numbers that may be. -/
def Norm (xs : List Rg) : Prop := (∀ r ∈ xs, r.1 < r.2 ∧ r.2 ≤ 4611686018427387904) ∧ xs.Pairwise (fun a b => a.2 < b.1)
theorem Norm.at {xs : List Rg} (h : Norm xs) {k : Nat} {r : Rg} (hr : xs[k]? = some r) : r.1 < r.2 ∧ r.2 ≤ 4611686018427387904 := h.1 r (List.mem_of_getElem? hr)

def topL (xs : List Rg) : Nat := match xs.getLast? with | some r => r.2 - 1 | none => 0
def someL (xs : List Rg) : Bool := match xs with | [] => false | _ => true

set_option maxRecDepth 100000 in
set_option maxHeartbeats 400000 in
theorem largest_q (b : Nat) (most : Int) (og : Option Nat) (xs : List Rg) (w : World) (h : SetAt w b most og xs) (hx : Norm xs) :
    Calls Try.prog 38 #[.pointer (some ⟨b, 0, none⟩)] w fun e w' => e = .returned (.tuple #[.int .u64 (topL xs), .bool (someL xs)]) ∧ ∃ n, w' = w.drewN n := by
  obtain ⟨v, hb, hs, hne⟩ := h
  have c1 := cell_at hb 1
  simp at c1
  rcases List.eq_nil_or_concat xs with rfl | ⟨ys, r, hxs⟩
  · obtain ⟨oa, cap, rfl, hcap, hcap2⟩ := hs.shape
    clear hb hs hx
    simp only [List.length_nil] at c1
    go_enter Try.func38, Try.ntmps38
    go_wp2
    go_ret2
    exact ⟨rfl, 0, rfl⟩
  · have hr : xs[xs.length - 1]? = some r := by rw [hxs]; simp
    have ht : topL xs = r.2 - 1 := by rw [hxs]; simp [topL]
    have hsm : someL xs = true := by rw [hxs]; cases ys <;> rfl
    have hpos : 0 < xs.length := by rw [hxs]; simp
    obtain ⟨hr1, hr2⟩ := hx.at hr
    obtain ⟨oa, cap, rfl, hcap, hcap2⟩ := hs.shape
    obtain ⟨g, hog, rfl, hgl, c2, c3⟩ := hs.atS hr
    rw [ht, hsm]
    clear hb hs hx hxs hog ht hsm hr
    generalize xs.length = n at *
    obtain ⟨m, hm⟩ : ∃ m : Nat, n = m + 1 := ⟨n - 1, by omega⟩
    subst hm
    simp only [Nat.add_sub_cancel] at c2 c3
    have he : ((r.2 : Int) - 1) = ((r.2 - 1 : Nat) : Int) := by omega
    have hw : IntKind.u64.wrap ((r.2 : Int) - 1) = ((r.2 - 1 : Nat) : Int) := by rw [he]; exact IntWalk.u64_in _ (by omega)
    go_enter Try.func38, Try.ntmps38
    go_wp2_with fail
    go_quiet (fail)
    go_wp2
    go_ret2
    exact ⟨rfl, _, rfl⟩

def cntL (xs : List Rg) : Nat := (xs.map fun r => r.2 - r.1).sum
theorem cntL_take {xs : List Rg} {k : Nat} {r : Rg} (h : xs[k]? = some r) : cntL (xs.take (k + 1)) = cntL (xs.take k) + (r.2 - r.1) := by
  rw [List.take_add_one, h]
  simp [cntL]
theorem cntL_room : ∀ (xs : List Rg) (a : Nat), Norm xs → (∀ r ∈ xs, a ≤ r.1) → a ≤ 4611686018427387904 → cntL xs + a ≤ 4611686018427387904
  | [], a, _, _, ha => by simpa [cntL] using ha
  | r :: xs, a, hn, hl, _ => by
    obtain ⟨h1, h2⟩ := List.pairwise_cons.1 hn.2
    have hr := hn.1 r (List.mem_cons_self ..)
    have := cntL_room xs r.2 ⟨fun x hx => hn.1 x (List.mem_cons_of_mem _ hx), h2⟩ (fun x hx => Nat.le_of_lt (h1 x hx)) hr.2
    have ha := hl r (List.mem_cons_self ..)
    have : cntL (r :: xs) = r.2 - r.1 + cntL xs := by simp [cntL]
    omega
theorem Norm.take {xs : List Rg} (h : Norm xs) (k : Nat) : Norm (xs.take k) :=
  ⟨fun r hr => h.1 r (List.mem_of_mem_take hr), h.2.sublist (List.take_sublist _ _)⟩
theorem cntL_le {xs : List Rg} (h : Norm xs) : cntL xs ≤ 4611686018427387904 := by
  have := cntL_room xs 0 h (fun _ _ => Nat.zero_le _) (by omega)
  omega

set_option maxRecDepth 100000 in
set_option maxHeartbeats 400000 in
theorem count_any (b : Nat) (most : Int) (og : Option Nat) (xs : List Rg) (w : World) (h : SetAt w b most og xs) (hx : Norm xs) :
    Calls Try.prog 14 #[.pointer (some ⟨b, 0, none⟩)] w fun e w' => e = .returned (.int .u64 (cntL xs)) ∧ Below w.heap.size w w' := by
  obtain ⟨v, hb, hs, hne⟩ := h
  have c1 := cell_at hb 1
  simp at c1
  obtain ⟨oa, cap, rfl, hcap, hcap2⟩ := hs.shape
  have HS := Lib.hid hs
  have HX := Lib.hid hx
  clear hb hs hx
  generalize hn : xs.length = len at *
  have HN := Lib.hid hn
  clear hn
  go_enter Try.func14, Try.ntmps14
  go_wp2_with fail
  go_loopw [3, 11] (fun a i wr => ∃ k : Nat, i = .int .i64 k ∧ k ≤ len ∧ a = .int .u64 (cntL (xs.take k)) ∧ Below w.heap.size w wr) (fun _ i _ => len - (intOf i).toNat)
  case atStart => exact ⟨0, rfl, by omega, rfl, Below.refl _ _⟩
  case round =>
    obtain ⟨k, rfl, hk, rfl, hb⟩ := hrel
    have HB := Lib.hid hb
    clear hb
    have hle := cntL_le (HX.out.take k)
    by_cases hlt : k < len
    · obtain ⟨r, hr⟩ : ∃ r, xs[k]? = some r := ⟨_, List.getElem?_eq_getElem (by rw [HN.out]; exact hlt)⟩
      obtain ⟨hr1, hr2⟩ := HX.out.at hr
      obtain ⟨g, hog, rfl, hgl, c0, c1⟩ := HS.out.atS hr
      have ht := cntL_take hr
      have hle2 := cntL_le (HX.out.take (k + 1))
      have d0 := (HB.out.cell (p := ⟨g, k * 2, none⟩) hgl).trans c0
      have d1 := (HB.out.cell (p := ⟨g, k * 2 + 1, none⟩) hgl).trans c1
      rw [ht] at hle2
      generalize cntL (xs.take k) = a at *
      have HT := Lib.hid ht
      clear c0 c1 hog hr ht
      go_wp2
      go_roundw
      case rel => exact ⟨k + 1, by go_num, by omega, by rw [HT.out]; go_num, HB.out.alloc HB.out.size _⟩
      case measure => simp [intOf]; omega
    · go_wp2
      go_ret
      rw [List.take_of_length_le (by rw [HN.out]; omega)]
      exact ⟨rfl, HB.out⟩

/-- From where, and up to where: what Gap's loop leaves. -/
def gapF : List Rg → Nat → Nat → Nat × Nat
  | [], f, t => (f, t)
  | r :: rs, f, t => if r.2 ≤ f then gapF rs f t else if f < r.1 then (f, min t r.1) else gapF rs r.2 t
def gapL (xs : List Rg) (f t : Nat) : Rg × Bool := if (gapF xs f t).2 ≤ (gapF xs f t).1 then ((0, 0), false) else (gapF xs f t, true)

theorem drop_at {xs : List Rg} {k : Nat} {r : Rg} (h : xs[k]? = some r) : xs.drop k = r :: xs.drop (k + 1) := by
  obtain ⟨h1, h2⟩ := List.getElem?_eq_some_iff.1 h
  rw [← h2]
  exact List.drop_eq_getElem_cons h1

theorem alloc_set {w : World} {b c : Nat} {o p : Obj} (h : w.heap[b]? = some p) (hne : b ≠ c) (hc : c = w.heap.size) : (w.alloc o).heap[b]? = some p := alloc_old h

set_option maxRecDepth 100000 in
set_option maxHeartbeats 400000 in
theorem gap_any (b : Nat) (most : Int) (og : Option Nat) (xs : List Rg) (f t : Nat) (w : World) (h : SetAt w b most og xs) (hf : f < 18446744073709551616) (ht : t < 18446744073709551616) (hx : Norm xs) :
    Calls Try.prog 16 #[.pointer (some ⟨b, 0, none⟩), .int .u64 f, .int .u64 t] w
      fun e w' => e = .returned (.tuple #[.agg #[.int .u64 (gapL xs f t).1.1, .int .u64 (gapL xs f t).1.2], .bool (gapL xs f t).2]) ∧ Below w.heap.size w w' := by
  obtain ⟨v, hb, hs, hne⟩ := h
  have c1 := cell_at hb 1
  simp at c1
  obtain ⟨oa, cap, rfl, hcap, hcap2⟩ := hs.shape
  have HS := Lib.hid hs
  have HX := Lib.hid hx
  clear hb hs hx
  generalize hn : xs.length = len at *
  have HN := Lib.hid hn
  clear hn
  have hW : ∃ W, W = w.alloc (.cells #[.int .u64 0, .int .u64 0] 34) := ⟨_, rfl⟩
  obtain ⟨W, hW⟩ := hW
  have hc1 := Lib.cell?_alloc_some (.cells #[.int .u64 0, .int .u64 0] 34) c1
  rw [← hW] at hc1
  have HB0 := Lib.hid (show Below w.heap.size w W by rw [hW]; exact (Below.refl _ _).alloc (Nat.le_refl _) _)
  have HR0 := Lib.hid (show W.heap[w.heap.size]? = some (.cells #[.int .u64 0, .int .u64 0] 34 (0, 0)) by rw [hW]; exact alloc_at _ _)
  have HW := Lib.hid hW
  clear hW
  have ha := fun o => Lib.cell?_alloc_some o c1
  go_enter Try.func16, Try.ntmps16
  go_upto_block 0 with fail
  rw [← HW.out]
  clear ha c1
  go_cut [1, 2] (fun fv tv wx => fv = .int .u64 (gapF xs f t).1 ∧ tv = .int .u64 (gapF xs f t).2 ∧ (gapF xs f t).1 < 18446744073709551616 ∧ (gapF xs f t).2 < 18446744073709551616 ∧ Below w.heap.size w wx ∧ wx.heap[w.heap.size]? = some (.cells #[.int .u64 0, .int .u64 0] 34 (0, 0)))
  case first =>
    go_wp2_with fail
    go_loopw [1, 2, 15] (fun fv tv i wr => ∃ k a : Nat, i = .int .i64 k ∧ k ≤ len ∧ fv = .int .u64 a ∧ tv = .int .u64 t ∧ a < 18446744073709551616 ∧ gapF (xs.drop k) a t = gapF xs f t ∧ Below w.heap.size w wr ∧ wr.heap[w.heap.size]? = some (.cells #[.int .u64 0, .int .u64 0] 34 (0, 0))) (fun _ _ i _ => len - (intOf i).toNat)
    case atStart => exact ⟨0, f, rfl, by omega, rfl, rfl, hf, rfl, HB0.out, HR0.out⟩
    case round =>
      obtain ⟨k, a, rfl, hk, rfl, rfl, ha, hg, hb, hres⟩ := hrel
      have HG := Lib.hid hg
      have HB := Lib.hid hb
      have HR := Lib.hid hres
      clear hg hb hres
      by_cases hlt : k < len
      · obtain ⟨r, hr⟩ : ∃ r, xs[k]? = some r := ⟨_, List.getElem?_eq_getElem (by rw [HN.out]; exact hlt)⟩
        obtain ⟨hr1, hr2⟩ := HX.out.at hr
        obtain ⟨g, hog, rfl, hgl, c0, c1⟩ := HS.out.atS hr
        have d0 := (HB.out.cell (p := ⟨g, k * 2, none⟩) hgl).trans c0
        have d1 := (HB.out.cell (p := ⟨g, k * 2 + 1, none⟩) hgl).trans c1
        have HD := Lib.hid (drop_at hr)
        clear c0 c1 hog hr hc1
        by_cases h1 : r.2 ≤ a
        · go_wp2
          go_roundw
          case rel =>
            refine ⟨k + 1, a, by go_num, by omega, rfl, rfl, ha, ?_, HB.out.alloc HB.out.size _, alloc_old HR.out⟩
            rw [← HG.out, HD.out, gapF, if_pos h1]
          case measure => simp [intOf]; omega
        · by_cases h2 : a < r.1
          · have e : gapF xs f t = (a, min t r.1) := by rw [← HG.out, HD.out, gapF, if_neg h1, if_pos h2]
            have HE := Lib.hid e
            clear e
            by_cases h3 : r.1 < t
            · go_wp2
              go_meet
              rw [HE.out, show min t r.1 = r.1 by omega]
              exact ⟨rfl, rfl, ha, by simp only []; omega, HB.out.alloc HB.out.size _, alloc_old HR.out⟩
            · go_wp2
              go_meet
              rw [HE.out, show min t r.1 = t by omega]
              exact ⟨rfl, rfl, ha, ht, HB.out.alloc HB.out.size _, alloc_old HR.out⟩
          · go_wp2
            go_roundw
            case rel =>
              refine ⟨k + 1, r.2, by go_num, by omega, rfl, rfl, by omega, ?_, HB.out.alloc HB.out.size _, alloc_old HR.out⟩
              rw [← HG.out, HD.out, gapF, if_neg h1, if_neg h2]
            case measure => simp [intOf]; omega
      · go_wp2
        go_meet
        have e : gapF xs f t = (a, t) := by
          rw [← HG.out, List.drop_eq_nil_of_le (by rw [HN.out]; omega), gapF]
        rw [e]
        exact ⟨rfl, rfl, ha, ht, HB.out, HR.out⟩
  case rest =>
    obtain ⟨rfl, rfl, ha, hb, hB, hR⟩ := hcut
    have hgl : gapL xs f t = if (gapF xs f t).2 ≤ (gapF xs f t).1 then ((0, 0), false) else (gapF xs f t, true) := rfl
    generalize gapF xs f t = ac at *
    obtain ⟨a, c⟩ := ac
    simp only [] at *
    have f0 := free_at hR 0
    have f1 := free_at hR 1
    have c0 := cell_at hR 0
    have c2 := cell_at hR 1
    simp at c0 c2
    have HB := Lib.hid hB
    have HGL := Lib.hid hgl
    clear hB hR HB0 HR0 HW hc1 hgl
    by_cases h1 : c ≤ a
    · go_wp2
      (try simp only [Exit.inBlock, Exit.then])
      refine bodyPost_ret (v := .tuple #[.agg #[.int .u64 0, .int .u64 0], .bool false]) ?_ rfl ⟨?_, ?_⟩
      · rw [results_cell_tmp rfl]
        go_simp
      · rw [HGL.out, if_pos h1]
        rfl
      · exact (HB.out.setCell (p := ⟨w.heap.size, 0, none⟩) (Nat.le_refl _) _).setCell (p := ⟨w.heap.size, 1, none⟩) (Nat.le_refl _) _
    · go_wp2
      (try simp only [Exit.inBlock, Exit.then])
      refine bodyPost_ret (v := .tuple #[.agg #[.int .u64 a, .int .u64 c], .bool true]) ?_ rfl ⟨?_, ?_⟩
      · rw [results_cell_tmp rfl]
        go_simp
      · rw [HGL.out, if_neg h1]
      · exact (HB.out.setCell (p := ⟨w.heap.size, 0, none⟩) (Nat.le_refl _) _).setCell (p := ⟨w.heap.size, 1, none⟩) (Nat.le_refl _) _
end Go.Proofs.Ytcnpodmifichfaa
