/- DERIVED. Sets in memory: Gap. -/
import Derived.Test.YtkebjfaphmamjaaSet
import Derived.Laws.ResultCell
import Derived.Deep.RegionWith
import Derived.Deep.CutBlock
import Derived.Deep.DeepCutAuto
namespace Go.Proofs.Ytkebjfaphmamjaa
open Go.RowKit

theorem alloc_set {w : World} {b c : Nat} {o p : Obj} (h : w.heap[b]? = some p) (_hne : b ≠ c) (_hc : c = w.heap.size) : (w.alloc o).heap[b]? = some p := alloc_old h

set_option maxRecDepth 100000 in
set_option maxHeartbeats 400000 in
theorem gap_any (b : Nat) (most : Int) (og : Option Nat) (xs : List Rg) (f t : Nat) (w : World) (h : SetAt w b most og xs) (hf : f < 18446744073709551616) (ht : t < 18446744073709551616) (hx : Norm xs) :
    Calls Try.prog 29 #[.pointer (some ⟨b, 0, none⟩), .int .u64 f, .int .u64 t] w
      fun e w' => e = .returned (.tuple #[.agg #[.int .u64 (gapL xs f t).1.1, .int .u64 (gapL xs f t).1.2], .bool (gapL xs f t).2]) ∧ Below w.heap.size w w' := by
  obtain ⟨v, hb, hs, hne⟩ := h
  have c1 := cell_at hb 1
  simp at c1
  obtain ⟨oa, cap, rfl, hcap, hcap2⟩ := hs.shape
  have HS := Lib.hid hs
  have HX := Lib.hid hx
  clear hb hs hx
  generalize hn : xs.length = len at *
  have HN := Lib.hid hn
  clear hn
  have hW : ∃ W, W = w.alloc (.cells #[.int .u64 0, .int .u64 0] 59) := ⟨_, rfl⟩
  obtain ⟨W, hW⟩ := hW
  have hc1 := Lib.cell?_alloc_some (.cells #[.int .u64 0, .int .u64 0] 59) c1
  rw [← hW] at hc1
  have HB0 := Lib.hid (show Below w.heap.size w W by rw [hW]; exact (Below.refl _ _).alloc (Nat.le_refl _) _)
  have HR0 := Lib.hid (show W.heap[w.heap.size]? = some (.cells #[.int .u64 0, .int .u64 0] 59 (0, 0)) by rw [hW]; exact alloc_at _ _)
  have HW := Lib.hid hW
  clear hW
  have ha := fun o => Lib.cell?_alloc_some o c1
  go_enter Try.func29, Try.ntmps29
  go_upto_block 0 with fail
  rw [← HW.out]
  clear ha c1
  go_cut [1, 2] (fun fv tv wx => fv = .int .u64 (gapF xs f t).1 ∧ tv = .int .u64 (gapF xs f t).2 ∧ (gapF xs f t).1 < 18446744073709551616 ∧ (gapF xs f t).2 < 18446744073709551616 ∧ Below w.heap.size w wx ∧ wx.heap[w.heap.size]? = some (.cells #[.int .u64 0, .int .u64 0] 59 (0, 0)))
  case first =>
    go_wp2_with fail
    go_loopw [1, 2, 15] (fun fv tv i wr => ∃ k a : Nat, i = .int .i64 k ∧ k ≤ len ∧ fv = .int .u64 a ∧ tv = .int .u64 t ∧ a < 18446744073709551616 ∧ gapF (xs.drop k) a t = gapF xs f t ∧ Below w.heap.size w wr ∧ wr.heap[w.heap.size]? = some (.cells #[.int .u64 0, .int .u64 0] 59 (0, 0))) (fun _ _ i _ => len - (intOf i).toNat)
    case atStart => exact ⟨0, f, rfl, by omega, rfl, rfl, hf, rfl, HB0.out, HR0.out⟩
    case round =>
      obtain ⟨k, a, rfl, hk, rfl, rfl, ha, hg, hb, hres⟩ := hrel
      have HG := Lib.hid hg
      have HB := Lib.hid hb
      have HR := Lib.hid hres
      clear hg hb hres
      by_cases hlt : k < len
      · obtain ⟨r, hr⟩ : ∃ r, xs[k]? = some r := ⟨_, List.getElem?_eq_getElem (by rw [HN.out]; exact hlt)⟩
        obtain ⟨hr1, hr2⟩ := HX.out.at hr
        obtain ⟨g, hog, rfl, hgl, c0, c1⟩ := HS.out.atS hr
        have d0 := (HB.out.cell (p := ⟨g, k * 2, none⟩) hgl).trans c0
        have d1 := (HB.out.cell (p := ⟨g, k * 2 + 1, none⟩) hgl).trans c1
        have HD := Lib.hid (drop_at hr)
        clear c0 c1 hog hr hc1
        by_cases h1 : r.2 ≤ a
        · go_wp2
          go_roundw
          case rel =>
            refine ⟨k + 1, a, by go_num, by omega, rfl, rfl, ha, ?_, HB.out.alloc HB.out.size _, alloc_old HR.out⟩
            rw [← HG.out, HD.out, gapF, if_pos h1]
          case measure => simp [intOf]; omega
        · by_cases h2 : a < r.1
          · have e : gapF xs f t = (a, min t r.1) := by rw [← HG.out, HD.out, gapF, if_neg h1, if_pos h2]
            have HE := Lib.hid e
            clear e
            by_cases h3 : r.1 < t
            · go_wp2
              go_meet
              rw [HE.out, show min t r.1 = r.1 by omega]
              exact ⟨rfl, rfl, ha, by simp only []; omega, HB.out.alloc HB.out.size _, alloc_old HR.out⟩
            · go_wp2
              go_meet
              rw [HE.out, show min t r.1 = t by omega]
              exact ⟨rfl, rfl, ha, ht, HB.out.alloc HB.out.size _, alloc_old HR.out⟩
          · go_wp2
            go_roundw
            case rel =>
              refine ⟨k + 1, r.2, by go_num, by omega, rfl, rfl, by omega, ?_, HB.out.alloc HB.out.size _, alloc_old HR.out⟩
              rw [← HG.out, HD.out, gapF, if_neg h1, if_neg h2]
            case measure => simp [intOf]; omega
      · go_wp2
        go_meet
        have e : gapF xs f t = (a, t) := by
          rw [← HG.out, List.drop_eq_nil_of_le (by rw [HN.out]; omega), gapF]
        rw [e]
        exact ⟨rfl, rfl, ha, ht, HB.out, HR.out⟩
  case rest =>
    obtain ⟨rfl, rfl, ha, hb, hB, hR⟩ := hcut
    have hgl : gapL xs f t = if (gapF xs f t).2 ≤ (gapF xs f t).1 then ((0, 0), false) else (gapF xs f t, true) := rfl
    generalize gapF xs f t = ac at *
    obtain ⟨a, c⟩ := ac
    simp only [] at *
    have f0 := free_at hR 0
    have f1 := free_at hR 1
    have c0 := cell_at hR 0
    have c2 := cell_at hR 1
    simp at c0 c2
    have HB := Lib.hid hB
    have HGL := Lib.hid hgl
    clear hB hR HB0 HR0 HW hc1 hgl
    by_cases h1 : c ≤ a
    · go_wp2
      (try simp only [Exit.inBlock, Exit.then])
      refine bodyPost_ret (v := .tuple #[.agg #[.int .u64 0, .int .u64 0], .bool false]) ?_ rfl ⟨?_, ?_⟩
      · rw [results_cell_tmp rfl]
        go_simp
      · rw [HGL.out, if_pos h1]
        rfl
      · exact (HB.out.setCell (p := ⟨w.heap.size, 0, none⟩) (Nat.le_refl _) _).setCell (p := ⟨w.heap.size, 1, none⟩) (Nat.le_refl _) _
    · go_wp2
      (try simp only [Exit.inBlock, Exit.then])
      refine bodyPost_ret (v := .tuple #[.agg #[.int .u64 a, .int .u64 c], .bool true]) ?_ rfl ⟨?_, ?_⟩
      · rw [results_cell_tmp rfl]
        go_simp
      · rw [HGL.out, if_neg h1]
      · exact (HB.out.setCell (p := ⟨w.heap.size, 0, none⟩) (Nat.le_refl _) _).setCell (p := ⟨w.heap.size, 1, none⟩) (Nat.le_refl _) _
end Go.Proofs.Ytkebjfaphmamjaa
