/- DERIVED. The reference's Gap and least. -/
import Derived.Test.YtcnpodmifichfaaRefR
namespace Go.Proofs.Ytcnpodmifichfaa
open Go.RowKit

def fromR (f : Nat) (r : Rg) : Nat := if r.1 ≤ f ∧ f < r.2 then r.2 else f
def endR (f : Nat) (e : Nat) (r : Rg) : Nat := if f < r.1 then min e r.1 else e
def gapR (xs : List Rg) (f t : Nat) : Rg × Bool :=
  if t ≤ xs.foldl fromR f then ((0, 0), false) else ((xs.foldl fromR f, xs.foldl (endR (xs.foldl fromR f)) t), true)
theorem foldl_take {β : Type} (g : β → Rg → β) (b : β) {xs : List Rg} {k : Nat} {r : Rg} (h : xs[k]? = some r) : (xs.take (k + 1)).foldl g b = g ((xs.take k).foldl g b) r := by
  rw [List.take_add_one, h]
  simp
theorem from_lt {xs : List Rg} (h : Norm xs) : ∀ {f : Nat}, f < 18446744073709551616 → xs.foldl fromR f < 18446744073709551616 := by
  have h1 := h.1
  clear h
  induction xs with
  | nil => intro f hf; exact hf
  | cons r xs ih =>
    intro f hf
    refine ih (fun x hx => h1 x (List.mem_cons_of_mem _ hx)) (f := fromR f r) ?_
    have := h1 r (List.mem_cons_self ..)
    unfold fromR
    split <;> omega
theorem end_le (f : Nat) (xs : List Rg) : ∀ e : Nat, xs.foldl (endR f) e ≤ e := by
  induction xs with
  | nil => intro e; exact Nat.le_refl _
  | cons r xs ih =>
    intro e
    refine Nat.le_trans (ih (endR f e r)) ?_
    unfold endR
    split <;> omega

set_option maxRecDepth 100000 in
set_option maxHeartbeats 2000000 in
theorem rgap_any (v : Value) (og : Option Nat) (xs : List Rg) (f t : Nat) (w : World) (h : Sl w v og xs) (hf : f < 18446744073709551616) (ht : t < 18446744073709551616) (hx : Norm xs) :
    Calls Try.prog 37 #[v, .int .u64 f, .int .u64 t] w
      fun e w' => e = .returned (.tuple #[.agg #[.int .u64 (gapR xs f t).1.1, .int .u64 (gapR xs f t).1.2], .bool (gapR xs f t).2]) ∧ Below w.heap.size w w' := by
  obtain ⟨oa, cap, rfl, hcap, hcap2⟩ := h.shape
  have HS := Lib.hid h
  have HX := Lib.hid hx
  clear h hx
  generalize hn : xs.length = len at *
  have HN := Lib.hid hn
  clear hn
  obtain ⟨W, hW⟩ : ∃ W, W = w.alloc (.cells #[.int .u64 0, .int .u64 0] 34) := ⟨_, rfl⟩
  have HB := Lib.hid (show Below w.heap.size w W by rw [hW]; exact (Below.refl _ _).alloc (Nat.le_refl _) _)
  have HR := Lib.hid (show W.heap[w.heap.size]? = some (.cells #[.int .u64 0, .int .u64 0] 34 (0, 0)) by rw [hW]; exact alloc_at _ _)
  have HS1 := Lib.hid (show Sl W (.slice oa len cap) og xs by rw [hW]; exact HS.out.below ((Below.refl _ _).alloc (Nat.le_refl _) _))
  have HW := Lib.hid hW
  clear hW HS
  go_enter Try.func37, Try.ntmps37
  go_upto_block 0 with fail
  rw [← HW.out]
  clear HW
  go_wp2_with fail
  go_loopw [1, 8] (fun fv i wr => ∃ k q : Nat, i = .int .i64 k ∧ k ≤ len ∧ fv = .int .u64 ((xs.take k).foldl fromR f : Nat) ∧ wr = W.drewN q) (fun _ i _ => len - (intOf i).toNat)
  case atStart => exact ⟨0, 0, rfl, by omega, rfl, rfl⟩
  case round =>
    obtain ⟨k, q, rfl, hk, rfl, rfl⟩ := hrel
    have hfl := from_lt (HX.out.take k) hf
    by_cases hlt : k < len
    · obtain ⟨r, hr⟩ : ∃ r, xs[k]? = some r := ⟨_, List.getElem?_eq_getElem (by rw [HN.out]; exact hlt)⟩
      obtain ⟨hr1, hr2⟩ := HX.out.at hr
      obtain ⟨g, hog, rfl, hgl, c0, c1⟩ := HS1.out.atS hr
      have HT := Lib.hid (foldl_take fromR f hr)
      clear hr hog
      generalize (xs.take k).foldl fromR f = a at *
      by_cases h1 : r.1 ≤ a
      · by_cases h2 : a < r.2
        · have HF := Lib.hid (show fromR a r = r.2 by rw [fromR, if_pos ⟨h1, h2⟩])
          go_wp2
          go_roundw
          case rel => exact ⟨k + 1, _, by go_num, by omega, by rw [HT.out, HF.out], rfl⟩
          case measure => simp [intOf]; omega
        · have HF := Lib.hid (show fromR a r = a by rw [fromR, if_neg (by omega)])
          go_wp2
          go_roundw
          case rel => exact ⟨k + 1, _, by go_num, by omega, by rw [HT.out, HF.out], rfl⟩
          case measure => simp [intOf]; omega
      · have HF := Lib.hid (show fromR a r = a by rw [fromR, if_neg (by omega)])
        go_wp2
        go_roundw
        case rel => exact ⟨k + 1, _, by go_num, by omega, by rw [HT.out, HF.out], rfl⟩
        case measure => simp [intOf]; omega
    · have he : xs.take k = xs := List.take_of_length_le (by rw [HN.out]; omega)
      have hgr : gapR xs f t = if t ≤ xs.foldl fromR f then ((0, 0), false) else ((xs.foldl fromR f, xs.foldl (endR (xs.foldl fromR f)) t), true) := rfl
      rw [he] at *
      generalize xs.foldl fromR f = a at *
      have HG := Lib.hid hgr
      have HR2 := Lib.hid (show (W.drewN q).heap[w.heap.size]? = some (.cells #[.int .u64 0, .int .u64 0] 34 (0, 0)) from HR.out)
      have f0 := free_at HR.out 0
      have f1 := free_at HR.out 1
      have c0 := cell_at HR.out 0
      have c2 := cell_at HR.out 1
      simp at c0 c2
      clear hgr he
      by_cases h1 : t ≤ a
      · go_wp2
        (try simp only [Exit.inBlock, Exit.then])
        refine bodyPost_ret (v := .tuple #[.agg #[.int .u64 0, .int .u64 0], .bool false]) ?_ rfl ⟨?_, ?_⟩
        · rw [results_cell_tmp rfl]
          go_simp
        · rw [HG.out, if_pos h1]
          rfl
        · exact ((below_drewN HB.out _).setCell (p := ⟨w.heap.size, 0, none⟩) (Nat.le_refl _) _).setCell (p := ⟨w.heap.size, 1, none⟩) (Nat.le_refl _) _
      · go_wp2_with fail
        go_loopw [9, 10] (fun ev i wr => ∃ k q : Nat, i = .int .i64 k ∧ k ≤ len ∧ ev = .int .u64 ((xs.take k).foldl (endR a) t : Nat) ∧ wr = W.drewN q) (fun _ i _ => len - (intOf i).toNat)
        case atStart => exact ⟨0, _, rfl, by omega, rfl, rfl⟩
        case round =>
          obtain ⟨k, q2, rfl, hk, rfl, rfl⟩ := hrel
          have hel := end_le a (xs.take k) t
          by_cases hlt : k < len
          · obtain ⟨r, hr⟩ : ∃ r, xs[k]? = some r := ⟨_, List.getElem?_eq_getElem (by rw [HN.out]; exact hlt)⟩
            obtain ⟨hr1, hr2⟩ := HX.out.at hr
            obtain ⟨g, hog, rfl, hgl, d0, d1⟩ := HS1.out.atS hr
            have HT := Lib.hid (foldl_take (endR a) t hr)
            clear hr hog
            generalize (xs.take k).foldl (endR a) t = e at *
            by_cases h2 : a < r.1
            · by_cases h3 : r.1 < e
              · have HF := Lib.hid (show endR a e r = r.1 by rw [endR, if_pos h2]; omega)
                go_wp2
                go_roundw
                case rel => exact ⟨k + 1, _, by go_num, by omega, by rw [HT.out, HF.out], rfl⟩
                case measure => simp [intOf]; omega
              · have HF := Lib.hid (show endR a e r = e by rw [endR, if_pos h2]; omega)
                go_wp2
                go_roundw
                case rel => exact ⟨k + 1, _, by go_num, by omega, by rw [HT.out, HF.out], rfl⟩
                case measure => simp [intOf]; omega
            · have HF := Lib.hid (show endR a e r = e by rw [endR, if_neg h2])
              go_wp2
              go_roundw
              case rel => exact ⟨k + 1, _, by go_num, by omega, by rw [HT.out, HF.out], rfl⟩
              case measure => simp [intOf]; omega
          · have he : xs.take k = xs := List.take_of_length_le (by rw [HN.out]; omega)
            rw [he] at *
            generalize xs.foldl (endR a) t = e at *
            clear he
            go_wp2
            (try simp only [Exit.inBlock, Exit.then])
            refine bodyPost_ret (v := .tuple #[.agg #[.int .u64 a, .int .u64 e], .bool true]) ?_ rfl ⟨?_, ?_⟩
            · rw [results_cell_tmp rfl]
              go_simp
            · rw [HG.out, if_neg h1]
            · exact ((below_drewN HB.out _).setCell (p := ⟨w.heap.size, 0, none⟩) (Nat.le_refl _) _).setCell (p := ⟨w.heap.size, 1, none⟩) (Nat.le_refl _) _
end Go.Proofs.Ytcnpodmifichfaa
