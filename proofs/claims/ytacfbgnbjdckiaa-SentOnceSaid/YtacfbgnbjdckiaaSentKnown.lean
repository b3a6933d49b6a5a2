/- DERIVED. Walk of narthexlaw11's known. -/
import Derived.Test.YtacfbgnbjdckiaaSentOver
namespace Go.Proofs.Ytacfbgnbjdckiaa
open Go.RowKit

def pk9 (i : Nat) : Pk := ⟨i, 0, 9, true, .slice none 0 0⟩
def ls9 (k : Nat) : LS := ⟨(List.range k).map pk9, k, 0, false⟩
theorem ls9_succ (k : Nat) : (ls9 k).puts (pk9 k) = ls9 (k + 1) := by
  unfold LS.puts ls9
  rw [List.range_succ, List.map_append]
  rfl
theorem one_vw (w : World) (lo hi : Nat) : Vw encR (w.alloc (.cells #[.int .u64 lo, .int .u64 hi] 37)) (w.heap.size + 1) (.slice (some ⟨w.heap.size, 0, none⟩) 1 1) [(lo, hi)] := by
  refine ⟨_, 1, rfl, Nat.le_refl _, by omega, .inr ⟨w.heap.size, 0, rfl, by omega, fun j u hu => ?_⟩⟩
  rw [Nat.zero_add, cell_at (alloc_at _ _)]
  simpa [flat, encR] using hu
theorem one_norm {lo hi : Nat} (h : lo < hi) (h2 : hi ≤ 4611686018427387904) : Norm [(lo, hi)] := ⟨by simp; omega, by simp⟩
theorem one_top {lo hi : Nat} : ∀ r, ([(lo, hi)] : List Rg)[([(lo, hi)] : List Rg).length - 1]? = some r → r.2 = hi := by
  intro r hr
  simp at hr
  rw [← hr]
set_option maxRecDepth 100000 in
set_option maxHeartbeats 2000000 in
theorem known_any (w : World) : Calls Try.prog 14 #[] w fun e w' => e = .returned (.bool true) ∧ Below w.heap.size w w' := by
  go_enter Try.func14, Try.ntmps14
  go_wp2_with fail
  refine (lnew_any _).mono ?_
  rintro e w1 ⟨b, rfl, hm⟩
  have H0 := Lib.hid (show LMine w w1 b (ls9 0) from hm)
  clear hm
  go_upto_block 0 with fail
  go_cut [] (fun wx => LMine w wx b (ls9 5))
  case first =>
    go_wp2_with fail
    go_loopw [2] (fun i wr => ∃ k : Nat, i = .int .u64 k ∧ k ≤ 5 ∧ LMine w wr b (ls9 k)) (fun i _ => 5 - (intOf i).toNat)
    case atStart => exact ⟨0, rfl, by omega, H0.out⟩
    case round =>
      obtain ⟨k, rfl, hk, hm⟩ := hrel
      have HM := Lib.hid hm
      clear hm H0
      by_cases hlt : k < 5
      · obtain ⟨fp, hO, hnw, hb⟩ := HM.out
        go_wp2_with fail
        refine (ladd_yes b (ls9 k) fp k 0 9 _ (by exact hO) (Nat.le_refl _) (by omega) (by omega) (by omega) (by omega) (by omega) (by simp [ls9]; omega)).mono ?_
        rintro e w2 ⟨rfl, hm⟩
        have h2 := lm_mine hnw hb hm
        rw [show (⟨k, 0, 9, true, .slice none 0 0⟩ : Pk) = pk9 k from rfl, ls9_succ] at h2
        have H2 := Lib.hid h2
        clear h2 hm hO hnw hb HM
        go_wp2_with fail
        go_roundw
        case rel => exact ⟨k + 1, by go_num, by omega, H2.out⟩
        case measure => simp [intOf]; omega
      · obtain rfl : k = 5 := by omega
        go_wp2_with fail
        go_meet
        case rel => exact HM.out
  case rest =>
    have H1 := Lib.hid hcut
    clear hcut H0
    generalize wc = w2 at *
    go_wp2_with fail
    obtain ⟨fp, hO, hnw, hb⟩ := H1.out.alloc (.cells #[.int .u64 4, .int .u64 5] 37)
    refine (lack_norm b (ls9 5) fp _ [(4, 5)] 5 _ (by exact hO) (by exact one_vw w2 4 5) (by simp) (one_norm (by omega) (by omega)) (by simp) (by simp) one_top (Nat.le_refl _) (by omega)).mono ?_
    rintro e w3 ⟨v1, o1, v2, o2, rfl, hs1, hs2, hg1, hg2, hm⟩
    have H3 := Lib.hid (lm_mine hnw hb hm)
    have hl1 : ((ls9 5).got [(4, 5)]).length = 1 := by decide
    have hl2 : ((ls9 5).lost [(4, 5)] 5).length = 2 := by decide
    obtain ⟨a1, c1, e1, _, _⟩ := hs1.shape
    obtain ⟨a2, c2, e2, _, _⟩ := hs2.shape
    rw [hl1] at e1
    rw [hl2] at e2
    subst e1 e2
    have hfl : sumZ ((ls9 5).acks [(4, 5)] 5).L = 18 := by decide
    have HFL := Lib.hid hfl
    clear hO hnw hb hm hs1 hs2 hg1 hg2 hl1 hl2 hfl H1
    go_wp2_with fail
    obtain ⟨fp, hO, hnw, hb⟩ := H3.out.alloc (.cells #[.int .u64 5, .int .u64 6] 37)
    refine (lack_over b _ fp _ [(5, 6)] 6 _ (by exact hO) (by exact one_vw w3 5 6) (by simp) (one_norm (by omega) (by omega)) (by simp) (by simp) one_top (by show 5 < 6; omega) (by omega)).mono ?_
    rintro e w4 ⟨rfl, hb4⟩
    have H4 := Lib.hid ((H3.out.alloc _).later hb4)
    clear hO hnw hb hb4 H3
    go_wp2_with fail
    obtain ⟨fp, hO, hnw, hb⟩ := H4.out
    refine (lflight_any b _ fp _ (by exact hO)).mono ?_
    rw [HFL.out]
    rintro e w5 ⟨rfl, hb5⟩
    have H5 := Lib.hid (H4.out.later hb5)
    clear hO hnw hb hb5 H4
    go_wp2_with fail
    obtain ⟨fp, hO, hnw, hb⟩ := H5.out
    refine (lnext_q b _ fp _ (by exact hO)).mono ?_
    rintro e w6 ⟨rfl, q, rfl⟩
    have H6 := Lib.hid (H5.out.drewN q)
    clear hO hnw hb H5
    have hnx : ((ls9 5).acks [(4, 5)] 5).nx = 5 := rfl
    rw [hnx]
    generalize w5.drewN q = w6 at *
    go_wp2_with fail
    go_ret
    exact ⟨rfl, H6.out.below⟩
end Go.Proofs.Ytacfbgnbjdckiaa
