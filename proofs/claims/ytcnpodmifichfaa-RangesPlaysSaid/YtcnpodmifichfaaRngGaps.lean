/- DERIVED. Walk of narthexlaw10's RangesGaps. -/
import Derived.Test.YtcnpodmifichfaaRngKnown
import Derived.Test.YtcnpodmifichfaaRngLaw5
import Derived.StillTailTactics
namespace Go.Proofs.Ytcnpodmifichfaa
open Go.RowKit

theorem addN_upto (B : Nat) : ∀ (rs : List Rg) (x : Rg), x.2 ≤ B → (∀ r ∈ rs, r.2 ≤ B) → ∀ a ∈ addN rs x, a.2 ≤ B
  | [], x, h, _, a, ha => by simp [addN] at ha; subst ha; exact h
  | r :: rs, x, h, hr, a, ha => by
    have h1 := hr r (List.mem_cons_self ..)
    have h2 : ∀ r ∈ rs, r.2 ≤ B := fun b hb => hr b (List.mem_cons_of_mem _ hb)
    unfold addN at ha
    split at ha
    · rcases List.mem_cons.1 ha with rfl | ha
      · exact h1
      · exact addN_upto B rs x h h2 a ha
    · split at ha
      · rcases List.mem_cons.1 ha with rfl | ha
        · exact h
        · exact hr a ha
      · exact addN_upto B rs _ (by simp only []; omega) h2 a ha
theorem cut_upto {B lo hi : Nat} {xs : List Rg} (hn : Norm xs) (h : ∀ r ∈ xs, r.2 ≤ B) : ∀ a ∈ cutRaw lo hi xs, a.2 ≤ B := by
  intro a ha
  obtain ⟨c, hc1, hc2⟩ := List.mem_flatMap.1 ha
  have := cut1_in (hn.1 c hc1).1 hc2
  have := h c hc1
  omega

theorem cnt_le (p : Nat → Bool) : ∀ n, cnt p n ≤ n
  | 0 => Nat.le_refl _
  | n + 1 => by
    have := cnt_le p n
    simp only [cnt]
    split <;> omega
/-- One set alone, with room for all. -/
structure Lone (W w : World) (b : Nat) (M : Int) (B k : Nat) (og : Option Nat) (xs : List Rg) : Prop where
  duo : Duo W w b M og xs (.slice none 0 0) none []
  norm : Norm xs
  len : xs.length ≤ k
  upto : ∀ r ∈ xs, r.2 ≤ B
theorem Lone.later {W w w' : World} {b : Nat} {M : Int} {B k : Nat} {og : Option Nat} {xs : List Rg} (h : Lone W w b M B k og xs) (hb : Below w.heap.size w w') : Lone W w' b M B k og xs :=
  ⟨h.duo.later hb, h.norm, h.len, h.upto⟩
theorem Lone.drewN {W w : World} {b : Nat} {M : Int} {B k : Nat} {og : Option Nat} {xs : List Rg} (h : Lone W w b M B k og xs) (n : Nat) : Lone W (w.drewN n) b M B k og xs :=
  ⟨h.duo.drewN n, h.norm, h.len, h.upto⟩
theorem Lone.more {W w : World} {b : Nat} {M : Int} {B k k' : Nat} {og : Option Nat} {xs : List Rg} (h : Lone W w b M B k og xs) (hk : k ≤ k') : Lone W w b M B k' og xs :=
  ⟨h.duo, h.norm, Nat.le_trans h.len hk, h.upto⟩
theorem Lone.cut {W w w' : World} {b : Nat} {M : Int} {B k lo hi : Nat} {og : Option Nat} {xs : List Rg} (h : Lone W w b M B k og xs) (hM : (k : Int) + 1 ≤ M) (t : Turned w b M og (trimL M (cutRaw lo hi xs)) w') :
    ∃ og', Lone W w' b M B (k + 1) og' (cutRaw lo hi xs) := by
  have := h.len
  have hl := cut_len lo hi xs h.norm
  rw [trim_all (by omega)] at t
  obtain ⟨og', hd⟩ := h.duo.turned t
  exact ⟨og', hd, cut_norm lo hi xs h.norm, by omega, cut_upto h.norm h.upto⟩
theorem Lone.add {W w w' : World} {b : Nat} {M : Int} {B k lo hi : Nat} {og : Option Nat} {xs : List Rg} (h : Lone W w b M B k og xs) (hM : (k : Int) + 1 ≤ M) (h1 : lo < hi) (h2 : hi ≤ B) (hB : B ≤ 4611686018427387904) (t : Turned w b M og (addL M xs lo hi) w') :
    ∃ og', Lone W w' b M B (k + 1) og' (addN xs (lo, hi)) ∧ addL M xs lo hi = addN xs (lo, hi) := by
  have := h.len
  have hl := addN_len xs (lo, hi)
  have e : addL M xs lo hi = addN xs (lo, hi) := by
    unfold addL
    rw [addRaw_is h1 xs h.norm, trim_all (by omega)]
  rw [e] at t
  obtain ⟨og', hd⟩ := h.duo.turned t
  exact ⟨og', ⟨hd, addN_norm xs (lo, hi) h1 (by simp only []; omega) h.norm, by omega, addN_upto B xs (lo, hi) h2 h.upto⟩, e⟩
theorem Lone.same {W w w' : World} {b : Nat} {M : Int} {B k : Nat} {og : Option Nat} {xs : List Rg} (h : Lone W w b M B k og xs) (t : Turned w b M og xs w') : ∃ og', Lone W w' b M B k og' xs := by
  obtain ⟨og', hd⟩ := h.duo.turned t
  exact ⟨og', hd, h.norm, h.len, h.upto⟩

def LoneAt (W w : World) (b : Nat) (M : Int) (B k : Nat) : Prop := ∃ og xs, Lone W w b M B k og xs

set_option maxRecDepth 100000 in
set_option maxHeartbeats 2000000 in
theorem gaps_walk (oa : Option Addr) (cap : Nat) (L : List Ak) (len : Nat) (w : World) (hl : L.length = len) (hlen : len ≤ 9223372036854775807) (ha : Asks w w.heap.size oa L) :
    Calls Try.prog 4 #[.slice oa len cap] w fun e w' => e = .returned (.bool true) ∧ Below w.heap.size w w' := by
  have HA := Lib.hid ha
  have HN := Lib.hid hl
  clear ha hl
  go_enter Try.func4, Try.ntmps4
  go_wp2_with fail
  refine (snew_any 100 _).mono ?_
  rintro e w1 ⟨b, rfl, hb1, hs, hb⟩
  have H1 := Lib.hid (show LoneAt w w1 b 100 200 0 from ⟨none, [], ⟨hs, Sl.nil _, hb, hb1, by simp, by simp⟩, ⟨by simp, by simp⟩, by simp, by simp⟩)
  clear hs hb hb1
  go_upto_block 0 with fail
  go_cut [] (fun wx => LoneAt w wx b 100 200 30)
  case first =>
    go_wp2_with fail
    go_loopw [4] (fun i wr => ∃ k : Nat, i = .int .i64 k ∧ k ≤ 30 ∧ LoneAt w wr b 100 200 k) (fun i _ => 30 - (intOf i).toNat)
    case atStart => exact ⟨0, rfl, by omega, H1.out⟩
    case round =>
      obtain ⟨k, rfl, hk, og, xs, hd⟩ := hrel
      have HD := Lib.hid hd
      clear hd H1
      by_cases hlt : k < len
      · by_cases hlt2 : k < 30
        · obtain ⟨a, hak⟩ : ∃ a, L[k]? = some a := ⟨_, List.getElem?_eq_getElem (by rw [HN.out]; exact hlt)⟩
          obtain ⟨c, off, rfl, hc, q0, q1, q2, hok⟩ := HA.out k a hak
          have c0 := cell_keep HD.out.duo.below hc q0
          have c1 := cell_keep HD.out.duo.below hc q1
          have c2 := cell_keep HD.out.duo.below hc q2
          obtain ⟨hok1, hok2, hok3⟩ := hok
          clear q0 q1 q2 hak
          obtain ⟨kd, lo, hi⟩ := a
          simp only at c0 c1 c2 hok1 hok2 hok3
          obtain ⟨x, hx1, hx2⟩ : ∃ x : Nat, (lo : Int).tmod 200 = x ∧ x < 200 := ⟨lo % 200, by rw [Int.tmod_eq_emod_of_nonneg (by omega)]; omega, by omega⟩
          have hsz : xs.length ≤ 30 := Nat.le_trans HD.out.len hk
          by_cases hkd : kd = 1
          · subst hkd
            obtain ⟨y, hy1, hy2⟩ : ∃ y : Nat, (hi : Int).tmod 200 = y ∧ y < 200 := ⟨hi % 200, by rw [Int.tmod_eq_emod_of_nonneg (by omega)]; omega, by omega⟩
            go_wp2_with fail
            go_still_tail 13, (by kernel_rfl)
            change wpList _ _ _ _ _ wr.drew
            go_wp2_with fail
            refine (cut_any b 100 og xs x y _ (by exact (HD.out.drewN 1).duo.set) (by omega) (by omega) (by omega) (by omega) HD.out.norm (by omega)).mono ?_
            rintro e w2 ⟨rfl, ht⟩
            obtain ⟨og2, hd⟩ := (HD.out.drewN 1).cut (by omega) ht
            have H2 := Lib.hid hd
            clear ht hd HD c0 c1 c2
            go_wp2_with fail
            go_roundw
            case rel => exact ⟨k + 1, by go_num, by omega, og2, _, H2.out⟩
            case measure => simp [intOf]; omega
          · obtain ⟨y, hy1, hy2⟩ : ∃ y : Nat, (hi : Int).tmod 201 = y ∧ y < 201 := ⟨hi % 201, by rw [Int.tmod_eq_emod_of_nonneg (by omega)]; omega, by omega⟩
            go_wp2_with fail
            go_still_tail 13, (by kernel_rfl)
            change wpList _ _ _ _ _ wr.drew
            go_wp2_with fail
            refine (add_any b 100 og xs x y _ (by exact (HD.out.drewN 1).duo.set) (by omega) (by omega) (by omega)).mono ?_
            rintro e w2 ⟨rfl, ht⟩
            have H2 := Lib.hid (show LoneAt w w2 b 100 200 (k + 1) by
              by_cases hxy : x < y ∧ y ≤ 4611686018427387904
              · rw [if_pos hxy] at ht
                obtain ⟨og2, hd, _⟩ := (HD.out.drewN 1).add (by omega) hxy.1 (by omega) (by omega) ht
                exact ⟨_, _, hd⟩
              · rw [if_neg hxy] at ht
                obtain ⟨og2, hd⟩ := (HD.out.drewN 1).same ht
                exact ⟨_, _, hd.more (by omega)⟩)
            clear ht HD c0 c1 c2
            go_wp2_with fail
            go_roundw
            case rel => exact ⟨k + 1, by go_num, by omega, H2.out⟩
            case measure => simp [intOf]; omega
        · go_wp2_with fail
          go_meet
          case rel => exact ⟨og, xs, HD.out.more hk⟩
      · go_wp2_with fail
        go_meet
        case rel => exact ⟨og, xs, HD.out.more hk⟩
  case rest =>
    clear H1
    obtain ⟨og, xs, hd⟩ := hcut
    have HD := Lib.hid hd
    clear hd
    have hcl : cntL xs ≤ 200 := by
      rw [cntL_cnt 200 xs HD.out.norm HD.out.upto]
      exact cnt_le _ _
    go_wp2_with fail
    refine (count_any b 100 og xs _ (by exact HD.out.duo.set) HD.out.norm).mono ?_
    rintro e w2 ⟨rfl, hb⟩
    have H2 := Lib.hid (HD.out.later hb)
    clear hb HD
    go_wp2_with fail
    go_loopw [5, 6, 7] (fun n a i wr => ∃ (N A I : Nat), n = .int .u64 N ∧ a = .int .u64 A ∧ i = .int .i64 I ∧ I ≤ A ∧ A ≤ 200 ∧ N + cnt (mem xs) A = cntL xs + A ∧ Lone w wr b 100 200 30 og xs) (fun _ _ i _ => 300 - (intOf i).toNat)
    case atStart => exact ⟨_, 0, 0, rfl, rfl, rfl, by omega, by omega, rfl, H2.out⟩
    case round =>
      rename_i wr _
      obtain ⟨N, A, I, rfl, rfl, rfl, hI, hA, hN, hd⟩ := hrel
      have HD := Lib.hid hd
      have HNN := Lib.hid hN
      have hN2 : N ≤ 400 := by omega
      clear hd H2 hN
      go_wp2_with fail
      refine (gap_any b 100 og xs A 200 _ (by exact HD.out.duo.set) (by omega) (by omega) HD.out.norm).mono ?_
      obtain ⟨gl, hgl⟩ : ∃ gl, gapL xs A 200 = gl := ⟨_, rfl⟩
      rw [hgl]
      rintro e w3 ⟨rfl, hb⟩
      have H3 := Lib.hid (HD.out.later hb)
      clear hb HD
      obtain ⟨r, ok⟩ := gl
      have HL := Lib.hid hgl
      clear hgl
      cases ok
      · have hn : N = 200 := by
          have := gap_end H3.out.norm hA H3.out.upto HL.out
          have := HNN.out
          omega
        subst hn
        go_wp2_with fail
        refine (known_any _).mono ?_
        rintro e w4 ⟨rfl, hb⟩
        have H4 := Lib.hid (below_call (H3.out.duo.below.alloc H3.out.duo.below.size _) (Nat.le_trans H3.out.duo.below.size (by simp)) hb)
        clear hb
        go_wp2_with fail
        go_ret
        exact ⟨rfl, H4.out⟩
      · obtain ⟨g1, g2, g3, g4, g5⟩ := gap_step H3.out.norm HL.out
        have G4 := Lib.hid g4
        have G5 := Lib.hid g5
        clear g4 g5
        obtain ⟨w4, hw4⟩ : ∃ w4, w4 = w3.alloc (.cells #[.int .u64 r.1, .int .u64 r.2] 34) := ⟨_, rfl⟩
        have H4 := Lib.hid (show Lone w w4 b 100 200 30 og xs from hw4 ▸ H3.out.later ((Below.refl _ _).alloc (Nat.le_refl _) _))
        have T4 := Lib.hid (show Two w4 w3.heap.size r from hw4 ▸ alloc_at _ _)
        have HW4 := Lib.hid hw4
        clear hw4
        generalize hc : w3.heap.size = c at *
        have HC := Lib.hid hc
        clear hc
        have c0 := cell_at T4.out 0
        have c1 := cell_at T4.out 1
        simp at c0 c1
        have e1 : decide (r.1 < A) = false := decide_eq_false (by omega)
        have e2 : decide (r.2 ≤ r.1) = false := decide_eq_false (by omega)
        have e3 : decide ((200 : Int) < (r.2 : Int)) = false := decide_eq_false (by omega)
        go_wp2_with fail
        rw [HC.out, ← HW4.out]
        clear e1 e2 e3
        clear HW4 HC c0 c1 H3
        go_loopw [10] (fun kv wx => ∃ k : Nat, kv = .int .u64 k ∧ r.1 ≤ k ∧ k ≤ r.2 ∧ Lone w wx b 100 200 30 og xs ∧ Two wx c r) (fun kv _ => r.2 - (intOf kv).toNat)
        case atStart => exact ⟨r.1, rfl, by omega, by omega, H4.out, T4.out⟩
        case round =>
          rename_i wx _
          obtain ⟨k, rfl, hk1, hk2, hd, ht⟩ := hrel
          have HD := Lib.hid hd
          have HT := Lib.hid ht
          have c0 := cell_at ht 0
          have c1 := cell_at ht 1
          simp at c0 c1
          clear hd ht H4 T4
          by_cases hlt : k < r.2
          · go_wp2_with fail
            refine (shas_any b 100 og xs k _ (by exact HD.out.duo.set)).mono ?_
            rw [G4.out k hk1 hlt]
            rintro e w5 ⟨rfl, hb⟩
            have H5 := Lib.hid (HD.out.later hb)
            have T5 := Lib.hid (HT.out.below hb)
            clear hb HD HT c0 c1
            go_wp2_with fail
            go_roundw
            case rel => exact ⟨k + 1, by go_num, by omega, by omega, H5.out, T5.out⟩
            case measure => simp [intOf]; omega
          · obtain rfl : k = r.2 := by omega
            clear hlt hk2
            have hw : IntKind.u64.wrap (((N : Int) + r.2) - r.1) = ((N + (r.2 - r.1) : Nat) : Int) := by rw [IntWalk.u64_in _ (by omega)]; omega
            have hw0 : (N : Int) + r.2 - r.1 = ((N + (r.2 - r.1) : Nat) : Int) := by omega
            go_wp2_with fail
            go_roundw
            case rel => exact ⟨N + (r.2 - r.1), r.2, I + 1, by first | rfl | (rw [hw0]), rfl, by go_num, by omega, g3, by have := G5.out; have := HNN.out; omega, HD.out⟩
            case measure => simp [intOf]; omega
end Go.Proofs.Ytcnpodmifichfaa
