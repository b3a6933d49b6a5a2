/- DERIVED. Walk of narthexlaw10's RangesSets. -/
import Derived.Test.YtcnpodmifichfaaRngGaps
import Derived.Deep.RegionHeld3
namespace Go.Proofs.Ytcnpodmifichfaa
open Go.RowKit

/-- A block of bools. -/
def InAt (w : World) (c : Nat) (p : Nat → Bool) : Prop := ∃ cs : Array Value, w.heap[c]? = some (.cells cs 25 (0, 0)) ∧ cs.size = 64 ∧ ∀ k, k < 64 → cs[k]? = some (.bool (p k))
theorem InAt.keeps {F : Nat → Prop} {w w' : World} {c : Nat} {p : Nat → Bool} (h : InAt w c p) (hu : Upd F w w') (hF : ¬ F c) : InAt w' c p := by
  obtain ⟨cs, h1, h2⟩ := h
  exact ⟨cs, hu.keeps h1 hF, h2⟩
theorem InAt.lt {w : World} {c : Nat} {p : Nat → Bool} (h : InAt w c p) : c < w.heap.size := by
  obtain ⟨cs, h1, h2⟩ := h
  exact heap_lt h1
theorem InAt.below {w w' : World} {c : Nat} {p : Nat → Bool} (h : InAt w c p) (hb : Below w.heap.size w w') : InAt w' c p :=
  h.keeps (Upd.below hb) (by have := h.lt; omega)
theorem InAt.cell {w : World} {c : Nat} {p : Nat → Bool} (h : InAt w c p) {k : Nat} (hk : k < 64) : w.cell? ⟨c, k, none⟩ = some (.bool (p k)) ∧ w.frozen? ⟨c, k, none⟩ = false := by
  obtain ⟨cs, h1, h2, h3⟩ := h
  exact ⟨by rw [cell_at h1]; exact h3 k hk, free_at h1 k⟩
theorem InAt.set {w : World} {c : Nat} {p q : Nat → Bool} (h : InAt w c p) {k : Nat} (hk : k < 64) (v : Bool) (hq : ∀ j, j < 64 → q j = if j = k then v else p j) : InAt (w.setCell ⟨c, k, none⟩ (.bool v)) c q := by
  obtain ⟨cs, h1, h2, h3⟩ := h
  refine ⟨_, set_at h1 k (.bool v), by simpa using h2, ?_⟩
  intro j hj
  rw [hq j hj, Array.getElem?_setIfInBounds]
  by_cases e : k = j
  · subst e
    simp [h2, hj]
  · rw [if_neg e, if_neg (fun h => e h.symm)]
    exact h3 j hj
theorem InAt.eq {w : World} {c : Nat} {p q : Nat → Bool} (h : InAt w c p) (hq : ∀ j, j < 64 → p j = q j) : InAt w c q := by
  obtain ⟨cs, h1, h2, h3⟩ := h
  exact ⟨cs, h1, h2, fun k hk => by rw [h3 k hk, hq k hk]⟩

/-- A set and a block of bools, apart. -/
structure Box (W w : World) (b c : Nat) (og : Option Nat) (xs : List Rg) (p : Nat → Bool) : Prop where
  duo : Duo W w b 1000 og xs (.slice none 0 0) none []
  box : InAt w c p
  hc : W.heap.size ≤ c
  ne : b ≠ c
  apart : og ≠ some c
structure Fine (xs : List Rg) (k : Nat) : Prop where
  norm : Norm xs
  len : xs.length ≤ k
  upto : ∀ r ∈ xs, r.2 ≤ 64
theorem Box.later {W w w' : World} {b c : Nat} {og : Option Nat} {xs : List Rg} {p : Nat → Bool} (h : Box W w b c og xs p) (hb : Below w.heap.size w w') : Box W w' b c og xs p :=
  ⟨h.duo.later hb, h.box.below hb, h.hc, h.ne, h.apart⟩
theorem Box.drewN {W w : World} {b c : Nat} {og : Option Nat} {xs : List Rg} {p : Nat → Bool} (h : Box W w b c og xs p) (n : Nat) : Box W (w.drewN n) b c og xs p :=
  h.later (below_drewN (Below.refl _ _) n)
theorem Box.turned {W w w' : World} {b c : Nat} {og : Option Nat} {xs ys : List Rg} {p : Nat → Bool} (h : Box W w b c og xs p) (t : Turned w b 1000 og ys w') : ∃ og', Box W w' b c og' ys p := by
  obtain ⟨og', h1, h2, h3⟩ := t
  have hd : Duo W w' b 1000 og' ys (.slice none 0 0) none [] := by
    refine ⟨h1, Sl.nil _, Upd.belowOf h.duo.below h3 ?_, h.duo.hb, ?_, by simp⟩
    · intro k hk hx
      rcases hx with rfl | hx
      · have := h.duo.hb; omega
      · have := h.duo.hog k hx; omega
    · intro g hg
      rcases h2 with rfl | rfl | ⟨g', rfl, h4⟩
      · exact h.duo.hog g hg
      · cases hg
      · cases hg
        have := h.duo.below.size
        omega
  refine ⟨og', hd, h.box.keeps h3 ?_, h.hc, h.ne, ?_⟩
  · rintro (hx | hx)
    · exact h.ne hx.symm
    · exact h.apart hx
  · rcases h2 with rfl | rfl | ⟨g', rfl, h4⟩
    · exact h.apart
    · simp
    · intro e
      cases e
      have := h.box.lt
      omega
theorem Box.store {W w : World} {b c : Nat} {og : Option Nat} {xs : List Rg} {p q : Nat → Bool} (h : Box W w b c og xs p) {k : Nat} (hk : k < 64) (v : Bool) (hq : ∀ j, j < 64 → q j = if j = k then v else p j) :
    Box W (w.setCell ⟨c, k, none⟩ (.bool v)) b c og xs q := by
  have hu : Upd (fun j => j = c) w (w.setCell ⟨c, k, none⟩ (.bool v)) := Upd.setCell (Upd.refl (fun j => j = c) w) ⟨c, k, none⟩ (.inl rfl) _
  refine ⟨⟨h.duo.set.keeps hu h.ne ?_, Sl.nil _, Upd.belowOf h.duo.below hu ?_, h.duo.hb, h.duo.hog, by simp⟩, h.box.set hk v hq, h.hc, h.ne, h.apart⟩
  · intro g hg e
    subst e
    exact h.apart hg
  · intro j hj e
    subst e
    have := h.hc
    omega
theorem Box.aside {W wr w w' : World} {b b' c : Nat} {og og5 : Option Nat} {xs zs : List Rg} {p : Nat → Bool} {M : Int} (h5 : Box W wr b c og xs p) (hx : ∀ q, q < wr.heap.size → q ≠ b' ∧ og5 ≠ some q) (h : Box W w b c og xs p) (t : Turned w b' M og5 zs w') : Box W w' b c og xs p := by
  obtain ⟨_, _, _, hu⟩ := t
  have key : ∀ q, q < wr.heap.size → ¬ (q = b' ∨ og5 = some q) := by
    intro q hq hc
    obtain ⟨a1, a2⟩ := hx q hq
    rcases hc with hc | hc
    · exact a1 hc
    · exact a2 hc
  obtain ⟨l1, l2⟩ := h5.duo.setlt
  have l3 := h5.box.lt
  exact ⟨⟨h.duo.set.keeps hu (key b l1) (fun g hg => key g (l2 g hg)), Sl.nil _, Upd.belowOf h.duo.below hu (fun k hk => key k (by have := h5.duo.below.size; omega)), h.duo.hb, h.duo.hog, by simp⟩, h.box.keeps hu (key c l3), h.hc, h.ne, h.apart⟩
theorem shas_is (b : Nat) (most : Int) (og : Option Nat) (xs : List Rg) (n : Nat) (w : World) (h : SetAt w b most og xs) {v : Bool} (hv : mem xs n = v) :
    Calls Try.prog 13 #[.pointer (some ⟨b, 0, none⟩), .int .u64 n] w fun e w' => e = .returned (.bool v) ∧ Below w.heap.size w w' := by
  subst hv
  exact shas_any b most og xs n w h
theorem fine_cut {xs : List Rg} {k lo hi : Nat} (h : Fine xs k) (hk : k < 900) : Fine (cutRaw lo hi xs) (k + 1) ∧ trimL 1000 (cutRaw lo hi xs) = cutRaw lo hi xs := by
  have := h.len
  have hl := cut_len lo hi xs h.norm
  exact ⟨⟨cut_norm lo hi xs h.norm, by omega, cut_upto h.norm h.upto⟩, trim_all (by omega)⟩
theorem fine_add {xs : List Rg} {k lo hi : Nat} (h : Fine xs k) (hk : k < 900) (h1 : lo < hi) (h2 : hi ≤ 64) :
    Fine (addN xs (lo, hi)) (k + 1) ∧ addL 1000 xs lo hi = addN xs (lo, hi) ∧ (addN xs (lo, hi)).any (meetP lo hi) = true := by
  have := h.len
  have hl := addN_len xs (lo, hi)
  refine ⟨⟨addN_norm xs (lo, hi) h1 (by simp only []; omega) h.norm, by omega, addN_upto 64 xs (lo, hi) h2 h.upto⟩, ?_, ?_⟩
  · unfold addL
    rw [addRaw_is h1 xs h.norm, trim_all (by omega)]
  · have hm := any_addN lo xs (lo, hi) h1 h.norm
    have hp : hasP lo (lo, hi) = true := by simp [hasP, h1]
    rw [hp, Bool.true_or] at hm
    obtain ⟨r, hr, hr2⟩ := List.any_eq_true.1 hm
    refine List.any_eq_true.2 ⟨r, hr, ?_⟩
    simp [hasP] at hr2
    simp [meetP]
    omega
theorem mem_cut {xs : List Rg} {lo hi : Nat} (hn : Norm xs) (j : Nat) : mem (cutRaw lo hi xs) j = if lo ≤ j ∧ j < hi then false else mem xs j := by
  unfold mem
  by_cases h : lo < hi
  · rw [any_cut j lo hi h xs hn]
    split
    · rename_i c
      simp [hasP, c.1, c.2]
    · rename_i c
      have : hasP j (lo, hi) = false := by
        simp [hasP]
        omega
      simp [this]
  · rw [cut_none (by omega), if_neg (by omega)]
theorem mem_add {xs : List Rg} {lo hi : Nat} (hn : Norm xs) (h : lo < hi) (j : Nat) : mem (addN xs (lo, hi)) j = if lo ≤ j ∧ j < hi then true else mem xs j := by
  unfold mem
  rw [any_addN j xs (lo, hi) h hn]
  split
  · rename_i c
    simp [hasP, c.1, c.2]
  · rename_i c
    have : hasP j (lo, hi) = false := by
      simp [hasP]
      omega
    simp [this]

set_option maxRecDepth 100000 in
set_option maxHeartbeats 2000000 in
theorem sets_walk (oa : Option Addr) (cap : Nat) (L : List Ak) (len : Nat) (w : World) (hl : L.length = len) (hlen : len ≤ 9223372036854775807) (ha : Asks w w.heap.size oa L) :
    Calls Try.prog 3 #[.slice oa len cap] w fun e w' => e = .returned (.bool true) ∧ Below w.heap.size w w' := by
  have HA := Lib.hid ha
  have HN := Lib.hid hl
  clear ha hl
  go_enter Try.func3, Try.ntmps3
  go_wp2_with fail
  refine (snew_any 1000 _).mono ?_
  rintro e w1 ⟨b, rfl, hb1, hs, hb⟩
  have H1 := Lib.hid (show Duo w w1 b 1000 none [] (.slice none 0 0) none [] from ⟨hs, Sl.nil _, hb, hb1, by simp, by simp⟩)
  clear hs hb hb1
  go_upto_block 0 with fail
  generalize hw2 : w1.alloc _ = w2
  have H2 := Lib.hid (show Box w w2 b w1.heap.size none [] (fun _ => false) from by
    rw [← hw2]
    refine ⟨H1.out.later ((Below.refl _ _).alloc (Nat.le_refl _) _), ⟨_, alloc_at _ _, rfl, ?_⟩, H1.out.below.size, ?_, by simp⟩
    · intro k hk
      show (Array.replicate 64 (Value.bool false))[k]? = _
      simp [hk]
    · have := H1.out.setlt.1
      omega)
  clear hw2 H1
  generalize w1.heap.size = c at *
  go_wp2_with fail
  go_loopw [5] (fun i wr => ∃ (k : Nat) (og : Option Nat) (xs : List Rg), i = .int .i64 k ∧ k ≤ 40 ∧ Box w wr b c og xs (mem xs) ∧ Fine xs k) (fun i _ => 40 - (intOf i).toNat)
  case atStart => exact ⟨0, none, [], rfl, by omega, H2.out, ⟨⟨by simp, by simp⟩, by simp, by simp⟩⟩
  case round =>
    obtain ⟨k, og, xs, rfl, hk, hd, hf⟩ := hrel
    have HD := Lib.hid hd
    have HF := Lib.hid hf
    clear hd hf H2
    by_cases hlt : k < len
    · by_cases hlt2 : k < 40
      · obtain ⟨a, hak⟩ : ∃ a, L[k]? = some a := ⟨_, List.getElem?_eq_getElem (by rw [HN.out]; exact hlt)⟩
        obtain ⟨ac, off, rfl, hc, q0, q1, q2, hok⟩ := HA.out k a hak
        have c0 := cell_keep HD.out.duo.below hc q0
        have c1 := cell_keep HD.out.duo.below hc q1
        have c2 := cell_keep HD.out.duo.below hc q2
        obtain ⟨hok1, hok2, hok3⟩ := hok
        clear q1 q2 hak
        obtain ⟨kd, l, h⟩ := a
        simp only at c0 c1 c2 hok1 hok2 hok3 q0
        have Q0 := Lib.hid q0
        clear q0
        obtain ⟨lo, hx1, hlo⟩ : ∃ x : Nat, (l : Int).tmod 64 = x ∧ x < 64 := ⟨l % 64, by rw [Int.tmod_eq_emod_of_nonneg (by omega)]; omega, by omega⟩
        obtain ⟨hi, hy1, hhi⟩ : ∃ x : Nat, (h : Int).tmod 65 = x ∧ x ≤ 64 := ⟨h % 65, by rw [Int.tmod_eq_emod_of_nonneg (by omega)]; omega, by omega⟩
        have hsz : xs.length ≤ 40 := Nat.le_trans HF.out.len hk
        go_wp2_with fail
        go_quiet (fail)
        obtain ⟨wx, hwx⟩ : ∃ wx, wx = wr.drewN nq := ⟨_, rfl⟩
        have HD1 := Lib.hid (show Box w wx b c og xs (mem xs) from hwx ▸ HD.out.drewN nq)
        have d0 : wx.cell? ⟨ac, off + k * 3, none⟩ = some (.int .i64 kd) := hwx ▸ c0
        rw [← hwx] at *
        clear hwx c0 c1 c2 HD hx1 hy1
        go_upto_if 42 with fail
        go_cut [] (fun wy => ∃ og' ys, Box w wy b c og' ys (mem xs) ∧ Fine ys (k + 1) ∧ ∀ j, j < 64 → mem ys j = if lo ≤ j ∧ j < hi then decide (kd ≠ 1) else mem xs j)
        case first =>
          by_cases hkd : kd = 1
          · subst hkd
            go_wp2_with fail
            refine (cut_any b 1000 og xs lo hi _ (by exact HD1.out.duo.set) (by omega) (by omega) (by omega) (by omega) HF.out.norm (by omega)).mono ?_
            rintro e w3 ⟨rfl, ht⟩
            obtain ⟨hf1, ht1⟩ := fine_cut (lo := lo) (hi := hi) HF.out (by omega)
            rw [ht1] at ht
            obtain ⟨og3, hd⟩ := HD1.out.turned ht
            have H3 := Lib.hid hd
            have HF3 := Lib.hid hf1
            clear ht hd HD1 d0 hf1 ht1
            go_wp2_with fail
            go_meet
            case rel => exact ⟨og3, _, H3.out, HF3.out, fun j _ => by rw [mem_cut HF.out.norm j]; simp⟩
          · by_cases hlh : lo < hi
            · obtain ⟨hf1, ht1, hm1⟩ := fine_add HF.out (by omega) hlh hhi
              have HF3 := Lib.hid hf1
              have HT3 := Lib.hid ht1
              have HM3 := Lib.hid hm1
              clear hf1 ht1 hm1
              go_wp2_with fail
              refine (add_any b 1000 og xs lo hi _ (by exact HD1.out.duo.set) (by omega) (by omega) (by omega)).mono ?_
              rw [if_pos ⟨hlh, by omega⟩, if_pos ⟨hlh, by omega⟩, HT3.out, HM3.out]
              rintro e w3 ⟨rfl, ht⟩
              obtain ⟨og3, hd⟩ := HD1.out.turned ht
              have H3 := Lib.hid hd
              clear ht hd HD1 d0
              go_wp2_with fail
              go_meet
              case rel => exact ⟨og3, _, H3.out, HF3.out, fun j _ => by rw [mem_add HF.out.norm hlh j]; simp [hkd]⟩
            · go_wp2_with fail
              refine (add_any b 1000 og xs lo hi _ (by exact HD1.out.duo.set) (by omega) (by omega) (by omega)).mono ?_
              rw [if_neg (by omega), if_neg (by omega)]
              rintro e w3 ⟨rfl, ht⟩
              obtain ⟨og3, hd⟩ := HD1.out.turned ht
              have H3 := Lib.hid hd
              clear ht hd HD1 d0
              go_wp2_with fail
              go_meet
              case rel => exact ⟨og3, xs, H3.out, ⟨HF.out.norm, Nat.le_succ_of_le HF.out.len, HF.out.upto⟩, fun j _ => by rw [if_neg (by omega)]⟩
        case rest =>
          obtain ⟨og3, ys, hd, hf, hm⟩ := hcut
          have H3 := Lib.hid hd
          have HF3 := Lib.hid hf
          have HM3 := Lib.hid hm
          clear hd hf hm HD1 d0 HF hsz
          go_wp2_with fail
          obtain ⟨vb, hvb⟩ : ∃ vb, vb = decide (kd ≠ 1) := ⟨_, rfl⟩
          have HV := Lib.hid hvb
          clear hvb
          go_loopw [8] (fun kv wx => ∃ j : Nat, kv = .int .u64 j ∧ lo ≤ j ∧ (j ≤ hi ∨ j = lo) ∧ Box w wx b c og3 ys (fun i => if lo ≤ i ∧ i < j then vb else mem xs i)) (fun kv _ => hi - (intOf kv).toNat)
          case atStart => exact ⟨lo, rfl, by omega, .inr rfl, ⟨H3.out.duo, H3.out.box.eq (fun j hj => by rw [if_neg (by omega)]), H3.out.hc, H3.out.ne, H3.out.apart⟩⟩
          case round =>
            obtain ⟨j, rfl, hj1, hj2, hd⟩ := hrel
            have HD := Lib.hid hd
            clear hd H3
            by_cases hlt3 : j < hi
            · have d0 := cell_keep HD.out.duo.below hc Q0.out
              obtain ⟨e0, e1⟩ := HD.out.box.cell (k := j) (by omega)
              go_wp2_with fail
              go_roundw
              case rel =>
                refine ⟨j + 1, by go_num, by omega, .inl (by omega), HD.out.store (by omega) _ ?_⟩
                intro i hi64
                by_cases e : i = j
                · subst e
                  rw [if_pos (by omega), if_pos rfl, HV.out]
                  by_cases hk1 : kd = 1 <;> simp [hk1]
                · rw [if_neg e]
                  by_cases hc : lo ≤ i ∧ i < j
                  · rw [if_pos hc, if_pos (by omega)]
                  · rw [if_neg hc, if_neg (by omega)]
              case measure => simp [intOf]; omega
            · have H5 := Lib.hid (show Box w wr b c og3 ys (mem ys) from ⟨HD.out.duo, HD.out.box.eq (q := mem ys) (fun i hi64 => by
                rw [HM3.out i hi64, HV.out]
                by_cases hc : lo ≤ i ∧ i < hi
                · rw [if_pos hc, if_pos (by omega)]
                · rw [if_neg hc, if_neg (by omega)]), HD.out.hc, HD.out.ne, HD.out.apart⟩)
              clear HD HM3 HV
              have hsz := HF3.out.len
              go_wp2_with fail
              refine (copy_any b 1000 og3 ys _ (by exact H5.out.duo.set) (by omega)).mono ?_
              rintro e w5 ⟨b', og5, rfl, hb', hs5, hg5, hb5⟩
              have H6 := Lib.hid (H5.out.later hb5)
              have HB5 := Lib.hid hs5
              have HX5 := Lib.hid (show (∀ q, q < wr.heap.size → q ≠ b' ∧ og5 ≠ some q) from fun q hq => ⟨by omega, fun e => by have := hg5 q e; omega⟩)
              clear hb' hs5 hg5 hb5
              go_wp2_with fail
              refine (all_any b' 1000 og5 ys _ (by exact HB5.out) (by omega)).mono ?_
              rintro e w6 ⟨v6, og6, rfl, hs6, hn6, hb6⟩
              have H7 := Lib.hid (H6.out.later hb6)
              have HB7 := Lib.hid (HB5.out.below hb6)
              have HS7 := Lib.hid hs6
              clear hs6 hn6 hb6 H6 HB5
              go_wp2_with fail
              refine (all_any b 1000 og3 ys _ (by exact H7.out.duo.set) (by omega)).mono ?_
              rintro e w7 ⟨v7, og7, rfl, hs7, hn7, hb7⟩
              have H8 := Lib.hid (H7.out.later hb7)
              have HB8 := Lib.hid (HB7.out.below hb7)
              have HS8 := Lib.hid (HS7.out.below hb7)
              have HT8 := Lib.hid hs7
              clear hs7 hn7 hb7 H7 HB7 HS7
              go_wp2_with fail
              refine (rsame_q v6 v7 og6 og7 ys _ (by exact HS8.out) (by exact HT8.out)).mono ?_
              rintro e w' ⟨rfl, q8, rfl⟩
              have H9 := Lib.hid (H8.out.drewN q8)
              have HB9 := Lib.hid (HB8.out.below (below_drewN (Below.refl _ _) q8))
              clear H8 HB8 HS8 HT8
              generalize w7.drewN q8 = w8 at *
              go_wp2_with fail
              refine (add_any b' 1000 og5 ys 0 64 _ (by exact HB9.out) (by omega) (by omega) (by omega)).mono ?_
              rintro e w9 ⟨rfl, ht⟩
              have H10 := Lib.hid (Box.aside H5.out HX5.out H9.out ht)
              clear ht H9 HB9 H5 HX5
              go_wp2_with fail
              go_loopw [10, 11] (fun n kv wx => ∃ j : Nat, kv = .int .u64 j ∧ j ≤ 64 ∧ n = .int .u64 (cnt (mem ys) j : Nat) ∧ Box w wx b c og3 ys (mem ys)) (fun _ kv _ => 64 - (intOf kv).toNat)
              case atStart => exact ⟨0, rfl, by omega, rfl, H10.out⟩
              case round =>
                obtain ⟨j, rfl, hj, rfl, hd⟩ := hrel
                have HD := Lib.hid hd
                clear hd H10
                have hcn := cnt_le (mem ys) j
                by_cases hlt4 : j < 64
                · obtain ⟨e0, _⟩ := HD.out.box.cell hlt4
                  have HCS := Lib.hid (show cnt (mem ys) (j + 1) = cnt (mem ys) j + if mem ys j then 1 else 0 from rfl)
                  have hcl : c < wr.heap.size := HD.out.box.lt
                  generalize cnt (mem ys) j = n at *
                  cases hv : mem ys j
                  all_goals rw [hv] at e0
                  all_goals have HV := Lib.hid hv
                  all_goals clear hv
                  all_goals go_wp2_with fail
                  all_goals go_region_held3 (fun w' => w'.cell? ⟨c, j, none⟩ = wr.cell? ⟨c, j, none⟩) (go_keep)
                    (first | (go_at_call 13; refine (shas_is b 1000 og3 ys j _ (by exact HD.out.duo.set) HV.out).mono ?_; rintro e w' ⟨rfl, hb⟩; have k0 := (hb.cell (p := ⟨c, j, none⟩) (by exact hcl)).trans (by exact e0)))
                  all_goals rename_i hHeld
                  all_goals have H11 := Lib.hid ((HD.out.drewN 1).later hb)
                  all_goals have L11 := Lib.hid hHeld
                  all_goals clear hb hHeld e0 HD
                  all_goals go_wp2
                  all_goals go_roundw
                  all_goals first
                    | (case rel => exact ⟨j + 1, by go_num, by omega, by rw [HCS.out, HV.out]; first | rfl | (simp; done) | go_num, H11.out⟩)
                    | (case measure => simp [intOf]; omega)
                · obtain rfl : j = 64 := by omega
                  have HCC := Lib.hid (cntL_cnt 64 ys HF3.out.norm HF3.out.upto)
                  clear hlt4 hj hcn
                  go_wp2_with fail
                  refine (count_any b 1000 og3 ys _ (by exact HD.out.duo.set) HF3.out.norm).mono ?_
                  rw [HCC.out]
                  rintro e w10 ⟨rfl, hb⟩
                  have H11 := Lib.hid (HD.out.later hb)
                  clear hb HD HCC
                  go_wp2_with fail
                  go_roundw
                  case rel => exact ⟨k + 1, og3, ys, by go_num, by omega, H11.out, HF3.out⟩
                  case measure => simp [intOf]; omega
      · go_wp2_with fail
        refine (known_any _).mono ?_
        rintro e w4 ⟨rfl, hb⟩
        have H4 := Lib.hid (below_call HD.out.duo.below HD.out.duo.below.size hb)
        clear hb
        go_wp2_with fail
        go_ret
        exact ⟨rfl, H4.out⟩
    · go_wp2_with fail
      refine (known_any _).mono ?_
      rintro e w4 ⟨rfl, hb⟩
      have H4 := Lib.hid (below_call HD.out.duo.below HD.out.duo.below.size hb)
      clear hb
      go_wp2_with fail
      go_ret
      exact ⟨rfl, H4.out⟩
end Go.Proofs.Ytcnpodmifichfaa
