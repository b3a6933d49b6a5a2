/- DERIVED. Walk of narthexlaw10's play: the set and the list go together. -/
import Derived.Test.YtcnpodmifichfaaRngSame
import Derived.OwnWalk
namespace Go.Proofs.Ytcnpodmifichfaa
open Go.RowKit

theorem cut_above {lo hi : Nat} {xs : List Rg} (h : ∀ r ∈ xs, hi ≤ r.1) : cutRaw lo hi xs = xs := by
  induction xs with
  | nil => simp [cutRaw]
  | cons r xs ih =>
    have e : cutRaw lo hi (r :: xs) = cut1 lo hi r ++ cutRaw lo hi xs := by simp [cutRaw]
    rw [e, ih (fun x hx => h x (List.mem_cons_of_mem _ hx)), cut1, if_pos (.inr (.inr (h r (List.mem_cons_self ..))))]
    rfl
theorem cut_len (lo hi : Nat) : ∀ xs : List Rg, Norm xs → (cutRaw lo hi xs).length ≤ xs.length + 1
  | [], _ => by simp [cutRaw]
  | r :: xs, hn => by
    obtain ⟨h1, h2⟩ := hn.head
    have ih := cut_len lo hi xs hn.tail
    have e : cutRaw lo hi (r :: xs) = cut1 lo hi r ++ cutRaw lo hi xs := by simp [cutRaw]
    rw [e, List.length_append, List.length_cons]
    by_cases h : hi < r.2
    · have := cut1_len lo hi r
      rw [cut_above (fun x hx => by have := h2 x hx; omega)]
      omega
    · have : (cut1 lo hi r).length ≤ 1 := by
        unfold cut1
        split
        · simp
        · split <;> simp
      omega

/-- A set and a list in memory of one's own, apart from one another. -/
structure Duo (W w : World) (b : Nat) (M : Int) (og : Option Nat) (xs : List Rg) (v : Value) (oh : Option Nat) (ys : List Rg) : Prop where
  set : SetAt w b M og xs
  sl : Sl w v oh ys
  below : Below W.heap.size W w
  hb : W.heap.size ≤ b
  hog : ∀ g, og = some g → W.heap.size ≤ g
  hoh : ∀ g, oh = some g → W.heap.size ≤ g ∧ og ≠ some g ∧ g ≠ b
theorem Duo.setlt {W w : World} {b : Nat} {M : Int} {og oh : Option Nat} {xs ys : List Rg} {v : Value} (h : Duo W w b M og xs v oh ys) : b < w.heap.size ∧ ∀ g, og = some g → g < w.heap.size := by
  obtain ⟨u, h1, h2, _⟩ := h.set
  exact ⟨heap_lt h1, h2.lt⟩
theorem Duo.later {W w w' : World} {b : Nat} {M : Int} {og oh : Option Nat} {xs ys : List Rg} {v : Value} (h : Duo W w b M og xs v oh ys) (hb : Below w.heap.size w w') : Duo W w' b M og xs v oh ys :=
  ⟨h.set.below hb, h.sl.below hb, below_call h.below h.below.size hb, h.hb, h.hog, h.hoh⟩
theorem Duo.drewN {W w : World} {b : Nat} {M : Int} {og oh : Option Nat} {xs ys : List Rg} {v : Value} (h : Duo W w b M og xs v oh ys) (n : Nat) : Duo W (w.drewN n) b M og xs v oh ys :=
  h.later (below_drewN (Below.refl _ _) n)
theorem Duo.turned {W w w' : World} {b : Nat} {M : Int} {og oh : Option Nat} {xs ys zs : List Rg} {v : Value} (h : Duo W w b M og xs v oh ys) (t : Turned w b M og zs w') : ∃ og', Duo W w' b M og' zs v oh ys := by
  obtain ⟨og', h1, h2, h3⟩ := t
  refine ⟨og', h1, h.sl.keeps h3 ?_, Upd.belowOf h.below h3 ?_, h.hb, ?_, ?_⟩
  · intro g hg hx
    obtain ⟨_, q2, q3⟩ := h.hoh g hg
    rcases hx with hx | hx
    · exact q3 hx
    · exact q2 hx
  · intro k hk hx
    rcases hx with rfl | hx
    · have := h.hb; omega
    · have := h.hog k hx; omega
  · intro g hg
    rcases h2 with rfl | rfl | ⟨g', rfl, h4⟩
    · exact h.hog g hg
    · cases hg
    · cases hg
      have := h.below.size
      omega
  · intro g hg
    obtain ⟨q1, q2, q3⟩ := h.hoh g hg
    refine ⟨q1, ?_, q3⟩
    rcases h2 with rfl | rfl | ⟨g', rfl, h4⟩
    · exact q2
    · simp
    · intro e
      cases e
      have := h.sl.lt g hg
      omega
theorem Duo.kept {W w w' : World} {b : Nat} {M : Int} {og oh : Option Nat} {xs ys zs : List Rg} {v : Value} {e : Ending} (h : Duo W w b M og xs v oh ys) (t : Kept w oh zs e w') : ∃ v' oh', e = .returned v' ∧ Duo W w' b M og xs v' oh' zs := by
  obtain ⟨v', oh', he, h1, h2, h3⟩ := t
  refine ⟨v', oh', he, h.set.below h3, h1, below_call h.below h.below.size h3, h.hb, h.hog, ?_⟩
  intro g hg
  rcases h2 with rfl | h2
  · exact h.hoh g hg
  · have q := h2 g hg
    have := h.below.size
    obtain ⟨r1, r2⟩ := h.setlt
    refine ⟨by omega, ?_, by omega⟩
    intro e
    have := r2 g e
    omega
theorem Duo.sm {W w : World} {b : Nat} {M : Int} {og oh : Option Nat} {xs : List Rg} {v : Value} (h : Duo W w b M og xs v oh xs) : SmSt W w b M og xs v oh := ⟨h.set, h.sl, h.below⟩

/-- Asks: Kind, Lo, Hi. -/
abbrev Ak : Type := Int × Nat × Nat
def AkOk (a : Ak) : Prop := (-9223372036854775808 ≤ a.1 ∧ a.1 ≤ 9223372036854775807) ∧ a.2.1 < 18446744073709551616 ∧ a.2.2 < 18446744073709551616
def Asks (w : World) (B : Nat) (oa : Option Addr) (L : List Ak) : Prop :=
  ∀ i a, L[i]? = some a → ∃ b off, oa = some ⟨b, off, none⟩ ∧ b < B ∧ w.cell? ⟨b, off + i * 3, none⟩ = some (.int .i64 a.1) ∧ w.cell? ⟨b, off + i * 3 + 1, none⟩ = some (.int .u64 a.2.1) ∧ w.cell? ⟨b, off + i * 3 + 2, none⟩ = some (.int .u64 a.2.2) ∧ AkOk a
theorem Asks.below {w w' : World} {B : Nat} {oa : Option Addr} {L : List Ak} (h : Asks w B oa L) (hb : Below B w w') : Asks w' B oa L := fun i a hi => by
  obtain ⟨b, off, h1, h2, h3, h4, h5, h6⟩ := h i a hi
  exact ⟨b, off, h1, h2, (hb.cell (p := ⟨b, off + i * 3, none⟩) h2).trans h3, (hb.cell (p := ⟨b, off + i * 3 + 1, none⟩) h2).trans h4, (hb.cell (p := ⟨b, off + i * 3 + 2, none⟩) h2).trans h5, h6⟩
theorem Asks.mono {w : World} {B B' : Nat} {oa : Option Addr} {L : List Ak} (h : Asks w B oa L) (hb : B ≤ B') : Asks w B' oa L := fun i a hi => by
  obtain ⟨b, off, h1, h2, h3⟩ := h i a hi
  exact ⟨b, off, h1, by omega, h3⟩

theorem cell_keep {B : Nat} {w w' : World} {a o : Nat} {v : Value} (h : Below B w w') (ha : a < B) (c : w.cell? ⟨a, o, none⟩ = some v) : w'.cell? ⟨a, o, none⟩ = some v := by
  rw [h.cell ha]
  exact c
/-- The state between two calls. -/
def PlSt (W w : World) (b : Nat) (M : Int) (v : Value) (k : Nat) : Prop :=
  ∃ og oh xs, Duo W w b M og xs v oh xs ∧ Norm xs ∧ xs.length ≤ k ∧ (xs.length : Int) ≤ M
theorem pl_cut {W w : World} {b : Nat} {M : Int} {og oh : Option Nat} {xs : List Rg} {v : Value} {k lo hi : Nat} (h : Duo W w b M og (trimL M (cutRaw lo hi xs)) v oh (if hi ≤ lo then xs else trimL M (cutRaw lo hi xs))) (hx : Norm xs) (hl : xs.length ≤ k) (hm : (xs.length : Int) ≤ M) (hM : 1 ≤ M) :
    PlSt W w b M v (k + 1) := by
  by_cases hlh : hi ≤ lo
  · rw [if_pos hlh, cut_none hlh, trim_all hm] at h
    exact ⟨og, oh, xs, h, hx, by omega, hm⟩
  · rw [if_neg hlh] at h
    have := cut_len lo hi xs hx
    obtain ⟨t1, t2⟩ := trim_len M (cutRaw lo hi xs) (by omega)
    exact ⟨og, oh, _, h, trim_norm M (cut_norm lo hi xs hx), by omega, t1⟩
theorem pl_add {W w : World} {b : Nat} {M : Int} {og oh : Option Nat} {xs : List Rg} {v : Value} {k lo hi : Nat} (h : Duo W w b M og (addL M xs lo hi) v oh (trimL M (addR lo hi xs))) (hx : Norm xs) (hl : xs.length ≤ k) (hM : 1 ≤ M) (h1 : lo < hi) (h2 : hi ≤ 4611686018427387904) :
    Duo W w b M og (addL M xs lo hi) v oh (addL M xs lo hi) ∧ Norm (addL M xs lo hi) ∧ (addL M xs lo hi).length ≤ k + 1 ∧ ((addL M xs lo hi).length : Int) ≤ M := by
  have e : trimL M (addR lo hi xs) = addL M xs lo hi := by rw [addRaw_addR h1 hx]; rfl
  rw [e] at h
  have := addN_len xs (lo, hi)
  obtain ⟨t1, t2⟩ := trim_len M (addRaw xs lo hi) (by omega)
  refine ⟨h, ?_, ?_, t1⟩
  · rw [← e, addR_is h1 hx]
    exact trim_norm M (addN_norm xs (lo, hi) h1 h2 hx)
  · rw [addRaw_is h1 xs hx] at t2
    have e2 : addL M xs lo hi = trimL M (addN xs (lo, hi)) := by rw [← e, addR_is h1 hx]
    rw [e2]
    omega
def Plays (w : World) (e : Ending) (w' : World) : Prop := ∃ p v, e = .returned (.tuple #[p, v, .bool true]) ∧ Below w.heap.size w w'

set_option maxRecDepth 100000 in
set_option maxHeartbeats 2000000 in
theorem play_walk (m : Int) (oa : Option Addr) (cap : Nat) (L : List Ak) (at_ : Nat) (w : World) (hm : m ≤ 9223372036854775807) (hm2 : -9223372036854775808 ≤ m) (hat : at_ < 18446744073709551616) (hlen : L.length ≤ 9223372036854775807) (ha : Asks w w.heap.size oa L) :
    Calls Try.prog 17 #[.int .i64 m, .slice oa L.length cap, .int .u64 at_] w (Plays w) := by
  have HA := Lib.hid ha
  obtain ⟨M, hM, hM1, hM2⟩ : ∃ M, mostOf m = M ∧ 1 ≤ M ∧ M ≤ 9223372036854775807 := ⟨_, rfl, mostOf_pos m, by unfold mostOf; split <;> omega⟩
  have HM := Lib.hid hM
  clear ha hM
  generalize hn : L.length = len at *
  have HN := Lib.hid hn
  clear hn
  go_enter Try.func17, Try.ntmps17
  go_wp2_with fail
  refine (snew_any m _).mono ?_
  rintro e w1 ⟨b, rfl, hb1, hs, hb⟩
  rw [HM.out] at hs
  have H1 := Lib.hid (show PlSt w w1 b M (.slice none 0 0) 0 from ⟨none, none, [], ⟨hs, Sl.nil _, hb, hb1, by simp, by simp⟩, ⟨by simp, by simp⟩, by simp, by simp; omega⟩)
  clear hs hb hb1
  go_wp2_with fail
  go_loopw [10, 11] (fun v i wr => ∃ (k : Nat), i = .int .i64 k ∧ k ≤ 60 ∧ PlSt w wr b M v k) (fun _ i _ => 60 - (intOf i).toNat)
  case atStart => exact ⟨0, rfl, by omega, H1.out⟩
  case round =>
    obtain ⟨k, rfl, hk, og, oh, xs, hd, hx, hxl, hxm⟩ := hrel
    have HD := Lib.hid hd
    have HX := Lib.hid hx
    clear hd hx
    by_cases hlt : k < len
    · by_cases hlt2 : k < 60
      · obtain ⟨a, hak⟩ : ∃ a, L[k]? = some a := ⟨_, List.getElem?_eq_getElem (by rw [HN.out]; exact hlt)⟩
        obtain ⟨c, off, rfl, hc, q0, q1, q2, hok⟩ := HA.out k a hak
        have c0 := cell_keep HD.out.below hc q0
        have c1 := cell_keep HD.out.below hc q1
        have c2 := cell_keep HD.out.below hc q2
        obtain ⟨hok1, hok2, hok3⟩ := hok
        clear q0 q1 q2 hak
        obtain ⟨kd, lo, hi⟩ := a
        simp only at c0 c1 c2 hok1 hok2 hok3
        have HXL := Lib.hid hxl
        have HXM := Lib.hid hxm
        clear hxl hxm
        have hsz : xs.length ≤ 60 := Nat.le_trans HXL.out hk
        go_wp2_with fail
        go_quiet (fail)
        obtain ⟨wx, hwx⟩ : ∃ wx, wx = wr.drewN nq := ⟨_, rfl⟩
        have HD1 := Lib.hid (show Duo w wx b M og xs u10 oh xs from hwx ▸ HD.out.drewN nq)
        have d0 : wx.cell? ⟨c, off + k * 3, none⟩ = some (.int .i64 kd) := hwx ▸ c0
        rw [← hwx] at *
        clear hwx c0 c1 c2 HD
        go_upto_if 44 with fail
        go_cut [10] (fun v wy => PlSt w wy b M v (k + 1))
        case first =>
          by_cases hkd : kd = 1
          · subst hkd
            go_wp2_with fail
            refine (cut_any b M og xs lo hi _ (by exact HD1.out.set) hM1 hM2 hok2 hok3 HX.out (by omega)).mono ?_
            rintro e w2 ⟨rfl, ht⟩
            obtain ⟨og2, hd⟩ := HD1.out.turned ht
            have HD2 := Lib.hid hd
            clear ht hd HD1 d0
            go_wp2_with fail
            refine (rcut_any u10 oh xs lo hi m _ (by exact HD2.out.sl) hm hm2 hok2 hok3 HX.out (by omega)).mono ?_
            intro e w3 ht
            rw [HM.out] at ht
            obtain ⟨v3, oh3, rfl, hd⟩ := HD2.out.kept ht
            have HD3 := Lib.hid hd
            clear ht hd HD2
            go_wp2_with fail
            go_meet
            case rel => exact pl_cut HD3.out HX.out HXL.out HXM.out hM1
          · by_cases hok : lo < hi ∧ hi ≤ 4611686018427387904
            · obtain ⟨hl1, hl2⟩ := hok
              go_wp2_with fail
              refine (radd_any u10 oh xs lo hi m _ (by exact HD1.out.sl) hm hm2 (by omega)).mono ?_
              intro e w2 ht
              rw [HM.out] at ht
              obtain ⟨v2, oh2, rfl, hd⟩ := HD1.out.kept ht
              have HD2 := Lib.hid hd
              clear ht hd HD1 d0
              go_wp2_with fail
              refine (add_any b M og xs lo hi _ (by exact HD2.out.set) hM1 hM2 (by omega)).mono ?_
              rw [if_pos ⟨hl1, hl2⟩, if_pos ⟨hl1, hl2⟩]
              rintro e w3 ⟨rfl, ht⟩
              obtain ⟨og3, hd⟩ := HD2.out.turned ht
              obtain ⟨hd3, hx3, hl3⟩ := pl_add hd HX.out HXL.out hM1 hl1 hl2
              have HD3 := Lib.hid hd3
              have HX3 := Lib.hid hx3
              have HL3 := Lib.hid hl3
              clear ht hd HD2 hd3 hx3 hl3
              generalize addL M xs lo hi = ys at *
              go_wp2_with fail
              refine (rsome_q v2 oh2 ys lo hi _ (by exact HD3.out.sl) HX3.out hl1).mono ?_
              rintro e w' ⟨rfl, q, rfl⟩
              go_wp2_with fail
              go_meet
              case rel => exact ⟨_, _, _, HD3.out.drewN _, HX3.out, HL3.out.1, HL3.out.2⟩
            · by_cases hl1 : lo < hi
              · have hl2 : ¬ (hi : Int) ≤ 4611686018427387904 := by omega
                go_wp2_with fail
                refine (add_any b M og xs lo hi _ (by exact HD1.out.set) hM1 hM2 (by omega)).mono ?_
                rw [if_neg hok, if_neg hok]
                rintro e w3 ⟨rfl, ht⟩
                obtain ⟨og3, hd⟩ := HD1.out.turned ht
                have HD3 := Lib.hid hd
                clear ht hd HD1
                go_wp2_with fail
                go_meet
                case rel => exact ⟨_, _, _, HD3.out, HX.out, Nat.le_succ_of_le HXL.out, HXM.out⟩
              · go_wp2_with fail
                refine (add_any b M og xs lo hi _ (by exact HD1.out.set) hM1 hM2 (by omega)).mono ?_
                rw [if_neg hok, if_neg hok]
                rintro e w3 ⟨rfl, ht⟩
                obtain ⟨og3, hd⟩ := HD1.out.turned ht
                have HD3 := Lib.hid hd
                clear ht hd HD1
                go_wp2_with fail
                go_meet
                case rel => exact ⟨_, _, _, HD3.out, HX.out, Nat.le_succ_of_le HXL.out, HXM.out⟩
        case rest =>
          clear HD1 HX HXL HXM hsz d0
          obtain ⟨og, oh, xs, hd, hx, hxl, hxm⟩ := hcut
          have HD := Lib.hid hd
          have HX := Lib.hid hx
          have HXL := Lib.hid hxl
          have HXM := Lib.hid hxm
          have hsz : xs.length ≤ 61 := by omega
          clear hd hx hxl hxm
          have hw9 : IntKind.u64.wrap ((at_ : Int) + 9) = (((at_ + 9) % 18446744073709551616 : Nat) : Int) := by
            simp [IntKind.wrap, IntKind.bits, IntKind.signed]
          obtain ⟨z, hz, hz9⟩ : ∃ z : Nat, z < 18446744073709551616 ∧ IntKind.u64.wrap ((at_ : Int) + 9) = (z : Int) := ⟨_, Nat.mod_lt _ (by omega), hw9⟩
          clear hw9
          go_wp2_with fail
          refine (same_any b M og xs _ oh lo hi _ (by exact HD.out.set) (by exact HD.out.sl) HX.out hok2 hok3 (by omega)).mono ?_
          rintro e w2 ⟨rfl, hb⟩
          have HD2 := Lib.hid (HD.out.later hb)
          clear hb HD
          go_wp2_with fail
          refine (same_any b M og xs _ oh at_ z _ (by exact HD2.out.set) (by exact HD2.out.sl) HX.out hat hz (by omega)).mono ?_
          rintro e w3 ⟨rfl, hb⟩
          have HD3 := Lib.hid (HD2.out.later hb)
          clear hb HD2 hz9
          go_wp2_with fail
          go_roundw
          case rel => exact ⟨k + 1, by go_num, by omega, og, oh, xs, HD3.out, HX.out, HXL.out, HXM.out⟩
          case measure => simp [intOf]; omega
      · go_wp2_with fail
        go_ret3
        exact ⟨_, _, rfl, HD.out.below⟩
    · go_wp2_with fail
      go_ret3
      exact ⟨_, _, rfl, HD.out.below⟩
end Go.Proofs.Ytcnpodmifichfaa
