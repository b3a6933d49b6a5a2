/- DERIVED. Walk of sent's right, on any ranges; rising ranges. -/
import Derived.OwnWalk
import Derived.Test.YtacfbgnbjdckiaaQ7
namespace Go.Proofs.Ytacfbgnbjdckiaa
open Go.RowKit

theorem rightB_at {rs : List Rg} (h : rightB rs = true) {k : Nat} (hk : k < rs.length) : okAt rs k = true := by
  unfold rightB at h
  rw [Bool.and_eq_true] at h
  exact List.all_eq_true.1 h.2 k (List.mem_range.2 hk)
theorem rightB_pos {rs : List Rg} (h : rightB rs = true) : 0 < rs.length := by
  unfold rightB at h
  rw [Bool.and_eq_true] at h
  simpa using h.1
theorem okAt_lt {rs : List Rg} {k : Nat} {x : Rg} (hx : rs[k]? = some x) (h : okAt rs k = true) : x.1 < x.2 := by
  unfold okAt at h
  have hk : k < rs.length := (List.getElem?_eq_some_iff.1 hx).1
  rw [hx, List.getElem?_eq_getElem (show k - 1 < rs.length by omega)] at h
  simp at h
  exact h.1
theorem okAt_rise {rs : List Rg} {k : Nat} {x y : Rg} (hx : rs[k + 1]? = some x) (hy : rs[k]? = some y) (h : okAt rs (k + 1) = true) : y.2 < x.1 := by
  unfold okAt at h
  rw [hx, show k + 1 - 1 = k from rfl, hy] at h
  simp at h
  exact h.2
theorem right_rise {rs : List Rg} (h : rightB rs = true) : ∀ (d k : Nat) (x y : Rg), rs[k]? = some y → rs[k + d + 1]? = some x → y.2 < x.1 := by
  intro d
  induction d with
  | zero =>
    intro k x y hy hx
    exact okAt_rise hx hy (rightB_at h (List.getElem?_eq_some_iff.1 hx).1)
  | succ d ih =>
    intro k x y hy hx
    have hl := (List.getElem?_eq_some_iff.1 hx).1
    obtain ⟨z, hz⟩ : ∃ z, rs[k + d + 1]? = some z := ⟨_, List.getElem?_eq_getElem (by omega)⟩
    have h1 := ih k z y hy hz
    have h2 := okAt_lt hz (rightB_at h (by omega))
    have h3 := okAt_rise hx hz (rightB_at h hl)
    omega
theorem norm_right {rs : List Rg} (h : rightB rs = true) (ht : topOf rs ≤ 4611686018427387904) : Norm rs := by
  have hpos := rightB_pos h
  have hle : ∀ (k : Nat) (x : Rg), rs[k]? = some x → x.2 ≤ 4611686018427387904 := by
    intro k x hx
    obtain ⟨l, hl⟩ : ∃ l, rs[rs.length - 1]? = some l := ⟨_, List.getElem?_eq_getElem (by omega)⟩
    have htop : topOf rs = l.2 := by unfold topOf; rw [hl]
    have hk := (List.getElem?_eq_some_iff.1 hx).1
    by_cases e : k = rs.length - 1
    · rw [e, hl] at hx
      cases hx
      omega
    · have h1 := right_rise h (rs.length - 1 - k - 1) k l x hx (by rw [show k + (rs.length - 1 - k - 1) + 1 = rs.length - 1 by omega]; exact hl)
      have h2 := okAt_lt hl (rightB_at h (by omega))
      omega
  refine ⟨fun r hr => ?_, ?_⟩
  · obtain ⟨k, hk⟩ := List.mem_iff_getElem?.1 hr
    exact ⟨okAt_lt hk (rightB_at h (List.getElem?_eq_some_iff.1 hk).1), hle k r hk⟩
  · rw [List.pairwise_iff_getElem]
    intro i j hi hj hij
    have := right_rise h (j - i - 1) i rs[j] rs[i] (List.getElem?_eq_getElem hi) (by rw [show i + (j - i - 1) + 1 = j by omega]; exact List.getElem?_eq_getElem hj)
    exact this
set_option maxRecDepth 100000 in
set_option maxHeartbeats 2000000 in
theorem right_any (v : Value) (rs : List Rg) (w : World) {B : Nat} (h : Vw encR w B v rs) (hB : B ≤ w.heap.size) (hl : rs.length ≤ 1000) (hrg : ∀ r ∈ rs, r.1 < 18446744073709551616 ∧ r.2 < 18446744073709551616) :
    Calls Try.prog 20 #[v] w fun e w' => e = .returned (.bool (rightB rs)) ∧ Below w.heap.size w w' := by
  obtain ⟨oa, cap, rfl, hc1, hc2⟩ := h.shape
  have H := Lib.hid h
  have HRG := Lib.hid hrg
  clear h hrg
  generalize hlen : rs.length = len at *
  have HL := Lib.hid hlen
  clear hlen
  go_enter Try.func20, Try.ntmps20
  go_wp2_with fail
  have HB0 := Lib.hid (show Below w.heap.size w w ∧ ∀ j, j < 0 → okAt rs j = true from ⟨Below.refl w.heap.size w, fun j hj => by omega⟩)
  go_loopw [7] (fun i wr => ∃ k : Nat, i = .int .i64 k ∧ k ≤ len ∧ Below w.heap.size w wr ∧ ∀ j, j < k → okAt rs j = true) (fun i _ => len - (intOf i).toNat)
  case atStart => exact ⟨0, rfl, by omega, HB0.out.1, HB0.out.2⟩
  case round =>
    obtain ⟨k, rfl, hk, hb, hok⟩ := hrel
    have HB := Lib.hid hb
    have HOK := Lib.hid hok
    clear hb HB0 hok
    by_cases hlt : k < len
    · obtain ⟨r, hr⟩ : ∃ r, rs[k]? = some r := ⟨_, List.getElem?_eq_getElem (by rw [HL.out]; exact hlt)⟩
      obtain ⟨c, ofc, rfl, hc, q0, q1⟩ := H.out.rng hr
      have hcB : c < w.heap.size := by omega
      have q0 := cell_keep HB.out hcB q0
      have q1 := cell_keep HB.out hcB q1
      have hrb := HRG.out r (List.mem_of_getElem? hr)
      have HR := Lib.hid hr
      have ha := (Below.refl wr.heap.size wr).alloc (Nat.le_refl _) (.cells #[.int .u64 r.1, .int .u64 r.2] 37)
      have HA := Lib.hid (below_call HB.out HB.out.size ha)
      clear ha hr
      by_cases h1 : r.2 ≤ r.1
      · have h1i : (r.2 : Int) ≤ (r.1 : Int) := by omega
        have HE := Lib.hid (show rightB rs = false from rightB_bad (by rw [HL.out]; exact hlt) (okAt_bad HR.out h1))
        go_wp2_with fail
        go_quiet (fail)
        go_wp2_with fail
        go_ret
        exact ⟨fn_end HE.out.symm, below_drewN HA.out _⟩
      have h1i : ¬ (r.2 : Int) ≤ (r.1 : Int) := by omega
      rcases Nat.eq_zero_or_pos k with h0 | h0
      · subst h0
        simp only [Nat.zero_mul, Nat.add_zero] at q0 q1
        have HN := Lib.hid (show ∀ j, j < 1 → okAt rs j = true from fun j hj => by
          obtain rfl : j = 0 := by omega
          exact okAt_zero HR.out (by omega))
        go_wp2_with fail
        go_quiet (fail)
        go_wp2_with fail
        go_roundw
        case rel => exact ⟨1, rfl, by omega, below_drewN HA.out _, HN.out⟩
        case measure => simp [intOf]; omega
      · obtain ⟨j, rfl⟩ : ∃ j, k = j + 1 := ⟨k - 1, by omega⟩
        obtain ⟨r', hr'⟩ : ∃ r', rs[j]? = some r' := ⟨_, List.getElem?_eq_getElem (by rw [HL.out]; omega)⟩
        obtain ⟨c', ofc', e', hc', p0, p1⟩ := H.out.rng hr'
        cases e'
        have p1 := cell_keep HB.out hcB p1
        have HR' := Lib.hid hr'
        have p1a : (wr.alloc (.cells #[.int .u64 r.1, .int .u64 r.2] 37)).cell? ⟨c, ofc + j * 2 + 1, none⟩ = some (.int .u64 r'.2) := by rw [World.cell?_alloc_lt _ _ _ (by have := HB.out.size; exact Nat.lt_of_lt_of_le hcB this)]; exact p1
        clear hr' p0 p1
        by_cases h2 : r.1 ≤ r'.2
        · have h2i : (r.1 : Int) ≤ (r'.2 : Int) := by omega
          have HE := Lib.hid (show rightB rs = false from rightB_bad (by rw [HL.out]; exact hlt) (okAt_bad2 HR.out HR'.out h2))
          go_wp2_with fail
          go_quiet (fail)
          go_wp2_with fail
          go_ret
          exact ⟨fn_end HE.out.symm, below_drewN HA.out _⟩
        · have h2i : ¬ (r.1 : Int) ≤ (r'.2 : Int) := by omega
          have HN := Lib.hid (show ∀ i, i < j + 1 + 1 → okAt rs i = true from fun i hi => by
            by_cases e : i = j + 1
            · rw [e]
              exact okAt_next HR.out HR'.out (by omega) (by omega)
            · exact HOK.out i (by omega))
          go_wp2_with fail
          go_quiet (fail)
          go_wp2_with fail
          go_roundw
          case rel => exact ⟨j + 1 + 1, by go_num, by omega, below_drewN HA.out _, HN.out⟩
          case measure => simp [intOf]; omega
    · obtain rfl : k = len := by omega
      by_cases hk0 : k = 0
      · subst hk0
        have HE := Lib.hid (show rightB rs = false from rightB_nil HL.out)
        go_wp2_with fail
        go_ret
        exact ⟨fn_end HE.out.symm, HB.out⟩
      · have hp' : (0 : Int) < k := by omega
        have HE := Lib.hid (show rightB rs = true from rightB_all (by rw [HL.out]; omega) (by rw [HL.out]; exact HOK.out))
        go_wp2_with fail
        go_ret
        exact ⟨fn_end (by rw [HE.out]; simp; omega), HB.out⟩
end Go.Proofs.Ytacfbgnbjdckiaa

/- DERIVED. Walk of sent's Ack, on any ranges (printed by mksqack.py). -/
namespace Go.Proofs.Ytacfbgnbjdckiaa
open Go.RowKit

theorem tw_all {p : Rg → Bool} : ∀ {xs : List Rg}, (∀ x ∈ xs, p x = true) → xs.takeWhile p = xs
  | [], _ => rfl
  | x :: xs, h => by
    rw [List.takeWhile_cons_of_pos (h x (List.mem_cons_self ..)), tw_all (fun y hy => h y (List.mem_cons_of_mem _ hy))]
theorem add_last {m : Int} {xs : List Rg} {r : Rg} (h : Norm (xs ++ [r])) (hm : ((xs ++ [r]).length : Int) ≤ m) : addL m xs r.1 r.2 = xs ++ [r] := by
  have h1 : ∀ x ∈ xs, x.2 < r.1 := fun x hx => (List.pairwise_append.1 h.2).2.2 x hx r (List.mem_singleton.2 rfl)
  have hi : iOf xs r.1 = xs.length := by
    unfold iOf
    rw [tw_all (fun x hx => by simpa using h1 x hx)]
  have hk : kOf xs xs.length r.2 = xs.length := by
    unfold kOf
    rw [List.drop_length]
    simp
  unfold addL
  rw [trim_all]
  · unfold addRaw
    rw [hi, hk, List.take_length, List.drop_length]
    simp [fuse]
  · unfold addRaw
    rw [hi, hk, List.take_length, List.drop_length]
    simpa [fuse] using hm
theorem norm_take_last {rs : List Rg} (h : Norm rs) {k : Nat} {r : Rg} (hr : rs[k]? = some r) : rs.take (k + 1) = rs.take k ++ [r] := by
  rw [List.take_add_one, hr]
  rfl
/-- While the ranges are put in. -/
structure AckL (w4 wr : World) (d : Nat) (m : Int) (og : Option Nat) (xs : List Rg) : Prop where
  set : SetAt wr d m og xs
  og : ∀ g, og = some g → w4.heap.size ≤ g
  upd : Upd (fun j => j = d) w4 wr
theorem AckL.next {w4 wr W w5 : World} {d : Nat} {m : Int} {og : Option Nat} {xs ys : List Rg} (h : AckL w4 wr d m og xs) (hb : Below wr.heap.size wr W) (t : Turned W d m og ys w5) : ∃ og', AckL w4 w5 d m og' ys := by
  obtain ⟨og', h1, h2, h3⟩ := t
  have hs := h.upd.size
  have hs2 := hb.size
  refine ⟨og', h1, fun g hg => ?_, (h.upd.trans (Upd.below hb) (H := fun j => j = d) (fun _ _ q => q) (fun j hj q => by omega)).trans h3 (fun _ _ q => q) (fun j hj q => ?_)⟩
  · rcases h2 with rfl | rfl | ⟨g', rfl, h4⟩
    · exact h.og g hg
    · cases hg
    · cases hg
      omega
  · rcases q with q | q
    · exact q
    · have := h.og j q
      omega
theorem og_le1 {B n : Nat} {og : Option Nat} (h : ∀ g, og = some g → n ≤ g) (hn : B ≤ n) : ∀ g, og = some g → B ≤ g := fun g e => Nat.le_trans hn (h g e)
set_option maxRecDepth 100000 in
set_option maxHeartbeats 4000000 in
theorem lack_any (b : Nat) (s : LS) (fp : Nat → Prop) (vr : Value) (rs : List Rg) (w : World) {B : Nat} (h : LAt kP w b s fp) (hv : Vw encR w B vr rs) (hB : B ≤ w.heap.size) (hl : rs.length ≤ 1000) (hrg : ∀ r ∈ rs, r.1 < 18446744073709551616 ∧ r.2 < 18446744073709551616) :
    Calls Try.prog 10 #[.pointer (some ⟨b, 0, none⟩), vr] w (AckPost kP b s fp rs w) := by
  obtain ⟨oa, cap, rfl, hc1, hc2⟩ := hv.shape
  have hok := h.ok
  have HOK := Lib.hid hok
  have H := Lib.hid h
  have HV := Lib.hid hv
  have hlt := h.lt
  have HLT := Lib.hid hlt
  obtain ⟨len, hlen⟩ : ∃ len, rs.length = len := ⟨_, rfl⟩
  obtain ⟨nx, hnx⟩ : ∃ nx, s.nx = nx := ⟨_, rfl⟩
  obtain ⟨ak, hak⟩ : ∃ ak, s.ak = ak := ⟨_, rfl⟩
  have hnxb := hok.nx
  have hakb := hok.ak
  have HRG := Lib.hid hrg
  rw [hlen] at hl hc1
  have HLEN := Lib.hid hlen
  have HNX := Lib.hid hnx
  have HAK := Lib.hid hak
  rw [hnx] at hnxb
  rw [hak] at hakb
  have HV2 := Lib.hid (show Vw encR w B (.slice oa len cap) rs from by rw [← hlen]; exact hv)
  rw [hlen]
  clear h hv hok hlt hlen hnx hak HV hrg
  go_enter Try.func10, Try.ntmps10
  go_upto_region 0 with fail
  go_cut [2, 4, 5, 6] (fun v a c e wx => ∃ z, v = .pointer (some ⟨z, 0, none⟩) ∧ w.heap.size ≤ z ∧ Below w.heap.size w wx ∧ wx.heap[z]? = some (.cells #[.pointer (some ⟨b, 0, none⟩)] 24 (0, 0)))
  case first =>
    go_wp2_with fail
    go_meet
    case rel => exact ⟨_, rfl, Nat.le_refl _, (Below.refl _ _).alloc (Nat.le_refl _) _, alloc_at _ _⟩
  case rest =>
    obtain ⟨z, rfl, hz, hb1, hkz⟩ := hcut
    generalize wc = w1 at *
    have HB1 := Lib.hid hb1
    have HKZ := Lib.hid hkz
    clear hb1 hkz
    go_wp2_with fail
    refine (right_any _ rs _ (by exact HV2.out.below (HB1.out.mono hB)) (Nat.le_trans hB HB1.out.size) (by rw [HLEN.out]; exact hl) HRG.out).mono ?_
    rintro e w2 ⟨rfl, hb2⟩
    cases hrt : rightB rs
    case false =>
      have HB2 := Lib.hid (below_call HB1.out HB1.out.size hb2)
      have HE := Lib.hid (show s.ackErr rs = 1 from if_pos hrt)
      clear hb2
      go_wp2_with fail
      go_ret3
      exact ackpost_err H.out HE.out (by decide) HB2.out
    case true =>
    have hp : 0 < len := by have := rightB_pos hrt; rw [HLEN.out] at this; exact this
    obtain ⟨rl, hrl⟩ : ∃ rl, rs[len - 1]? = some rl := ⟨_, List.getElem?_eq_getElem (by rw [HLEN.out]; omega)⟩
    obtain ⟨top, htop⟩ : ∃ top, rl.2 = top := ⟨_, rfl⟩
    have HTOP := Lib.hid (show topOf rs = top from by unfold topOf; rw [HLEN.out, hrl, ← htop])
    have htp : 0 < top := by have := okAt_lt hrl (rightB_at hrt (by rw [HLEN.out]; omega)); omega
    have htb := (HRG.out rl (List.mem_of_getElem? hrl)).2
    have HRT := Lib.hid hrt
    obtain ⟨cr, ofr, rfl, hcr, p0, p1⟩ := HV2.out.rng hrl
    have hcrw : cr < w.heap.size := by omega
    rw [htop] at p1 htb
    clear hrt hrl htop p0
    have HB2 := Lib.hid (below_call HB1.out HB1.out.size hb2)
    have hkz2 := below_keeps hb2 HKZ.out (heap_lt HKZ.out)
    have HL2 := Lib.hid (H.out.below HB2.out)
    have p1 := cell_keep HB2.out hcrw p1
    have x0 := (cell_at hkz2 0).trans (by rfl : _ = some (Value.pointer (some ⟨b, 0, none⟩)))
    have e1 : w2.cell? ⟨b, 1, none⟩ = some (.int .u64 nx) := by rw [HL2.out.cells.1, HNX.out]
    have HKZ2 := Lib.hid hkz2
    have hsub : (len : Int) - 1 = ((len - 1 : Nat) : Int) := by omega
    have hsb : len - 1 < len := by omega
    clear hb2 hkz2
    have HP1 := Lib.hid hp
    by_cases htn2 : nx < top
    · have htn : (nx : Int) < (top : Int) := by omega
      have HE := Lib.hid (show s.ackErr rs = 14 from by
        unfold LS.ackErr
        rw [if_neg (by rw [HRT.out]; decide), HTOP.out, HNX.out, if_pos htn2])
      go_wp2_with fail
      go_ret3
      exact ackpost_err H.out HE.out (by decide) HB2.out
    have htn : ¬ (nx : Int) < (top : Int) := by omega
    have HE := Lib.hid (show s.ackErr rs = 0 from by
      unfold LS.ackErr
      rw [if_neg (by rw [HRT.out]; decide), HTOP.out, HNX.out, if_neg htn2])
    have hle : top ≤ nx := by omega
    have HN := Lib.hid (norm_right HRT.out (by rw [HTOP.out]; omega))
    go_upto_region 6 with fail
    go_cut [7, 8] (fun tv v wx => ∃ y d w3, tv = .int .u64 top ∧ v = .pointer (some ⟨y, 0, none⟩) ∧ w2.heap.size ≤ d ∧ d < w3.heap.size ∧ w3.heap.size ≤ y ∧ SetAt w3 d (mostOf len) none [] ∧ Below w2.heap.size w2 w3 ∧ Below w3.heap.size w3 wx ∧ wx.heap[y]? = some (.cells #[.pointer (some ⟨d, 0, none⟩)] 64 (0, 0)))
    case first =>
      go_wp2_with fail
      refine (snew_any len _).mono ?_
      rintro e w3 ⟨d, rfl, hd, hset, hb3⟩
      have hdlt : d < w3.heap.size := by
        obtain ⟨u, q, _⟩ := hset
        exact heap_lt q
      have HSET := Lib.hid hset
      have HB3 := Lib.hid hb3
      clear hset hb3
      go_wp2_with fail
      go_meet
      case rel => exact ⟨_, d, w3, rfl, rfl, hd, hdlt, Nat.le_refl _, HSET.out, HB3.out, (Below.refl _ _).alloc (Nat.le_refl _) _, alloc_at _ _⟩
    case rest =>
      obtain ⟨y, d, w3, rfl, rfl, hd, hdlt, hy, hset, hb3, hb4, hky⟩ := hcut
      generalize wc = w4 at *
      have hkz3 := below_keeps hb3 HKZ2.out (heap_lt HKZ2.out)
      have hzlt := heap_lt HKZ2.out
      have HB3 := Lib.hid (below_call HB2.out HB2.out.size hb3)
      have HSET := Lib.hid hset
      have HKZ3 := Lib.hid hkz3
      have HZD := Lib.hid (show z ≠ d from by omega)
      clear hb3 hset hkz3 x0 e1 p1 htn htn2 hsub hsb HKZ HB1 HL2
      have HB4 := Lib.hid (below_call HB3.out HB3.out.size hb4)
      have HKZ4 := Lib.hid (below_keeps hb4 HKZ3.out (heap_lt HKZ3.out))
      have HKY := Lib.hid hky
      have HL4 := Lib.hid (H.out.below HB4.out)
      have hw3s := HB3.out.size
      have hw4s := hb4.size
      have HDB := Lib.hid (show ¬ (d < w.heap.size) from by have := HB2.out.size; omega)
      have HYD := Lib.hid (show y ≠ d from by omega)
      have HI0 := Lib.hid (show AckL w4 w4 d (mostOf len) none (rs.take 0) from ⟨HSET.out.below hb4, by simp, Upd.refl _ _⟩)
      clear hb4 hky HKZ3 HB3 HSET
      go_wp2_with fail
      go_loopw [34] (fun i wr => ∃ k : Nat, i = .int .i64 k ∧ k ≤ len ∧ ∃ og, AckL w4 wr d (mostOf len) og (rs.take k)) (fun i _ => len - (intOf i).toNat)
      case atStart => exact ⟨0, rfl, by omega, _, HI0.out⟩
      case round =>
        obtain ⟨k, rfl, hk, og, hi⟩ := hrel
        have HI := Lib.hid hi
        clear hi HI0
        have hkz := HI.out.upd.keeps HKZ4.out (fun e => HZD.out e)
        have hky := HI.out.upd.keeps HKY.out (fun e => HYD.out e)
        have x0 := (cell_at hkz 0).trans (by rfl : _ = some (Value.pointer (some ⟨b, 0, none⟩)))
        have y0 := (cell_at hky 0).trans (by rfl : _ = some (Value.pointer (some ⟨d, 0, none⟩)))
        have HKZ := Lib.hid hkz
        have HKY2 := Lib.hid hky
        clear hkz hky
        by_cases hlt : k < len
        · obtain ⟨r, hr⟩ : ∃ r, rs[k]? = some r := ⟨_, List.getElem?_eq_getElem (by rw [HLEN.out]; exact hlt)⟩
          obtain ⟨c2, of2, e2, hc2', q0, q1⟩ := HV2.out.rng hr
          cases e2
          have hB4 : Below w.heap.size w wr := Upd.belowOf HB4.out HI.out.upd (fun j hj e => HDB.out (by rw [← e]; exact hj))
          have q0 := cell_keep hB4 hcrw q0
          have q1 := cell_keep hB4 hcrw q1
          have hrr := HN.out.at hr
          have ha := (Below.refl wr.heap.size wr).alloc (Nat.le_refl _) (.cells #[.int .u64 r.1, .int .u64 r.2] 37)
          have y0a : (wr.alloc (.cells #[.int .u64 r.1, .int .u64 r.2] 37)).cell? ⟨y, 0, none⟩ = some (.pointer (some ⟨d, 0, none⟩)) := by rw [World.cell?_alloc_lt _ _ _ (heap_lt HKY2.out)]; exact y0
          have HADD := Lib.hid (show (if r.1 < r.2 ∧ r.2 ≤ 4611686018427387904 then addL (mostOf len) (rs.take k) r.1 r.2 else rs.take k) = rs.take (k + 1) from by
            rw [if_pos ⟨hrr.1, hrr.2⟩, norm_take_last HN.out hr]
            refine add_last ?_ ?_
            · rw [← norm_take_last HN.out hr]
              exact HN.out.take _
            · rw [← norm_take_last HN.out hr, List.length_take, HLEN.out]
              unfold mostOf
              split <;> omega)
          have HTK := Lib.hid (show (rs.take k).length ≤ 1000 from by rw [List.length_take, HLEN.out]; omega)
          clear hrr hB4 hr
          go_wp2_with fail
          refine (add_any d (mostOf len) og (rs.take k) r.1 r.2 _ (by exact HI.out.set.below ha) (mostOf_pos _) (by unfold mostOf; split <;> omega) (by have := HTK.out; omega)).mono ?_
          rw [HADD.out]
          rintro e w5 ⟨rfl, ht⟩
          have HI5 := Lib.hid (HI.out.next ha ht)
          clear ht ha q0 q1 x0 y0 y0a HI HKZ HKY2
          go_wp2_with fail
          go_roundw
          case rel => exact ⟨k + 1, by go_num, by omega, HI5.out⟩
          case measure => simp [intOf]; omega
        · obtain rfl : k = len := by omega
          have htk : rs.take k = rs := by rw [← HLEN.out, List.take_length]
          rw [htk] at HI
          obtain ⟨vL, ogL, hL5, hfp⟩ := HL4.out.keeps HI.out.upd (fun j hj e => by have := HLT.out.2 j hj; have := HDB.out; omega)
          have HL5 := Lib.hid hL5
          have HFP := Lib.hid hfp
          have e2 : wr.cell? ⟨b, 2, none⟩ = some (.int .u64 ak) := by rw [cell_at hL5.blk, ← HAK.out]; rfl
          have e3 : wr.cell? ⟨b, 3, none⟩ = some (.bool s.has) := (cell_at hL5.blk 3).trans rfl
          have q2 := free_at hL5.blk 2
          have q3 := free_at hL5.blk 3
          obtain ⟨A, hA⟩ : ∃ A, max ak (top - 1) = A := ⟨_, rfl⟩
          have HA := Lib.hid hA
          obtain ⟨tp, htp1, htp2⟩ : ∃ tp : Nat, (top : Int) - 1 = (tp : Int) ∧ top - 1 = tp := ⟨top - 1, by omega, rfl⟩
          have hAc : (ak < tp ∧ A = tp) ∨ (tp < ak ∧ A = ak) ∨ (ak = tp ∧ A = ak) := by omega
          have htpb : (tp : Int) ≤ 4611686018427387904 := by omega
          have hwt : IntKind.u64.wrap (tp : Int) = tp := IntWalk.u64_in _ (by omega)
          clear htk hL5 hfp hA htp2 hk hlt y0
          go_upto_region 12 with fail
          go_cut [] (fun wx => wx = ((wr.setCell ⟨b, 2, none⟩ (.int .u64 A)).setCell ⟨b, 3, none⟩ (.bool true)).drew)
          case first =>
            rcases hAc with ⟨a1, a2⟩ | ⟨a1, a2⟩ | ⟨a1, a2⟩
            all_goals
              go_wp2_with fail
              refine wp_region_till (S := fun w' => w'.cell? ⟨z, 0, none⟩ = some (.pointer (some ⟨b, 0, none⟩)) ∧ w'.cell? ⟨b, 2, none⟩ = some (.int .u64 ak)) [11, 14] (by kernel_rfl) (by exact ⟨x0, e2⟩) (fun hHeld => ?_)
              refine wpTill_take (i := 0) (oi := ⟨some 45, _, _, _, _, _⟩) (v := ?_) rfl (by kernel_rfl) (fun _ _ _ h => h) (Or.inl ⟨by rfl, ?_⟩) (by exact hHeld) ?_
              rotate_left
              · intro w hSw
                (try dsimp only at hSw)
                go_simp
                try with_reducible rfl
              try simp only [Act.put, List.setIfInBounds_toArray, List.set_cons_zero, List.set_cons_succ]
              refine wpTill_take (i := 2) (oi := ⟨some 47, _, _, _, _, _⟩) (v := ?_) rfl (by kernel_rfl) (fun _ _ _ h => h) (Or.inl ⟨by rfl, ?_⟩) (by exact hHeld) ?_
              rotate_left
              · intro w hSw
                (try dsimp only at hSw)
                go_simp
                try with_reducible rfl
              try simp only [Act.put, List.setIfInBounds_toArray, List.set_cons_zero, List.set_cons_succ]
              refine wpTill_take0 (i := 3) (oi := ⟨some 48, _, _, _, _, _⟩) (v := ?_) rfl (by kernel_rfl) (fun _ _ _ h => h) (Or.inl ⟨by rfl, ?_⟩) (fun _ => hHeld) ?_
              rotate_left
              · intro w hSw
                (try dsimp only at hSw)
                go_simp
                try with_reducible rfl
              try simp only [Act.put, List.setIfInBounds_toArray, List.set_cons_zero, List.set_cons_succ]
              refine wpTill_take0 (i := 4) (oi := ⟨some 49, _, _, _, _, _⟩) (v := ?_) rfl (by kernel_rfl) (fun _ _ _ h => h) (Or.inl ⟨by rfl, ?_⟩) (fun _ => hHeld) ?_
              rotate_left
              · intro w hSw
                (try dsimp only at hSw)
                go_simp
                try with_reducible rfl
              try simp only [Act.put, List.setIfInBounds_toArray, List.set_cons_zero, List.set_cons_succ]
              refine wpTill_take (i := 5) (oi := ⟨some 50, _, _, _, _, _⟩) (v := ?_) rfl (by kernel_rfl) (fun _ _ _ h => h) (Or.inl ⟨by rfl, ?_⟩) (by exact hHeld) ?_
              rotate_left
              · intro w hSw
                (try dsimp only at hSw)
                go_simp
                try with_reducible rfl
              try simp only [Act.put, List.setIfInBounds_toArray, List.set_cons_zero, List.set_cons_succ]
              refine wpTill_take0 (i := 6) (oi := ⟨some 51, _, _, _, _, _⟩) (v := ?_) rfl (by kernel_rfl) (fun _ _ _ h => h) (Or.inl ⟨by rfl, ?_⟩) (fun _ => hHeld) ?_
              rotate_left
              · intro w hSw
                (try dsimp only at hSw)
                go_simp
                try with_reducible rfl
              try simp only [Act.put, List.setIfInBounds_toArray, List.set_cons_zero, List.set_cons_succ]
              refine wpTill_take0 (i := 7) (oi := ⟨some 52, _, _, _, _, _⟩) (v := ?_) rfl (by kernel_rfl) (fun _ _ _ h => h) (Or.inl ⟨by rfl, ?_⟩) (fun _ => hHeld) ?_
              rotate_left
              · intro w hSw
                (try dsimp only at hSw)
                go_simp
                try with_reducible rfl
              try simp only [Act.put, List.setIfInBounds_toArray, List.set_cons_zero, List.set_cons_succ]
              refine wpTill_take0 (i := 8) (oi := ⟨some 53, _, _, _, _, _⟩) (v := ?_) rfl (by kernel_rfl) (fun _ _ _ h => h) (Or.inl ⟨by rfl, ?_⟩) (fun _ => hHeld) ?_
              rotate_left
              · intro w hSw
                (try dsimp only at hSw)
                go_simp
                try with_reducible rfl
              try simp only [Act.put, List.setIfInBounds_toArray, List.set_cons_zero, List.set_cons_succ]
              refine wpTill_take0 (i := 9) (oi := ⟨some 54, _, _, _, _, _⟩) (v := ?_) rfl (by kernel_rfl) (fun _ _ _ h => h) (Or.inl ⟨by rfl, ?_⟩) (fun _ => hHeld) ?_
              rotate_left
              · intro w hSw
                (try dsimp only at hSw)
                go_simp
                try with_reducible rfl
              try simp only [Act.put, List.setIfInBounds_toArray, List.set_cons_zero, List.set_cons_succ]
              refine wpTill_take0 (i := 10) (oi := ⟨some 55, _, _, _, _, _⟩) (v := ?_) rfl (by kernel_rfl) (fun _ _ _ h => h) (Or.inl ⟨by rfl, ?_⟩) (fun _ => hHeld) ?_
              rotate_left
              · intro w hSw
                (try dsimp only at hSw)
                go_simp
                try with_reducible rfl
              try simp only [Act.put, List.setIfInBounds_toArray, List.set_cons_zero, List.set_cons_succ]
              refine wpTill_ready (rs := [1, 11]) (by kernel_rfl) (by simp) ?_
              refine AllTill.cons (o := ⟨some 46, _, _, _, _, _⟩) rfl (fun K hK => ?_) ?_
              · go_simp
                refine hK.out _ _ (by exact hHeld) (fun hHeld => ?_)
                clear hK K
                try simp only [Act.put, List.setIfInBounds_toArray, List.set_cons_zero, List.set_cons_succ]
                refine wpTill_ready (rs := [11]) (by kernel_rfl) (by simp) ?_
                refine AllTill.consD (o := ⟨none, _, _, _, _, _⟩) rfl (by kernel_rfl) (fun K hK => ?_) AllTill.nil
                go_simp
                refine hK.out _ _ ?_
                clear hK K
                try simp only [Act.put, List.setIfInBounds_toArray, List.set_cons_zero, List.set_cons_succ]
                refine wpTill_take0 (i := 12) (oi := ⟨some 56, _, _, _, _, _⟩) (v := ?_) rfl (by kernel_rfl) (fun _ _ _ h => h) (Or.inl ⟨by rfl, ?_⟩) (fun h => Bool.noConfusion (h.symm.trans (show _ = true by kernel_rfl))) ?_
                rotate_left
                · intro w hSw
                  (try dsimp only at hSw)
                  go_simp
                  try with_reducible rfl
                try simp only [Act.put, List.setIfInBounds_toArray, List.set_cons_zero, List.set_cons_succ]
                refine wpTill_take0 (i := 13) (oi := ⟨some 57, _, _, _, _, _⟩) (v := ?_) rfl (by kernel_rfl) (fun _ _ _ h => h) (Or.inl ⟨by rfl, ?_⟩) (fun h => Bool.noConfusion (h.symm.trans (show _ = true by kernel_rfl))) ?_
                rotate_left
                · intro w hSw
                  (try dsimp only at hSw)
                  go_simp
                  try with_reducible rfl
                try simp only [Act.put, List.setIfInBounds_toArray, List.set_cons_zero, List.set_cons_succ]
                refine wpTill_ready (rs := [14]) (by kernel_rfl) (by simp) ?_
                refine AllTill.consD (o := ⟨none, _, _, _, _, _⟩) rfl (by kernel_rfl) (fun K hK => ?_) AllTill.nil
                go_simp
                refine hK.out _ _ ?_
                clear hK K
                try simp only [Act.put, List.setIfInBounds_toArray, List.set_cons_zero, List.set_cons_succ]
                refine wpTill_done (by kernel_rfl) ?_ _
                go_wp2_with fail
                go_meet
                case rel => first | rfl | (rw [a2]; done) | (rw [a2]; rfl) | (rw [a2, a1]; done) | (rw [a2, a1]; rfl)
              refine AllTill.consD (o := ⟨none, _, _, _, _, _⟩) rfl (by kernel_rfl) (fun K hK => ?_) ?_
              · go_simp
                refine hK.out _ _ ?_
                clear hK K
                try simp only [Act.put, List.setIfInBounds_toArray, List.set_cons_zero, List.set_cons_succ]
                refine wpTill_ready (rs := [1]) (by kernel_rfl) (by simp) ?_
                refine AllTill.consD (o := ⟨some 46, _, _, _, _, _⟩) rfl (by kernel_rfl) (fun K hK => ?_) AllTill.nil
                go_simp
                refine hK.out _ _ ?_
                clear hK K
                try simp only [Act.put, List.setIfInBounds_toArray, List.set_cons_zero, List.set_cons_succ]
                refine wpTill_take0 (i := 12) (oi := ⟨some 56, _, _, _, _, _⟩) (v := ?_) rfl (by kernel_rfl) (fun _ _ _ h => h) (Or.inl ⟨by rfl, ?_⟩) (fun h => Bool.noConfusion (h.symm.trans (show _ = true by kernel_rfl))) ?_
                rotate_left
                · intro w hSw
                  (try dsimp only at hSw)
                  go_simp
                  try with_reducible rfl
                try simp only [Act.put, List.setIfInBounds_toArray, List.set_cons_zero, List.set_cons_succ]
                refine wpTill_take0 (i := 13) (oi := ⟨some 57, _, _, _, _, _⟩) (v := ?_) rfl (by kernel_rfl) (fun _ _ _ h => h) (Or.inl ⟨by rfl, ?_⟩) (fun h => Bool.noConfusion (h.symm.trans (show _ = true by kernel_rfl))) ?_
                rotate_left
                · intro w hSw
                  (try dsimp only at hSw)
                  go_simp
                  try with_reducible rfl
                try simp only [Act.put, List.setIfInBounds_toArray, List.set_cons_zero, List.set_cons_succ]
                refine wpTill_ready (rs := [14]) (by kernel_rfl) (by simp) ?_
                refine AllTill.consD (o := ⟨none, _, _, _, _, _⟩) rfl (by kernel_rfl) (fun K hK => ?_) AllTill.nil
                go_simp
                refine hK.out _ _ ?_
                clear hK K
                try simp only [Act.put, List.setIfInBounds_toArray, List.set_cons_zero, List.set_cons_succ]
                refine wpTill_done (by kernel_rfl) ?_ _
                go_wp2_with fail
                go_meet
                case rel => first | rfl | (rw [a2]; done) | (rw [a2]; rfl) | (rw [a2, a1]; done) | (rw [a2, a1]; rfl)
              exact AllTill.nil
          case rest =>
            have hu5 : Upd (fun j => j = b) wr wc := by
              rw [hcut]
              exact (((Upd.refl (fun j => j = b) wr).setCell ⟨b, 2, none⟩ (.inl rfl) (.int .u64 A)).setCell ⟨b, 3, none⟩ (.inl rfl) (.bool true)).drew
            have hbw := HLT.out.2 b HLT.out.1
            have hz5 := hu5.keeps HKZ.out (by omega)
            have hy5 := hu5.keeps HKY2.out (by have := HYD.out; omega)
            have hAb : A ≤ 4611686018427387904 := by have := HA.out; omega
            have hl5 : LAt kP wc b ⟨s.L, s.nx, A, true⟩ fp := by
              refine ⟨vL, ogL, ⟨?_, HL5.out.row.keeps hu5 (fun g e q => HL5.out.apart (by rw [e, q])), fun k p hp => (HL5.out.fr k p hp).keeps hu5 (fun g e q => (HL5.out.fr k p hp).ne HL5.out.blk (by decide) (by rw [e, q])), .inl rfl, ⟨HOK.out.len, HOK.out.nx, hAb, HOK.out.num, HOK.out.z, HOK.out.t, HOK.out.ask, HOK.out.srt⟩⟩, HFP.out⟩
              rw [hcut]
              exact set_at (set_at HL5.out.blk 2 (.int .u64 A)) 3 (.bool true)
            have hs5 := HI.out.set.keeps hu5 (by have := HDB.out; omega) (fun g e q => by have := HI.out.og g e; omega)
            have huw : Upd (fun j => j = b) w wc := (((Upd.below HB4.out).mono (fun j hj x => by omega) : Upd (fun j => j = b) w w4).trans HI.out.upd (H := fun j => j = b) (fun _ _ q => q) (fun j hj q => by have := HDB.out; omega)).then hu5
            have HUW := Lib.hid huw
            have HZ5 := Lib.hid hz5
            have HY5 := Lib.hid hy5
            have HL6 := Lib.hid hl5
            have HS5 := Lib.hid hs5
            have x5 := (cell_at hz5 0).trans (by rfl : _ = some (Value.pointer (some ⟨b, 0, none⟩)))
            have HZB := Lib.hid (show z ≠ b from by omega)
            have HBW := Lib.hid hbw
            clear hcut hu5 hz5 hy5 hl5 hs5 huw e2 e3 q2 q3 hAc hwt htp1 htpb x0 hbw
            generalize wc = w5 at *
            go_wp2_with fail
            refine (part_any b ⟨s.L, s.nx, A, true⟩ fp (fun p => rs.any (hasP p.n)) 24 (.pointer (some ⟨y, 0, none⟩)) _ (by exact HL6.out) (fun args W => rfl) (fun p _ W hW => by
              exact ack1_fn y d og (mostOf _) rs p W ((cell_at (below_keeps hW HY5.out (heap_lt HY5.out)) 0).trans rfl) (HS5.out.below hW))).mono ?_
            rintro e w6 ⟨v1, o1, rfl, hs1, hg1, ⟨fp6, hl6, hf6⟩, hu6⟩
            have HS1 := Lib.hid hs1
            have HG1 := Lib.hid (og_le1 hg1 HUW.out.size)
            have HL7 := Lib.hid hl6
            have HF6 := Lib.hid hf6
            have HU6 := Lib.hid (HUW.out.then hu6)
            have hz6 := hu6.keeps HZ5.out (HZB.out)
            have HZ6 := Lib.hid hz6
            have x6 := (cell_at hz6 0).trans (by rfl : _ = some (Value.pointer (some ⟨b, 0, none⟩)))
            clear hs1 hg1 hl6 hf6 hu6 hz6 x5 HS5 HY5
            go_wp2_with fail
            refine (part_any b _ fp6 (fun p => decide (p.n + 3 ≤ A)) 26 (.pointer (some ⟨z, 0, none⟩)) _ (by exact HL7.out) (fun args W => rfl) (fun p hp W hW => by
              refine ack2_fn z b A p W ((cell_at (below_keeps hW HZ6.out (heap_lt HZ6.out)) 0).trans rfl) ((HL7.out.below hW).cells.2.1) ?_
              have h1 := HOK.out.num p (List.mem_filter.1 hp).1
              have h2 := HOK.out.nx
              omega)).mono ?_
            rintro e w7 ⟨v2, o2, rfl, hs2, hg2, ⟨fp7, hl7, hf7⟩, hu7⟩
            have HS2 := Lib.hid hs2
            have HG2 := Lib.hid (og_le1 hg2 HU6.out.size)
            have HS17 := Lib.hid (HS1.out.keeps hu7 (fun g e q => by
              have := HG1.out g e
              have := HBW.out
              omega))
            have hAT : s.top rs = A := by unfold LS.top; rw [HTOP.out, HAK.out, HA.out]
            have hleft : s.left rs = (s.L.filter fun p => !rs.any (hasP p.n)).filter fun p => !decide (p.n + 3 ≤ A) := by
              unfold LS.left
              rw [hAT, List.filter_filter]
              exact List.filter_congr (fun p _ => Bool.and_comm _ _)
            have hlost : s.lost rs = (s.L.filter fun p => !rs.any (hasP p.n)).filter fun p => decide (p.n + 3 ≤ A) := by
              unfold LS.lost
              rw [hAT, List.filter_filter]
              exact List.filter_congr (fun p _ => Bool.and_comm _ _)
            have HFIN := Lib.hid (show LM kP w w7 fp b (s.acks rs) from by
              refine ⟨fp7, ?_, (HU6.out.then hu7).mono (fun j hj q => by rw [q]; exact HLT.out.1), fun g hg => ?_⟩
              · unfold LS.acks
                rw [hAT, hleft]
                exact hl7
              · rcases hf7 g hg with q | q
                · rcases HF6.out g q with q | q
                  · exact .inl q
                  · right
                    have := HUW.out.size
                    omega
                · right
                  have := HU6.out.size
                  omega)
            clear hs2 hg2 hl7 hf7 hu7 x6
            go_wp2_with fail
            go_ret3
            refine ⟨v1, o1, v2, o2, by rw [HE.out]; rfl, ?_, ?_, HG1.out, HG2.out, ?_⟩
            · rw [if_pos HE.out]
              exact HS17.out
            · rw [if_pos HE.out, hlost]
              exact HS2.out
            · rw [if_pos HE.out]
              exact HFIN.out
end Go.Proofs.Ytacfbgnbjdckiaa

/- DERIVED. Walks of sent's Flight, Oldest, Last (printed by mksqrd.py). -/
namespace Go.Proofs.Ytacfbgnbjdckiaa
open Go.RowKit

set_option maxRecDepth 100000 in
set_option maxHeartbeats 1000000 in
theorem lflight_any (b : Nat) (s : LS) (fp : Nat → Prop) (w : World) (h : LAt kP w b s fp) : Calls Try.prog 13 #[.pointer (some ⟨b, 0, none⟩)] w fun e w' => e = .returned (.int .i64 (sumZ s.L)) ∧ Below w.heap.size w w' := by
  obtain ⟨vL, og, hL, _⟩ := h
  obtain ⟨oa, cap, rfl, hc1, hc2⟩ := hL.row.shape
  have c0 : w.cell? ⟨b, 0, none⟩ = some (.slice oa s.L.length cap) := (cell_at hL.blk 0).trans rfl
  have HV := Lib.hid hL.row.vw
  have HOK := Lib.hid hL.ok
  have hl := hL.ok.len
  clear hL
  generalize hlen : s.L.length = len at *
  have HLEN := Lib.hid hlen
  have HS0 := Lib.hid (show Below w.heap.size w w ∧ (0 : Int) = sumZ (s.L.take 0) from ⟨Below.refl _ _, rfl⟩)
  clear hlen
  go_enter Try.func13, Try.ntmps13
  go_wp2_with fail
  go_loopw [3, 11] (fun n i wr => ∃ k : Nat, i = .int .i64 k ∧ k ≤ len ∧ n = .int .i64 (sumZ (s.L.take k)) ∧ Below w.heap.size w wr) (fun _ i _ => len - (intOf i).toNat)
  case atStart => exact ⟨0, rfl, by omega, by rw [← HS0.out.2], HS0.out.1⟩
  case round =>
    obtain ⟨k, rfl, hk, rfl, hb⟩ := hrel
    have HB := Lib.hid hb
    clear hb HS0
    by_cases hlt : k < len
    · obtain ⟨p, hp⟩ : ∃ p, s.L[k]? = some p := ⟨_, List.getElem?_eq_getElem (by rw [HLEN.out]; exact hlt)⟩
      obtain ⟨c, ofc, rfl, hc, q0, q1, q2, q3, q4⟩ := HV.out.pkt hp
      have q0 := cell_keep HB.out hc q0
      have q1 := cell_keep HB.out hc q1
      have q2 := cell_keep HB.out hc q2
      have q3 := cell_keep HB.out hc q3
      have q4 := cell_keep HB.out hc q4
      have hzp := HOK.out.z p (List.mem_of_getElem? hp)
      have hsn : sumZ (s.L.take (k + 1)) = sumZ (s.L.take k) + p.z := by
        rw [List.take_add_one, hp]
        exact sumZ_snoc _ _
      have hsb := sumZ_le (L := s.L.take k) (fun q hq => HOK.out.z q (List.mem_of_mem_take hq))
      have htl : (s.L.take k).length ≤ 64 := by rw [List.length_take, HLEN.out]; omega
      have HSN := Lib.hid hsn
      generalize sumZ (s.L.take k) = sk at *
      obtain ⟨hs1, hs2⟩ := hsb
      have hs3 : sk ≤ 40000 := by omega
      clear hp hs2 htl hsn
      go_wp2_with fail
      go_roundw
      case rel => exact ⟨k + 1, by go_num, by omega, by rw [HSN.out], HB.out.alloc HB.out.size _⟩
      case measure => simp [intOf]; omega
    · obtain rfl : k = len := by omega
      have htk : s.L.take k = s.L := by rw [← HLEN.out, List.take_length]
      have HTK := Lib.hid htk
      clear htk
      go_wp2_with fail
      go_ret
      refine ⟨?_, HB.out⟩
      rw [HTK.out]
      first | rfl | trivial
set_option maxRecDepth 100000 in
set_option maxHeartbeats 1000000 in
theorem llast_some (b : Nat) (s : LS) (fp : Nat → Prop) (p : Pk) (w : World) (h : LAt kP w b s fp) (hp : s.L[s.L.length - 1]? = some p) : Calls Try.prog 17 #[.pointer (some ⟨b, 0, none⟩)] w fun e w' => e = .returned (.tuple #[.int .i64 p.t, .bool true]) ∧ Below w.heap.size w w' := by
  obtain ⟨vL, og, hL, _⟩ := h
  obtain ⟨oa, cap, rfl, hc1, hc2⟩ := hL.row.shape
  have c0 : w.cell? ⟨b, 0, none⟩ = some (.slice oa s.L.length cap) := (cell_at hL.blk 0).trans rfl
  obtain ⟨c, ofc, rfl, hc, _, q1, _, _, _⟩ := hL.row.vw.pkt hp
  have hpos : 0 < s.L.length := by have := (List.getElem?_eq_some_iff.1 hp).1; omega
  have hl := hL.ok.len
  clear hL hp
  generalize s.L.length = len at *
  have hsub : (len : Int) - 1 = ((len - 1 : Nat) : Int) := by omega
  have hsb : len - 1 < len := by omega
  have hn0 : ¬ len = 0 := by omega
  go_enter Try.func17, Try.ntmps17
  go_wp2_with fail
  go_quiet (fail)
  go_wp2_with fail
  go_ret2
  exact ⟨rfl, below_drewN (Below.refl _ _) _⟩
set_option maxRecDepth 100000 in
set_option maxHeartbeats 1000000 in
theorem llast_none (b : Nat) (s : LS) (fp : Nat → Prop) (w : World) (h : LAt kP w b s fp) (hp : s.L = []) : Calls Try.prog 17 #[.pointer (some ⟨b, 0, none⟩)] w fun e w' => e = .returned (.tuple #[.int .i64 0, .bool false]) ∧ Below w.heap.size w w' := by
  obtain ⟨vL, og, hL, _⟩ := h
  obtain ⟨oa, cap, rfl, hc1, hc2⟩ := hL.row.shape
  have c0 : w.cell? ⟨b, 0, none⟩ = some (.slice oa 0 cap) := by rw [cell_at hL.blk, hp]; rfl
  clear hL
  go_enter Try.func17, Try.ntmps17
  go_wp2_with fail
  go_ret2
  exact ⟨rfl, Below.refl _ _⟩
set_option maxRecDepth 100000 in
set_option maxHeartbeats 1000000 in
theorem lold_some (b : Nat) (s : LS) (fp : Nat → Prop) (p : Pk) (w : World) (h : LAt kP w b s fp) (hp : s.L[0]? = some p) : Calls Try.prog 16 #[.pointer (some ⟨b, 0, none⟩)] w fun e w' => ∃ q, e = .returned (.tuple #[.agg (encQ q).toArray, .bool true]) ∧ PkC w.heap.size w' p q ∧ Below w.heap.size w w' := by
  obtain ⟨vL, og, hL, _⟩ := h
  obtain ⟨oa, cap, rfl, hc1, hc2⟩ := hL.row.shape
  have HBLK := Lib.hid hL.blk
  have HFR := Lib.hid (hL.fr rfl p (List.mem_of_getElem? hp))
  obtain ⟨c, ofc, rfl, hc, q0, q1, q2, q3, q4⟩ := hL.row.vw.pkt hp
  simp only [Nat.zero_mul, Nat.add_zero] at q0 q1 q2 q3 q4
  have hpos : 0 < s.L.length := by have := (List.getElem?_eq_some_iff.1 hp).1; omega
  have hl := hL.ok.len
  clear hL hp
  have HC := Lib.hid (show ∀ W, Below w.heap.size w W → W.cell? ⟨b, 0, none⟩ = some (.slice (some ⟨c, ofc, none⟩) s.L.length cap) from fun W hb => (cell_at (below_keeps hb HBLK.out (heap_lt HBLK.out)) 0).trans rfl)
  clear HBLK
  generalize s.L.length = len at *
  have hn0 : ¬ len = 0 := by omega
  simp only [encQ]
  go_enter Try.func16, Try.ntmps16
  go_upto_region 0 with fail
  go_cut [2] (fun v wx => ∃ y, v = .pointer (some ⟨y, 0, none⟩) ∧ w.heap.size ≤ y ∧ Below w.heap.size w wx ∧ wx.heap[y]? = some (.cells #[.int .u64 0, .int .i64 0, .int .i64 0, .bool false, .slice none 0 0] 32 (0, 0)))
  case first =>
    go_wp2_with fail
    go_meet
    case rel => exact ⟨_, rfl, Nat.le_refl _, (Below.refl _ _).alloc (Nat.le_refl _) _, alloc_at _ _⟩
  case rest =>
    obtain ⟨y, rfl, hy, hb, hky⟩ := hcut
    generalize wc = w1 at *
    have c0 := HC.out _ hb
    have q0 := cell_keep hb hc q0
    have q1 := cell_keep hb hc q1
    have q2 := cell_keep hb hc q2
    have q3 := cell_keep hb hc q3
    have q4 := cell_keep hb hc q4
    have HB := Lib.hid hb
    have HKY := Lib.hid hky
    clear hb hky
    go_wp2_with fail
    have hpw := HFR.out.below HB.out
    refine (copied_any p _ hpw).mono ?_
    clear hpw
    rintro e w2 ⟨q, rfl, hpc, hb2⟩
    have HPC := Lib.hid hpc
    clear hpc
    have hky := below_keeps hb2 HKY.out (heap_lt HKY.out)
    have y0 := (cell_at hky 0).trans (by rfl : _ = some (Value.int .u64 0))
    have y1 := (cell_at hky 1).trans (by rfl : _ = some (Value.int .i64 0))
    have y2 := (cell_at hky 2).trans (by rfl : _ = some (Value.int .i64 0))
    have y3 := (cell_at hky 3).trans (by rfl : _ = some (Value.bool false))
    have y4 := (cell_at hky 4).trans (by rfl : _ = some (Value.slice none 0 0))
    have g0 := free_at hky 0
    have g1 := free_at hky 1
    have g2 := free_at hky 2
    have g3 := free_at hky 3
    have g4 := free_at hky 4
    have HB2 := Lib.hid (below_call HB.out HB.out.size hb2)
    clear hb2 hky q0 q1 q2 q3 q4 c0
    simp only [encQ]
    go_wp2_with fail
    (try simp only [Exit.inBlock, Exit.then])
    refine bodyPost_ret (v := .tuple #[.agg #[.int .u64 q.n, .int .i64 q.t, .int .i64 q.z, .bool q.a, .slice q.fa q.fl q.fc], .bool true]) ?_ rfl ⟨q, rfl, ?_, ?_⟩
    · rw [results_cell_tmp rfl]
      go_simp
    · have hu := (((((Upd.refl (fun k => k = y) w2).setCell ⟨y, 0, none⟩ (.inl rfl) (.int .u64 q.n)).setCell ⟨y, 1, none⟩ (.inl rfl) (.int .i64 q.t)).setCell ⟨y, 2, none⟩ (.inl rfl) (.int .i64 q.z)).setCell ⟨y, 3, none⟩ (.inl rfl) (.bool q.a)).setCell ⟨y, 4, none⟩ (.inl rfl) (.slice q.fa q.fl q.fc)
      have hp := HPC.out
      exact ⟨hp.n, hp.t, hp.z, hp.a, hp.fl, hp.fr.keeps hu (fun g e x => by have h1 := hp.new g e; have h2 := heap_lt HKY.out; omega), fun g e => Nat.le_trans HB.out.size (hp.new g e)⟩
    · exact ((((HB2.out.setCell (p := ⟨y, 0, none⟩) hy _).setCell (p := ⟨y, 1, none⟩) hy _).setCell (p := ⟨y, 2, none⟩) hy _).setCell (p := ⟨y, 3, none⟩) hy _).setCell (p := ⟨y, 4, none⟩) hy _
set_option maxRecDepth 100000 in
set_option maxHeartbeats 1000000 in
theorem lold_none (b : Nat) (s : LS) (fp : Nat → Prop) (w : World) (h : LAt kP w b s fp) (hp : s.L = []) : Calls Try.prog 16 #[.pointer (some ⟨b, 0, none⟩)] w fun e w' => e = .returned (.tuple #[.agg #[.int .u64 0, .int .i64 0, .int .i64 0, .bool false, .slice none 0 0], .bool false]) ∧ Below w.heap.size w w' := by
  obtain ⟨vL, og, hL, _⟩ := h
  obtain ⟨oa, cap, rfl, hc1, hc2⟩ := hL.row.shape
  have HBLK := Lib.hid hL.blk
  have HC := Lib.hid (show ∀ W, Below w.heap.size w W → W.cell? ⟨b, 0, none⟩ = some (.slice oa 0 cap) from fun W hb => by rw [cell_at (below_keeps hb HBLK.out (heap_lt HBLK.out)), hp]; rfl)
  clear hL HBLK
  go_enter Try.func16, Try.ntmps16
  go_upto_region 0 with fail
  go_cut [2] (fun v wx => ∃ y, v = .pointer (some ⟨y, 0, none⟩) ∧ w.heap.size ≤ y ∧ Below w.heap.size w wx ∧ wx.heap[y]? = some (.cells #[.int .u64 0, .int .i64 0, .int .i64 0, .bool false, .slice none 0 0] 32 (0, 0)))
  case first =>
    go_wp2_with fail
    go_meet
    case rel => exact ⟨_, rfl, Nat.le_refl _, (Below.refl _ _).alloc (Nat.le_refl _) _, alloc_at _ _⟩
  case rest =>
    obtain ⟨y, rfl, hy, hb, hky⟩ := hcut
    generalize wc = w1 at *
    have c0 := HC.out _ hb
    have y0 := (cell_at hky 0).trans (by rfl : _ = some (Value.int .u64 0))
    have y1 := (cell_at hky 1).trans (by rfl : _ = some (Value.int .i64 0))
    have y2 := (cell_at hky 2).trans (by rfl : _ = some (Value.int .i64 0))
    have y3 := (cell_at hky 3).trans (by rfl : _ = some (Value.bool false))
    have y4 := (cell_at hky 4).trans (by rfl : _ = some (Value.slice none 0 0))
    have g0 := free_at hky 0
    have g1 := free_at hky 1
    have g2 := free_at hky 2
    have g3 := free_at hky 3
    have g4 := free_at hky 4
    have HB2 := Lib.hid hb
    clear hb hky
    go_wp2_with fail
    (try simp only [Exit.inBlock, Exit.then])
    refine bodyPost_ret (v := .tuple #[.agg #[.int .u64 0, .int .i64 0, .int .i64 0, .bool false, .slice none 0 0], .bool false]) ?_ rfl ⟨rfl, ?_⟩
    · rw [results_cell_tmp rfl]
      go_simp
    · exact ((((HB2.out.setCell (p := ⟨y, 0, none⟩) hy _).setCell (p := ⟨y, 1, none⟩) hy _).setCell (p := ⟨y, 2, none⟩) hy _).setCell (p := ⟨y, 3, none⟩) hy _).setCell (p := ⟨y, 4, none⟩) hy _
end Go.Proofs.Ytacfbgnbjdckiaa

/- DERIVED. Walks of sent's Take, and the document's (printed by mksqtake.py). -/
namespace Go.Proofs.Ytacfbgnbjdckiaa
open Go.RowKit

def LS.takeP (s : LS) (n : Nat) : Option Pk := s.L.find? fun p => decide (p.n = n)
def LS.takeS (s : LS) (n : Nat) : LS := { s with L := s.L.filter fun p => !decide (p.n = n) }
theorem take_none {s : LS} {n : Nat} (h : s.takeP n = none) : s.L.filter (fun p => decide (p.n = n)) = [] := by
  unfold LS.takeP at h
  rw [List.find?_eq_none] at h
  rw [List.filter_eq_nil_iff]
  exact h
theorem take_some {s : LS} {n : Nat} {p : Pk} (h : s.takeP n = some p) : (s.L.filter fun p => decide (p.n = n))[0]? = some p := by
  unfold LS.takeP at h
  rw [← List.head?_filter, List.head?_eq_getElem?] at h
  exact h
def TakePost (K : TypeId × Bool) (b : Nat) (s : LS) (fp : Nat → Prop) (n : Nat) (w : World) (e : Ending) (w' : World) : Prop :=
  e = .returned (.tuple #[.agg (encQ ((s.takeP n).getD ⟨0, 0, 0, false, none, 0, 0⟩)).toArray, .bool (s.takeP n).isSome]) ∧ LM K w w' fp b (s.takeS n)
set_option maxRecDepth 100000 in
set_option maxHeartbeats 2000000 in
theorem ltake_any (b : Nat) (s : LS) (fp : Nat → Prop) (n : Nat) (w : World) (h : LAt kP w b s fp) :
    Calls Try.prog 31 #[.pointer (some ⟨b, 0, none⟩), .int .u64 n] w (TakePost kP b s fp n w) := by
  have H := Lib.hid h
  clear h
  go_enter Try.func31, Try.ntmps31
  go_upto_region 0 with fail
  go_cut [3, 4, 5] (fun v x f wx => ∃ z y, v = .pointer (some ⟨z, 0, none⟩) ∧ x = .pointer (some ⟨y, 0, none⟩) ∧ f = .bool false ∧ z ≠ y ∧ w.heap.size ≤ z ∧ w.heap.size ≤ y ∧ Below w.heap.size w wx ∧ wx.heap[z]? = some (.cells #[.int .u64 n] 29 (0, 0)) ∧ wx.heap[y]? = some (.cells #[.int .u64 0, .int .i64 0, .int .i64 0, .bool false, .slice none 0 0] 32 (0, 0)))
  case first =>
    go_wp2_with fail
    go_meet
    case rel =>
      refine ⟨_, _, rfl, rfl, rfl, ?_, Nat.le_refl _, ?_, ((Below.refl _ _).alloc (Nat.le_refl _) _).alloc (by simp) _, alloc_old (alloc_at _ _), ?_⟩
      · simp
      · simp
      · have := alloc_at (w.alloc (.cells #[.int .u64 n] 29)) (.cells #[.int .u64 0, .int .i64 0, .int .i64 0, .bool false, .slice none 0 0] 32)
        simpa using this
  case rest =>
    obtain ⟨z, y, rfl, rfl, rfl, hzy, hz, hy, hb, hkz, hky⟩ := hcut
    generalize wc = w1 at *
    have H1 := Lib.hid (H.out.below hb)
    have HB := Lib.hid hb
    have HKZ := Lib.hid hkz
    have HKY := Lib.hid hky
    clear hb hkz hky
    go_wp2_with fail
    refine (part_any b s fp (fun p => decide (p.n = n)) 42 (.pointer (some ⟨z, 0, none⟩)) _ (by exact H1.out) (fun args W => rfl) (fun p _ W hW => by
      exact take_fn z n p W ((cell_at (below_keeps hW HKZ.out (heap_lt HKZ.out)) 0).trans rfl))).mono ?_
    rintro e w2 ⟨v, o, rfl, hs, ho, ⟨fp2, hl2, hf2⟩, hu2⟩
    have hbw := H.out.lt.2 b H.out.lt.1
    have hky2 := hu2.keeps HKY.out (show ¬ y = b by omega)
    have HX := Lib.hid (show Upd (fun j => j = b) w w2 from ((Upd.below HB.out).mono (fun j hj x => by omega) : Upd (fun j => j = b) w w1).then hu2)
    have HKY2 := Lib.hid hky2
    obtain ⟨ov, cv, rfl, hcv1, hcv2⟩ := hs.shape
    have HV := Lib.hid hs.vw
    have hfl : (s.L.filter fun p => decide (p.n = n)).length ≤ 64 := Nat.le_trans (List.length_filter_le _ _) H.out.ok.len
    have HLM := Lib.hid (show ∀ W, Upd (fun j => j = y) w2 W → LM kP w W fp b (s.takeS n) from fun W hW => by
      refine ⟨fp2, LAt.keeps (F := fun j => j = y) hl2 hW (fun k hk e => ?_), (HX.out.mono (fun j hj q => by rw [q]; exact H.out.lt.1) : Upd fp w w2).trans hW (H := fp) (fun _ _ q => q) (fun j hj q => by omega), fun g hg => ?_⟩
      · rcases hf2 k hk with q | q
        · have := H.out.lt.2 k q
          omega
        · have := heap_lt HKY.out
          omega
      · rcases hf2 g hg with q | q
        · exact .inl q
        · right
          have := HB.out.size
          omega)
    have hky0 := HKY2.out
    have y0 := (cell_at hky0 0).trans (by rfl : _ = some (Value.int .u64 0))
    have yf0 := free_at hky0 0
    have y1 := (cell_at hky0 1).trans (by rfl : _ = some (Value.int .i64 0))
    have yf1 := free_at hky0 1
    have y2 := (cell_at hky0 2).trans (by rfl : _ = some (Value.int .i64 0))
    have yf2 := free_at hky0 2
    have y3 := (cell_at hky0 3).trans (by rfl : _ = some (Value.bool false))
    have yf3 := free_at hky0 3
    have y4 := (cell_at hky0 4).trans (by rfl : _ = some (Value.slice none 0 0))
    have yf4 := free_at hky0 4
    clear hky0 hky2 hs ho hl2 hf2 hu2
    cases htk : s.takeP n
    · have hnil := take_none htk
      rw [hnil] at hcv1 ⊢
      have HTK := Lib.hid htk
      clear hnil HV htk
      go_wp2_with fail
      go_loopw [12] (fun i wr => i = .int .i64 0 ∧ wr = w2) (fun _ _ => 0)
      case atStart => exact ⟨rfl, rfl⟩
      case round =>
        obtain ⟨rfl, rfl⟩ := hrel
        go_wp2_with fail
        (try simp only [Exit.inBlock, Exit.then])
        refine bodyPost_ret (v := .tuple #[.agg #[.int .u64 0, .int .i64 0, .int .i64 0, .bool false, .slice none 0 0], .bool false]) ?_ rfl ⟨by rw [HTK.out]; rfl, HLM.out _ ?_⟩
        · rw [results_cell_tmp rfl]
          go_simp
        · exact ((((((Upd.refl (fun k => k = y) _).setCell ⟨y, 0, none⟩ (.inl rfl) _).setCell ⟨y, 1, none⟩ (.inl rfl) _).setCell ⟨y, 2, none⟩ (.inl rfl) _).setCell ⟨y, 3, none⟩ (.inl rfl) _).setCell ⟨y, 4, none⟩ (.inl rfl) _)
    · rename_i p
      have h0 := take_some htk
      have hpos : 0 < (s.L.filter fun p => decide (p.n = n)).length := (List.getElem?_eq_some_iff.1 h0).1
      obtain ⟨c, ofc, rfl, hc, q0, q1, q2, q3, q4⟩ := HV.out.pkt h0
      simp only [Nat.zero_mul, Nat.add_zero] at q0 q1 q2 q3 q4
      have HTK := Lib.hid htk
      clear h0 htk
      generalize hll : (s.L.filter fun p => decide (p.n = n)).length = ll at *
      clear HV
      go_wp2_with fail
      go_loopw [12] (fun i wr => i = .int .i64 0 ∧ wr = w2) (fun _ _ => 0)
      case atStart => exact ⟨rfl, rfl⟩
      case round =>
        obtain ⟨rfl, rfl⟩ := hrel
        have hpi : (0 : Int) < (ll : Int) := by omega
        have hylt := heap_lt HKY2.out
        have hky3 : (wr.alloc (.cells #[.int .u64 p.n, .int .i64 p.t, .int .i64 p.z, .bool p.a, .slice p.fa p.fl p.fc] 32)).heap[y]? = _ := alloc_old HKY2.out
        have x0 := (cell_at hky3 0).trans (by rfl : _ = some (Value.int .u64 0))
        have xf0 := free_at hky3 0
        have x1 := (cell_at hky3 1).trans (by rfl : _ = some (Value.int .i64 0))
        have xf1 := free_at hky3 1
        have x2 := (cell_at hky3 2).trans (by rfl : _ = some (Value.int .i64 0))
        have xf2 := free_at hky3 2
        have x3 := (cell_at hky3 3).trans (by rfl : _ = some (Value.bool false))
        have xf3 := free_at hky3 3
        have x4 := (cell_at hky3 4).trans (by rfl : _ = some (Value.slice none 0 0))
        have xf4 := free_at hky3 4
        clear hky3
        go_wp2_with fail
        (try simp only [Exit.inBlock, Exit.then])
        refine bodyPost_ret (v := .tuple #[.agg #[.int .u64 p.n, .int .i64 p.t, .int .i64 p.z, .bool p.a, .slice p.fa p.fl p.fc], .bool true]) ?_ rfl ⟨by rw [HTK.out]; rfl, HLM.out _ ?_⟩
        · rw [results_cell_tmp rfl]
          go_simp
        · exact ((((((Upd.refl (fun k => k = y) _).setCell ⟨y, 0, none⟩ (.inl rfl) _).setCell ⟨y, 1, none⟩ (.inl rfl) _).setCell ⟨y, 2, none⟩ (.inl rfl) _).setCell ⟨y, 3, none⟩ (.inl rfl) _).setCell ⟨y, 4, none⟩ (.inl rfl) _).alloc _
end Go.Proofs.Ytacfbgnbjdckiaa
