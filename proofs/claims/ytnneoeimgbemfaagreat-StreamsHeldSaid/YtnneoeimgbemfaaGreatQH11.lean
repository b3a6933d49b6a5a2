/- DERIVED. streams: all. -/
import Derived.Deep.DeepCutAuto
import Derived.StillTailTactics
import Derived.Test.YtnneoeimgbemfaaGreatQH3
import Derived.Test.YtnneoeimgbemfaaGreatQH4
import Derived.Test.YtnneoeimgbemfaaGreatQH10
import Derived.Test.YtnneoeimgbemfaaGreatQH12
set_option linter.all false
namespace Go.Proofs.YtnneoeimgbemfaaGreat
open Go.RowKit

theorem infoY : (Tryz.prog.info? 73).map (fun i => (i.zero, i.size, i.bytes)) = some (some (.pointer none), 1, 8) := by kernel_rfl
theorem zeroY : (Value.pointer none).cells.toList = encY none := rfl
/-- A row of the streams L. -/
def AllV (w : World) (lab : Nat → Lab) (a b : Nat) (zs : List (Option Nat)) (L : List (Bool × Nat × H1)) : Prop := zs.length = L.length ∧ ∀ (j : Nat) (o : Bool) (i : Nat) (h : H1), L[j]? = some (o, i, h) → ∃ y, zs[j]? = some (some y) ∧ Yat w (if o then a else b) i y ∧ StrAt w lab o i y h
theorem AllV.nil (w : World) (lab : Nat → Lab) (a b : Nat) : AllV w lab a b [] [] := ⟨rfl, fun j o i h q => by simp at q⟩
theorem AllV.snoc {w : World} {lab : Nat → Lab} {a b : Nat} {zs : List (Option Nat)} {L : List (Bool × Nat × H1)} (h : AllV w lab a b zs L) {o : Bool} {i y : Nat} {x : H1} (hya : Yat w (if o then a else b) i y) (hs : StrAt w lab o i y x) : AllV w lab a b (zs ++ [some y]) (L ++ [(o, i, x)]) := by
  refine ⟨by simp [h.1], fun j o2 i2 x2 hj => ?_⟩
  rcases Nat.lt_or_ge j L.length with q | q
  · rw [List.getElem?_append_left q] at hj
    rw [List.getElem?_append_left (by rw [h.1]; exact q)]
    exact h.2 j o2 i2 x2 hj
  · rw [List.getElem?_append_right q] at hj
    have h0 : j - L.length = 0 := by
      rw [List.getElem?_eq_some_iff] at hj
      obtain ⟨h1, _⟩ := hj
      simp at h1
      omega
    rw [h0] at hj
    simp only [List.getElem?_cons_zero, Option.some.injEq, Prod.mk.injEq] at hj
    obtain ⟨rfl, rfl, rfl⟩ := hj
    rw [List.getElem?_append_right (by rw [h.1]; exact q), h.1, h0]
    exact ⟨y, rfl, hya, hs⟩
theorem one1_len (o : Bool) (n : Nat) (x : Option H1) : (one1 o n x).length ≤ 1 := by cases x <;> simp [one1]
theorem inter_len {oa ob : Bool} {A B : List H1} : ∀ n, (inter oa ob A B n).length ≤ 2 * n
  | 0 => Nat.le_refl _
  | n + 1 => by
    have := inter_len (oa := oa) (ob := ob) (A := A) (B := B) n
    have h1 := one1_len oa n A[n]?
    have h2 := one1_len ob n B[n]?
    rw [inter, List.length_append, List.length_append]
    omega
/-- A row of pointers that grows. -/
structure AllM (w wr : World) (lab : Nat → Lab) (a b : Nat) (v : Value) (L : List (Bool × Nat × H1)) : Prop where
  ex : ∃ og zs, SlG encY 73 wr v og zs ∧ AllV w lab a b zs L ∧ (∀ g, og = some g → w.heap.size ≤ g) ∧ Below w.heap.size w wr
theorem side_elt {w : World} {lab : Nat → Lab} {o : Bool} {x rest : Nat} {hs : List H1} (h : SdeAt w lab o x rest hs) : ∃ ov cv, w.cell? ⟨x, 0, none⟩ = some (.int .u64 rest) ∧ w.cell? ⟨x, 1, none⟩ = some (.slice ov hs.length cv) ∧ hs.length ≤ cv ∧ x < w.heap.size ∧
    ∀ i hh, hs[i]? = some hh → ∃ g y, ov = some ⟨g, 0, none⟩ ∧ g < w.heap.size ∧ w.cell? ⟨g, i, none⟩ = some (.pointer (some ⟨y, 0, none⟩)) ∧ Yat w x i y ∧ StrAt w lab o i y hh := by
  obtain ⟨v, og, ys, h1, h2, h3, h4, h5, h6⟩ := h
  obtain ⟨ov, cv, rfl, hc1, hc2⟩ := h3.shape
  rw [h5] at h1 h3 hc1
  refine ⟨ov, cv, (cell_at h1 0).trans rfl, (cell_at h1 1).trans rfl, hc1, heap_lt h1, fun i hh hi => ?_⟩
  obtain ⟨y, hy, hst⟩ := h6 i hh hi
  obtain ⟨g, rfl, rfl, hgl, hg1, _⟩ := h3.el1 (f := fun y : Option Nat => Value.pointer (y.map fun y => ⟨y, 0, none⟩)) (fun _ => rfl) hy
  exact ⟨g, y, rfl, hgl, hg1, ⟨g, hs.length, cv, (cell_at h1 1).trans rfl, hg1⟩, hst⟩
/-- What a side's row has. -/
def RowV (w : World) (lab : Nat → Lab) (a b : Nat) (o : Bool) (x : Nat) (A : List H1) (ov : Option Addr) (cv : Nat) : Prop := w.cell? ⟨x, 1, none⟩ = some (.slice ov A.length cv) ∧ A.length ≤ cv ∧ x < w.heap.size ∧ A.length ≤ 1000 ∧
    ∀ i hh, A[i]? = some hh → ∃ g y, ov = some ⟨g, 0, none⟩ ∧ g < w.heap.size ∧ w.cell? ⟨g, i, none⟩ = some (.pointer (some ⟨y, 0, none⟩)) ∧ Yat w (if o then a else b) i y ∧ StrAt w lab o i y hh
theorem StAt.rows {w : World} {p a b : Nat} {t : ST} {lab : Nat → Lab} (h : StAt w p t lab a b) : ∃ o1 o2 x1 x2 A B u1 c1 u2 c2, t.all = inter o1 o2 A B (max A.length B.length) ∧ RowV w lab a b o1 x1 A u1 c1 ∧ RowV w lab a b o2 x2 B u2 c2 ∧ ((t.rest = 0 ∧ x1 = a ∧ x2 = b) ∨ (t.rest = 1 ∧ x1 = b ∧ x2 = a)) := by
  obtain ⟨ova, cva, _, a1, hca, hla, hea⟩ := side_elt h.own
  obtain ⟨ovb, cvb, _, b1, hcb, hlb, heb⟩ := side_elt h.others
  rcases h.ok.rest with hr | hr
  · exact ⟨true, false, a, b, t.own, t.others, ova, cva, ovb, cvb, by unfold ST.all; rw [if_pos hr], ⟨a1, hca, hla, h.ok.own, hea⟩, ⟨b1, hcb, hlb, h.ok.others, heb⟩, .inl ⟨hr, rfl, rfl⟩⟩
  · exact ⟨false, true, b, a, t.others, t.own, ovb, cvb, ova, cva, by unfold ST.all; rw [if_neg (by omega), Nat.max_comm], ⟨b1, hcb, hlb, h.ok.others, heb⟩, ⟨a1, hca, hla, h.ok.own, hea⟩, .inr ⟨hr, rfl, rfl⟩⟩
set_option maxRecDepth 100000 in
set_option maxHeartbeats 4000000 in
theorem tall_any (p : Nat) (t : ST) (lab : Nat → Lab) (a b : Nat) (w : World) (h : StAt w p t lab a b) :
    Calls Tryz.prog 24 #[.pointer (some ⟨p, 0, none⟩)] w fun e w' => ∃ v, e = .returned v ∧ AllM w w' lab a b v t.all := by
  obtain ⟨i0, hi0, hz0, hz1, hz2'⟩ := info_parts infoY
  have c24 : w.cell? ⟨p, 24, none⟩ = some (.pointer (some ⟨a, 0, none⟩)) := (h.cell 24).trans rfl
  have c25 : w.cell? ⟨p, 25, none⟩ = some (.pointer (some ⟨b, 0, none⟩)) := (h.cell 25).trans rfl
  obtain ⟨_, _, a0, _, _, hla, _⟩ := side_elt h.own
  obtain ⟨_, _, b0, _, _, hlb, _⟩ := side_elt h.others
  obtain ⟨o1, o2, x1, x2, A, B, u1, c1, u2, c2, hall, hA, hB, hor⟩ := h.rows
  have HA := Lib.hid hA
  have HB := Lib.hid hB
  rw [hall]
  have hlenA := hA.2.2.2.1
  have hlenB := hB.2.2.2.1
  have hx1 := hA.2.2.1
  have hx2 := hB.2.2.1
  clear hA hB hall h
  obtain ⟨nA, hnA⟩ : ∃ nA, A.length = nA := ⟨_, rfl⟩
  obtain ⟨nB, hnB⟩ : ∃ nB, B.length = nB := ⟨_, rfl⟩
  have HN := Lib.hid (And.intro hnA hnB)
  rw [hnA] at hlenA ⊢
  rw [hnB] at hlenB ⊢
  clear hnA hnB
  obtain ⟨m, hm⟩ : ∃ m, max nA nB = m := ⟨_, rfl⟩
  have hmi : (if (nA : Int) < (nB : Int) then (nB : Int) else (nA : Int)) = (m : Int) := by split <;> omega
  have hml : m ≤ 1000 := by omega
  rw [hm]
  have HM := Lib.hid hm
  obtain ⟨rs, hrs⟩ : ∃ rs, t.rest = rs := ⟨_, rfl⟩
  rw [hrs] at a0 b0 hor
  clear hm hrs
  go_enter Tryz.func24, Tryz.ntmps24
  go_upto_region 1 with fail
  go_cut [3, 4] (fun v3 v4 wx => v3 = .pointer (some ⟨a, 0, none⟩) ∧ v4 = .pointer (some ⟨b, 0, none⟩) ∧ ∃ n, wx = w.drewN n)
  case first =>
    go_quiet (fail)
    go_wp2_with fail
    go_meet
    case rel => exact ⟨rfl, rfl, _, rfl⟩
  case rest =>
    obtain ⟨rfl, rfl, n1, rfl⟩ := hcut
    go_upto_region 2 with fail
    go_cut [23] (fun v wx => v = .bool (decide (rs = 1)) ∧ ∃ n, wx = w.drewN n)
    case first =>
      rcases hor with ⟨rfl, _, _⟩ | ⟨rfl, _, _⟩
      all_goals
        go_quiet (fail)
        go_wp2_with fail
        go_meet
        case rel => exact ⟨rfl, by first | exact ⟨_, rfl⟩ | exact ⟨_, World.drewN_drewN _ _ _⟩⟩
    case rest =>
      obtain ⟨rfl, n2, rfl⟩ := hcut
      go_upto_if 23 with fail
      go_cut [3, 4] (fun v3 v4 wx => v3 = .pointer (some ⟨x1, 0, none⟩) ∧ v4 = .pointer (some ⟨x2, 0, none⟩) ∧ ∃ n, wx = w.drewN n)
      case first =>
        rcases hor with ⟨rfl, rfl, rfl⟩ | ⟨rfl, rfl, rfl⟩
        · go_wp2_with fail
          go_meet
          case rel => exact ⟨rfl, rfl, _, rfl⟩
        · go_wp2_with fail
          go_meet
          case rel => exact ⟨rfl, rfl, _, rfl⟩
      case rest =>
        obtain ⟨rfl, rfl, n3, rfl⟩ := hcut
        have hA := HA.out
        have hB := HB.out
        obtain ⟨k1, _, _, _, eA⟩ := hA
        obtain ⟨k2, _, _, _, eB⟩ := hB
        have hcA := HA.out.2.1
        have hcB := HB.out.2.1
        rw [HN.out.1] at k1 hcA
        rw [HN.out.2] at k2 hcB
        have EA := Lib.hid eA
        have EB := Lib.hid eB
        clear eA eB a0 b0 c24 c25 hor hla hlb
        go_upto_region 5 with fail
        go_cut [36, 37] (fun v v2 wx => v = .int .i64 m ∧ v2 = .int .i64 0 ∧ ∃ n, wx = w.drewN n)
        case first =>
          go_quiet (fail)
          go_wp2_with fail
          all_goals
            go_meet
            case rel => exact ⟨congrArg (Value.int .i64) (by omega), rfl, by first | exact ⟨_, rfl⟩ | exact ⟨_, World.drewN_drewN _ _ _⟩⟩
        case rest =>
          obtain ⟨rfl, rfl, n4, rfl⟩ := hcut
          have H0 := Lib.hid (show AllM w (w.drewN n4) lab a b (.slice none 0 0) (inter o1 o2 A B 0) from ⟨none, [], SlG.nil _, AllV.nil _ _ _ _, by simp, below_drewN (Below.refl _ _) n4⟩)
          go_wp2_with fail
          go_loopw [5, 37] (fun v i wr => ∃ j : Nat, i = .int .i64 j ∧ j ≤ m ∧ AllM w wr lab a b v (inter o1 o2 A B j)) (fun _ i _ => m - (intOf i).toNat)
          case atStart => exact ⟨0, rfl, by omega, H0.out⟩
          case round =>
            obtain ⟨j, rfl, hj, hst⟩ := hrel
            have hst' := hst
            have H := Lib.hid hst
            obtain ⟨og, zs, _, _, _, hbl⟩ := hst'
            have r1 := cell_keep hbl hx1 k1
            have r2 := cell_keep hbl hx2 k2
            have HBL := Lib.hid hbl
            clear hst H0 hbl
            by_cases hlt : j < m
            · have hil := inter_len (oa := o1) (ob := o2) (A := A) (B := B) j
              go_upto_if 46 with fail
              go_cut [5] (fun v wx => AllM w wx lab a b v (inter o1 o2 A B j ++ one1 o1 j A[j]?))
              case first =>
                by_cases hA : j < nA
                · obtain ⟨hh, hhi⟩ : ∃ hh, A[j]? = some hh := ⟨_, List.getElem?_eq_getElem (by rw [HN.out.1]; exact hA)⟩
                  obtain ⟨g, y, rfl, hgl, hgc, hya, hst⟩ := EA.out j hh hhi
                  have g1 := cell_keep HBL.out hgl hgc
                  obtain ⟨og, zs, hs, hall, hg, hb⟩ := H.out
                  have HS := Lib.hid hs
                  have HZ := Lib.hid (show zs.length ≤ 2 * j by rw [hall.1]; exact hil)
                  have HR := Lib.hid (show AllV w lab a b (zs ++ [some y]) (inter o1 o2 A B j ++ one1 o1 j A[j]?) from by rw [hhi]; exact hall.snoc hya hst)
                  have HG := Lib.hid (And.intro hg hb)
                  clear hs hall hg hb hst hhi hgc hya
                  go_wp2_with (refine wpList_pushN encY_len encY_one Tryz.underlying63 hi0 hz1 hz0 zeroY rfl (.tmp 47) (.tmp 55) rfl (by exact HS.out.alloc _) [some y] (by exact Src.block (alloc_at _ _) rfl) rfl rfl rfl (by simp) (by have := HZ.out; rw [hz2']; simp; omega) (by have := HZ.out; simp; omega) ?_)
                  intro W1 v1 og1 hs1 ho1 hu1
                  have hb0 := HG.out.2.size
                  have HN1 := Lib.hid (show AllM w W1 lab a b v1 (inter o1 o2 A B j ++ one1 o1 j A[j]?) from ⟨og1, _, hs1, HR.out, og_new HG.out.1 (by omega) ho1, Upd.belowOf (HG.out.2.alloc hb0 _) hu1 (fun g hg q => by have := HG.out.1 g q; omega)⟩)
                  clear hs1 ho1 hu1
                  go_wp2_with fail
                  go_meet
                  case rel => exact HN1.out
                · have HN1 := Lib.hid (show AllM w wr lab a b u5 (inter o1 o2 A B j ++ one1 o1 j A[j]?) from by
                    rw [List.getElem?_eq_none (by rw [HN.out.1]; omega)]
                    show AllM w wr lab a b u5 (inter o1 o2 A B j ++ [])
                    rw [List.append_nil]
                    exact H.out)
                  go_wp2_with fail
                  go_meet
                  case rel => exact HN1.out
              case rest =>
                have hst2 : AllM w wc lab a b u5 (inter o1 o2 A B j ++ one1 o1 j A[j]?) := hcut
                have hbl2 := hst2.ex
                obtain ⟨_, _, _, _, _, hbl2⟩ := hbl2
                have H2 := Lib.hid hst2
                have r1 := cell_keep hbl2 hx1 k1
                have r2 := cell_keep hbl2 hx2 k2
                have HBL2 := Lib.hid hbl2
                have hil2 : (inter o1 o2 A B j ++ one1 o1 j A[j]?).length ≤ 2 * j + 1 := by
                  have := one1_len o1 j A[j]?
                  rw [List.length_append]
                  omega
                clear hst2 hbl2 H HBL
                generalize wc = w2 at *
                by_cases hA : j < nB
                · obtain ⟨hh, hhi⟩ : ∃ hh, B[j]? = some hh := ⟨_, List.getElem?_eq_getElem (by rw [HN.out.2]; exact hA)⟩
                  obtain ⟨g, y, rfl, hgl, hgc, hya, hst⟩ := EB.out j hh hhi
                  have g1 := cell_keep HBL2.out hgl hgc
                  obtain ⟨og, zs, hs, hall, hg, hb⟩ := H2.out
                  have HS := Lib.hid hs
                  have HZ := Lib.hid (show zs.length ≤ 2 * j + 1 by rw [hall.1]; exact hil2)
                  have HR := Lib.hid (show AllV w lab a b (zs ++ [some y]) (inter o1 o2 A B (j + 1)) from by rw [inter, hhi]; exact hall.snoc hya hst)
                  have HG := Lib.hid (And.intro hg hb)
                  clear hs hall hg hb hst hhi hgc hya
                  go_wp2_with (refine wpList_pushN encY_len encY_one Tryz.underlying63 hi0 hz1 hz0 zeroY rfl (.tmp 64) (.tmp 72) rfl (by exact HS.out.alloc _) [some y] (by exact Src.block (alloc_at _ _) rfl) rfl rfl rfl (by simp) (by have := HZ.out; rw [hz2']; simp; omega) (by have := HZ.out; simp; omega) ?_)
                  intro W1 v1 og1 hs1 ho1 hu1
                  have hb0 := HG.out.2.size
                  have HN1 := Lib.hid (show AllM w W1 lab a b v1 (inter o1 o2 A B (j + 1)) from ⟨og1, _, hs1, HR.out, og_new HG.out.1 (by omega) ho1, Upd.belowOf (HG.out.2.alloc hb0 _) hu1 (fun g hg q => by have := HG.out.1 g q; omega)⟩)
                  clear hs1 ho1 hu1
                  go_wp2_with fail
                  go_roundw
                  case rel => exact ⟨j + 1, by go_num, by omega, HN1.out⟩
                  case measure => simp [intOf]; omega
                · have HN1 := Lib.hid (show AllM w w2 lab a b u5 (inter o1 o2 A B (j + 1)) from by
                    rw [inter, List.getElem?_eq_none (l := B) (by rw [HN.out.2]; omega), show one1 o2 j none = [] from rfl]
                    rw [List.append_nil]
                    exact H2.out)
                  go_wp2_with fail
                  go_roundw
                  case rel => exact ⟨j + 1, by go_num, by omega, HN1.out⟩
                  case measure => simp [intOf]; omega
            · obtain rfl : j = m := by omega
              go_wp2_with fail
              go_ret
              exact ⟨_, rfl, H.out⟩
end Go.Proofs.YtnneoeimgbemfaaGreat

/- DERIVED. Walk of bits' Size and PutVar: a number in 1, 2, 4, 8 bytes. -/
namespace Go.Proofs.YtnneoeimgbemfaaGreat
open Go.RowKit

def vsize (n : Nat) : Nat := if n < 64 then 1 else if n < 16384 then 2 else if n < 1073741824 then 4 else if n ≤ 4611686018427387903 then 8 else 0
def rawN (n k : Nat) : List Nat := (List.range k).map (fun j => n / 2 ^ (8 * (k - 1 - j)) % 256)
def vlog (k : Nat) : Nat := if k = 1 then 0 else if k = 2 then 1 else if k = 4 then 2 else 3
/-- The first byte has so much more. -/
def bump (a : Nat) : List Nat → List Nat
  | [] => []
  | b :: l => (b + 64 * a) :: l
def varB (n : Nat) : List Nat := bump (vlog (vsize n)) (rawN n (vsize n))
theorem vsize_le (n : Nat) : vsize n ≤ 8 := by
  unfold vsize
  repeat' split
  all_goals omega
theorem rawN_len (n k : Nat) : (rawN n k).length = k := by simp [rawN]
theorem bump_len (a : Nat) (l : List Nat) : (bump a l).length = l.length := by cases l <;> rfl
theorem varB_len (n : Nat) : (varB n).length = vsize n := by rw [varB, bump_len, rawN_len]
set_option maxRecDepth 100000 in
theorem vsize_q (n : Nat) (w : World) (hn : n < 18446744073709551616) : Calls Tryz.prog 109 #[.int .u64 n] w fun e w' => e = .returned (.int .i64 (vsize n)) ∧ w' = w := by
  obtain ⟨z, hz⟩ : ∃ z : Int, (n : Int) = z := ⟨_, rfl⟩
  obtain ⟨k, hk⟩ : ∃ k, vsize n = k := ⟨_, rfl⟩
  have hk2 : (z < 64 ∧ k = 1) ∨ (¬ z < 64 ∧ z < 16384 ∧ k = 2) ∨ (¬ z < 64 ∧ ¬ z < 16384 ∧ z < 1073741824 ∧ k = 4) ∨ (¬ z < 64 ∧ ¬ z < 16384 ∧ ¬ z < 1073741824 ∧ z ≤ 4611686018427387903 ∧ k = 8) ∨ (¬ z < 64 ∧ ¬ z < 16384 ∧ ¬ z < 1073741824 ∧ ¬ z ≤ 4611686018427387903 ∧ k = 0) := by
    unfold vsize at hk
    subst hz hk
    repeat' split
    all_goals omega
  rw [hz, hk]
  clear hz hk hn
  rcases hk2 with ⟨h1, rfl⟩ | ⟨h1, h2, rfl⟩ | ⟨h1, h2, h3, rfl⟩ | ⟨h1, h2, h3, h4, rfl⟩ | ⟨h1, h2, h3, h4, rfl⟩
  all_goals
    go_enter Tryz.func109, Tryz.ntmps109
    go_wp2_with fail
    go_ret
    exact ⟨rfl, rfl⟩
theorem vsize_first {n m : Nat} (h : vsize n = m) (h0 : ¬ m = 0) : (m = 1 ∨ m = 2 ∨ m = 4 ∨ m = 8) ∧ ∀ x, (rawN n m)[0]? = some x → x < 64 := by
  have hq : (n < 64 ∧ m = 1) ∨ (n < 16384 ∧ m = 2) ∨ (n < 1073741824 ∧ m = 4) ∨ (n < 4611686018427387904 ∧ m = 8) := by
    unfold vsize at h
    split at h
    · exact .inl ⟨by assumption, h.symm⟩
    · split at h
      · exact .inr (.inl ⟨by assumption, h.symm⟩)
      · split at h
        · exact .inr (.inr (.inl ⟨by assumption, h.symm⟩))
        · split at h
          · exact .inr (.inr (.inr ⟨by omega, h.symm⟩))
          · exact absurd h.symm h0
  refine ⟨by omega, fun x hx => ?_⟩
  rcases hq with ⟨q, rfl⟩ | ⟨q, rfl⟩ | ⟨q, rfl⟩ | ⟨q, rfl⟩
  all_goals
    simp only [rawN, List.getElem?_map] at hx
    rw [List.getElem?_range (by omega)] at hx
    simp only [Option.map_some, Option.some.injEq] at hx
    simp only [Nat.sub_zero, Nat.reduceSub, Nat.reduceMul, Nat.reducePow] at hx
    omega
theorem vlog_pow {m a : Nat} (h : m = 1 ∨ m = 2 ∨ m = 4 ∨ m = 8) (ha : a ≤ vlog m) : a ≤ 3 ∧ ((a < vlog m ∧ a < 3 ∧ 2 ^ a < m ∧ 2 ^ (a + 1) = 2 ^ a * 2) ∨ (a = vlog m ∧ ¬ 2 ^ a < m)) := by
  have h3 : a ≤ 3 := by
    have h1 : vlog 1 = 0 ∧ vlog 2 = 1 ∧ vlog 4 = 2 ∧ vlog 8 = 3 := by decide
    rcases h with rfl | rfl | rfl | rfl <;> omega
  refine ⟨h3, ?_⟩
  rcases (by omega : a = 0 ∨ a = 1 ∨ a = 2 ∨ a = 3) with rfl | rfl | rfl | rfl
  all_goals
    rcases h with rfl | rfl | rfl | rfl
    all_goals
      revert ha
      decide
theorem take_snoc' {l : List Nat} {m x : Nat} (h : l[m]? = some x) : l.take (m + 1) = l.take m ++ [x] := by rw [List.take_add_one, h]; rfl
set_option maxRecDepth 100000 in
set_option maxHeartbeats 1000000 in
theorem putvar_any (n : Nat) (w : World) (hn : n < 18446744073709551616) : Calls Tryz.prog 106 #[.slice none 0 0, .int .u64 n] w
    fun e w' => ∃ v og, e = .returned (.tuple #[v, .bool (decide (0 < vsize n))]) ∧ SlG encB 5 w' v og (varB n) ∧ (∀ g, og = some g → w.heap.size ≤ g) ∧ Below w.heap.size w w' := by
  obtain ⟨i0, hi0, hz0, hz1, hz2'⟩ := info_parts infoB
  obtain ⟨k, hk, hk8⟩ : ∃ k, vsize n = k ∧ k ≤ 8 := ⟨_, rfl, vsize_le n⟩
  have HK := Lib.hid hk
  clear hk
  go_enter Tryz.func106, Tryz.ntmps106
  go_wp2_with fail
  refine (vsize_q n _ hn).mono ?_
  rintro e w1 ⟨rfl, rfl⟩
  rw [HK.out]
  by_cases hk0 : k = 0
  · subst hk0
    go_wp2_with fail
    go_ret2
    refine ⟨_, none, by rw [HK.out]; rfl, ?_, by simp, Below.refl _ _⟩
    have : varB n = [] := List.eq_nil_of_length_eq_zero (by rw [varB_len, HK.out])
    rw [this]
    exact SlG.nil _
  · have hk0b : ((k : Int) == 0) = false := by simp; omega
    go_wp2_with fail
    go_loopw [6, 9] (fun v i wr => ∃ m og, m ≤ k ∧ i = .int .i64 ((k : Int) - 1 - m) ∧ SlG encB 5 wr v og ((rawN n k).take m) ∧ (∀ g, og = some g → w1.heap.size ≤ g) ∧ Below w1.heap.size w1 wr) (fun _ i _ => (intOf i + 1).toNat)
    case atStart => exact ⟨0, none, by omega, by simp, SlG.nil _, by simp, Below.refl _ _⟩
    case round =>
      obtain ⟨m, og, hm, rfl, hs, hg, hb⟩ := hrel
      have HS := Lib.hid hs
      have HG := Lib.hid hg
      have HB := Lib.hid hb
      clear hs hg hb
      by_cases hlt : m < k
      · obtain ⟨j, hj⟩ : ∃ j : Nat, (k : Int) - 1 - m = (j : Int) := ⟨k - 1 - m, by omega⟩
        rw [hj]
        obtain ⟨x, hx, hx2⟩ : ∃ x : Nat, (n : Int) / 2 ^ (8 * j) % 256 = (x : Int) ∧ (rawN n k)[m]? = some x := by
          refine ⟨n / 2 ^ (8 * j) % 256, by simp, ?_⟩
          unfold rawN
          rw [List.getElem?_map, List.getElem?_range hlt, Option.map_some, show k - 1 - m = j by omega]
        have htl : ((rawN n k).take m).length = m := by rw [List.length_take, rawN_len]; omega
        go_wp2_with (refine wpList_pushN encB_len encB_one Tryz.underlying31 hi0 hz1 hz0 zeroB rfl (.tmp 26) (.tmp 32) rfl (by exact HS.out.alloc _) [x] (by exact Src.block (alloc_at _ _) rfl) rfl rfl rfl (by simp) (by rw [htl, hz2']; simp; omega) (by rw [htl]; simp; omega) ?_)
        intro W1 v1 og1 hs1 ho1 hu1
        have hb0 := HB.out.size
        have HN1 := Lib.hid (show SlG encB 5 W1 v1 og1 ((rawN n k).take (m + 1)) ∧ (∀ g, og1 = some g → w1.heap.size ≤ g) ∧ Below w1.heap.size w1 W1 from
          ⟨by rw [(take_snoc' hx2)]; exact hs1, og_new HG.out (by omega) ho1, Upd.belowOf (HB.out.alloc hb0 _) hu1 (fun g hg q => by have := HG.out g q; omega)⟩)
        clear hs1 ho1 hu1
        go_wp2
        go_roundw
        case rel => exact ⟨m + 1, og1, by omega, by go_num, HN1.out⟩
        case measure => (simp [intOf])
      · obtain rfl : m = k := by omega
        have hk4 := vsize_first HK.out hk0
        have hmi : (m : Int) - 1 - m = -1 := by omega
        rw [hmi]
        have HS0 := Lib.hid (show SlG encB 5 wr u6 og (bump 0 (rawN n m)) by
          have := HS.out
          rw [List.take_of_length_le (by rw [rawN_len]; omega)] at this
          cases h : rawN n m with
          | nil => rw [h] at this; exact this
          | cons a l => rw [h] at this; exact this)
        clear HS
        go_wp2_with fail
        go_loopw [10] (fun i w2 => ∃ a : Nat, a ≤ vlog m ∧ i = .int .i64 (2 ^ a : Nat) ∧ SlG encB 5 w2 u6 og (bump a (rawN n m)) ∧ Below w1.heap.size w1 w2) (fun i _ => m - (intOf i).toNat)
        case atStart => exact ⟨0, by omega, rfl, HS0.out, HB.out⟩
        case round =>
          obtain ⟨a, ha, rfl, hs, hb⟩ := hrel
          obtain ⟨h3, hz2⟩ := vlog_pow hk4.1 ha
          obtain ⟨z, hz, hz8, hz1'⟩ : ∃ z : Nat, 2 ^ a = z ∧ z ≤ 8 ∧ 1 ≤ z := ⟨_, rfl, Nat.pow_le_pow_right (by omega) h3, Nat.one_le_two_pow⟩
          rw [hz] at hz2 ⊢
          have HB2 := Lib.hid hb
          have HS2 := Lib.hid hs
          clear hs hb HS0
          rcases hz2 with ⟨h1, ha2, h2, h3⟩ | ⟨h1, h2⟩
          · obtain ⟨b, l, hbl⟩ : ∃ b l, rawN n m = b :: l := by
              cases h : rawN n m with
              | nil => have := rawN_len n m; rw [h] at this; simp at this; omega
              | cons b l => exact ⟨b, l, rfl⟩
            have hb64 : b < 64 := hk4.2 b (by rw [hbl]; rfl)
            obtain ⟨oa, cap, rfl, hc1, hc2⟩ := HS2.out.shape
            have hlen : (bump a (rawN n m)).length = m := by rw [bump_len, rawN_len]
            rw [hlen] at hc1
            have hse := HS2.out
            rw [hlen] at hse
            obtain ⟨g, rfl, rfl, hg1, hg2, hg3⟩ := hse.el1 (f := fun x : Nat => Value.int .u8 x) (fun _ => rfl) (i := 0) (a := b + 64 * a) (by rw [hbl]; rfl)
            obtain ⟨g', e1, _, hput⟩ := hse.put (f := fun x : Nat => Value.int .u8 x) (fun _ => rfl) (i := 0) (by omega) (b + 64 * (a + 1))
            cases e1
            rw [hbl, show (bump a (b :: l)).set 0 (b + 64 * (a + 1)) = bump (a + 1) (b :: l) from rfl, ← hbl] at hput
            obtain ⟨y, hy, hy2⟩ : ∃ y : Nat, ((b + 64 * a : Nat) : Int) = (y : Int) ∧ b + 64 * (a + 1) = y + 64 := ⟨_, rfl, by omega⟩
            have hy3 : y + 64 < 256 := by omega
            rw [hy] at hg2
            rw [hy2] at hput
            have HP := Lib.hid hput
            clear hput hse HS2
            rw [hlen]
            go_wp2_with fail
            refine ⟨⟨a + 1, by omega, by rw [h3]; go_num, HP.out, HB2.out.setCell (HG.out g rfl) _⟩, ?_⟩
            show m - ((z : Int) * 2).toNat < m - (z : Int).toNat
            omega
          · go_wp2_with fail
            go_ret2
            refine ⟨_, og, by rw [HK.out, decide_eq_true (by omega : 0 < m)]; rfl, ?_, HG.out, HB2.out⟩
            rw [varB, HK.out, ← h1]
            exact HS2.out
end Go.Proofs.YtnneoeimgbemfaaGreat

/- DERIVED. streams: IDs, Got. -/
namespace Go.Proofs.YtnneoeimgbemfaaGreat
open Go.RowKit

theorem infoU : (Tryz.prog.info? 27).map (fun i => (i.zero, i.size, i.bytes)) = some (some (.int .u64 0), 1, 8) := by kernel_rfl
theorem zeroU : (Value.int .u64 0).cells.toList = encU 0 := rfl
theorem encU_one (n : Nat) : ∀ v ∈ encU n, v.oneCell' = true := by
  intro v hv
  simp only [encU, List.mem_cons, List.not_mem_nil, or_false] at hv
  subst hv
  rfl
theorem AllM.shape {w wr : World} {lab : Nat → Lab} {a b : Nat} {v : Value} {L : List (Bool × Nat × H1)} (h : AllM w wr lab a b v L) : ∃ ov cv, v = .slice ov L.length cv ∧ L.length ≤ cv ∧ Below w.heap.size w wr ∧
    ∀ (j : Nat) (x : Bool × Nat × H1), L[j]? = some x → ∃ g y, ov = some ⟨g, 0, none⟩ ∧ g < wr.heap.size ∧ wr.cell? ⟨g, j, none⟩ = some (.pointer (some ⟨y, 0, none⟩)) ∧ Yat w (if x.1 then a else b) x.2.1 y ∧ StrAt w lab x.1 x.2.1 y x.2.2 := by
  obtain ⟨og, zs, h1, h2, h3, h4⟩ := h.ex
  obtain ⟨ov, cv, rfl, hc1, hc2⟩ := h1.shape
  rw [h2.1] at h1 hc1 ⊢
  refine ⟨ov, cv, rfl, hc1, h4, fun j x hx => ?_⟩
  obtain ⟨y, hy, hya, hst⟩ := h2.2 j x.1 x.2.1 x.2.2 hx
  obtain ⟨g, rfl, rfl, hgl, hg1, _⟩ := h1.el1 (f := fun y : Option Nat => Value.pointer (y.map fun y => ⟨y, 0, none⟩)) (fun _ => rfl) hy
  exact ⟨g, y, rfl, hgl, hg1, hya, hst⟩
theorem ST.all_len (t : ST) (h : t.Ok) : t.all.length ≤ 2000 := by
  have h1 := h.own
  have h2 := h.others
  unfold ST.all
  split
  · have := inter_len (oa := true) (ob := false) (A := t.own) (B := t.others) (max t.own.length t.others.length)
    omega
  · have := inter_len (oa := false) (ob := true) (A := t.others) (B := t.own) (max t.own.length t.others.length)
    omega
def ST.ids (t : ST) : List Nat := t.all.map fun x => x.2.2.id
end Go.Proofs.YtnneoeimgbemfaaGreat

/- DERIVED. streams: Got. -/
namespace Go.Proofs.YtnneoeimgbemfaaGreat
open Go.RowKit

theorem RAt.highb {fp : Nat → Prop} {w : World} {r : Nat} {s : RS} (h : RAt w r s fp) : s.high ≤ 1099511640000 := by
  have hok := h.ok
  obtain ⟨b, fb, h0, hfp⟩ := h
  unfold RS.high
  split
  · exact hok.fnl
  · have := h0.buf.bd.2.1
    omega
def sumL (l : List Nat) : Nat := l.foldr (· + ·) 0
theorem sumL_snoc (l : List Nat) (x : Nat) : sumL (l ++ [x]) = sumL l + x := by
  induction l with
  | nil => show x + 0 = 0 + x; omega
  | cons a l ih =>
    show a + sumL (l ++ [x]) = a + sumL l + x
    omega
def ST.got (t : ST) : Nat := sumL (t.all.map fun x => x.2.2.r.high)
set_option maxRecDepth 100000 in
set_option maxHeartbeats 2000000 in
theorem tgot_any (p : Nat) (t : ST) (lab : Nat → Lab) (a b : Nat) (w : World) (h : StAt w p t lab a b) :
    Calls Tryz.prog 15 #[.pointer (some ⟨p, 0, none⟩)] w fun e w' => e = .returned (.int .u64 t.got) ∧ t.got ≤ 2199023280000000 ∧ Below w.heap.size w w' := by
  have H := Lib.hid h
  have hal := t.all_len h.ok
  obtain ⟨L, hL⟩ : ∃ L, t.all = L := ⟨_, rfl⟩
  have HL := Lib.hid hL
  unfold ST.got
  rw [hL] at hal ⊢
  obtain ⟨I, hI⟩ : ∃ I, L.map (fun x => x.2.2.r.high) = I := ⟨_, rfl⟩
  have HI := Lib.hid hI
  rw [hI]
  obtain ⟨n, hn⟩ : ∃ n, L.length = n := ⟨_, rfl⟩
  have HN := Lib.hid hn
  rw [hn] at hal
  clear h hL hn hI
  go_enter Tryz.func15, Tryz.ntmps15
  go_wp2_with fail
  refine (tall_any p t lab a b _ (by exact H.out)).mono ?_
  rw [HL.out]
  rintro e w1 ⟨v, rfl, hm⟩
  obtain ⟨ov, cv, rfl, hc1, hb1, hel⟩ := hm.shape
  rw [HN.out] at hc1 ⊢
  have HE := Lib.hid hel
  have HB1 := Lib.hid hb1
  clear hm hel hb1
  go_wp2_with fail
  go_loopw [3, 9] (fun v i wr => ∃ j z : Nat, i = .int .i64 j ∧ v = .int .u64 z ∧ j ≤ n ∧ z = sumL (I.take j) ∧ z ≤ 1099511640000 * j ∧ Below w1.heap.size w1 wr) (fun _ i _ => n - (intOf i).toNat)
  case atStart => exact ⟨0, 0, rfl, rfl, by omega, rfl, by omega, Below.refl _ _⟩
  case round =>
    obtain ⟨j, z, rfl, rfl, hj, hz, hzb, hb⟩ := hrel
    have HG := Lib.hid (And.intro hz hb)
    clear hz hb
    by_cases hlt : j < n
    · obtain ⟨x, hx⟩ : ∃ x, L[j]? = some x := ⟨_, List.getElem?_eq_getElem (by rw [HN.out]; exact hlt)⟩
      obtain ⟨g, y, rfl, hgl, hgc, _, bs, br, fs, fr, hyb, _, _, _, hr, _⟩ := HE.out j x hx
      have g1 := cell_keep HG.out.2 hgl hgc
      have hyb1 := below_keeps HB1.out hyb (heap_lt hyb)
      have hyb2 := below_keeps HG.out.2 hyb1 (heap_lt hyb1)
      have y2 : wr.cell? ⟨y, 2, none⟩ = some (.pointer (some ⟨br, 0, none⟩)) := (cell_at hyb2 2).trans rfl
      have hr1 := hr.below HB1.out
      have HR := Lib.hid (hr1.below (by
        have := heap_lt hyb1
        exact HG.out.2))
      have hhb := hr.highb
      have hxi : I[j]? = some x.2.2.r.high := by rw [← HI.out, List.getElem?_map, hx]; rfl
      have HX := Lib.hid (take_snoc' hxi)
      obtain ⟨hi, hhi⟩ : ∃ hi, x.2.2.r.high = hi := ⟨_, rfl⟩
      have HH := Lib.hid hhi
      rw [hhi] at HX hhb
      clear hx hyb hyb1 hyb2 hgc hxi hhi hr hr1
      have hw1 : IntKind.u64.wrap ((z : Int) + hi) = (z + hi : Nat) := by rw [IntWalk.u64_in _ (by omega)]; omega
      go_wp2_with fail
      refine (rhigh_q br _ fr _ (by exact HR.out)).mono ?_
      rw [HH.out]
      rintro e w2 ⟨rfl, q, rfl⟩
      have HN1 := Lib.hid (show z + hi = sumL (I.take (j + 1)) ∧ z + hi ≤ 1099511640000 * (j + 1) ∧ Below w1.heap.size w1 (wr.drewN q) from ⟨by rw [HX.out, sumL_snoc, ← HG.out.1], by omega, below_drewN HG.out.2 q⟩)
      go_wp2_with fail
      go_roundw
      case rel => exact ⟨j + 1, z + hi, by go_num, by go_num, by omega, HN1.out⟩
      case measure => simp [intOf]; omega
    · obtain rfl : j = n := by omega
      have HF := Lib.hid (show z = sumL I from by
        have := HG.out.1
        rw [List.take_of_length_le (by rw [← HI.out, List.length_map, HN.out]; exact Nat.le_refl _)] at this
        exact this)
      go_wp2_with fail
      go_ret
      refine ⟨by rw [← HF.out]; rfl, by rw [← HF.out]; omega, below_call HB1.out HB1.out.size HG.out.2⟩
end Go.Proofs.YtnneoeimgbemfaaGreat

/- DERIVED. streams: a new stream at a side's end. -/
namespace Go.Proofs.YtnneoeimgbemfaaGreat
open Go.RowKit

/-- A new sender, a new receiver. -/
def NS (W w : World) (bs br : Nat) (s : SS) (r : RS) : Prop := ∃ fs fr, SdAt w bs s fs ∧ RAt w br r fr ∧ (∀ k, fs k → W.heap.size ≤ k) ∧ (∀ k, fr k → W.heap.size ≤ k) ∧ (∀ k, fs k → ¬ fr k) ∧ Below W.heap.size W w
theorem NS.sr {W w w' : World} {bs br : Nat} {s : SS} {r : RS} (h : SdMine W w bs s) (h2 : RMine w w' br r) : NS W w' bs br s r := by
  obtain ⟨fs, a1, a2, a3⟩ := h
  obtain ⟨fr, b1, b2, b3⟩ := h2
  have hs := a3.size
  exact ⟨fs, fr, a1.below b3, b1, a2, fun k hk => by have := b2 k hk; omega, fun k hk q => by have := a1.lt.2 k hk; have := b2 k q; omega, below_call a3 hs b3⟩
theorem NS.rs {W w w' : World} {bs br : Nat} {s : SS} {r : RS} (h : RMine W w br r) (h2 : SdMine w w' bs s) : NS W w' bs br s r := by
  obtain ⟨fr, a1, a2, a3⟩ := h
  obtain ⟨fs, b1, b2, b3⟩ := h2
  have hs := a3.size
  exact ⟨fs, fr, b1, a1.below b3, fun k hk => by have := b2 k hk; omega, a2, fun k hk q => by have := a1.lt.2 k q; have := b2 k hk; omega, below_call a3 hs b3⟩
theorem NS.later {W w w' : World} {bs br : Nat} {s : SS} {r : RS} (h : NS W w bs br s r) (hb : Below w.heap.size w w') : NS W w' bs br s r := by
  obtain ⟨fs, fr, h1, h2, h3, h4, h5, h6⟩ := h
  exact ⟨fs, fr, h1.below hb, h2.below hb, h3, h4, h5, below_call h6 h6.size hb⟩
/-- A new stream whole. -/
def NY (W w : World) (y id : Nat) (s : SS) (r : RS) : Prop := ∃ bs br fs fr, w.heap[y]? = some (.cells #[.int .u64 id, .pointer (some ⟨bs, 0, none⟩), .pointer (some ⟨br, 0, none⟩)] 72 (0, 0)) ∧ W.heap.size ≤ y ∧
  SdAt w bs s fs ∧ RAt w br r fr ∧ (∀ k, fs k → W.heap.size ≤ k) ∧ (∀ k, fr k → W.heap.size ≤ k) ∧ (∀ k, fs k → ¬ fr k) ∧ ¬ fs y ∧ ¬ fr y ∧ Below W.heap.size W w
theorem NS.box {W w w' : World} {bs br y id : Nat} {s : SS} {r : RS} (h : NS W w bs br s r) (hb : Below w.heap.size w w') (hy : w.heap.size ≤ y) (hk : w'.heap[y]? = some (.cells #[.int .u64 id, .pointer (some ⟨bs, 0, none⟩), .pointer (some ⟨br, 0, none⟩)] 72 (0, 0))) : NY W w' y id s r := by
  obtain ⟨fs, fr, h1, h2, h3, h4, h5, h6⟩ := h
  have hs := h6.size
  exact ⟨bs, br, fs, fr, hk, by omega, h1.below hb, h2.below hb, h3, h4, h5, fun q => by have := h1.lt.2 y q; omega, fun q => by have := h2.lt.2 y q; omega, below_call h6 hs hb⟩
theorem NY.later {W w w' : World} {y id : Nat} {s : SS} {r : RS} (h : NY W w y id s r) (hb : Below w.heap.size w w') : NY W w' y id s r := by
  obtain ⟨bs, br, fs, fr, h1, h2, h3, h4, h5, h6, h7, h8, h9, h10⟩ := h
  exact ⟨bs, br, fs, fr, below_keeps hb h1 (heap_lt h1), h2, h3.below hb, h4.below hb, h5, h6, h7, h8, h9, below_call h10 h10.size hb⟩
/-- Behind a turn of its sender. -/
theorem NY.turn {W w w' : World} {y id bs br : Nat} {fs fr : Nat → Prop} {s' : SS} {r : RS} (h1 : w.heap[y]? = some (.cells #[.int .u64 id, .pointer (some ⟨bs, 0, none⟩), .pointer (some ⟨br, 0, none⟩)] 72 (0, 0))) (h2 : W.heap.size ≤ y)
    (h4 : RAt w br r fr) (h5 : ∀ k, fs k → W.heap.size ≤ k) (h6 : ∀ k, fr k → W.heap.size ≤ k) (h7 : ∀ k, fs k → ¬ fr k) (h8 : ¬ fs y) (h9 : ¬ fr y) (h10 : Below W.heap.size W w) (m : SdM w w' fs bs s') : NY W w' y id s' r := by
  obtain ⟨fs', m1, m2⟩ := m
  have hs := h10.size
  have hyl := heap_lt h1
  refine ⟨bs, br, fs', fr, m2.upd.keeps h1 h8, h2, m1, h4.keeps m2.upd (fun k hk q => h7 k q hk), fun k hk => ?_, h6, fun k hk q => ?_, fun q => ?_, h9, Upd.belowOf h10 m2.upd (fun k hk q => by have := h5 k q; omega)⟩
  · rcases m2.new k hk with e | e
    · exact h5 k e
    · omega
  · rcases m2.new k hk with e | e
    · exact h7 k e q
    · have := h4.lt.2 k q
      omega
  · rcases m2.new y q with e | e
    · exact h8 e
    · omega
def ST.add (t : ST) (o : Bool) (h : H1) : ST := if o then { t with own := t.own ++ [h] } else { t with others := t.others ++ [h] }
open Classical in
/-- The labels with a new stream's. -/
noncomputable def labAdd (lab : Nat → Lab) (o : Bool) (n y : Nat) (fs fr : Nat → Prop) (og : Option Nat) (k : Nat) : Lab := if k = y then .str o n else if fs k then .snd o n else if fr k then .rcv o n else if og = some k then .row o else lab k
theorem append_at {α : Type} {l : List α} {x a : α} {i : Nat} (h : (l ++ [x])[i]? = some a) : l[i]? = some a ∨ (i = l.length ∧ a = x) := by
  rcases Nat.lt_or_ge i l.length with q | q
  · rw [List.getElem?_append_left q] at h
    exact .inl h
  · rw [List.getElem?_append_right q] at h
    have h0 : i - l.length = 0 := by
      rw [List.getElem?_eq_some_iff] at h
      obtain ⟨h1, _⟩ := h
      simp at h1
      omega
    rw [h0] at h
    simp only [List.getElem?_cons_zero, Option.some.injEq] at h
    exact .inr ⟨by omega, h.symm⟩
theorem ST.add_hs (t : ST) (o : Bool) (h : H1) : (t.add o h).hs o = t.hs o ++ [h] ∧ (t.add o h).hs (!o) = t.hs (!o) ∧ (t.add o h).rest = t.rest ∧ (t.add o h).mine = t.mine ∧ (t.add o h).theirs = t.theirs := by
  cases o <;> exact ⟨rfl, rfl, rfl, rfl, rfl⟩
theorem tcells_add (t : ST) (o : Bool) (h : H1) (a b : Nat) : tcells (t.add o h) a b = tcells t a b := by cases o <;> rfl
theorem StAt.push {w w1 w2 : World} {p a b : Nat} {t : ST} {lab : Nat → Lab} (h : StAt w p t lab a b) (o : Bool) {x y id : Nat} {s : SS} {r : RS} {v v' : Value} {og og' : Option Nat} {ys : List (Option Nat)} (hx : (if o then a else b) = x) (hy : NY w w1 y id s r)
    (hid : id = 4 * (t.hs o).length + (if o then t.rest else 1 - t.rest)) (hsid : s.id = id) (hrid : r.id = id) (hlen : (t.hs o).length < 1000)
    (h1 : w.heap[x]? = some (.cells #[.int .u64 (if o then t.rest else 1 - t.rest : Nat), v] 65 (0, 0))) (h2 : lab x = .side o) (h3 : SlG encY 73 w v og ys) (h4 : ∀ g, og = some g → lab g = .row o) (h5 : ys.length = (t.hs o).length)
    (h6 : ∀ i hh, (t.hs o)[i]? = some hh → ∃ y, ys[i]? = some (some y) ∧ StrAt w lab o i y hh)
    (hs2 : SlG encY 73 w2 v' og' (ys ++ [some y])) (ho : og' = og ∨ ∃ g, og' = some g ∧ w1.heap.size ≤ g) (hu : Upd (fun j => og = some j) w1 w2) :
    ∃ lab', StAt (w2.setCell ⟨x, 1, none⟩ v') p (t.add o ⟨id, s, r⟩) lab' a b ∧ StrAt (w2.setCell ⟨x, 1, none⟩ v') lab' o (t.hs o).length y ⟨id, s, r⟩ ∧ Went (fun k => lab k ≠ .out) (fun k => lab' k ≠ .out) w (w2.setCell ⟨x, 1, none⟩ v') := by
  obtain ⟨bs, br, fs, fr, y1, y2, y3, y4, y5, y6, y7, y8, y9, y10⟩ := hy
  have hxl := heap_lt h1
  have hyl := heap_lt y1
  have hw1 := y10.size
  have hw2 := hu.size
  have hlo : ∀ k l, w.heap.size ≤ k → lab k = l → l = Lab.out := fun k l hk hl => by
    cases hq : lab k with
    | out => rw [← hl, hq]
    | _ => have := h.lt k (by rw [hq]; simp); omega
  -- the new labels
  obtain ⟨lab', hl⟩ : ∃ lab', lab' = labAdd lab o (t.hs o).length y fs fr og' := ⟨_, rfl⟩
  have ly : lab' y = .str o (t.hs o).length := by rw [hl]; unfold labAdd; rw [if_pos rfl]
  have hfs : ∀ k, fs k → k ≠ y := fun k hk e => y8 (e ▸ hk)
  have hfr : ∀ k, fr k → k ≠ y := fun k hk e => y9 (e ▸ hk)
  have lfs : ∀ k, fs k → lab' k = .snd o (t.hs o).length := fun k hk => by rw [hl]; unfold labAdd; rw [if_neg (hfs k hk), if_pos hk]
  have lfr : ∀ k, fr k → lab' k = .rcv o (t.hs o).length := fun k hk => by rw [hl]; unfold labAdd; rw [if_neg (hfr k hk), if_neg (fun q => y7 k q hk), if_pos hk]
  have hogl : ∀ g, og = some g → g < w.heap.size := h3.lt
  have hog' : ∀ g, og' = some g → (og = some g ∧ g < w.heap.size) ∨ w1.heap.size ≤ g := fun g hg => by
    rcases ho with e | ⟨g', e, h'⟩
    · left; rw [e] at hg; exact ⟨hg, hogl g hg⟩
    · right; rw [e] at hg; cases hg; exact h'
  have lold : ∀ k, k < w.heap.size → lab' k = lab k := fun k hk => by
    rw [hl]
    unfold labAdd
    rw [if_neg (by omega), if_neg (fun q => by have := y5 k q; omega), if_neg (fun q => by have := y6 k q; omega)]
    by_cases q : og' = some k
    · rw [if_pos q]
      rcases hog' k q with e | e
      · exact (h4 k e.1).symm
      · omega
    · rw [if_neg q]
  have lrow : ∀ g, og' = some g → lab' g = .row o := fun g hg => by
    rcases hog' g hg with e | e
    · rw [lold g e.2]; exact h4 g e.1
    · rw [hl]
      unfold labAdd
      rw [if_neg (by omega), if_neg (fun q => by have := y3.lt.2 g q; omega), if_neg (fun q => by have := y4.lt.2 g q; omega), if_pos hg]
  have lin : ∀ k, lab' k ≠ .out → lab k ≠ .out ∨ (w.heap.size ≤ k ∧ k < w2.heap.size) := fun k hk => by
    rw [hl] at hk
    unfold labAdd at hk
    by_cases q1 : k = y
    · right; omega
    · rw [if_neg q1] at hk
      by_cases q2 : fs k
      · right; have := y5 k q2; have := y3.lt.2 k q2; omega
      · rw [if_neg q2] at hk
        by_cases q3 : fr k
        · right; have := y6 k q3; have := y4.lt.2 k q3; omega
        · rw [if_neg q3] at hk
          by_cases q4 : og' = some k
          · rcases hog' k q4 with e | e
            · left; rw [h4 k e.1]; simp
            · right; have := hs2.lt k q4; omega
          · rw [if_neg q4] at hk
            exact .inl hk
  -- what is turned
  have hF : Upd (fun k => k = x ∨ og = some k) w (w2.setCell ⟨x, 1, none⟩ v') :=
    ((Upd.below y10).trans (G := fun k => k = x ∨ og = some k) ((hu.mono (fun j _ q => .inr q)).setCell ⟨x, 1, none⟩ (.inl (.inl rfl)) v') (fun i hi q => by omega) (fun _ _ q => q))
  have hF1 : Upd (fun k => k = x ∨ og = some k) w1 (w2.setCell ⟨x, 1, none⟩ v') := (hu.mono (fun j _ q => .inr q)).setCell ⟨x, 1, none⟩ (.inl (.inl rfl)) v'
  have hFl : ∀ k, (k = x ∨ og = some k) → k < w.heap.size ∧ (lab' k = .side o ∨ lab' k = .row o) := fun k hk => by
    rcases hk with e | e
    · subst e; exact ⟨hxl, .inl ((lold _ hxl).trans h2)⟩
    · exact ⟨hogl k e, .inr ((lold k (hogl k e)).trans (h4 k e))⟩
  have hNF : ∀ k, w.heap.size ≤ k → ¬ (k = x ∨ og = some k) := fun k hk q => by have := (hFl k q).1; omega
  have hstr : StrAt (w2.setCell ⟨x, 1, none⟩ v') lab' o (t.hs o).length y ⟨id, s, r⟩ :=
    ⟨bs, br, fs, fr, hF1.keeps y1 (hNF y y2), ly, y3.keeps hF1 (fun k hk => hNF k (y5 k hk)), lfs, y4.keeps hF1 (fun k hk => hNF k (y6 k hk)), lfr⟩
  have hsz : (w2.setCell ⟨x, 1, none⟩ v').heap.size = w2.heap.size := by simp [World.setCell]
  have hog'x : og' ≠ some x := fun q => by
    rcases hog' x q with e | e
    · have := h4 x e.1
      rw [h2] at this
      cases this
    · omega
  -- this side
  have hthis : SdeAt (w2.setCell ⟨x, 1, none⟩ v') lab' o x (if o then t.rest else 1 - t.rest) (t.hs o ++ [⟨id, s, r⟩]) := by
    have e1 : w2.heap[x]? = some (.cells #[.int .u64 (if o then t.rest else 1 - t.rest : Nat), v] 65 (0, 0)) :=
      hu.keeps (below_keeps y10 h1 hxl) (fun q => by have := h4 x q; rw [h2] at this; cases this)
    refine ⟨v', og', ys ++ [some y], (set_at e1 1 v').trans rfl, (lold x hxl).trans h2, hs2.keeps ((Upd.refl (fun j => j = x) w2).setCell ⟨x, 1, none⟩ (.inl rfl) v') (fun g hg e => hog'x (by rw [hg, e])), lrow, by simp [h5], fun i hh hi => ?_⟩
    rcases append_at hi with q | ⟨q1, q2⟩
    · obtain ⟨z, hz, hst⟩ := h6 i hh q
      have hil : i < ys.length := by rw [List.getElem?_eq_some_iff] at hz; exact hz.1
      exact ⟨z, by rw [List.getElem?_append_left hil]; exact hz, (hst.relab lold).keeps hF (fun k hk => by
        rcases (hFl k hk).2 with e | e
        · rw [e]; exact ⟨by simp, by simp, by simp⟩
        · rw [e]; exact ⟨by simp, by simp, by simp⟩)⟩
    · subst q1 q2
      refine ⟨y, ?_, hstr⟩
      rw [List.getElem?_append_right (by omega), h5]
      simp
  have hoth : SdeAt (w2.setCell ⟨x, 1, none⟩ v') lab' (!o) (if !o then a else b) (if !o then t.rest else 1 - t.rest) (t.hs (!o)) :=
    ((h.sde (!o)).relab lold).keeps hF (fun k hk => by
      rcases (hFl k hk).2 with e | e
      · rw [e]; exact ⟨by cases o <;> simp, by simp, fun i => ⟨by simp, by simp, by simp⟩⟩
      · rw [e]; exact ⟨by simp, by cases o <;> simp, fun i => ⟨by simp, by simp, by simp⟩⟩)
  have hpset : (w2.setCell ⟨x, 1, none⟩ v').heap[p]? = some (.cells (tcells (t.add o ⟨id, s, r⟩) a b) 68 (0, 0)) := by
    rw [tcells_add]
    refine hF.keeps h.blk (fun q => ?_)
    have := (hFl p q)
    rw [lold p this.1, h.lp] at this
    rcases this.2 with e | e <;> cases e
  have hok : (t.add o ⟨id, s, r⟩).Ok := by
    have k1 := h.ok
    cases o
    · refine ⟨k1.mine, k1.theirs, k1.rest, k1.own, ?_, k1.hown, fun i hh hi => ?_, k1.last, k1.limit, k1.allowed⟩
      · show (t.others ++ [_]).length ≤ 1000
        rw [List.length_append]
        have : t.others.length < 1000 := hlen
        simp
        omega
      · rcases append_at hi with q | ⟨q1, q2⟩
        · exact k1.hothers i hh q
        · subst q1 q2
          exact ⟨hid, hsid, hrid⟩
    · refine ⟨k1.mine, k1.theirs, k1.rest, ?_, k1.others, fun i hh hi => ?_, k1.hothers, k1.last, k1.limit, k1.allowed⟩
      · show (t.own ++ [_]).length ≤ 1000
        rw [List.length_append]
        have : t.own.length < 1000 := hlen
        simp
        omega
      · rcases append_at hi with q | ⟨q1, q2⟩
        · exact k1.hown i hh q
        · subst q1 q2
          exact ⟨hid, hsid, hrid⟩
  refine ⟨lab', ⟨hpset, (lold p (heap_lt h.blk)).trans h.lp, ?_, ?_, fun k hk => ?_, hok⟩, hstr, ⟨hF.mono (fun k hk q => ?_), fun k hk => ?_⟩⟩
  · cases o
    · exact hoth
    · rw [show a = x from hx]
      exact hthis
  · cases o
    · rw [show b = x from hx]
      exact hthis
    · exact hoth
  · rw [hsz]
    rcases lin k hk with q | q
    · have := h.lt k q; omega
    · exact q.2
  · show lab k ≠ .out
    rw [← lold k hk]
    rcases (hFl k q).2 with e | e
    · rw [e]; simp
    · rw [e]; simp
  · rcases lin k hk with q | q
    · exact .inl q
    · exact .inr q.1
end Go.Proofs.YtnneoeimgbemfaaGreat
