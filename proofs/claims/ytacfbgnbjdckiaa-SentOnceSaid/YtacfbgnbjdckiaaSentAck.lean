/- DERIVED. Walk of sent's Ack, on rising ranges that are known. -/
import Derived.Test.YtacfbgnbjdckiaaSentRight
import Derived.Test.YtacfbgnbjdckiaaAdd
import Derived.OwnWalk
namespace Go.Proofs.Ytacfbgnbjdckiaa
open Go.RowKit

theorem tw_all {p : Rg → Bool} : ∀ {xs : List Rg}, (∀ x ∈ xs, p x = true) → xs.takeWhile p = xs
  | [], _ => rfl
  | x :: xs, h => by
    rw [List.takeWhile_cons_of_pos (h x (List.mem_cons_self ..)), tw_all (fun y hy => h y (List.mem_cons_of_mem _ hy))]
theorem add_last {m : Int} {xs : List Rg} {r : Rg} (h : Norm (xs ++ [r])) (hm : ((xs ++ [r]).length : Int) ≤ m) : addL m xs r.1 r.2 = xs ++ [r] := by
  have h1 : ∀ x ∈ xs, x.2 < r.1 := fun x hx => (List.pairwise_append.1 h.2).2.2 x hx r (List.mem_singleton.2 rfl)
  have hi : iOf xs r.1 = xs.length := by
    unfold iOf
    rw [tw_all (fun x hx => by simpa using h1 x hx)]
  have hk : kOf xs xs.length r.2 = xs.length := by
    unfold kOf
    rw [List.drop_length]
    simp
  unfold addL
  rw [trim_all]
  · unfold addRaw
    rw [hi, hk, List.take_length, List.drop_length]
    simp [fuse]
  · unfold addRaw
    rw [hi, hk, List.take_length, List.drop_length]
    simpa [fuse] using hm
theorem norm_take_last {rs : List Rg} (h : Norm rs) {k : Nat} {r : Rg} (hr : rs[k]? = some r) : rs.take (k + 1) = rs.take k ++ [r] := by
  rw [List.take_add_one, hr]
  rfl
/-- While the ranges are put in. -/
structure AckL (w4 wr : World) (d : Nat) (m : Int) (og : Option Nat) (xs : List Rg) : Prop where
  set : SetAt wr d m og xs
  og : ∀ g, og = some g → w4.heap.size ≤ g
  upd : Upd (fun j => j = d) w4 wr
theorem AckL.next {w4 wr W w5 : World} {d : Nat} {m : Int} {og : Option Nat} {xs ys : List Rg} (h : AckL w4 wr d m og xs) (hb : Below wr.heap.size wr W) (t : Turned W d m og ys w5) : ∃ og', AckL w4 w5 d m og' ys := by
  obtain ⟨og', h1, h2, h3⟩ := t
  have hs := h.upd.size
  have hs2 := hb.size
  refine ⟨og', h1, fun g hg => ?_, (h.upd.trans (Upd.below hb) (H := fun j => j = d) (fun _ _ q => q) (fun j hj q => by omega)).trans h3 (fun _ _ q => q) (fun j hj q => ?_)⟩
  · rcases h2 with rfl | rfl | ⟨g', rfl, h4⟩
    · exact h.og g hg
    · cases hg
    · cases hg
      omega
  · rcases q with q | q
    · exact q
    · have := h.og j q
      omega
def LS.acks (s : LS) (rs : List Rg) (top : Nat) : LS :=
  ⟨(s.L.filter fun p => !rs.any (hasP p.n)).filter fun p => !decide (p.n + 3 ≤ max s.ak (top - 1)), s.nx, max s.ak (top - 1), true⟩
theorem og_le1 {B n : Nat} {og : Option Nat} (h : ∀ g, og = some g → n ≤ g) (hn : B ≤ n) : ∀ g, og = some g → B ≤ g := fun g e => Nat.le_trans hn (h g e)
def LS.got (s : LS) (rs : List Rg) : List Pk := s.L.filter fun p => rs.any (hasP p.n)
def LS.lost (s : LS) (rs : List Rg) (top : Nat) : List Pk := (s.L.filter fun p => !rs.any (hasP p.n)).filter fun p => decide (p.n + 3 ≤ max s.ak (top - 1))
set_option maxRecDepth 100000 in
set_option maxHeartbeats 4000000 in
theorem lack_norm (b : Nat) (s : LS) (fp : Nat → Prop) (vr : Value) (rs : List Rg) (top : Nat) (w : World) {B : Nat} (h : LAt w b s fp) (hv : Vw encR w B vr rs) (hB : B ≤ w.heap.size) (hn : Norm rs) (hl : rs.length ≤ 1000) (hp : 0 < rs.length)
    (htop : ∀ r, rs[rs.length - 1]? = some r → r.2 = top) (hle : top ≤ s.nx) (htp : 0 < top) :
    Calls Try.prog 10 #[.pointer (some ⟨b, 0, none⟩), vr] w fun e w' => ∃ v1 o1 v2 o2, e = .returned (.tuple #[v1, v2, .int .i64 0]) ∧
      SlG encQ 32 w' v1 o1 (s.got rs) ∧ SlG encQ 32 w' v2 o2 (s.lost rs top) ∧ (∀ g, o1 = some g → w.heap.size ≤ g) ∧ (∀ g, o2 = some g → w.heap.size ≤ g) ∧ LM w w' fp b (s.acks rs top) := by
  obtain ⟨oa, cap, rfl, hc1, hc2⟩ := hv.shape
  have hok := h.ok
  have HOK := Lib.hid hok
  have H := Lib.hid h
  have HV := Lib.hid hv
  have HN := Lib.hid hn
  have hlt := h.lt
  have HLT := Lib.hid hlt
  obtain ⟨len, hlen⟩ : ∃ len, rs.length = len := ⟨_, rfl⟩
  obtain ⟨nx, hnx⟩ : ∃ nx, s.nx = nx := ⟨_, rfl⟩
  obtain ⟨ak, hak⟩ : ∃ ak, s.ak = ak := ⟨_, rfl⟩
  have hnxb := hok.nx
  have hakb := hok.ak
  obtain ⟨rl, hrl⟩ : ∃ rl, rs[rs.length - 1]? = some rl := ⟨_, List.getElem?_eq_getElem (by omega)⟩
  have hrt := htop rl hrl
  rw [hlen] at hrl hl hp hc1
  have HLEN := Lib.hid hlen
  have HNX := Lib.hid hnx
  have HAK := Lib.hid hak
  rw [hnx] at hle hnxb
  rw [hak] at hakb
  have HV2 := Lib.hid (show Vw encR w B (.slice oa len cap) rs from by rw [← hlen]; exact hv)
  rw [hlen]
  obtain ⟨cr, ofr, rfl, hcr, p0, p1⟩ := HV2.out.rng hrl
  have hcrw : cr < w.heap.size := by omega
  rw [hrt] at p1
  clear h hv hn hok hlt htop hlen hnx hak p0 hrl hrt HV
  go_enter Try.func10, Try.ntmps10
  go_upto_region 0 with fail
  go_cut [2, 4, 5, 6] (fun v a c e wx => ∃ z, v = .pointer (some ⟨z, 0, none⟩) ∧ w.heap.size ≤ z ∧ Below w.heap.size w wx ∧ wx.heap[z]? = some (.cells #[.pointer (some ⟨b, 0, none⟩)] 24 (0, 0)))
  case first =>
    go_wp2_with fail
    go_meet
    case rel => exact ⟨_, rfl, Nat.le_refl _, (Below.refl _ _).alloc (Nat.le_refl _) _, alloc_at _ _⟩
  case rest =>
    obtain ⟨z, rfl, hz, hb1, hkz⟩ := hcut
    generalize wc = w1 at *
    have HB1 := Lib.hid hb1
    have HKZ := Lib.hid hkz
    clear hb1 hkz
    go_wp2_with fail
    refine (right_norm _ rs _ (by exact HV2.out.below (HB1.out.mono hB)) (Nat.le_trans hB HB1.out.size) HN.out (by rw [HLEN.out]; exact hl) (by rw [HLEN.out]; exact hp)).mono ?_
    rintro e w2 ⟨rfl, hb2⟩
    have HB2 := Lib.hid (below_call HB1.out HB1.out.size hb2)
    have hkz2 := below_keeps hb2 HKZ.out (heap_lt HKZ.out)
    have HL2 := Lib.hid (H.out.below HB2.out)
    have p1 := cell_keep HB2.out hcrw p1
    have x0 := (cell_at hkz2 0).trans (by rfl : _ = some (Value.pointer (some ⟨b, 0, none⟩)))
    have e1 : w2.cell? ⟨b, 1, none⟩ = some (.int .u64 nx) := by rw [HL2.out.cells.1, HNX.out]
    have HKZ2 := Lib.hid hkz2
    have htn : ¬ (nx : Int) < (top : Int) := by omega
    have htn2 : ¬ nx < top := by omega
    have hsub : (len : Int) - 1 = ((len - 1 : Nat) : Int) := by omega
    have hsb : len - 1 < len := by omega
    clear hb2 hkz2
    have HP1 := Lib.hid hp
    go_upto_region 6 with fail
    go_cut [7, 8] (fun tv v wx => ∃ y d w3, tv = .int .u64 top ∧ v = .pointer (some ⟨y, 0, none⟩) ∧ w2.heap.size ≤ d ∧ d < w3.heap.size ∧ w3.heap.size ≤ y ∧ SetAt w3 d (mostOf len) none [] ∧ Below w2.heap.size w2 w3 ∧ Below w3.heap.size w3 wx ∧ wx.heap[y]? = some (.cells #[.pointer (some ⟨d, 0, none⟩)] 64 (0, 0)))
    case first =>
      go_wp2_with fail
      refine (snew_any len _).mono ?_
      rintro e w3 ⟨d, rfl, hd, hset, hb3⟩
      have hdlt : d < w3.heap.size := by
        obtain ⟨u, q, _⟩ := hset
        exact heap_lt q
      have HSET := Lib.hid hset
      have HB3 := Lib.hid hb3
      clear hset hb3
      go_wp2_with fail
      go_meet
      case rel => exact ⟨_, d, w3, rfl, rfl, hd, hdlt, Nat.le_refl _, HSET.out, HB3.out, (Below.refl _ _).alloc (Nat.le_refl _) _, alloc_at _ _⟩
    case rest =>
      obtain ⟨y, d, w3, rfl, rfl, hd, hdlt, hy, hset, hb3, hb4, hky⟩ := hcut
      generalize wc = w4 at *
      have hkz3 := below_keeps hb3 HKZ2.out (heap_lt HKZ2.out)
      have hzlt := heap_lt HKZ2.out
      have HB3 := Lib.hid (below_call HB2.out HB2.out.size hb3)
      have HSET := Lib.hid hset
      have HKZ3 := Lib.hid hkz3
      have HZD := Lib.hid (show z ≠ d from by omega)
      clear hb3 hset hkz3 x0 e1 p1 htn htn2 hsub hsb HKZ HB1 HL2
      have HB4 := Lib.hid (below_call HB3.out HB3.out.size hb4)
      have HKZ4 := Lib.hid (below_keeps hb4 HKZ3.out (heap_lt HKZ3.out))
      have HKY := Lib.hid hky
      have HL4 := Lib.hid (H.out.below HB4.out)
      have hw3s := HB3.out.size
      have hw4s := hb4.size
      have HDB := Lib.hid (show ¬ (d < w.heap.size) from by have := HB2.out.size; omega)
      have HYD := Lib.hid (show y ≠ d from by omega)
      have HI0 := Lib.hid (show AckL w4 w4 d (mostOf len) none (rs.take 0) from ⟨HSET.out.below hb4, by simp, Upd.refl _ _⟩)
      clear hb4 hky HKZ3 HB3 HSET
      go_wp2_with fail
      go_loopw [34] (fun i wr => ∃ k : Nat, i = .int .i64 k ∧ k ≤ len ∧ ∃ og, AckL w4 wr d (mostOf len) og (rs.take k)) (fun i _ => len - (intOf i).toNat)
      case atStart => exact ⟨0, rfl, by omega, _, HI0.out⟩
      case round =>
        obtain ⟨k, rfl, hk, og, hi⟩ := hrel
        have HI := Lib.hid hi
        clear hi HI0
        have hkz := HI.out.upd.keeps HKZ4.out (fun e => HZD.out e)
        have hky := HI.out.upd.keeps HKY.out (fun e => HYD.out e)
        have x0 := (cell_at hkz 0).trans (by rfl : _ = some (Value.pointer (some ⟨b, 0, none⟩)))
        have y0 := (cell_at hky 0).trans (by rfl : _ = some (Value.pointer (some ⟨d, 0, none⟩)))
        have HKZ := Lib.hid hkz
        have HKY2 := Lib.hid hky
        clear hkz hky
        by_cases hlt : k < len
        · obtain ⟨r, hr⟩ : ∃ r, rs[k]? = some r := ⟨_, List.getElem?_eq_getElem (by rw [HLEN.out]; exact hlt)⟩
          obtain ⟨c2, of2, e2, hc2', q0, q1⟩ := HV2.out.rng hr
          cases e2
          have hB4 : Below w.heap.size w wr := Upd.belowOf HB4.out HI.out.upd (fun j hj e => HDB.out (by rw [← e]; exact hj))
          have q0 := cell_keep hB4 hcrw q0
          have q1 := cell_keep hB4 hcrw q1
          have hrr := HN.out.at hr
          have ha := (Below.refl wr.heap.size wr).alloc (Nat.le_refl _) (.cells #[.int .u64 r.1, .int .u64 r.2] 37)
          have y0a : (wr.alloc (.cells #[.int .u64 r.1, .int .u64 r.2] 37)).cell? ⟨y, 0, none⟩ = some (.pointer (some ⟨d, 0, none⟩)) := by rw [World.cell?_alloc_lt _ _ _ (heap_lt HKY2.out)]; exact y0
          have HADD := Lib.hid (show (if r.1 < r.2 ∧ r.2 ≤ 4611686018427387904 then addL (mostOf len) (rs.take k) r.1 r.2 else rs.take k) = rs.take (k + 1) from by
            rw [if_pos ⟨hrr.1, hrr.2⟩, norm_take_last HN.out hr]
            refine add_last ?_ ?_
            · rw [← norm_take_last HN.out hr]
              exact HN.out.take _
            · rw [← norm_take_last HN.out hr, List.length_take, HLEN.out]
              unfold mostOf
              split <;> omega)
          have HTK := Lib.hid (show (rs.take k).length ≤ 1000 from by rw [List.length_take, HLEN.out]; omega)
          clear hrr hB4 hr
          go_wp2_with fail
          refine (add_any d (mostOf len) og (rs.take k) r.1 r.2 _ (by exact HI.out.set.below ha) (mostOf_pos _) (by unfold mostOf; split <;> omega) (by have := HTK.out; omega)).mono ?_
          rw [HADD.out]
          rintro e w5 ⟨rfl, ht⟩
          have HI5 := Lib.hid (HI.out.next ha ht)
          clear ht ha q0 q1 x0 y0 y0a HI HKZ HKY2
          go_wp2_with fail
          go_roundw
          case rel => exact ⟨k + 1, by go_num, by omega, HI5.out⟩
          case measure => simp [intOf]; omega
        · obtain rfl : k = len := by omega
          have htk : rs.take k = rs := by rw [← HLEN.out, List.take_length]
          rw [htk] at HI
          obtain ⟨vL, ogL, hL5, hfp⟩ := HL4.out.keeps HI.out.upd (fun j hj e => by have := HLT.out.2 j hj; have := HDB.out; omega)
          have HL5 := Lib.hid hL5
          have HFP := Lib.hid hfp
          have e2 : wr.cell? ⟨b, 2, none⟩ = some (.int .u64 ak) := by rw [cell_at hL5.blk, ← HAK.out]; rfl
          have e3 : wr.cell? ⟨b, 3, none⟩ = some (.bool s.has) := (cell_at hL5.blk 3).trans rfl
          have q2 := free_at hL5.blk 2
          have q3 := free_at hL5.blk 3
          obtain ⟨A, hA⟩ : ∃ A, max ak (top - 1) = A := ⟨_, rfl⟩
          have HA := Lib.hid hA
          obtain ⟨tp, htp1, htp2⟩ : ∃ tp : Nat, (top : Int) - 1 = (tp : Int) ∧ top - 1 = tp := ⟨top - 1, by omega, rfl⟩
          have hAc : (ak < tp ∧ A = tp) ∨ (tp < ak ∧ A = ak) ∨ (ak = tp ∧ A = ak) := by omega
          have htpb : (tp : Int) ≤ 4611686018427387904 := by omega
          have hwt : IntKind.u64.wrap (tp : Int) = tp := IntWalk.u64_in _ (by omega)
          clear htk hL5 hfp hA htp2 hk hlt y0
          go_upto_region 12 with fail
          go_cut [] (fun wx => wx = ((wr.setCell ⟨b, 2, none⟩ (.int .u64 A)).setCell ⟨b, 3, none⟩ (.bool true)).drew)
          case first =>
            rcases hAc with ⟨a1, a2⟩ | ⟨a1, a2⟩ | ⟨a1, a2⟩
            all_goals
              go_wp2_with fail
              refine wp_region_till (S := fun w' => w'.cell? ⟨z, 0, none⟩ = some (.pointer (some ⟨b, 0, none⟩)) ∧ w'.cell? ⟨b, 2, none⟩ = some (.int .u64 ak)) [11, 14] (by kernel_rfl) (by exact ⟨x0, e2⟩) (fun hHeld => ?_)
              refine wpTill_take (i := 0) (oi := ⟨some 45, _, _, _, _, _⟩) (v := ?_) rfl (by kernel_rfl) (fun _ _ _ h => h) (Or.inl ⟨by rfl, ?_⟩) (by exact hHeld) ?_
              rotate_left
              · intro w hSw
                (try dsimp only at hSw)
                go_simp
                try with_reducible rfl
              try simp only [Act.put, List.setIfInBounds_toArray, List.set_cons_zero, List.set_cons_succ]
              refine wpTill_take (i := 2) (oi := ⟨some 47, _, _, _, _, _⟩) (v := ?_) rfl (by kernel_rfl) (fun _ _ _ h => h) (Or.inl ⟨by rfl, ?_⟩) (by exact hHeld) ?_
              rotate_left
              · intro w hSw
                (try dsimp only at hSw)
                go_simp
                try with_reducible rfl
              try simp only [Act.put, List.setIfInBounds_toArray, List.set_cons_zero, List.set_cons_succ]
              refine wpTill_take0 (i := 3) (oi := ⟨some 48, _, _, _, _, _⟩) (v := ?_) rfl (by kernel_rfl) (fun _ _ _ h => h) (Or.inl ⟨by rfl, ?_⟩) (fun _ => hHeld) ?_
              rotate_left
              · intro w hSw
                (try dsimp only at hSw)
                go_simp
                try with_reducible rfl
              try simp only [Act.put, List.setIfInBounds_toArray, List.set_cons_zero, List.set_cons_succ]
              refine wpTill_take0 (i := 4) (oi := ⟨some 49, _, _, _, _, _⟩) (v := ?_) rfl (by kernel_rfl) (fun _ _ _ h => h) (Or.inl ⟨by rfl, ?_⟩) (fun _ => hHeld) ?_
              rotate_left
              · intro w hSw
                (try dsimp only at hSw)
                go_simp
                try with_reducible rfl
              try simp only [Act.put, List.setIfInBounds_toArray, List.set_cons_zero, List.set_cons_succ]
              refine wpTill_take (i := 5) (oi := ⟨some 50, _, _, _, _, _⟩) (v := ?_) rfl (by kernel_rfl) (fun _ _ _ h => h) (Or.inl ⟨by rfl, ?_⟩) (by exact hHeld) ?_
              rotate_left
              · intro w hSw
                (try dsimp only at hSw)
                go_simp
                try with_reducible rfl
              try simp only [Act.put, List.setIfInBounds_toArray, List.set_cons_zero, List.set_cons_succ]
              refine wpTill_take0 (i := 6) (oi := ⟨some 51, _, _, _, _, _⟩) (v := ?_) rfl (by kernel_rfl) (fun _ _ _ h => h) (Or.inl ⟨by rfl, ?_⟩) (fun _ => hHeld) ?_
              rotate_left
              · intro w hSw
                (try dsimp only at hSw)
                go_simp
                try with_reducible rfl
              try simp only [Act.put, List.setIfInBounds_toArray, List.set_cons_zero, List.set_cons_succ]
              refine wpTill_take0 (i := 7) (oi := ⟨some 52, _, _, _, _, _⟩) (v := ?_) rfl (by kernel_rfl) (fun _ _ _ h => h) (Or.inl ⟨by rfl, ?_⟩) (fun _ => hHeld) ?_
              rotate_left
              · intro w hSw
                (try dsimp only at hSw)
                go_simp
                try with_reducible rfl
              try simp only [Act.put, List.setIfInBounds_toArray, List.set_cons_zero, List.set_cons_succ]
              refine wpTill_take0 (i := 8) (oi := ⟨some 53, _, _, _, _, _⟩) (v := ?_) rfl (by kernel_rfl) (fun _ _ _ h => h) (Or.inl ⟨by rfl, ?_⟩) (fun _ => hHeld) ?_
              rotate_left
              · intro w hSw
                (try dsimp only at hSw)
                go_simp
                try with_reducible rfl
              try simp only [Act.put, List.setIfInBounds_toArray, List.set_cons_zero, List.set_cons_succ]
              refine wpTill_take0 (i := 9) (oi := ⟨some 54, _, _, _, _, _⟩) (v := ?_) rfl (by kernel_rfl) (fun _ _ _ h => h) (Or.inl ⟨by rfl, ?_⟩) (fun _ => hHeld) ?_
              rotate_left
              · intro w hSw
                (try dsimp only at hSw)
                go_simp
                try with_reducible rfl
              try simp only [Act.put, List.setIfInBounds_toArray, List.set_cons_zero, List.set_cons_succ]
              refine wpTill_take0 (i := 10) (oi := ⟨some 55, _, _, _, _, _⟩) (v := ?_) rfl (by kernel_rfl) (fun _ _ _ h => h) (Or.inl ⟨by rfl, ?_⟩) (fun _ => hHeld) ?_
              rotate_left
              · intro w hSw
                (try dsimp only at hSw)
                go_simp
                try with_reducible rfl
              try simp only [Act.put, List.setIfInBounds_toArray, List.set_cons_zero, List.set_cons_succ]
              refine wpTill_ready (rs := [1, 11]) (by kernel_rfl) (by simp) ?_
              refine AllTill.cons (o := ⟨some 46, _, _, _, _, _⟩) rfl (fun K hK => ?_) ?_
              · go_simp
                refine hK.out _ _ (by exact hHeld) (fun hHeld => ?_)
                clear hK K
                try simp only [Act.put, List.setIfInBounds_toArray, List.set_cons_zero, List.set_cons_succ]
                refine wpTill_ready (rs := [11]) (by kernel_rfl) (by simp) ?_
                refine AllTill.consD (o := ⟨none, _, _, _, _, _⟩) rfl (by kernel_rfl) (fun K hK => ?_) AllTill.nil
                go_simp
                refine hK.out _ _ ?_
                clear hK K
                try simp only [Act.put, List.setIfInBounds_toArray, List.set_cons_zero, List.set_cons_succ]
                refine wpTill_take0 (i := 12) (oi := ⟨some 56, _, _, _, _, _⟩) (v := ?_) rfl (by kernel_rfl) (fun _ _ _ h => h) (Or.inl ⟨by rfl, ?_⟩) (fun h => Bool.noConfusion (h.symm.trans (show _ = true by kernel_rfl))) ?_
                rotate_left
                · intro w hSw
                  (try dsimp only at hSw)
                  go_simp
                  try with_reducible rfl
                try simp only [Act.put, List.setIfInBounds_toArray, List.set_cons_zero, List.set_cons_succ]
                refine wpTill_take0 (i := 13) (oi := ⟨some 57, _, _, _, _, _⟩) (v := ?_) rfl (by kernel_rfl) (fun _ _ _ h => h) (Or.inl ⟨by rfl, ?_⟩) (fun h => Bool.noConfusion (h.symm.trans (show _ = true by kernel_rfl))) ?_
                rotate_left
                · intro w hSw
                  (try dsimp only at hSw)
                  go_simp
                  try with_reducible rfl
                try simp only [Act.put, List.setIfInBounds_toArray, List.set_cons_zero, List.set_cons_succ]
                refine wpTill_ready (rs := [14]) (by kernel_rfl) (by simp) ?_
                refine AllTill.consD (o := ⟨none, _, _, _, _, _⟩) rfl (by kernel_rfl) (fun K hK => ?_) AllTill.nil
                go_simp
                refine hK.out _ _ ?_
                clear hK K
                try simp only [Act.put, List.setIfInBounds_toArray, List.set_cons_zero, List.set_cons_succ]
                refine wpTill_done (by kernel_rfl) ?_ _
                go_wp2_with fail
                go_meet
                case rel => first | rfl | (rw [a2]; done) | (rw [a2]; rfl) | (rw [a2, a1]; done) | (rw [a2, a1]; rfl)
              refine AllTill.consD (o := ⟨none, _, _, _, _, _⟩) rfl (by kernel_rfl) (fun K hK => ?_) ?_
              · go_simp
                refine hK.out _ _ ?_
                clear hK K
                try simp only [Act.put, List.setIfInBounds_toArray, List.set_cons_zero, List.set_cons_succ]
                refine wpTill_ready (rs := [1]) (by kernel_rfl) (by simp) ?_
                refine AllTill.consD (o := ⟨some 46, _, _, _, _, _⟩) rfl (by kernel_rfl) (fun K hK => ?_) AllTill.nil
                go_simp
                refine hK.out _ _ ?_
                clear hK K
                try simp only [Act.put, List.setIfInBounds_toArray, List.set_cons_zero, List.set_cons_succ]
                refine wpTill_take0 (i := 12) (oi := ⟨some 56, _, _, _, _, _⟩) (v := ?_) rfl (by kernel_rfl) (fun _ _ _ h => h) (Or.inl ⟨by rfl, ?_⟩) (fun h => Bool.noConfusion (h.symm.trans (show _ = true by kernel_rfl))) ?_
                rotate_left
                · intro w hSw
                  (try dsimp only at hSw)
                  go_simp
                  try with_reducible rfl
                try simp only [Act.put, List.setIfInBounds_toArray, List.set_cons_zero, List.set_cons_succ]
                refine wpTill_take0 (i := 13) (oi := ⟨some 57, _, _, _, _, _⟩) (v := ?_) rfl (by kernel_rfl) (fun _ _ _ h => h) (Or.inl ⟨by rfl, ?_⟩) (fun h => Bool.noConfusion (h.symm.trans (show _ = true by kernel_rfl))) ?_
                rotate_left
                · intro w hSw
                  (try dsimp only at hSw)
                  go_simp
                  try with_reducible rfl
                try simp only [Act.put, List.setIfInBounds_toArray, List.set_cons_zero, List.set_cons_succ]
                refine wpTill_ready (rs := [14]) (by kernel_rfl) (by simp) ?_
                refine AllTill.consD (o := ⟨none, _, _, _, _, _⟩) rfl (by kernel_rfl) (fun K hK => ?_) AllTill.nil
                go_simp
                refine hK.out _ _ ?_
                clear hK K
                try simp only [Act.put, List.setIfInBounds_toArray, List.set_cons_zero, List.set_cons_succ]
                refine wpTill_done (by kernel_rfl) ?_ _
                go_wp2_with fail
                go_meet
                case rel => first | rfl | (rw [a2]; done) | (rw [a2]; rfl) | (rw [a2, a1]; done) | (rw [a2, a1]; rfl)
              exact AllTill.nil
          case rest =>
            have hu5 : Upd (fun j => j = b) wr wc := by
              rw [hcut]
              exact (((Upd.refl (fun j => j = b) wr).setCell ⟨b, 2, none⟩ (.inl rfl) (.int .u64 A)).setCell ⟨b, 3, none⟩ (.inl rfl) (.bool true)).drew
            have hbw := HLT.out.2 b HLT.out.1
            have hz5 := hu5.keeps HKZ.out (by omega)
            have hy5 := hu5.keeps HKY2.out (by have := HYD.out; omega)
            have hAb : A ≤ 4611686018427387904 := by have := HA.out; omega
            have hl5 : LAt wc b ⟨s.L, s.nx, A, true⟩ fp := by
              refine ⟨vL, ogL, ⟨?_, HL5.out.row.keeps hu5 (fun g e q => HL5.out.apart (by rw [e, q])), ⟨HOK.out.len, HOK.out.nx, hAb, HOK.out.num, HOK.out.z, HOK.out.t⟩⟩, HFP.out⟩
              rw [hcut]
              exact set_at (set_at HL5.out.blk 2 (.int .u64 A)) 3 (.bool true)
            have hs5 := HI.out.set.keeps hu5 (by have := HDB.out; omega) (fun g e q => by have := HI.out.og g e; omega)
            have huw : Upd (fun j => j = b) w wc := (((Upd.below HB4.out).mono (fun j hj x => by omega) : Upd (fun j => j = b) w w4).trans HI.out.upd (H := fun j => j = b) (fun _ _ q => q) (fun j hj q => by have := HDB.out; omega)).then hu5
            have HUW := Lib.hid huw
            have HZ5 := Lib.hid hz5
            have HY5 := Lib.hid hy5
            have HL6 := Lib.hid hl5
            have HS5 := Lib.hid hs5
            have x5 := (cell_at hz5 0).trans (by rfl : _ = some (Value.pointer (some ⟨b, 0, none⟩)))
            have HZB := Lib.hid (show z ≠ b from by omega)
            have HBW := Lib.hid hbw
            clear hcut hu5 hz5 hy5 hl5 hs5 huw e2 e3 q2 q3 hAc hwt htp1 htpb x0 hbw
            generalize wc = w5 at *
            go_wp2_with fail
            refine (part_any b ⟨s.L, s.nx, A, true⟩ fp (fun p => rs.any (hasP p.n)) 24 (.pointer (some ⟨y, 0, none⟩)) _ (by exact HL6.out) (fun args W => rfl) (fun p _ W hW => by
              exact ack1_fn y d og (mostOf _) rs p W ((cell_at (below_keeps hW HY5.out (heap_lt HY5.out)) 0).trans rfl) (HS5.out.below hW))).mono ?_
            rintro e w6 ⟨v1, o1, rfl, hs1, hg1, ⟨fp6, hl6, hf6⟩, hu6⟩
            have HS1 := Lib.hid hs1
            have HG1 := Lib.hid (og_le1 hg1 HUW.out.size)
            have HL7 := Lib.hid hl6
            have HU6 := Lib.hid (HUW.out.then hu6)
            have hz6 := hu6.keeps HZ5.out (HZB.out)
            have HZ6 := Lib.hid hz6
            have x6 := (cell_at hz6 0).trans (by rfl : _ = some (Value.pointer (some ⟨b, 0, none⟩)))
            clear hs1 hg1 hl6 hf6 hu6 hz6 x5 HS5 HY5
            go_wp2_with fail
            refine (part_any b _ fp6 (fun p => decide (p.n + 3 ≤ A)) 26 (.pointer (some ⟨z, 0, none⟩)) _ (by exact HL7.out) (fun args W => rfl) (fun p hp W hW => by
              refine ack2_fn z b A p W ((cell_at (below_keeps hW HZ6.out (heap_lt HZ6.out)) 0).trans rfl) ((HL7.out.below hW).cells.2.1) ?_
              have h1 := HOK.out.num p (List.mem_filter.1 hp).1
              have h2 := HOK.out.nx
              omega)).mono ?_
            rintro e w7 ⟨v2, o2, rfl, hs2, hg2, ⟨fp7, hl7, hf7⟩, hu7⟩
            have HS2 := Lib.hid hs2
            have HG2 := Lib.hid (og_le1 hg2 HU6.out.size)
            have HS17 := Lib.hid (HS1.out.keeps hu7 (fun g e q => by
              have := HG1.out g e
              have := HBW.out
              omega))
            have HFIN := Lib.hid (show LM w w7 fp b (s.acks rs top) from by
              refine ⟨fp7, ?_, (HU6.out.then hu7).mono (fun j hj q => by rw [q]; exact HLT.out.1), fun g hg => ?_⟩
              · unfold LS.acks
                rw [HAK.out, HA.out]
                exact hl7
              · rcases hf7 g hg with q | q
                · exact .inl (by rw [q]; exact HLT.out.1)
                · right
                  have := HU6.out.size
                  omega)
            have hlost : s.lost rs top = ((s.L.filter fun p => !rs.any (hasP p.n)).filter fun p => decide (p.n + 3 ≤ A)) := by
              unfold LS.lost
              rw [HAK.out, HA.out]
            clear hs2 hg2 hl7 hf7 hu7 x6
            go_wp2_with fail
            go_ret3
            exact ⟨v1, o1, v2, o2, rfl, HS17.out, by rw [hlost]; exact HS2.out, HG1.out, HG2.out, HFIN.out⟩
end Go.Proofs.Ytacfbgnbjdckiaa
