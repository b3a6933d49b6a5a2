/- DERIVED. streams: On of a stream's frame (printed by mkston.py). -/
import Derived.Test.YtnneoeimgbemfaaGreatQH3
import Derived.Test.YtnneoeimgbemfaaGreatQH13
import Derived.Test.YtnneoeimgbemfaaGreatQH14
import Derived.Test.YtnneoeimgbemfaaGreatQH15
set_option linter.all false
namespace Go.Proofs.YtnneoeimgbemfaaGreat
open Go.RowKit

def ST.grow (t : ST) : Nat → ST
  | 0 => t
  | k + 1 => (t.grow k).add false ((t.grow k).newH false)
theorem ST.grow_facts (t : ST) : ∀ k, (t.grow k).own = t.own ∧ (t.grow k).others.length = t.others.length + k ∧ (t.grow k).rest = t.rest ∧ (t.grow k).mine = t.mine ∧ (t.grow k).theirs = t.theirs ∧ (∀ (i : Nat) (h : H1), t.others[i]? = some h → (t.grow k).others[i]? = some h)
  | 0 => ⟨rfl, rfl, rfl, rfl, rfl, fun _ _ h => h⟩
  | k + 1 => by
    obtain ⟨h1, h2, h3, h4, h5, h6⟩ := t.grow_facts k
    refine ⟨h1, ?_, h3, h4, h5, fun i h hi => ?_⟩
    · show ((t.grow k).others ++ [_]).length = _
      rw [List.length_append, h2]
      show t.others.length + k + 1 = t.others.length + (k + 1)
      omega
    · show ((t.grow k).others ++ [_])[i]? = some h
      have q := h6 i h hi
      rw [List.getElem?_append_left (by rw [List.getElem?_eq_some_iff] at q; exact q.1)]
      exact q
theorem ST.grow_side (t : ST) (k id : Nat) : (t.grow k).sideO id = t.sideO id := by
  obtain ⟨h1, h2, h3, h4, h5, h6⟩ := t.grow_facts k
  unfold ST.sideO
  rw [h3]
/-- How many streams are to be opened so that one is there. -/
def ST.need (t : ST) (id : Nat) : Nat := if t.sideO id = some false then id / 4 + 1 - t.others.length else 0
theorem ST.grow_find {t : ST} {id : Nat} (hg : t.gate id = none) (k : Nat) : (t.grow k).find id = none ↔ k < t.need id := by
  obtain ⟨h1, h2, h3, h4, h5, h6⟩ := t.grow_facts k
  unfold ST.find ST.need
  rw [t.grow_side k id]
  unfold ST.gate at hg
  cases ho : t.sideO id with
  | none => rw [ho] at hg; cases hg
  | some o =>
    rw [ho] at hg
    simp only at hg ⊢
    cases o
    · rw [if_pos rfl]
      show Option.map _ ((t.grow k).others[id / 4]?) = none ↔ _
      rw [Option.map_eq_none_iff, List.getElem?_eq_none_iff, h2]
      omega
    · rw [if_neg (by simp)]
      show Option.map _ ((t.grow k).own[id / 4]?) = none ↔ _
      rw [h1]
      have hf : t.find id ≠ none := by
        intro e
        rw [e] at hg
        simp at hg
      unfold ST.find at hf
      rw [ho] at hf
      constructor
      · intro e
        exact absurd e hf
      · omega
def H1.on (h : H1) (f : Fr) (d : List Nat) : H1 := if f.kd = 5 then ⟨h.id, h.s.rst f.code, h.r⟩ else if f.kd = 17 then ⟨h.id, { h.s with lim := max h.s.lim f.lim }, h.r⟩ else ⟨h.id, h.s, h.r.on f d⟩
/-- A stream's frame is taken. -/
def ST.onS (t : ST) (f : Fr) (d : List Nat) : ST := if t.may f d.length ≠ 0 then t else match (t.grow (t.need f.sid)).find f.sid with
  | none => t
  | some x => (t.grow (t.need f.sid)).put x.1 x.2.1 (x.2.2.on f d)
theorem ST.find_hs {t : ST} {id : Nat} {x : Bool × Nat × H1} (h : t.find id = some x) : (t.hs x.1)[x.2.1]? = some x.2.2 := by
  unfold ST.find at h
  cases ho : t.sideO id with
  | none => rw [ho] at h; cases h
  | some o =>
    rw [ho] at h
    simp only [Option.map_eq_some_iff] at h
    obtain ⟨a, h1, rfl⟩ := h
    exact h1
theorem rst_id (s : SS) (c : Nat) : (s.rst c).id = s.id := by
  unfold SS.rst
  split <;> rfl
theorem on_id (s : RS) (f : Fr) (d : List Nat) : (s.on f d).id = s.id := by
  unfold RS.on
  split
  · rfl
  · split
    · rfl
    · split
      · split <;> rfl
      · split <;> rfl
theorem gate_of {t : ST} {f : Fr} {n : Nat} (h : t.may f n = 0) : t.gate f.sid = none := by
  unfold ST.may at h
  cases hg : t.gate f.sid with
  | none => rfl
  | some c =>
    rw [hg] at h
    simp only at h
    subst h
    unfold ST.gate at hg
    split at hg
    · cases hg
    · split at hg <;> cases hg
    · split at hg <;> cases hg
def lenV : Option Value → Nat
  | some (.slice _ n _) => n
  | _ => 0
set_option maxRecDepth 100000 in
set_option maxHeartbeats 4000000 in
theorem ton_str (p : Nat) (t : ST) (lab : Nat → Lab) (a b : Nat) (f : Fr) (od : Option Addr) (n cd : Nat) (d : List Nat) (w : World) (h : StAt w p t lab a b) (hf : FrOk f) (hv : f.vd = .slice od n cd) (hk : f.kd = 8 ∨ f.kd = 4 ∨ f.kd = 5 ∨ f.kd = 17)
    (hd : VwA encB (fun k => lab k ≠ .out) w f.vd d) (hby : Bys d) (hdn : d.length = n) (hn : n ≤ 1099511627776) (h8 : t.mine.ms ≤ 900) (hol : t.others.length ≤ 900) :
    Calls Tryz.prog 9 #[.pointer (some ⟨p, 0, none⟩), .agg (encF f).toArray] w fun e w' => e = .returned (.int .i64 (t.may f n)) ∧ ∃ lab', StAt w' p (t.onS f d) lab' a b ∧ Went (fun k => lab k ≠ .out) (fun k => lab' k ≠ .out) w w' := by
  obtain ⟨kd, sid, off, vd, fin, lim, code, fnl, seq, dly, vr, e0, e1, e2, e3, e4, e5, e6, e7⟩ := f
  obtain rfl : vd = .slice od n cd := hv
  simp only at hk hd
  have HF := Lib.hid (And.intro hf (And.intro hby (And.intro hdn hn)))
  obtain ⟨W1, hW1⟩ : ∃ W1, W1 = w.alloc (.cells (encF ⟨kd, sid, off, .slice od n cd, fin, lim, code, fnl, seq, dly, vr, e0, e1, e2, e3, e4, e5, e6, e7⟩).toArray 46) := ⟨_, rfl⟩
  have hb1 : Below w.heap.size w W1 := by rw [hW1]; exact (Below.refl _ _).alloc (Nat.le_refl _) _
  have hzf : W1.heap[w.heap.size]? = some (.cells (encF ⟨kd, sid, off, .slice od n cd, fin, lim, code, fnl, seq, dly, vr, e0, e1, e2, e3, e4, e5, e6, e7⟩).toArray 46 (0, 0)) := by rw [hW1]; exact alloc_at _ _
  have HB1 := Lib.hid hb1
  have HZ1 := Lib.hid hzf
  have H1 := Lib.hid (h.below hb1)
  have HV1 := Lib.hid (show VwA encB (fun k => lab k ≠ .out) W1 (.slice od n cd) d from hd.wentU ((Went.refl _ _).later hb1))
  have z0 : W1.cell? ⟨w.heap.size, 0, none⟩ = some (.int .i64 kd) := (cell_at hzf 0).trans rfl
  have HZO := Lib.hid (show lab w.heap.size = .out from by
    cases hq : lab w.heap.size with
    | out => rfl
    | _ => have := h.lt w.heap.size (by rw [hq]; simp); omega)
  have hsid := hf.sid
  simp only at hsid
  obtain ⟨ans, hans⟩ : ∃ ans, t.may ⟨kd, sid, off, .slice od n cd, fin, lim, code, fnl, seq, dly, vr, e0, e1, e2, e3, e4, e5, e6, e7⟩ n = ans := ⟨_, rfl⟩
  have HANS := Lib.hid hans
  rw [hans]
  have HON := Lib.hid (show t.onS ⟨kd, sid, off, .slice od n cd, fin, lim, code, fnl, seq, dly, vr, e0, e1, e2, e3, e4, e5, e6, e7⟩ d = if ans ≠ 0 then t else match (t.grow (t.need sid)).find sid with
      | none => t
      | some x => (t.grow (t.need sid)).put x.1 x.2.1 (x.2.2.on ⟨kd, sid, off, .slice od n cd, fin, lim, code, fnl, seq, dly, vr, e0, e1, e2, e3, e4, e5, e6, e7⟩ d) from by
    unfold ST.onS
    rw [hdn, hans])
  obtain ⟨TN, hTN⟩ : ∃ TN, t.onS ⟨kd, sid, off, .slice od n cd, fin, lim, code, fnl, seq, dly, vr, e0, e1, e2, e3, e4, e5, e6, e7⟩ d = TN := ⟨_, rfl⟩
  rw [hTN] at HON ⊢
  clear hTN
  clear h hb1 hf hn hzf hans hd hby hdn
  simp only [encF] at hW1 ⊢
  go_enter Tryz.func9, Tryz.ntmps9
  go_upto_region 1 with fail
  rw [← hW1]
  clear hW1
  obtain ⟨z, hz⟩ : ∃ z, w.heap.size = z := ⟨_, rfl⟩
  have HZ := Lib.hid hz
  rw [hz] at HZ1 z0 HZO ⊢
  clear hz
  go_upto_block 0 with fail
  go_cut [] (fun wx => wx = W1)
  case first =>
    rcases hk with rfl | rfl | rfl | rfl
    all_goals
      go_wp2_with fail
      go_meet
      case rel => rfl
  case rest =>
    obtain rfl := hcut.symm
    go_wp2_with (refine wpList_load_row rfl 46 (.tmp 3) rfl z rfl 46 _ (0, 0) _ (by exact HZ1.out) Tryz.underlying46 rfl (by rw [sizeF]; rfl) ?_)
    refine (tmay_any p t lab a b ⟨kd, sid, off, .slice od n cd, fin, lim, code, fnl, seq, dly, vr, e0, e1, e2, e3, e4, e5, e6, e7⟩ od n cd _ (by exact H1.out) HF.out.1 rfl HF.out.2.2.2).mono ?_
    rw [HANS.out]
    rintro e w2 ⟨rfl, hb2⟩
    have H2 := Lib.hid (H1.out.below hb2)
    have HZ2 := Lib.hid (below_keeps hb2 HZ1.out (heap_lt HZ1.out))
    have HW2 := Lib.hid (show Went (fun k => lab k ≠ .out) (fun k => lab k ≠ .out) w w2 from ((Went.refl _ _).later HB1.out).later hb2)
    have HV2 := Lib.hid (HV1.out.wentU ((Went.refl _ _).later hb2))
    clear hb2 H1 HZ1 HV1 HB1 z0
    by_cases a0 : ans = 0
    · subst a0
      have hgate := gate_of HANS.out
      simp only at hgate
      have HGT := Lib.hid hgate
      obtain ⟨nd, hnd⟩ : ∃ nd, t.need sid = nd := ⟨_, rfl⟩
      have HND := Lib.hid hnd
      have hndb : t.others.length + nd ≤ 1000 := by
        rw [← hnd]
        unfold ST.need
        split
        · rename_i hso
          unfold ST.gate at hgate
          rw [hso] at hgate
          simp only at hgate
          split at hgate
          · cases hgate
          · omega
        · omega
      obtain ⟨ol, hol2⟩ : ∃ ol, t.others.length = ol := ⟨_, rfl⟩
      rw [hol2] at hndb hol
      have HOL := Lib.hid hol2
      clear hgate hnd hol2 HANS
      go_wp2_with fail
      go_loopw [] (fun wr => ∃ k lab', k ≤ nd ∧ StAt wr p (t.grow k) lab' a b ∧ Went (fun k => lab k ≠ .out) (fun k => lab' k ≠ .out) w wr ∧ wr.heap[z]? = some (.cells (encF ⟨kd, sid, off, .slice od n cd, fin, lim, code, fnl, seq, dly, vr, e0, e1, e2, e3, e4, e5, e6, e7⟩).toArray 46 (0, 0)) ∧ lab' z = .out ∧ VwA encB (fun k => lab' k ≠ .out) wr (.slice od n cd) d) (fun wr => nd + ol - lenV (wr.cell? ⟨b, 1, none⟩))
      case atStart => exact ⟨0, lab, Nat.zero_le _, H2.out, HW2.out, HZ2.out, HZO.out, HV2.out⟩
      case round =>
        obtain ⟨k, lab', hk2, hs, hw, hz, hzo, hvw⟩ := hrel
        have HV3 := Lib.hid hvw
        have HS := Lib.hid hs
        have HW := Lib.hid hw
        have HZ3 := Lib.hid hz
        have HZO3 := Lib.hid hzo
        have z1 : wr.cell? ⟨z, 1, none⟩ = some (.int .u64 sid) := (cell_at hz 1).trans rfl
        have hlen : (t.grow k).others.length = ol + k := by rw [(t.grow_facts k).2.1, HOL.out]
        have hm1 : lenV (wr.cell? ⟨b, 1, none⟩) = ol + k := by
          obtain ⟨_, _, _, q, _⟩ := side_elt hs.others
          rw [q]
          exact hlen
        have HM1 := Lib.hid hm1
        have HLEN := Lib.hid hlen
        have c25 : wr.cell? ⟨p, 25, none⟩ = some (.pointer (some ⟨b, 0, none⟩)) := (hs.cell 25).trans rfl
        clear hs hw hz hzo hvw H2 HW2 HZ2 HV2 hm1 hlen
        go_wp2_with fail
        refine (tfind_q p (t.grow k) lab' a b sid _ (by exact HS.out) hsid).mono ?_
        rintro e w3 ⟨v, rfl, hv, n3, rfl⟩
        rcases hv with ⟨hfn, rfl⟩ | ⟨o, i, hh, y, hfn, hya, hst, rfl⟩
        · have hlt : k < nd := by rw [← HND.out]; exact (ST.grow_find HGT.out k).1 hfn
          clear hfn
          go_wp2_with fail
          refine (topen_any p (t.grow k) lab' a b _ (by exact HS.out.drewN n3) false (by show (t.grow k).others.length < 1000; rw [HLEN.out]; omega) b rfl).mono ?_
          rintro e w4 ⟨y, lab2, rfl, hs4, _, hw4⟩
          have hm2 : lenV (w4.cell? ⟨b, 1, none⟩) = ol + k + 1 := by
            obtain ⟨_, _, _, q, _⟩ := side_elt hs4.others
            rw [q]
            show ((t.grow k).others ++ [_]).length = _
            rw [List.length_append, HLEN.out]
            rfl
          have hzw : w4.heap[z]? = some (.cells (encF ⟨kd, sid, off, .slice od n cd, fin, lim, code, fnl, seq, dly, vr, e0, e1, e2, e3, e4, e5, e6, e7⟩).toArray 46 (0, 0)) := hw4.upd.keeps HZ3.out (fun q => q HZO3.out)
          have hzo4 : lab2 z = .out := by
            cases hq : lab2 z with
            | out => rfl
            | _ =>
              exfalso
              rcases hw4.new z (by rw [hq]; simp) with e | e
              · exact e HZO3.out
              · have := heap_lt HZ3.out
                have e : wr.heap.size ≤ z := e
                omega
          have HR := Lib.hid (show ∃ k lab', k ≤ nd ∧ StAt w4 p (t.grow k) lab' a b ∧ Went (fun k => lab k ≠ .out) (fun k => lab' k ≠ .out) w w4 ∧ w4.heap[z]? = some (.cells (encF ⟨kd, sid, off, .slice od n cd, fin, lim, code, fnl, seq, dly, vr, e0, e1, e2, e3, e4, e5, e6, e7⟩).toArray 46 (0, 0)) ∧ lab' z = .out ∧ VwA encB (fun k => lab' k ≠ .out) w4 (.slice od n cd) d from
            ⟨k + 1, lab2, hlt, hs4, (HW.out.drewN n3).trans hw4, hzw, hzo4, (HV3.out.wentU ((Went.refl _ _).later (below_drewN (Below.refl _ _) n3))).wentU hw4⟩)
          have HM2 := Lib.hid hm2
          clear hs4 hw4 hm2 hzw hzo4
          go_wp2_with fail
          go_roundw
          case rel => exact HR.out
          case measure =>
            have q1 := HM1.out
            have q2 := HM2.out
            simp only [q1, q2]
            omega
        · have hkn : k = nd := by
            have := (ST.grow_find HGT.out k)
            rw [hfn, HND.out] at this
            simp only [reduceCtorEq, false_iff] at this
            omega
          subst hkn
          have HFN := Lib.hid hfn
          clear hya hst hfn c25
          go_wp2_with fail
          refine (tfind_q p (t.grow k) lab' a b sid _ (by exact HS.out.drewN n3) hsid).mono ?_
          rintro e w5 ⟨v, rfl, hv, n5, rfl⟩
          rcases hv with ⟨hfn, rfl⟩ | ⟨o2, i2, hh2, y2, hfn, hya, hst, rfl⟩
          · rw [HFN.out] at hfn
            cases hfn
          · rw [HFN.out] at hfn
            cases hfn
            clear hst
            have hsb : Below wr.heap.size wr ((wr.drewN n3).drewN n5) := below_drewN (below_drewN (Below.refl _ _) n3) n5
            have hs9 := HS.out.below hsb
            obtain ⟨bs, br, fs, fr, hyb, hsd, hrc, lfs, lfr, tS, tR⟩ := hs9.turn (ST.find_hs HFN.out) (hya.below (below_drewN (Below.refl _ _) n5))
            have HSC := Lib.hid hsd
            have HRC := Lib.hid hrc
            have HY := Lib.hid hyb
            have HZ9 := Lib.hid (below_keeps hsb HZ3.out (heap_lt HZ3.out))
            have HW9 := Lib.hid ((HW.out.later hsb))
            have HVW := Lib.hid ((HV3.out.wentU ((Went.refl _ _).later hsb)).mono (F := fr) (fun k hk => by rw [lfr k hk]; simp))
            have HTS := Lib.hid tS
            have HTR := Lib.hid tR
            have HPOST := Lib.hid (show ∀ w10 h', hh.on ⟨kd, sid, off, .slice od n cd, fin, lim, code, fnl, seq, dly, vr, e0, e1, e2, e3, e4, e5, e6, e7⟩ d = h' → (∃ lab2, StAt w10 p ((t.grow k).put o i h') lab2 a b ∧ Went (fun k => lab' k ≠ .out) (fun k => lab2 k ≠ .out) ((wr.drewN n3).drewN n5) w10) → ∃ lab2, StAt w10 p TN lab2 a b ∧ Went (fun k => lab k ≠ .out) (fun k => lab2 k ≠ .out) w w10 from fun w10 h' he hq => by
              obtain ⟨lab2, q1, q2⟩ := hq
              rw [HON.out, if_neg (by simp), HND.out, HFN.out]
              exact ⟨lab2, by rw [← he] at q1; exact q1, HW9.out.trans q2⟩)
            have hyl := heap_lt hyb
            have y1 := (cell_at hyb 1).trans (by rfl : _ = some (Value.pointer (some ⟨bs, 0, none⟩)))
            have y2' := (cell_at hyb 2).trans (by rfl : _ = some (Value.pointer (some ⟨br, 0, none⟩)))
            have z0 := (cell_at HZ9.out 0).trans (by rfl : _ = some (Value.int .i64 kd))
            have z5 := (cell_at HZ9.out 5).trans (by rfl : _ = some (Value.int .u64 lim))
            have z6 := (cell_at HZ9.out 6).trans (by rfl : _ = some (Value.int .u64 code))
            clear hsb hs9 hyb hsd hrc lfs lfr tS tR HV3 HS HW HZ3 HZO3 z1 hya HM1 HLEN HY
            generalize (wr.drewN n3).drewN n5 = w9 at *
            rcases hk with rfl | rfl | rfl | rfl
            · have HRT := Lib.hid (fun w10 (hm : RM w9 w10 fr br (hh.r.on _ d)) => HPOST.out w10 _ (by unfold H1.on; rw [if_neg (by simp), if_neg (by simp)]) (by obtain ⟨lab2, q1, q2, _⟩ := HTR.out w10 _ hm (on_id _ _ _); exact ⟨lab2, q1, q2⟩))
              have HS9 := Lib.hid (show w9.drew.cell? ⟨y2, 1, none⟩ = some (.pointer (some ⟨bs, 0, none⟩)) ∧ w9.drew.cell? ⟨y2, 2, none⟩ = some (.pointer (some ⟨br, 0, none⟩)) from ⟨y1, y2'⟩)
              clear HPOST HTS HTR y1 y2' z5 z6
              go_upto_region 20 with fail
              refine wp_region_till (S := fun w' => w'.cell? ⟨y2, 2, none⟩ = some (.pointer (some ⟨br, 0, none⟩))) [5] (by kernel_rfl) (by exact HS9.out.2) (fun hHeld => ?_)
              refine wpTill_take0 (i := 0) (oi := ⟨some 52, _, _, _, _, _⟩) (v := ?_) rfl (by kernel_rfl) (fun _ _ _ h => h) (Or.inl ⟨by rfl, ?_⟩) (fun _ => hHeld) ?_
              rotate_left
              · intro w hSw
                (try dsimp only at hSw)
                go_simp
                try with_reducible rfl
              try simp only [Act.put, List.setIfInBounds_toArray, List.set_cons_zero, List.set_cons_succ]
              refine wpTill_take0 (i := 1) (oi := ⟨some 53, _, _, _, _, _⟩) (v := ?_) rfl (by kernel_rfl) (fun _ _ _ h => h) (Or.inl ⟨by rfl, ?_⟩) (fun _ => hHeld) ?_
              rotate_left
              · intro w hSw
                (try dsimp only at hSw)
                go_simp
                try with_reducible rfl
              try simp only [Act.put, List.setIfInBounds_toArray, List.set_cons_zero, List.set_cons_succ]
              refine wpTill_take0 (i := 2) (oi := ⟨some 54, _, _, _, _, _⟩) (v := ?_) rfl (by kernel_rfl) (fun _ _ _ h => h) (Or.inl ⟨by rfl, ?_⟩) (fun _ => hHeld) ?_
              rotate_left
              · intro w hSw
                (try dsimp only at hSw)
                go_simp
                try with_reducible rfl
              try simp only [Act.put, List.setIfInBounds_toArray, List.set_cons_zero, List.set_cons_succ]
              refine wpTill_take (i := 3) (oi := ⟨some 55, _, _, _, _, _⟩) (v := ?_) rfl (by kernel_rfl) (fun _ _ _ h => h) (Or.inl ⟨by rfl, ?_⟩) (by exact hHeld) ?_
              rotate_left
              · intro w hSw
                (try dsimp only at hSw)
                go_simp
                try with_reducible rfl
              try simp only [Act.put, List.setIfInBounds_toArray, List.set_cons_zero, List.set_cons_succ]
              refine wpTill_ready (rs := [4]) (by kernel_rfl) (by simp) ?_
              refine AllTill.cons (o := ⟨some 56, _, _, _, _, _⟩) rfl (fun K hK => ?_) AllTill.nil
              rw [if_pos (show Region.wanted _ _ = true from rfl)]
              refine wp_load_row 46 (.tmp 3) rfl z rfl 46 _ (0, 0) _ (by exact HZ9.out) Tryz.underlying46 rfl (by rw [sizeF]; rfl) ?_
              refine hK.out _ _ (by exact hHeld) (fun hHeld => ?_)
              clear hK K
              try simp only [Act.put, List.setIfInBounds_toArray, List.set_cons_zero, List.set_cons_succ]
              refine wpTill_ready (rs := [5]) (by kernel_rfl) (by simp) ?_
              refine AllTill.consD (o := ⟨some 57, _, _, _, _, _⟩) rfl (by kernel_rfl) (fun K hK => ?_) AllTill.nil
              rw [if_pos (show Region.wanted _ _ = true from rfl)]
              go_simp
              go_at_call 30
              refine (ron_any br hh.r fr ⟨8, sid, off, .slice od n cd, fin, lim, code, fnl, seq, dly, vr, e0, e1, e2, e3, e4, e5, e6, e7⟩ od n cd d _ (by exact HRC.out.below (by first | exact Below.refl _ _ | exact (Below.refl _ _).drew)) HF.out.1 rfl (by exact HVW.out.wentU ((Went.refl _ _).later (by first | exact Below.refl _ _ | exact (Below.refl _ _).drew))) HF.out.2.1 HF.out.2.2.1 (by have := HF.out.2.2.2; omega)).mono ?_
              rintro e w10 ⟨rfl, hm⟩
              have HE10 := Lib.hid (HRT.out w10 (by obtain ⟨fp', m1, m2⟩ := hm; exact ⟨fp', m1, m2.first (Below.refl _ _).drew⟩))
              clear hm
              go_wp2_with fail
              refine hK.out _ _ ?_
              clear hK K
              try simp only [Act.put, List.setIfInBounds_toArray, List.set_cons_zero, List.set_cons_succ]
              refine wpTill_done (by kernel_rfl) ?_ _
              go_wp2_with fail
              go_ret
              exact ⟨rfl, HE10.out⟩
            · have HRT := Lib.hid (fun w10 (hm : RM w9 w10 fr br (hh.r.on _ d)) => HPOST.out w10 _ (by unfold H1.on; rw [if_neg (by simp), if_neg (by simp)]) (by obtain ⟨lab2, q1, q2, _⟩ := HTR.out w10 _ hm (on_id _ _ _); exact ⟨lab2, q1, q2⟩))
              have HS9 := Lib.hid (show w9.drew.cell? ⟨y2, 1, none⟩ = some (.pointer (some ⟨bs, 0, none⟩)) ∧ w9.drew.cell? ⟨y2, 2, none⟩ = some (.pointer (some ⟨br, 0, none⟩)) from ⟨y1, y2'⟩)
              clear HPOST HTS HTR y1 y2' z5 z6
              go_upto_region 20 with fail
              refine wp_region_till (S := fun w' => w'.cell? ⟨y2, 2, none⟩ = some (.pointer (some ⟨br, 0, none⟩))) [5] (by kernel_rfl) (by exact HS9.out.2) (fun hHeld => ?_)
              refine wpTill_take0 (i := 0) (oi := ⟨some 52, _, _, _, _, _⟩) (v := ?_) rfl (by kernel_rfl) (fun _ _ _ h => h) (Or.inl ⟨by rfl, ?_⟩) (fun _ => hHeld) ?_
              rotate_left
              · intro w hSw
                (try dsimp only at hSw)
                go_simp
                try with_reducible rfl
              try simp only [Act.put, List.setIfInBounds_toArray, List.set_cons_zero, List.set_cons_succ]
              refine wpTill_take0 (i := 1) (oi := ⟨some 53, _, _, _, _, _⟩) (v := ?_) rfl (by kernel_rfl) (fun _ _ _ h => h) (Or.inl ⟨by rfl, ?_⟩) (fun _ => hHeld) ?_
              rotate_left
              · intro w hSw
                (try dsimp only at hSw)
                go_simp
                try with_reducible rfl
              try simp only [Act.put, List.setIfInBounds_toArray, List.set_cons_zero, List.set_cons_succ]
              refine wpTill_take0 (i := 2) (oi := ⟨some 54, _, _, _, _, _⟩) (v := ?_) rfl (by kernel_rfl) (fun _ _ _ h => h) (Or.inl ⟨by rfl, ?_⟩) (fun _ => hHeld) ?_
              rotate_left
              · intro w hSw
                (try dsimp only at hSw)
                go_simp
                try with_reducible rfl
              try simp only [Act.put, List.setIfInBounds_toArray, List.set_cons_zero, List.set_cons_succ]
              refine wpTill_take (i := 3) (oi := ⟨some 55, _, _, _, _, _⟩) (v := ?_) rfl (by kernel_rfl) (fun _ _ _ h => h) (Or.inl ⟨by rfl, ?_⟩) (by exact hHeld) ?_
              rotate_left
              · intro w hSw
                (try dsimp only at hSw)
                go_simp
                try with_reducible rfl
              try simp only [Act.put, List.setIfInBounds_toArray, List.set_cons_zero, List.set_cons_succ]
              refine wpTill_ready (rs := [4]) (by kernel_rfl) (by simp) ?_
              refine AllTill.cons (o := ⟨some 56, _, _, _, _, _⟩) rfl (fun K hK => ?_) AllTill.nil
              rw [if_pos (show Region.wanted _ _ = true from rfl)]
              refine wp_load_row 46 (.tmp 3) rfl z rfl 46 _ (0, 0) _ (by exact HZ9.out) Tryz.underlying46 rfl (by rw [sizeF]; rfl) ?_
              refine hK.out _ _ (by exact hHeld) (fun hHeld => ?_)
              clear hK K
              try simp only [Act.put, List.setIfInBounds_toArray, List.set_cons_zero, List.set_cons_succ]
              refine wpTill_ready (rs := [5]) (by kernel_rfl) (by simp) ?_
              refine AllTill.consD (o := ⟨some 57, _, _, _, _, _⟩) rfl (by kernel_rfl) (fun K hK => ?_) AllTill.nil
              rw [if_pos (show Region.wanted _ _ = true from rfl)]
              go_simp
              go_at_call 30
              refine (ron_any br hh.r fr ⟨4, sid, off, .slice od n cd, fin, lim, code, fnl, seq, dly, vr, e0, e1, e2, e3, e4, e5, e6, e7⟩ od n cd d _ (by exact HRC.out.below (by first | exact Below.refl _ _ | exact (Below.refl _ _).drew)) HF.out.1 rfl (by exact HVW.out.wentU ((Went.refl _ _).later (by first | exact Below.refl _ _ | exact (Below.refl _ _).drew))) HF.out.2.1 HF.out.2.2.1 (by have := HF.out.2.2.2; omega)).mono ?_
              rintro e w10 ⟨rfl, hm⟩
              have HE10 := Lib.hid (HRT.out w10 (by obtain ⟨fp', m1, m2⟩ := hm; exact ⟨fp', m1, m2.first (Below.refl _ _).drew⟩))
              clear hm
              go_wp2_with fail
              refine hK.out _ _ ?_
              clear hK K
              try simp only [Act.put, List.setIfInBounds_toArray, List.set_cons_zero, List.set_cons_succ]
              refine wpTill_done (by kernel_rfl) ?_ _
              go_wp2_with fail
              go_ret
              exact ⟨rfl, HE10.out⟩
            · have HRT := Lib.hid (fun w10 (hm : SdM w9 w10 fs bs (hh.s.rst code)) => HPOST.out w10 _ (by unfold H1.on; rw [if_pos rfl]) (by obtain ⟨lab2, q1, q2, _⟩ := HTS.out w10 _ hm (rst_id _ _); exact ⟨lab2, q1, q2⟩))
              have HS9 := Lib.hid (show w9.drew.cell? ⟨y2, 1, none⟩ = some (.pointer (some ⟨bs, 0, none⟩)) ∧ w9.drew.cell? ⟨z, 6, none⟩ = some (.int .u64 code) from ⟨y1, z6⟩)
              clear HPOST HTS HTR y1 y2' z5 z6
              go_upto_region 22 with fail
              refine wp_region_till (S := fun w' => w'.cell? ⟨y2, 1, none⟩ = some (.pointer (some ⟨bs, 0, none⟩)) ∧ w'.cell? ⟨z, 6, none⟩ = some (.int .u64 code)) [6] (by kernel_rfl) (by exact HS9.out) (fun hHeld => ?_)
              refine wpTill_take0 (i := 0) (oi := ⟨some 60, _, _, _, _, _⟩) (v := ?_) rfl (by kernel_rfl) (fun _ _ _ h => h) (Or.inl ⟨by rfl, ?_⟩) (fun _ => hHeld) ?_
              rotate_left
              · intro w hSw
                (try dsimp only at hSw)
                go_simp
                try with_reducible rfl
              try simp only [Act.put, List.setIfInBounds_toArray, List.set_cons_zero, List.set_cons_succ]
              refine wpTill_take0 (i := 1) (oi := ⟨some 61, _, _, _, _, _⟩) (v := ?_) rfl (by kernel_rfl) (fun _ _ _ h => h) (Or.inl ⟨by rfl, ?_⟩) (fun _ => hHeld) ?_
              rotate_left
              · intro w hSw
                (try dsimp only at hSw)
                go_simp
                try with_reducible rfl
              try simp only [Act.put, List.setIfInBounds_toArray, List.set_cons_zero, List.set_cons_succ]
              refine wpTill_take0 (i := 2) (oi := ⟨some 62, _, _, _, _, _⟩) (v := ?_) rfl (by kernel_rfl) (fun _ _ _ h => h) (Or.inl ⟨by rfl, ?_⟩) (fun _ => hHeld) ?_
              rotate_left
              · intro w hSw
                (try dsimp only at hSw)
                go_simp
                try with_reducible rfl
              try simp only [Act.put, List.setIfInBounds_toArray, List.set_cons_zero, List.set_cons_succ]
              refine wpTill_take (i := 3) (oi := ⟨some 63, _, _, _, _, _⟩) (v := ?_) rfl (by kernel_rfl) (fun _ _ _ h => h) (Or.inl ⟨by rfl, ?_⟩) (by exact hHeld) ?_
              rotate_left
              · intro w hSw
                (try dsimp only at hSw)
                go_simp
                try with_reducible rfl
              try simp only [Act.put, List.setIfInBounds_toArray, List.set_cons_zero, List.set_cons_succ]
              refine wpTill_take0 (i := 4) (oi := ⟨some 64, _, _, _, _, _⟩) (v := ?_) rfl (by kernel_rfl) (fun _ _ _ h => h) (Or.inl ⟨by rfl, ?_⟩) (fun _ => hHeld) ?_
              rotate_left
              · intro w hSw
                (try dsimp only at hSw)
                go_simp
                try with_reducible rfl
              try simp only [Act.put, List.setIfInBounds_toArray, List.set_cons_zero, List.set_cons_succ]
              refine wpTill_take (i := 5) (oi := ⟨some 65, _, _, _, _, _⟩) (v := ?_) rfl (by kernel_rfl) (fun _ _ _ h => h) (Or.inl ⟨by rfl, ?_⟩) (by exact hHeld) ?_
              rotate_left
              · intro w hSw
                (try dsimp only at hSw)
                go_simp
                try with_reducible rfl
              try simp only [Act.put, List.setIfInBounds_toArray, List.set_cons_zero, List.set_cons_succ]
              refine wpTill_ready (rs := [6]) (by kernel_rfl) (by simp) ?_
              refine AllTill.consD (o := ⟨some 66, _, _, _, _, _⟩) rfl (by kernel_rfl) (fun K hK => ?_) AllTill.nil
              rw [if_pos (show Region.wanted _ _ = true from rfl)]
              go_simp
              go_at_call 28
              refine (sreset_any bs hh.s fs code _ (by exact HSC.out.below (by first | exact Below.refl _ _ | exact (Below.refl _ _).drew)) HF.out.1.code).mono ?_
              rintro e w10 ⟨rfl, hm⟩
              have HE10 := Lib.hid (HRT.out w10 (by obtain ⟨fp', m1, m2⟩ := hm; exact ⟨fp', m1, m2.first (Below.refl _ _).drew⟩))
              clear hm
              go_wp2_with fail
              refine hK.out _ _ ?_
              clear hK K
              try simp only [Act.put, List.setIfInBounds_toArray, List.set_cons_zero, List.set_cons_succ]
              refine wpTill_done (by kernel_rfl) ?_ _
              go_wp2_with fail
              go_ret
              exact ⟨rfl, HE10.out⟩
            · have HRT := Lib.hid (fun w10 (hm : SdM w9 w10 fs bs { hh.s with lim := max hh.s.lim lim }) => HPOST.out w10 _ (by unfold H1.on; rw [if_neg (by simp), if_pos rfl]) (by obtain ⟨lab2, q1, q2, _⟩ := HTS.out w10 _ hm rfl; exact ⟨lab2, q1, q2⟩))
              have HS9 := Lib.hid (show w9.drew.cell? ⟨y2, 1, none⟩ = some (.pointer (some ⟨bs, 0, none⟩)) ∧ w9.drew.cell? ⟨z, 5, none⟩ = some (.int .u64 lim) from ⟨y1, z5⟩)
              clear HPOST HTS HTR y1 y2' z5 z6
              go_upto_region 24 with fail
              refine wp_region_till (S := fun w' => w'.cell? ⟨y2, 1, none⟩ = some (.pointer (some ⟨bs, 0, none⟩)) ∧ w'.cell? ⟨z, 5, none⟩ = some (.int .u64 lim)) [6] (by kernel_rfl) (by exact HS9.out) (fun hHeld => ?_)
              refine wpTill_take0 (i := 0) (oi := ⟨some 69, _, _, _, _, _⟩) (v := ?_) rfl (by kernel_rfl) (fun _ _ _ h => h) (Or.inl ⟨by rfl, ?_⟩) (fun _ => hHeld) ?_
              rotate_left
              · intro w hSw
                (try dsimp only at hSw)
                go_simp
                try with_reducible rfl
              try simp only [Act.put, List.setIfInBounds_toArray, List.set_cons_zero, List.set_cons_succ]
              refine wpTill_take0 (i := 1) (oi := ⟨some 70, _, _, _, _, _⟩) (v := ?_) rfl (by kernel_rfl) (fun _ _ _ h => h) (Or.inl ⟨by rfl, ?_⟩) (fun _ => hHeld) ?_
              rotate_left
              · intro w hSw
                (try dsimp only at hSw)
                go_simp
                try with_reducible rfl
              try simp only [Act.put, List.setIfInBounds_toArray, List.set_cons_zero, List.set_cons_succ]
              refine wpTill_take0 (i := 2) (oi := ⟨some 71, _, _, _, _, _⟩) (v := ?_) rfl (by kernel_rfl) (fun _ _ _ h => h) (Or.inl ⟨by rfl, ?_⟩) (fun _ => hHeld) ?_
              rotate_left
              · intro w hSw
                (try dsimp only at hSw)
                go_simp
                try with_reducible rfl
              try simp only [Act.put, List.setIfInBounds_toArray, List.set_cons_zero, List.set_cons_succ]
              refine wpTill_take (i := 3) (oi := ⟨some 72, _, _, _, _, _⟩) (v := ?_) rfl (by kernel_rfl) (fun _ _ _ h => h) (Or.inl ⟨by rfl, ?_⟩) (by exact hHeld) ?_
              rotate_left
              · intro w hSw
                (try dsimp only at hSw)
                go_simp
                try with_reducible rfl
              try simp only [Act.put, List.setIfInBounds_toArray, List.set_cons_zero, List.set_cons_succ]
              refine wpTill_take0 (i := 4) (oi := ⟨some 73, _, _, _, _, _⟩) (v := ?_) rfl (by kernel_rfl) (fun _ _ _ h => h) (Or.inl ⟨by rfl, ?_⟩) (fun _ => hHeld) ?_
              rotate_left
              · intro w hSw
                (try dsimp only at hSw)
                go_simp
                try with_reducible rfl
              try simp only [Act.put, List.setIfInBounds_toArray, List.set_cons_zero, List.set_cons_succ]
              refine wpTill_take (i := 5) (oi := ⟨some 74, _, _, _, _, _⟩) (v := ?_) rfl (by kernel_rfl) (fun _ _ _ h => h) (Or.inl ⟨by rfl, ?_⟩) (by exact hHeld) ?_
              rotate_left
              · intro w hSw
                (try dsimp only at hSw)
                go_simp
                try with_reducible rfl
              try simp only [Act.put, List.setIfInBounds_toArray, List.set_cons_zero, List.set_cons_succ]
              refine wpTill_ready (rs := [6]) (by kernel_rfl) (by simp) ?_
              refine AllTill.consD (o := ⟨some 75, _, _, _, _, _⟩) rfl (by kernel_rfl) (fun K hK => ?_) AllTill.nil
              rw [if_pos (show Region.wanted _ _ = true from rfl)]
              go_simp
              go_at_call 29
              refine (slimit_any bs hh.s fs lim _ (by exact HSC.out.below (by first | exact Below.refl _ _ | exact (Below.refl _ _).drew)) HF.out.1.lim).mono ?_
              rintro e w10 ⟨rfl, hm⟩
              have HE10 := Lib.hid (HRT.out w10 (by obtain ⟨fp', m1, m2⟩ := hm; exact ⟨fp', m1, m2.first (Below.refl _ _).drew⟩))
              clear hm
              go_wp2_with fail
              refine hK.out _ _ ?_
              clear hK K
              try simp only [Act.put, List.setIfInBounds_toArray, List.set_cons_zero, List.set_cons_succ]
              refine wpTill_done (by kernel_rfl) ?_ _
              go_wp2_with fail
              go_ret
              exact ⟨rfl, HE10.out⟩
    · have HEND := Lib.hid (show ∃ lab', StAt w2 p TN lab' a b ∧ Went (fun k => lab k ≠ .out) (fun k => lab' k ≠ .out) w w2 from ⟨lab, by rw [HON.out, if_pos a0]; exact H2.out, HW2.out⟩)
      have a0i : ((ans : Int) != 0) = true := by simpa using a0
      go_wp2_with fail
      go_ret
      exact ⟨rfl, HEND.out⟩
end Go.Proofs.YtnneoeimgbemfaaGreat

/- DERIVED. streams: Write. -/
namespace Go.Proofs.YtnneoeimgbemfaaGreat
open Go.RowKit

def ST.wrR (t : ST) (id n : Nat) : Nat × Nat := match t.find id with
  | none => (0, 22)
  | some x => x.2.2.s.wrN n
def ST.wr (t : ST) (id : Nat) (d : List Nat) : ST := match t.find id with
  | none => t
  | some x => t.put x.1 x.2.1 ⟨x.2.2.id, x.2.2.s.wr d, x.2.2.r⟩
theorem ST.find_at {t : ST} {id : Nat} {x : Bool × Nat × H1} (h : t.find id = some x) : (t.hs x.1)[x.2.1]? = some x.2.2 := by
  unfold ST.find at h
  cases ho : t.sideO id with
  | none => rw [ho] at h; cases h
  | some o =>
    rw [ho] at h
    simp only [Option.map_eq_some_iff] at h
    obtain ⟨a, h1, rfl⟩ := h
    exact h1
theorem wr_id (s : SS) (d : List Nat) : (s.wr d).id = s.id := by
  unfold SS.wr
  split <;> rfl
set_option maxRecDepth 100000 in
set_option maxHeartbeats 1000000 in
theorem twrite_any (p : Nat) (t : ST) (lab : Nat → Lab) (a b id : Nat) (vd : Value) (dd : List Nat) (w : World) {B : Nat} (h : StAt w p t lab a b) (hid : id < 18446744073709551616) (hd : Vw encB w B vd dd) (hB : B ≤ w.heap.size) (hby : Bys dd) (hl1 : dd.length ≤ 1000000)
    (hr : ∀ x, t.find id = some x → x.2.2.s.os.B.length ≤ x.2.2.s.os.base + 2048 ∧ x.2.2.s.os.B.length ≤ 1000000) :
    Calls Tryz.prog 7 #[.pointer (some ⟨p, 0, none⟩), .int .u64 id, vd] w fun e w' => e = .returned (.tuple #[.int .i64 (t.wrR id dd.length).1, .int .i64 (t.wrR id dd.length).2]) ∧
      ∃ lab', StAt w' p (t.wr id dd) lab' a b ∧ Went (fun k => lab k ≠ .out) (fun k => lab' k ≠ .out) w w' := by
  have H := Lib.hid h
  obtain ⟨od, capd, rfl, hc1, hc2⟩ := hd.shape
  have HD := Lib.hid (And.intro hd (And.intro hB (And.intro hby hl1)))
  have HR := Lib.hid hr
  obtain ⟨nn, hn⟩ : ∃ nn, dd.length = nn := ⟨_, rfl⟩
  obtain ⟨r1, r2, hrr⟩ : ∃ r1 r2, t.wrR id dd.length = (r1, r2) := ⟨_, _, rfl⟩
  rw [hrr]
  obtain ⟨TN, hTN⟩ : ∃ TN, t.wr id dd = TN := ⟨_, rfl⟩
  rw [hTN]
  have HT := Lib.hid (And.intro hrr hTN)
  clear h hd hB hby hl1 hr hrr hTN hn
  go_enter Tryz.func7, Tryz.ntmps7
  go_wp2_with fail
  refine (tfind_q p t lab a b id _ (by exact H.out) hid).mono ?_
  rintro e w1 ⟨v, rfl, hv, n1, rfl⟩
  rcases hv with ⟨hfn, rfl⟩ | ⟨o, i, hh, y, hfn, hya, _, rfl⟩
  · obtain ⟨h1, h2⟩ := HT.out
    unfold ST.wrR at h1
    unfold ST.wr at h2
    rw [hfn] at h1 h2
    cases h1
    subst h2
    have HF := Lib.hid (show ∃ lab', StAt (w.drewN n1) p t lab' a b ∧ Went (fun k => lab k ≠ .out) (fun k => lab' k ≠ .out) w (w.drewN n1) from ⟨lab, H.out.drewN n1, (Went.refl _ _).drewN n1⟩)
    clear hfn
    go_wp2_with fail
    go_ret2
    exact ⟨rfl, HF.out⟩
  · obtain ⟨bs, br, fs, fr, hyb, hsd, hrc, lfs, lfr, tS, tR⟩ := H.out.turn (ST.find_at hfn) hya
    have y1 : w.cell? ⟨y, 1, none⟩ = some (.pointer (some ⟨bs, 0, none⟩)) := (cell_at hyb 1).trans rfl
    have HSD := Lib.hid (hsd.drewN n1)
    have HTS := Lib.hid tS
    have hrf := HR.out _ hfn
    have HRF := Lib.hid hrf
    obtain ⟨h1, h2⟩ := HT.out
    unfold ST.wrR at h1
    unfold ST.wr at h2
    rw [hfn] at h1 h2
    simp only at h1 h2
    have HH := Lib.hid (And.intro h1 h2)
    clear hyb hsd hrc lfs lfr tS tR hfn hya hrf h1 h2 HT
    go_wp2_with fail
    refine (swrite_any bs hh.s fs _ dd _ (by exact HSD.out) (by exact HD.out.1.below (below_drewN (Below.refl _ _) n1)) (by exact HD.out.2.1) HD.out.2.2.1 HRF.out.1 HD.out.2.2.2 HRF.out.2).mono ?_
    rw [HH.out.1]
    rintro e w2 ⟨rfl, hm⟩
    have HF := Lib.hid (show ∃ lab', StAt w2 p TN lab' a b ∧ Went (fun k => lab k ≠ .out) (fun k => lab' k ≠ .out) w w2 from by
      obtain ⟨fp', m1, m2⟩ := hm
      rw [← HH.out.2]
      obtain ⟨lab', q1, q2, _⟩ := HTS.out w2 _ ⟨fp', m1, m2.first (below_drewN (Below.refl _ _) n1)⟩ (wr_id _ _)
      exact ⟨lab', q1, q2⟩)
    clear hm
    go_wp2_with fail
    go_ret2
    exact ⟨rfl, HF.out⟩
end Go.Proofs.YtnneoeimgbemfaaGreat

/- DERIVED. streams: New (printed by mkstnew.py). -/
namespace Go.Proofs.YtnneoeimgbemfaaGreat
open Go.RowKit

def Pm.cut (m : Pm) : Pm := { m with ms := min m.ms 8, msd := min m.msd 2048 }
def ST.new (server : Bool) (m : Pm) : ST := ⟨m.cut, Pm.zero, if server then 1 else 0, [], [], 0, false, m.md, false, 0⟩
theorem sizePm : (Tryz.prog.info? 60).map (·.size) = some 12 := by kernel_rfl
/-- A set of new blocks alone. -/
def TMine (W w : World) (p : Nat) (t : ST) : Prop := ∃ lab a b, StAt w p t lab a b ∧ (∀ k, lab k ≠ .out → W.heap.size ≤ k) ∧ Below W.heap.size W w
theorem new_at {W w : World} {p a b : Nat} {server : Bool} {m : Pm} (hm : m.Ok) (hb : Below W.heap.size W w) (hp : W.heap.size ≤ p) (ha : W.heap.size ≤ a) (hbb : W.heap.size ≤ b) (hpa : p ≠ a) (hpb : p ≠ b) (hab : a ≠ b)
    (h1 : w.heap[p]? = some (.cells (tcells (ST.new server m) a b) 68 (0, 0))) (h2 : w.heap[a]? = some (.cells #[.int .u64 (if server then 1 else 0 : Nat), .slice none 0 0] 65 (0, 0)))
    (h3 : w.heap[b]? = some (.cells #[.int .u64 (1 - (if server then 1 else 0) : Nat), .slice none 0 0] 65 (0, 0))) : TMine W w p (ST.new server m) := by
  obtain ⟨lab, hl⟩ : ∃ lab : Nat → Lab, lab = fun k => if k = p then .set else if k = a then .side true else if k = b then .side false else .out := ⟨_, rfl⟩
  have lp : lab p = .set := by rw [hl]; exact if_pos rfl
  have la : lab a = .side true := by rw [hl]; show (if a = p then _ else _) = _; rw [if_neg (fun e => hpa e.symm), if_pos rfl]
  have lb : lab b = .side false := by rw [hl]; show (if b = p then _ else _) = _; rw [if_neg (fun e => hpb e.symm), if_neg (fun e => hab e.symm), if_pos rfl]
  have lin : ∀ k, lab k ≠ .out → k = p ∨ k = a ∨ k = b := fun k hk => by
    rw [hl] at hk
    by_cases q1 : k = p
    · exact .inl q1
    · by_cases q2 : k = a
      · exact .inr (.inl q2)
      · by_cases q3 : k = b
        · exact .inr (.inr q3)
        · exfalso
          apply hk
          show (if k = p then _ else _) = _
          rw [if_neg q1, if_neg q2, if_neg q3]
  refine ⟨lab, a, b, ⟨h1, lp, ⟨_, none, [], h2, la, SlG.nil _, by simp, rfl, fun i h q => by simp [ST.new] at q⟩, ⟨_, none, [], h3, lb, SlG.nil _, by simp, rfl, fun i h q => by simp [ST.new] at q⟩, fun k hk => ?_, ?_⟩, fun k hk => ?_, hb⟩
  · rcases lin k hk with rfl | rfl | rfl
    · exact heap_lt h1
    · exact heap_lt h2
    · exact heap_lt h3
  · refine ⟨⟨hm.idle, hm.md, ?_, ?_⟩, ⟨by show 0 < _; omega, by show 0 < _; omega, by show 0 < _; omega, by show 0 < _; omega⟩, ?_, by show 0 ≤ 1000; omega, by show 0 ≤ 1000; omega, fun i h q => by simp [ST.new] at q, fun i h q => by simp [ST.new] at q, by show 0 < _; omega, hm.md, by show 0 < _; omega⟩
    · show min m.msd 2048 < _
      omega
    · show min m.ms 8 < _
      omega
    · cases server
      · exact .inl rfl
      · exact .inr rfl
  · rcases lin k hk with rfl | rfl | rfl
    · exact hp
    · exact ha
    · exact hbb
theorem tcells_swap (m : Pm) (x y : Nat) : ((tcells (ST.new false m) x y).setIfInBounds 24 (.pointer (some ⟨y, 0, none⟩))).setIfInBounds 25 (.pointer (some ⟨x, 0, none⟩)) = tcells (ST.new true m) y x := by
  unfold tcells
  simp only [List.setIfInBounds_toArray, List.set_cons_zero, List.set_cons_succ]
  rfl
theorem tcells_24 (m : Pm) (x y : Nat) : (tcells (ST.new false m) x y)[24]? = some (.pointer (some ⟨x, 0, none⟩)) ∧ (tcells (ST.new false m) x y)[25]? = some (.pointer (some ⟨y, 0, none⟩)) := ⟨rfl, rfl⟩
structure NewS (w W : World) (p x y : Nat) (m : Pm) : Prop where
  below : Below w.heap.size w W
  lp : w.heap.size ≤ p
  lx : w.heap.size ≤ x
  ly : w.heap.size ≤ y
  px : p ≠ x
  py : p ≠ y
  xy : x ≠ y
  hp : W.heap[p]? = some (.cells (tcells (ST.new false m) x y) 68 (0, 0))
  hx : W.heap[x]? = some (.cells #[.int .u64 (0 : Nat), .slice none 0 0] 65 (0, 0))
  hy : W.heap[y]? = some (.cells #[.int .u64 (1 : Nat), .slice none 0 0] 65 (0, 0))
structure NewF (w W5 : World) (p x y : Nat) (m : Pm) : Prop where
  fin : TMine w ((W5.setCell ⟨p, 24, none⟩ (.pointer (some ⟨y, 0, none⟩))).setCell ⟨p, 25, none⟩ (.pointer (some ⟨x, 0, none⟩))).drew p (ST.new true m)
  f24 : W5.frozen? ⟨p, 24, none⟩ = false
  e24 : W5.cell? ⟨p, 24, none⟩ = some (.pointer (some ⟨x, 0, none⟩))
  e25 : W5.cell? ⟨p, 25, none⟩ = some (.pointer (some ⟨y, 0, none⟩))
  g25 : (W5.setCell ⟨p, 24, none⟩ (.pointer (some ⟨y, 0, none⟩))).cell? ⟨p, 25, none⟩ = some (.pointer (some ⟨y, 0, none⟩))
  gf25 : (W5.setCell ⟨p, 24, none⟩ (.pointer (some ⟨y, 0, none⟩))).frozen? ⟨p, 25, none⟩ = false
theorem new_facts {w W5 : World} {p x y : Nat} {m : Pm} (hm : m.Ok) (n : NewS w W5 p x y m) : NewF w W5 p x y m := by
  obtain ⟨n1, n2, n3, n4, n5, n6, n7, n8, n9, n10⟩ := n
  have hs8 := set_at n8 24 (.pointer (some ⟨y, 0, none⟩))
  refine ⟨?_, free_at n8 24, (cell_at n8 24).trans (tcells_24 _ _ _).1, (cell_at n8 25).trans (tcells_24 _ _ _).2, (cell_at hs8 25).trans (by rw [Array.getElem?_setIfInBounds_ne (by omega)]; exact (tcells_24 _ _ _).2), free_at hs8 25⟩
  have hu : Upd (fun j => j = p) W5 ((W5.setCell ⟨p, 24, none⟩ (.pointer (some ⟨y, 0, none⟩))).setCell ⟨p, 25, none⟩ (.pointer (some ⟨x, 0, none⟩))).drew := (((Upd.refl (fun j => j = p) _).setCell ⟨p, 24, none⟩ (.inl rfl) _).setCell ⟨p, 25, none⟩ (.inl rfl) _).drew
  refine new_at (server := true) hm (Upd.belowOf n1 hu (fun j hj q => by omega)) n2 n4 n3 n6 n5 (fun e => n7 e.symm) ?_ (hu.keeps n10 (fun e => n6 e.symm)) (hu.keeps n9 (fun e => n5 e.symm))
  exact (set_at hs8 25 (.pointer (some ⟨x, 0, none⟩))).trans (by rw [tcells_swap])
set_option maxRecDepth 100000 in
set_option maxHeartbeats 2000000 in
theorem tnew_any (server : Bool) (m : Pm) (hm : m.Ok) (w : World) :
    Calls Tryz.prog 17 #[.bool server, .agg (encPm m).toArray] w fun e w' => ∃ p, e = .returned (.pointer (some ⟨p, 0, none⟩)) ∧ TMine w w' p (ST.new server m) := by
  have HM := Lib.hid hm
  obtain ⟨idle, md, msd, ms, c0, c1, c2, c3, c4, c5, c6, c7⟩ := m
  obtain ⟨h1, h2, h3, h4⟩ := hm
  simp only at h1 h2 h3 h4
  obtain ⟨ms2, hms2⟩ : ∃ ms2, min ms 8 = ms2 := ⟨_, rfl⟩
  obtain ⟨msd2, hmsd2⟩ : ∃ msd2, min msd 2048 = msd2 := ⟨_, rfl⟩
  have hi1 : (if 8 < (ms : Int) then 8 else (ms : Int)) = (ms2 : Int) := by split <;> omega
  have hi2 : (if 2048 < (msd : Int) then 2048 else (msd : Int)) = (msd2 : Int) := by split <;> omega
  have HM2 := Lib.hid (And.intro hms2 hmsd2)
  clear hms2 hmsd2
  obtain ⟨WW, hWW⟩ : ∃ WW : World, WW = (((w.alloc (.cells #[.int .u64 idle, .int .u64 md, .int .u64 msd2, .int .u64 ms2, .int .u8 c0, .int .u8 c1, .int .u8 c2, .int .u8 c3, .int .u8 c4, .int .u8 c5, .int .u8 c6, .int .u8 c7] 60)).alloc
      (.cells #[.int .u64 0, .slice none 0 0] 65)).alloc (.cells #[.int .u64 1, .slice none 0 0] 65)) := ⟨_, rfl⟩
  have hbel : Below w.heap.size w WW := by
    rw [hWW]
    exact (((Below.refl _ _).alloc (Nat.le_refl _) _).alloc (by simp) _).alloc (by simp; omega) _
  have hsz : WW.heap.size = w.heap.size + 3 := by rw [hWW]; simp
  have ha1 : WW.heap[w.heap.size + 1]? = some (.cells #[.int .u64 0, .slice none 0 0] 65 (0, 0)) := by
    rw [hWW]
    have e := alloc_at (w.alloc (.cells #[.int .u64 idle, .int .u64 md, .int .u64 msd2, .int .u64 ms2, .int .u8 c0, .int .u8 c1, .int .u8 c2, .int .u8 c3, .int .u8 c4, .int .u8 c5, .int .u8 c6, .int .u8 c7] 60)) (.cells #[.int .u64 0, .slice none 0 0] 65)
    rw [show (w.alloc (.cells #[.int .u64 idle, .int .u64 md, .int .u64 msd2, .int .u64 ms2, .int .u8 c0, .int .u8 c1, .int .u8 c2, .int .u8 c3, .int .u8 c4, .int .u8 c5, .int .u8 c6, .int .u8 c7] 60)).heap.size = w.heap.size + 1 by simp] at e
    exact below_keeps ((Below.refl _ _).alloc (Nat.le_refl _) _) e (heap_lt e)
  have ha2 : WW.heap[w.heap.size + 1 + 1]? = some (.cells #[.int .u64 1, .slice none 0 0] 65 (0, 0)) := by
    rw [hWW]
    have e := alloc_at ((w.alloc (.cells #[.int .u64 idle, .int .u64 md, .int .u64 msd2, .int .u64 ms2, .int .u8 c0, .int .u8 c1, .int .u8 c2, .int .u8 c3, .int .u8 c4, .int .u8 c5, .int .u8 c6, .int .u8 c7] 60)).alloc (.cells #[.int .u64 0, .slice none 0 0] 65)) (.cells #[.int .u64 1, .slice none 0 0] 65)
    rw [show ((w.alloc (.cells #[.int .u64 idle, .int .u64 md, .int .u64 msd2, .int .u64 ms2, .int .u8 c0, .int .u8 c1, .int .u8 c2, .int .u8 c3, .int .u8 c4, .int .u8 c5, .int .u8 c6, .int .u8 c7] 60)).alloc (.cells #[.int .u64 0, .slice none 0 0] 65)).heap.size = w.heap.size + 1 + 1 by simp] at e
    exact e
  have hns : NewS w (WW.alloc (.cells (tcells (ST.new false ⟨idle, md, msd, ms, c0, c1, c2, c3, c4, c5, c6, c7⟩) (w.heap.size + 1) (w.heap.size + 1 + 1)) 68)) (w.heap.size + 1 + 1 + 1) (w.heap.size + 1) (w.heap.size + 1 + 1) ⟨idle, md, msd, ms, c0, c1, c2, c3, c4, c5, c6, c7⟩ := by
    have e := alloc_at WW (.cells (tcells (ST.new false ⟨idle, md, msd, ms, c0, c1, c2, c3, c4, c5, c6, c7⟩) (w.heap.size + 1) (w.heap.size + 1 + 1)) 68)
    rw [hsz] at e
    have hb := (Below.refl WW.heap.size WW).alloc (Nat.le_refl _) (.cells (tcells (ST.new false ⟨idle, md, msd, ms, c0, c1, c2, c3, c4, c5, c6, c7⟩) (w.heap.size + 1) (w.heap.size + 1 + 1)) 68)
    exact ⟨below_call hbel hbel.size hb, by omega, by omega, by omega, by omega, by omega, by omega, e, below_keeps hb ha1 (heap_lt ha1), below_keeps hb ha2 (heap_lt ha2)⟩
  have HNS := Lib.hid (show ∀ W, W = (WW.alloc (.cells (tcells (ST.new false ⟨idle, md, msd, ms, c0, c1, c2, c3, c4, c5, c6, c7⟩) (w.heap.size + 1) (w.heap.size + 1 + 1)) 68)) → NewS w W (w.heap.size + 1 + 1 + 1) (w.heap.size + 1) (w.heap.size + 1 + 1) ⟨idle, md, msd, ms, c0, c1, c2, c3, c4, c5, c6, c7⟩ from fun W e => e ▸ hns)
  clear hns hbel hsz ha1 ha2
  simp only [encPm]
  go_enter Tryz.func17, Tryz.ntmps17
  go_upto_region 3 with fail
  go_cut [5] (fun v wx => ∃ p x y, v = .pointer (some ⟨p, 0, none⟩) ∧ NewS w wx p x y ⟨idle, md, msd, ms, c0, c1, c2, c3, c4, c5, c6, c7⟩)
  case first =>
    go_wp2_with (refine wpList_load_row rfl 60 (.tmp 3) rfl w.heap.size rfl 60 _ (0, 0) _ (by exact alloc_at w _) Tryz.underlying60 rfl (by rw [sizePm]; rfl) ?_)
    go_meet
    case rel =>
      refine ⟨_, _, _, rfl, HNS.out _ ?_⟩
      rw [hWW]
      obtain ⟨rfl, rfl⟩ := HM2.out
      rfl
  case rest =>
    obtain ⟨p, x, y, rfl, hn⟩ := hcut
    clear hWW HNS HM2 hi1 hi2
    generalize wc = W5 at *
    obtain ⟨n1, n2, n3, n4, n5, n6, n7, n8, n9, n10⟩ := hn
    cases server
    · have HF := Lib.hid (new_at (server := false) HM.out n1 n2 n3 n4 n5 n6 n7 n8 n9 n10)
      clear n1 n2 n3 n4 n5 n6 n7 n8 n9 n10
      go_wp2_with fail
      go_ret
      exact ⟨_, rfl, HF.out⟩
    · obtain ⟨hfin, f24, e24, e25, g25, gf25⟩ := new_facts HM.out ⟨n1, n2, n3, n4, n5, n6, n7, n8, n9, n10⟩
      have HFIN := Lib.hid hfin
      have HS0 := Lib.hid (show W5.drew.cell? ⟨p, 24, none⟩ = some (.pointer (some ⟨x, 0, none⟩)) ∧ W5.drew.cell? ⟨p, 25, none⟩ = some (.pointer (some ⟨y, 0, none⟩)) from ⟨e24, e25⟩)
      clear hfin n1 n2 n3 n4 n5 n6 n7 n8 n9 n10 HM
      go_upto_region 5 with fail
      refine wp_region_till (S := fun w' => w'.cell? ⟨p, 24, none⟩ = some (.pointer (some ⟨x, 0, none⟩)) ∧ w'.cell? ⟨p, 25, none⟩ = some (.pointer (some ⟨y, 0, none⟩))) [12, 15] (by kernel_rfl) (by exact HS0.out) (fun hHeld => ?_)
      refine wpTill_take0 (i := 0) (oi := ⟨some 24, _, _, _, _, _⟩) (v := ?_) rfl (by kernel_rfl) (fun _ _ _ h => h) (Or.inl ⟨by rfl, ?_⟩) (fun _ => hHeld) ?_
      rotate_left
      · intro w hSw
        (try dsimp only at hSw)
        go_simp
        try with_reducible rfl
      try simp only [Act.put, List.setIfInBounds_toArray, List.set_cons_zero, List.set_cons_succ]
      refine wpTill_take0 (i := 1) (oi := ⟨some 25, _, _, _, _, _⟩) (v := ?_) rfl (by kernel_rfl) (fun _ _ _ h => h) (Or.inl ⟨by rfl, ?_⟩) (fun _ => hHeld) ?_
      rotate_left
      · intro w hSw
        (try dsimp only at hSw)
        go_simp
        try with_reducible rfl
      try simp only [Act.put, List.setIfInBounds_toArray, List.set_cons_zero, List.set_cons_succ]
      refine wpTill_take0 (i := 2) (oi := ⟨some 26, _, _, _, _, _⟩) (v := ?_) rfl (by kernel_rfl) (fun _ _ _ h => h) (Or.inl ⟨by rfl, ?_⟩) (fun _ => hHeld) ?_
      rotate_left
      · intro w hSw
        (try dsimp only at hSw)
        go_simp
        try with_reducible rfl
      try simp only [Act.put, List.setIfInBounds_toArray, List.set_cons_zero, List.set_cons_succ]
      refine wpTill_take0 (i := 3) (oi := ⟨some 27, _, _, _, _, _⟩) (v := ?_) rfl (by kernel_rfl) (fun _ _ _ h => h) (Or.inl ⟨by rfl, ?_⟩) (fun _ => hHeld) ?_
      rotate_left
      · intro w hSw
        (try dsimp only at hSw)
        go_simp
        try with_reducible rfl
      try simp only [Act.put, List.setIfInBounds_toArray, List.set_cons_zero, List.set_cons_succ]
      refine wpTill_take0 (i := 4) (oi := ⟨some 28, _, _, _, _, _⟩) (v := ?_) rfl (by kernel_rfl) (fun _ _ _ h => h) (Or.inl ⟨by rfl, ?_⟩) (fun _ => hHeld) ?_
      rotate_left
      · intro w hSw
        (try dsimp only at hSw)
        go_simp
        try with_reducible rfl
      try simp only [Act.put, List.setIfInBounds_toArray, List.set_cons_zero, List.set_cons_succ]
      refine wpTill_take (i := 5) (oi := ⟨some 29, _, _, _, _, _⟩) (v := ?_) rfl (by kernel_rfl) (fun _ _ _ h => h) (Or.inl ⟨by rfl, ?_⟩) (by exact hHeld) ?_
      rotate_left
      · intro w hSw
        (try dsimp only at hSw)
        go_simp
        try with_reducible rfl
      try simp only [Act.put, List.setIfInBounds_toArray, List.set_cons_zero, List.set_cons_succ]
      refine wpTill_take0 (i := 6) (oi := ⟨some 30, _, _, _, _, _⟩) (v := ?_) rfl (by kernel_rfl) (fun _ _ _ h => h) (Or.inl ⟨by rfl, ?_⟩) (fun _ => hHeld) ?_
      rotate_left
      · intro w hSw
        (try dsimp only at hSw)
        go_simp
        try with_reducible rfl
      try simp only [Act.put, List.setIfInBounds_toArray, List.set_cons_zero, List.set_cons_succ]
      refine wpTill_take0 (i := 7) (oi := ⟨some 31, _, _, _, _, _⟩) (v := ?_) rfl (by kernel_rfl) (fun _ _ _ h => h) (Or.inl ⟨by rfl, ?_⟩) (fun _ => hHeld) ?_
      rotate_left
      · intro w hSw
        (try dsimp only at hSw)
        go_simp
        try with_reducible rfl
      try simp only [Act.put, List.setIfInBounds_toArray, List.set_cons_zero, List.set_cons_succ]
      refine wpTill_take0 (i := 8) (oi := ⟨some 32, _, _, _, _, _⟩) (v := ?_) rfl (by kernel_rfl) (fun _ _ _ h => h) (Or.inl ⟨by rfl, ?_⟩) (fun _ => hHeld) ?_
      rotate_left
      · intro w hSw
        (try dsimp only at hSw)
        go_simp
        try with_reducible rfl
      try simp only [Act.put, List.setIfInBounds_toArray, List.set_cons_zero, List.set_cons_succ]
      refine wpTill_take (i := 9) (oi := ⟨some 33, _, _, _, _, _⟩) (v := ?_) rfl (by kernel_rfl) (fun _ _ _ h => h) (Or.inl ⟨by rfl, ?_⟩) (by exact hHeld) ?_
      rotate_left
      · intro w hSw
        (try dsimp only at hSw)
        go_simp
        try with_reducible rfl
      try simp only [Act.put, List.setIfInBounds_toArray, List.set_cons_zero, List.set_cons_succ]
      refine wpTill_take0 (i := 10) (oi := ⟨some 34, _, _, _, _, _⟩) (v := ?_) rfl (by kernel_rfl) (fun _ _ _ h => h) (Or.inl ⟨by rfl, ?_⟩) (fun _ => hHeld) ?_
      rotate_left
      · intro w hSw
        (try dsimp only at hSw)
        go_simp
        try with_reducible rfl
      try simp only [Act.put, List.setIfInBounds_toArray, List.set_cons_zero, List.set_cons_succ]
      refine wpTill_take0 (i := 11) (oi := ⟨some 35, _, _, _, _, _⟩) (v := ?_) rfl (by kernel_rfl) (fun _ _ _ h => h) (Or.inl ⟨by rfl, ?_⟩) (fun _ => hHeld) ?_
      rotate_left
      · intro w hSw
        (try dsimp only at hSw)
        go_simp
        try with_reducible rfl
      try simp only [Act.put, List.setIfInBounds_toArray, List.set_cons_zero, List.set_cons_succ]
      refine wpTill_ready (rs := [12]) (by kernel_rfl) (by simp) ?_
      refine AllTill.consD (o := ⟨none, _, _, _, _, _⟩) rfl (by kernel_rfl) (fun K hK => ?_) AllTill.nil
      go_wp2_with fail
      refine hK.out _ _ ?_
      clear hK K
      try simp only [Act.put, List.setIfInBounds_toArray, List.set_cons_zero, List.set_cons_succ]
      refine wpTill_take0 (i := 13) (oi := ⟨some 36, _, _, _, _, _⟩) (v := ?_) rfl (by kernel_rfl) (fun _ _ _ h => h) (Or.inl ⟨by rfl, ?_⟩) (fun h => Bool.noConfusion (h.symm.trans (show _ = true by kernel_rfl))) ?_
      rotate_left
      · intro w hSw
        (try dsimp only at hSw)
        go_simp
        try with_reducible rfl
      try simp only [Act.put, List.setIfInBounds_toArray, List.set_cons_zero, List.set_cons_succ]
      refine wpTill_take0 (i := 14) (oi := ⟨some 37, _, _, _, _, _⟩) (v := ?_) rfl (by kernel_rfl) (fun _ _ _ h => h) (Or.inl ⟨by rfl, ?_⟩) (fun h => Bool.noConfusion (h.symm.trans (show _ = true by kernel_rfl))) ?_
      rotate_left
      · intro w hSw
        (try dsimp only at hSw)
        go_simp
        try with_reducible rfl
      try simp only [Act.put, List.setIfInBounds_toArray, List.set_cons_zero, List.set_cons_succ]
      refine wpTill_ready (rs := [15]) (by kernel_rfl) (by simp) ?_
      refine AllTill.consD (o := ⟨none, _, _, _, _, _⟩) rfl (by kernel_rfl) (fun K hK => ?_) AllTill.nil
      rw [if_pos (show Region.wanted _ _ = true from rfl)]
      go_simp
      refine hK.out _ _ ?_
      clear hK K
      try simp only [Act.put, List.setIfInBounds_toArray, List.set_cons_zero, List.set_cons_succ]
      refine wpTill_done (by kernel_rfl) ?_ _
      go_wp2_with fail
      go_ret
      exact ⟨_, rfl, HFIN.out⟩
end Go.Proofs.YtnneoeimgbemfaaGreat
