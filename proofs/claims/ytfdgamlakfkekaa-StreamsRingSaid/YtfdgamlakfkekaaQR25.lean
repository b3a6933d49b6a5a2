/- DERIVED. streams: On of a stream's frame (printed by mkston.py). -/
import Derived.Lib.SlBytesConst
import Derived.Test.YtfdgamlakfkekaaRows
import Derived.Test.YtfdgamlakfkekaaQR2
import Derived.Test.YtfdgamlakfkekaaQR3
import Derived.Test.YtfdgamlakfkekaaQR13
import Derived.Test.YtfdgamlakfkekaaQR16
import Derived.Test.YtfdgamlakfkekaaQR18
import Derived.Test.YtfdgamlakfkekaaQR20
import Derived.Test.YtfdgamlakfkekaaQR21
import Derived.Test.YtfdgamlakfkekaaQR24
set_option linter.all false
namespace Go.Proofs.Ytfdgamlakfkekaa
open Go.RowKit

def ST.grow (t : ST) : Nat → ST
  | 0 => t
  | k + 1 => (t.grow k).add false ((t.grow k).newH false)
theorem ST.grow_facts (t : ST) : ∀ k, (t.grow k).own = t.own ∧ (t.grow k).others.length = t.others.length + k ∧ (t.grow k).rest = t.rest ∧ (t.grow k).mine = t.mine ∧ (t.grow k).theirs = t.theirs ∧ (∀ (i : Nat) (h : H1), t.others[i]? = some h → (t.grow k).others[i]? = some h)
  | 0 => ⟨rfl, rfl, rfl, rfl, rfl, fun _ _ h => h⟩
  | k + 1 => by
    obtain ⟨h1, h2, h3, h4, h5, h6⟩ := t.grow_facts k
    refine ⟨h1, ?_, h3, h4, h5, fun i h hi => ?_⟩
    · show ((t.grow k).others ++ [_]).length = _
      rw [List.length_append, h2]
      show t.others.length + k + 1 = t.others.length + (k + 1)
      omega
    · show ((t.grow k).others ++ [_])[i]? = some h
      have q := h6 i h hi
      rw [List.getElem?_append_left (by rw [List.getElem?_eq_some_iff] at q; exact q.1)]
      exact q
theorem ST.grow_side (t : ST) (k id : Nat) : (t.grow k).sideO id = t.sideO id := by
  obtain ⟨h1, h2, h3, h4, h5, h6⟩ := t.grow_facts k
  unfold ST.sideO
  rw [h3]
/-- How many streams are to be opened so that one is there. -/
def ST.need (t : ST) (id : Nat) : Nat := if t.sideO id = some false then id / 4 + 1 - t.others.length else 0
theorem ST.grow_find {t : ST} {id : Nat} (hg : t.gate id = none) (k : Nat) : (t.grow k).find id = none ↔ k < t.need id := by
  obtain ⟨h1, h2, h3, h4, h5, h6⟩ := t.grow_facts k
  unfold ST.find ST.need
  rw [t.grow_side k id]
  unfold ST.gate at hg
  cases ho : t.sideO id with
  | none => rw [ho] at hg; cases hg
  | some o =>
    rw [ho] at hg
    simp only at hg ⊢
    cases o
    · rw [if_pos rfl]
      show Option.map _ ((t.grow k).others[id / 4]?) = none ↔ _
      rw [Option.map_eq_none_iff, List.getElem?_eq_none_iff, h2]
      omega
    · rw [if_neg (by simp)]
      show Option.map _ ((t.grow k).own[id / 4]?) = none ↔ _
      rw [h1]
      have hf : t.find id ≠ none := by
        intro e
        rw [e] at hg
        simp at hg
      unfold ST.find at hf
      rw [ho] at hf
      constructor
      · intro e
        exact absurd e hf
      · omega
def H1.on (h : H1) (f : Fr) (d : List Nat) : H1 := if f.kd = 5 then ⟨h.id, h.s.rst f.code, h.r⟩ else if f.kd = 17 then ⟨h.id, { h.s with lim := max h.s.lim f.lim }, h.r⟩ else ⟨h.id, h.s, h.r.on f d⟩
/-- A stream's frame is taken. -/
def ST.onS (t : ST) (f : Fr) (d : List Nat) : ST := if t.may f d.length ≠ 0 then t else match (t.grow (t.need f.sid)).find f.sid with
  | none => t
  | some x => (t.grow (t.need f.sid)).put x.1 x.2.1 (x.2.2.on f d)
theorem ST.find_hs {t : ST} {id : Nat} {x : Bool × Nat × H1} (h : t.find id = some x) : (t.hs x.1)[x.2.1]? = some x.2.2 := by
  unfold ST.find at h
  cases ho : t.sideO id with
  | none => rw [ho] at h; cases h
  | some o =>
    rw [ho] at h
    simp only [Option.map_eq_some_iff] at h
    obtain ⟨a, h1, rfl⟩ := h
    exact h1
theorem rst_id (s : SS) (c : Nat) : (s.rst c).id = s.id := by
  unfold SS.rst
  split <;> rfl
theorem on_id (s : RS) (f : Fr) (d : List Nat) : (s.on f d).id = s.id := by
  unfold RS.on
  split
  · rfl
  · split
    · rfl
    · split
      · split <;> rfl
      · split <;> rfl
theorem gate_of {t : ST} {f : Fr} {n : Nat} (h : t.may f n = 0) : t.gate f.sid = none := by
  unfold ST.may at h
  cases hg : t.gate f.sid with
  | none => rfl
  | some c =>
    rw [hg] at h
    simp only at h
    subst h
    unfold ST.gate at hg
    split at hg
    · cases hg
    · split at hg <;> cases hg
    · split at hg <;> cases hg
def lenV : Option Value → Nat
  | some (.slice _ n _) => n
  | _ => 0
set_option maxRecDepth 100000 in
set_option maxHeartbeats 4000000 in
theorem ton_str (p : Nat) (t : ST) (lab : Nat → Lab) (a b : Nat) (f : Fr) (od : Option Addr) (n cd : Nat) (d : List Nat) (w : World) (h : StAt w p t lab a b) (hf : FrOk f) (hv : f.vd = .slice od n cd) (hk : f.kd = 8 ∨ f.kd = 4 ∨ f.kd = 5 ∨ f.kd = 17)
    (hd : VwA encB (fun k => lab k ≠ .out) w f.vd d) (hby : Bys d) (hdn : d.length = n) (hn : n ≤ 1099511627776) (h8 : t.mine.ms ≤ 900) (hol : t.others.length ≤ 900) :
    Calls Try.prog 11 #[.pointer (some ⟨p, 0, none⟩), .agg (encF f).toArray] w fun e w' => e = .returned (.int .i64 (t.may f n)) ∧ ∃ lab', StAt w' p (t.onS f d) lab' a b ∧ Went (fun k => lab k ≠ .out) (fun k => lab' k ≠ .out) w w' := by
  obtain ⟨kd, sid, off, vd, fin, lim, code, fnl, seq, dly, vr, e0, e1, e2, e3, e4, e5, e6, e7⟩ := f
  obtain rfl : vd = .slice od n cd := hv
  simp only at hk hd
  have HF := Lib.hid (And.intro hf (And.intro hby (And.intro hdn hn)))
  obtain ⟨W1, hW1⟩ : ∃ W1, W1 = w.alloc (.cells (encF ⟨kd, sid, off, .slice od n cd, fin, lim, code, fnl, seq, dly, vr, e0, e1, e2, e3, e4, e5, e6, e7⟩).toArray 39) := ⟨_, rfl⟩
  have hb1 : Below w.heap.size w W1 := by rw [hW1]; exact (Below.refl _ _).alloc (Nat.le_refl _) _
  have hzf : W1.heap[w.heap.size]? = some (.cells (encF ⟨kd, sid, off, .slice od n cd, fin, lim, code, fnl, seq, dly, vr, e0, e1, e2, e3, e4, e5, e6, e7⟩).toArray 39 (0, 0)) := by rw [hW1]; exact alloc_at _ _
  have HB1 := Lib.hid hb1
  have HZ1 := Lib.hid hzf
  have H1 := Lib.hid (h.below hb1)
  have HV1 := Lib.hid (show VwA encB (fun k => lab k ≠ .out) W1 (.slice od n cd) d from hd.wentU ((Went.refl _ _).later hb1))
  have z0 : W1.cell? ⟨w.heap.size, 0, none⟩ = some (.int .i64 kd) := (cell_at hzf 0).trans rfl
  have HZO := Lib.hid (show lab w.heap.size = .out from by
    cases hq : lab w.heap.size with
    | out => rfl
    | _ => have := h.lt w.heap.size (by rw [hq]; simp); omega)
  have hsid := hf.sid
  simp only at hsid
  obtain ⟨ans, hans⟩ : ∃ ans, t.may ⟨kd, sid, off, .slice od n cd, fin, lim, code, fnl, seq, dly, vr, e0, e1, e2, e3, e4, e5, e6, e7⟩ n = ans := ⟨_, rfl⟩
  have HANS := Lib.hid hans
  rw [hans]
  have HON := Lib.hid (show t.onS ⟨kd, sid, off, .slice od n cd, fin, lim, code, fnl, seq, dly, vr, e0, e1, e2, e3, e4, e5, e6, e7⟩ d = if ans ≠ 0 then t else match (t.grow (t.need sid)).find sid with
      | none => t
      | some x => (t.grow (t.need sid)).put x.1 x.2.1 (x.2.2.on ⟨kd, sid, off, .slice od n cd, fin, lim, code, fnl, seq, dly, vr, e0, e1, e2, e3, e4, e5, e6, e7⟩ d) from by
    unfold ST.onS
    rw [hdn, hans])
  obtain ⟨TN, hTN⟩ : ∃ TN, t.onS ⟨kd, sid, off, .slice od n cd, fin, lim, code, fnl, seq, dly, vr, e0, e1, e2, e3, e4, e5, e6, e7⟩ d = TN := ⟨_, rfl⟩
  rw [hTN] at HON ⊢
  clear hTN
  clear h hb1 hf hn hzf hans hd hby hdn
  simp only [encF] at hW1 ⊢
  go_enter Try.func11, Try.ntmps11
  go_upto_region 1 with fail
  rw [← hW1]
  clear hW1
  obtain ⟨z, hz⟩ : ∃ z, w.heap.size = z := ⟨_, rfl⟩
  have HZ := Lib.hid hz
  rw [hz] at HZ1 z0 HZO ⊢
  clear hz
  go_upto_block 0 with fail
  go_cut [] (fun wx => wx = W1)
  case first =>
    rcases hk with rfl | rfl | rfl | rfl
    all_goals
      go_wp2_with fail
      go_meet
      case rel => rfl
  case rest =>
    obtain rfl := hcut.symm
    go_wp2_with (refine wpList_load_row rfl 39 (.tmp 3) rfl z rfl 39 _ (0, 0) _ (by exact HZ1.out) Try.underlying39 rfl (by rw [sizeF]; rfl) ?_)
    refine (tmay_any p t lab a b ⟨kd, sid, off, .slice od n cd, fin, lim, code, fnl, seq, dly, vr, e0, e1, e2, e3, e4, e5, e6, e7⟩ od n cd _ (by exact H1.out) HF.out.1 rfl HF.out.2.2.2).mono ?_
    rw [HANS.out]
    rintro e w2 ⟨rfl, hb2⟩
    have H2 := Lib.hid (H1.out.below hb2)
    have HZ2 := Lib.hid (below_keeps hb2 HZ1.out (heap_lt HZ1.out))
    have HW2 := Lib.hid (show Went (fun k => lab k ≠ .out) (fun k => lab k ≠ .out) w w2 from ((Went.refl _ _).later HB1.out).later hb2)
    have HV2 := Lib.hid (HV1.out.wentU ((Went.refl _ _).later hb2))
    clear hb2 H1 HZ1 HV1 HB1 z0
    by_cases a0 : ans = 0
    · subst a0
      have hgate := gate_of HANS.out
      simp only at hgate
      have HGT := Lib.hid hgate
      obtain ⟨nd, hnd⟩ : ∃ nd, t.need sid = nd := ⟨_, rfl⟩
      have HND := Lib.hid hnd
      have hndb : t.others.length + nd ≤ 1000 := by
        rw [← hnd]
        unfold ST.need
        split
        · rename_i hso
          unfold ST.gate at hgate
          rw [hso] at hgate
          simp only at hgate
          split at hgate
          · cases hgate
          · omega
        · omega
      obtain ⟨ol, hol2⟩ : ∃ ol, t.others.length = ol := ⟨_, rfl⟩
      rw [hol2] at hndb hol
      have HOL := Lib.hid hol2
      clear hgate hnd hol2 HANS
      go_wp2_with fail
      go_loopw [] (fun wr => ∃ k lab', k ≤ nd ∧ StAt wr p (t.grow k) lab' a b ∧ Went (fun k => lab k ≠ .out) (fun k => lab' k ≠ .out) w wr ∧ wr.heap[z]? = some (.cells (encF ⟨kd, sid, off, .slice od n cd, fin, lim, code, fnl, seq, dly, vr, e0, e1, e2, e3, e4, e5, e6, e7⟩).toArray 39 (0, 0)) ∧ lab' z = .out ∧ VwA encB (fun k => lab' k ≠ .out) wr (.slice od n cd) d) (fun wr => nd + ol - lenV (wr.cell? ⟨b, 1, none⟩))
      case atStart => exact ⟨0, lab, Nat.zero_le _, H2.out, HW2.out, HZ2.out, HZO.out, HV2.out⟩
      case round =>
        obtain ⟨k, lab', hk2, hs, hw, hz, hzo, hvw⟩ := hrel
        have HV3 := Lib.hid hvw
        have HS := Lib.hid hs
        have HW := Lib.hid hw
        have HZ3 := Lib.hid hz
        have HZO3 := Lib.hid hzo
        have z1 : wr.cell? ⟨z, 1, none⟩ = some (.int .u64 sid) := (cell_at hz 1).trans rfl
        have hlen : (t.grow k).others.length = ol + k := by rw [(t.grow_facts k).2.1, HOL.out]
        have hm1 : lenV (wr.cell? ⟨b, 1, none⟩) = ol + k := by
          obtain ⟨_, _, _, q, _⟩ := side_elt hs.others
          rw [q]
          exact hlen
        have HM1 := Lib.hid hm1
        have HLEN := Lib.hid hlen
        have c25 : wr.cell? ⟨p, 25, none⟩ = some (.pointer (some ⟨b, 0, none⟩)) := (hs.cell 25).trans rfl
        clear hs hw hz hzo hvw H2 HW2 HZ2 HV2 hm1 hlen
        go_wp2_with fail
        refine (tfind_q p (t.grow k) lab' a b sid _ (by exact HS.out) hsid).mono ?_
        rintro e w3 ⟨v, rfl, hv, n3, rfl⟩
        rcases hv with ⟨hfn, rfl⟩ | ⟨o, i, hh, y, hfn, hya, hst, rfl⟩
        · have hlt : k < nd := by rw [← HND.out]; exact (ST.grow_find HGT.out k).1 hfn
          clear hfn
          go_wp2_with fail
          refine (topen_any p (t.grow k) lab' a b _ (by exact HS.out.drewN n3) false (by show (t.grow k).others.length < 1000; rw [HLEN.out]; omega) b rfl).mono ?_
          rintro e w4 ⟨y, lab2, rfl, hs4, _, hw4⟩
          have hm2 : lenV (w4.cell? ⟨b, 1, none⟩) = ol + k + 1 := by
            obtain ⟨_, _, _, q, _⟩ := side_elt hs4.others
            rw [q]
            show ((t.grow k).others ++ [_]).length = _
            rw [List.length_append, HLEN.out]
            rfl
          have hzw : w4.heap[z]? = some (.cells (encF ⟨kd, sid, off, .slice od n cd, fin, lim, code, fnl, seq, dly, vr, e0, e1, e2, e3, e4, e5, e6, e7⟩).toArray 39 (0, 0)) := hw4.upd.keeps HZ3.out (fun q => q HZO3.out)
          have hzo4 : lab2 z = .out := by
            cases hq : lab2 z with
            | out => rfl
            | _ =>
              exfalso
              rcases hw4.new z (by rw [hq]; simp) with e | e
              · exact e HZO3.out
              · have := heap_lt HZ3.out
                have e : wr.heap.size ≤ z := e
                omega
          have HR := Lib.hid (show ∃ k lab', k ≤ nd ∧ StAt w4 p (t.grow k) lab' a b ∧ Went (fun k => lab k ≠ .out) (fun k => lab' k ≠ .out) w w4 ∧ w4.heap[z]? = some (.cells (encF ⟨kd, sid, off, .slice od n cd, fin, lim, code, fnl, seq, dly, vr, e0, e1, e2, e3, e4, e5, e6, e7⟩).toArray 39 (0, 0)) ∧ lab' z = .out ∧ VwA encB (fun k => lab' k ≠ .out) w4 (.slice od n cd) d from
            ⟨k + 1, lab2, hlt, hs4, (HW.out.drewN n3).trans hw4, hzw, hzo4, (HV3.out.wentU ((Went.refl _ _).later (below_drewN (Below.refl _ _) n3))).wentU hw4⟩)
          have HM2 := Lib.hid hm2
          clear hs4 hw4 hm2 hzw hzo4
          go_wp2_with fail
          go_roundw
          case rel => exact HR.out
          case measure =>
            have q1 := HM1.out
            have q2 := HM2.out
            simp only [q1, q2]
            omega
        · have hkn : k = nd := by
            have := (ST.grow_find HGT.out k)
            rw [hfn, HND.out] at this
            simp only [reduceCtorEq, false_iff] at this
            omega
          subst hkn
          have HFN := Lib.hid hfn
          clear hya hst hfn c25
          go_wp2_with fail
          refine (tfind_q p (t.grow k) lab' a b sid _ (by exact HS.out.drewN n3) hsid).mono ?_
          rintro e w5 ⟨v, rfl, hv, n5, rfl⟩
          rcases hv with ⟨hfn, rfl⟩ | ⟨o2, i2, hh2, y2, hfn, hya, hst, rfl⟩
          · rw [HFN.out] at hfn
            cases hfn
          · rw [HFN.out] at hfn
            cases hfn
            clear hst
            have hsb : Below wr.heap.size wr ((wr.drewN n3).drewN n5) := below_drewN (below_drewN (Below.refl _ _) n3) n5
            have hs9 := HS.out.below hsb
            obtain ⟨bs, br, fs, fr, hyb, hsd, hrc, lfs, lfr, tS, tR⟩ := hs9.turn (ST.find_hs HFN.out) (hya.below (below_drewN (Below.refl _ _) n5))
            have HSC := Lib.hid hsd
            have HRC := Lib.hid hrc
            have HY := Lib.hid hyb
            have HZ9 := Lib.hid (below_keeps hsb HZ3.out (heap_lt HZ3.out))
            have HW9 := Lib.hid ((HW.out.later hsb))
            have HVW := Lib.hid ((HV3.out.wentU ((Went.refl _ _).later hsb)).mono (F := fr) (fun k hk => by rw [lfr k hk]; simp))
            have HTS := Lib.hid tS
            have HTR := Lib.hid tR
            have HPOST := Lib.hid (show ∀ w10 h', hh.on ⟨kd, sid, off, .slice od n cd, fin, lim, code, fnl, seq, dly, vr, e0, e1, e2, e3, e4, e5, e6, e7⟩ d = h' → (∃ lab2, StAt w10 p ((t.grow k).put o i h') lab2 a b ∧ Went (fun k => lab' k ≠ .out) (fun k => lab2 k ≠ .out) ((wr.drewN n3).drewN n5) w10) → ∃ lab2, StAt w10 p TN lab2 a b ∧ Went (fun k => lab k ≠ .out) (fun k => lab2 k ≠ .out) w w10 from fun w10 h' he hq => by
              obtain ⟨lab2, q1, q2⟩ := hq
              rw [HON.out, if_neg (by simp), HND.out, HFN.out]
              exact ⟨lab2, by rw [← he] at q1; exact q1, HW9.out.trans q2⟩)
            have hyl := heap_lt hyb
            have y1 := (cell_at hyb 1).trans (by rfl : _ = some (Value.pointer (some ⟨bs, 0, none⟩)))
            have y2' := (cell_at hyb 2).trans (by rfl : _ = some (Value.pointer (some ⟨br, 0, none⟩)))
            have z0 := (cell_at HZ9.out 0).trans (by rfl : _ = some (Value.int .i64 kd))
            have z5 := (cell_at HZ9.out 5).trans (by rfl : _ = some (Value.int .u64 lim))
            have z6 := (cell_at HZ9.out 6).trans (by rfl : _ = some (Value.int .u64 code))
            clear hsb hs9 hyb hsd hrc lfs lfr tS tR HV3 HS HW HZ3 HZO3 z1 hya HM1 HLEN HY
            generalize (wr.drewN n3).drewN n5 = w9 at *
            rcases hk with rfl | rfl | rfl | rfl
            · have HRT := Lib.hid (fun w10 (hm : RM w9 w10 fr br (hh.r.on _ d)) => HPOST.out w10 _ (by unfold H1.on; rw [if_neg (by simp), if_neg (by simp)]) (by obtain ⟨lab2, q1, q2, _⟩ := HTR.out w10 _ hm (on_id _ _ _); exact ⟨lab2, q1, q2⟩))
              have HS9 := Lib.hid (show w9.drew.cell? ⟨y2, 1, none⟩ = some (.pointer (some ⟨bs, 0, none⟩)) ∧ w9.drew.cell? ⟨y2, 2, none⟩ = some (.pointer (some ⟨br, 0, none⟩)) from ⟨y1, y2'⟩)
              clear HPOST HTS HTR y1 y2' z5 z6
              go_upto_region 20 with fail
              refine wp_region_till (S := fun w' => w'.cell? ⟨y2, 2, none⟩ = some (.pointer (some ⟨br, 0, none⟩))) [5] (by kernel_rfl) (by exact HS9.out.2) (fun hHeld => ?_)
              refine wpTill_take0 (i := 0) (oi := ⟨some 52, _, _, _, _, _⟩) (v := ?_) rfl (by kernel_rfl) (fun _ _ _ h => h) (Or.inl ⟨by rfl, ?_⟩) (fun _ => hHeld) ?_
              rotate_left
              · intro w hSw
                (try dsimp only at hSw)
                go_simp
                try with_reducible rfl
              try simp only [Act.put, List.setIfInBounds_toArray, List.set_cons_zero, List.set_cons_succ]
              refine wpTill_take0 (i := 1) (oi := ⟨some 53, _, _, _, _, _⟩) (v := ?_) rfl (by kernel_rfl) (fun _ _ _ h => h) (Or.inl ⟨by rfl, ?_⟩) (fun _ => hHeld) ?_
              rotate_left
              · intro w hSw
                (try dsimp only at hSw)
                go_simp
                try with_reducible rfl
              try simp only [Act.put, List.setIfInBounds_toArray, List.set_cons_zero, List.set_cons_succ]
              refine wpTill_take0 (i := 2) (oi := ⟨some 54, _, _, _, _, _⟩) (v := ?_) rfl (by kernel_rfl) (fun _ _ _ h => h) (Or.inl ⟨by rfl, ?_⟩) (fun _ => hHeld) ?_
              rotate_left
              · intro w hSw
                (try dsimp only at hSw)
                go_simp
                try with_reducible rfl
              try simp only [Act.put, List.setIfInBounds_toArray, List.set_cons_zero, List.set_cons_succ]
              refine wpTill_take (i := 3) (oi := ⟨some 55, _, _, _, _, _⟩) (v := ?_) rfl (by kernel_rfl) (fun _ _ _ h => h) (Or.inl ⟨by rfl, ?_⟩) (by exact hHeld) ?_
              rotate_left
              · intro w hSw
                (try dsimp only at hSw)
                go_simp
                try with_reducible rfl
              try simp only [Act.put, List.setIfInBounds_toArray, List.set_cons_zero, List.set_cons_succ]
              refine wpTill_ready (rs := [4]) (by kernel_rfl) (by simp) ?_
              refine AllTill.cons (o := ⟨some 56, _, _, _, _, _⟩) rfl (fun K hK => ?_) AllTill.nil
              rw [if_pos (show Region.wanted _ _ = true from rfl)]
              refine wp_load_row 39 (.tmp 3) rfl z rfl 39 _ (0, 0) _ (by exact HZ9.out) Try.underlying39 rfl (by rw [sizeF]; rfl) ?_
              refine hK.out _ _ (by exact hHeld) (fun hHeld => ?_)
              clear hK K
              try simp only [Act.put, List.setIfInBounds_toArray, List.set_cons_zero, List.set_cons_succ]
              refine wpTill_ready (rs := [5]) (by kernel_rfl) (by simp) ?_
              refine AllTill.consD (o := ⟨some 57, _, _, _, _, _⟩) rfl (by kernel_rfl) (fun K hK => ?_) AllTill.nil
              rw [if_pos (show Region.wanted _ _ = true from rfl)]
              go_simp
              go_at_call 29
              refine (ron_any br hh.r fr ⟨8, sid, off, .slice od n cd, fin, lim, code, fnl, seq, dly, vr, e0, e1, e2, e3, e4, e5, e6, e7⟩ od n cd d _ (by exact HRC.out.below (by first | exact Below.refl _ _ | exact (Below.refl _ _).drew)) HF.out.1 rfl (by exact HVW.out.wentU ((Went.refl _ _).later (by first | exact Below.refl _ _ | exact (Below.refl _ _).drew))) HF.out.2.1 HF.out.2.2.1 (by have := HF.out.2.2.2; omega)).mono ?_
              rintro e w10 ⟨rfl, hm⟩
              have HE10 := Lib.hid (HRT.out w10 (by obtain ⟨fp', m1, m2⟩ := hm; exact ⟨fp', m1, m2.first (Below.refl _ _).drew⟩))
              clear hm
              go_wp2_with fail
              refine hK.out _ _ ?_
              clear hK K
              try simp only [Act.put, List.setIfInBounds_toArray, List.set_cons_zero, List.set_cons_succ]
              refine wpTill_done (by kernel_rfl) ?_ _
              go_wp2_with fail
              go_ret
              exact ⟨rfl, HE10.out⟩
            · have HRT := Lib.hid (fun w10 (hm : RM w9 w10 fr br (hh.r.on _ d)) => HPOST.out w10 _ (by unfold H1.on; rw [if_neg (by simp), if_neg (by simp)]) (by obtain ⟨lab2, q1, q2, _⟩ := HTR.out w10 _ hm (on_id _ _ _); exact ⟨lab2, q1, q2⟩))
              have HS9 := Lib.hid (show w9.drew.cell? ⟨y2, 1, none⟩ = some (.pointer (some ⟨bs, 0, none⟩)) ∧ w9.drew.cell? ⟨y2, 2, none⟩ = some (.pointer (some ⟨br, 0, none⟩)) from ⟨y1, y2'⟩)
              clear HPOST HTS HTR y1 y2' z5 z6
              go_upto_region 20 with fail
              refine wp_region_till (S := fun w' => w'.cell? ⟨y2, 2, none⟩ = some (.pointer (some ⟨br, 0, none⟩))) [5] (by kernel_rfl) (by exact HS9.out.2) (fun hHeld => ?_)
              refine wpTill_take0 (i := 0) (oi := ⟨some 52, _, _, _, _, _⟩) (v := ?_) rfl (by kernel_rfl) (fun _ _ _ h => h) (Or.inl ⟨by rfl, ?_⟩) (fun _ => hHeld) ?_
              rotate_left
              · intro w hSw
                (try dsimp only at hSw)
                go_simp
                try with_reducible rfl
              try simp only [Act.put, List.setIfInBounds_toArray, List.set_cons_zero, List.set_cons_succ]
              refine wpTill_take0 (i := 1) (oi := ⟨some 53, _, _, _, _, _⟩) (v := ?_) rfl (by kernel_rfl) (fun _ _ _ h => h) (Or.inl ⟨by rfl, ?_⟩) (fun _ => hHeld) ?_
              rotate_left
              · intro w hSw
                (try dsimp only at hSw)
                go_simp
                try with_reducible rfl
              try simp only [Act.put, List.setIfInBounds_toArray, List.set_cons_zero, List.set_cons_succ]
              refine wpTill_take0 (i := 2) (oi := ⟨some 54, _, _, _, _, _⟩) (v := ?_) rfl (by kernel_rfl) (fun _ _ _ h => h) (Or.inl ⟨by rfl, ?_⟩) (fun _ => hHeld) ?_
              rotate_left
              · intro w hSw
                (try dsimp only at hSw)
                go_simp
                try with_reducible rfl
              try simp only [Act.put, List.setIfInBounds_toArray, List.set_cons_zero, List.set_cons_succ]
              refine wpTill_take (i := 3) (oi := ⟨some 55, _, _, _, _, _⟩) (v := ?_) rfl (by kernel_rfl) (fun _ _ _ h => h) (Or.inl ⟨by rfl, ?_⟩) (by exact hHeld) ?_
              rotate_left
              · intro w hSw
                (try dsimp only at hSw)
                go_simp
                try with_reducible rfl
              try simp only [Act.put, List.setIfInBounds_toArray, List.set_cons_zero, List.set_cons_succ]
              refine wpTill_ready (rs := [4]) (by kernel_rfl) (by simp) ?_
              refine AllTill.cons (o := ⟨some 56, _, _, _, _, _⟩) rfl (fun K hK => ?_) AllTill.nil
              rw [if_pos (show Region.wanted _ _ = true from rfl)]
              refine wp_load_row 39 (.tmp 3) rfl z rfl 39 _ (0, 0) _ (by exact HZ9.out) Try.underlying39 rfl (by rw [sizeF]; rfl) ?_
              refine hK.out _ _ (by exact hHeld) (fun hHeld => ?_)
              clear hK K
              try simp only [Act.put, List.setIfInBounds_toArray, List.set_cons_zero, List.set_cons_succ]
              refine wpTill_ready (rs := [5]) (by kernel_rfl) (by simp) ?_
              refine AllTill.consD (o := ⟨some 57, _, _, _, _, _⟩) rfl (by kernel_rfl) (fun K hK => ?_) AllTill.nil
              rw [if_pos (show Region.wanted _ _ = true from rfl)]
              go_simp
              go_at_call 29
              refine (ron_any br hh.r fr ⟨4, sid, off, .slice od n cd, fin, lim, code, fnl, seq, dly, vr, e0, e1, e2, e3, e4, e5, e6, e7⟩ od n cd d _ (by exact HRC.out.below (by first | exact Below.refl _ _ | exact (Below.refl _ _).drew)) HF.out.1 rfl (by exact HVW.out.wentU ((Went.refl _ _).later (by first | exact Below.refl _ _ | exact (Below.refl _ _).drew))) HF.out.2.1 HF.out.2.2.1 (by have := HF.out.2.2.2; omega)).mono ?_
              rintro e w10 ⟨rfl, hm⟩
              have HE10 := Lib.hid (HRT.out w10 (by obtain ⟨fp', m1, m2⟩ := hm; exact ⟨fp', m1, m2.first (Below.refl _ _).drew⟩))
              clear hm
              go_wp2_with fail
              refine hK.out _ _ ?_
              clear hK K
              try simp only [Act.put, List.setIfInBounds_toArray, List.set_cons_zero, List.set_cons_succ]
              refine wpTill_done (by kernel_rfl) ?_ _
              go_wp2_with fail
              go_ret
              exact ⟨rfl, HE10.out⟩
            · have HRT := Lib.hid (fun w10 (hm : SdM w9 w10 fs bs (hh.s.rst code)) => HPOST.out w10 _ (by unfold H1.on; rw [if_pos rfl]) (by obtain ⟨lab2, q1, q2, _⟩ := HTS.out w10 _ hm (rst_id _ _); exact ⟨lab2, q1, q2⟩))
              have HS9 := Lib.hid (show w9.drew.cell? ⟨y2, 1, none⟩ = some (.pointer (some ⟨bs, 0, none⟩)) ∧ w9.drew.cell? ⟨z, 6, none⟩ = some (.int .u64 code) from ⟨y1, z6⟩)
              clear HPOST HTS HTR y1 y2' z5 z6
              go_upto_region 22 with fail
              refine wp_region_till (S := fun w' => w'.cell? ⟨y2, 1, none⟩ = some (.pointer (some ⟨bs, 0, none⟩)) ∧ w'.cell? ⟨z, 6, none⟩ = some (.int .u64 code)) [6] (by kernel_rfl) (by exact HS9.out) (fun hHeld => ?_)
              refine wpTill_take0 (i := 0) (oi := ⟨some 60, _, _, _, _, _⟩) (v := ?_) rfl (by kernel_rfl) (fun _ _ _ h => h) (Or.inl ⟨by rfl, ?_⟩) (fun _ => hHeld) ?_
              rotate_left
              · intro w hSw
                (try dsimp only at hSw)
                go_simp
                try with_reducible rfl
              try simp only [Act.put, List.setIfInBounds_toArray, List.set_cons_zero, List.set_cons_succ]
              refine wpTill_take0 (i := 1) (oi := ⟨some 61, _, _, _, _, _⟩) (v := ?_) rfl (by kernel_rfl) (fun _ _ _ h => h) (Or.inl ⟨by rfl, ?_⟩) (fun _ => hHeld) ?_
              rotate_left
              · intro w hSw
                (try dsimp only at hSw)
                go_simp
                try with_reducible rfl
              try simp only [Act.put, List.setIfInBounds_toArray, List.set_cons_zero, List.set_cons_succ]
              refine wpTill_take0 (i := 2) (oi := ⟨some 62, _, _, _, _, _⟩) (v := ?_) rfl (by kernel_rfl) (fun _ _ _ h => h) (Or.inl ⟨by rfl, ?_⟩) (fun _ => hHeld) ?_
              rotate_left
              · intro w hSw
                (try dsimp only at hSw)
                go_simp
                try with_reducible rfl
              try simp only [Act.put, List.setIfInBounds_toArray, List.set_cons_zero, List.set_cons_succ]
              refine wpTill_take (i := 3) (oi := ⟨some 63, _, _, _, _, _⟩) (v := ?_) rfl (by kernel_rfl) (fun _ _ _ h => h) (Or.inl ⟨by rfl, ?_⟩) (by exact hHeld) ?_
              rotate_left
              · intro w hSw
                (try dsimp only at hSw)
                go_simp
                try with_reducible rfl
              try simp only [Act.put, List.setIfInBounds_toArray, List.set_cons_zero, List.set_cons_succ]
              refine wpTill_take0 (i := 4) (oi := ⟨some 64, _, _, _, _, _⟩) (v := ?_) rfl (by kernel_rfl) (fun _ _ _ h => h) (Or.inl ⟨by rfl, ?_⟩) (fun _ => hHeld) ?_
              rotate_left
              · intro w hSw
                (try dsimp only at hSw)
                go_simp
                try with_reducible rfl
              try simp only [Act.put, List.setIfInBounds_toArray, List.set_cons_zero, List.set_cons_succ]
              refine wpTill_take (i := 5) (oi := ⟨some 65, _, _, _, _, _⟩) (v := ?_) rfl (by kernel_rfl) (fun _ _ _ h => h) (Or.inl ⟨by rfl, ?_⟩) (by exact hHeld) ?_
              rotate_left
              · intro w hSw
                (try dsimp only at hSw)
                go_simp
                try with_reducible rfl
              try simp only [Act.put, List.setIfInBounds_toArray, List.set_cons_zero, List.set_cons_succ]
              refine wpTill_ready (rs := [6]) (by kernel_rfl) (by simp) ?_
              refine AllTill.consD (o := ⟨some 66, _, _, _, _, _⟩) rfl (by kernel_rfl) (fun K hK => ?_) AllTill.nil
              rw [if_pos (show Region.wanted _ _ = true from rfl)]
              go_simp
              go_at_call 28
              refine (sreset_any bs hh.s fs code _ (by exact HSC.out.below (by first | exact Below.refl _ _ | exact (Below.refl _ _).drew)) HF.out.1.code).mono ?_
              rintro e w10 ⟨rfl, hm⟩
              have HE10 := Lib.hid (HRT.out w10 (by obtain ⟨fp', m1, m2⟩ := hm; exact ⟨fp', m1, m2.first (Below.refl _ _).drew⟩))
              clear hm
              go_wp2_with fail
              refine hK.out _ _ ?_
              clear hK K
              try simp only [Act.put, List.setIfInBounds_toArray, List.set_cons_zero, List.set_cons_succ]
              refine wpTill_done (by kernel_rfl) ?_ _
              go_wp2_with fail
              go_ret
              exact ⟨rfl, HE10.out⟩
            · have HRT := Lib.hid (fun w10 (hm : SdM w9 w10 fs bs { hh.s with lim := max hh.s.lim lim }) => HPOST.out w10 _ (by unfold H1.on; rw [if_neg (by simp), if_pos rfl]) (by obtain ⟨lab2, q1, q2, _⟩ := HTS.out w10 _ hm rfl; exact ⟨lab2, q1, q2⟩))
              have HS9 := Lib.hid (show w9.drew.cell? ⟨y2, 1, none⟩ = some (.pointer (some ⟨bs, 0, none⟩)) ∧ w9.drew.cell? ⟨z, 5, none⟩ = some (.int .u64 lim) from ⟨y1, z5⟩)
              clear HPOST HTS HTR y1 y2' z5 z6
              go_upto_region 24 with fail
              refine wp_region_till (S := fun w' => w'.cell? ⟨y2, 1, none⟩ = some (.pointer (some ⟨bs, 0, none⟩)) ∧ w'.cell? ⟨z, 5, none⟩ = some (.int .u64 lim)) [6] (by kernel_rfl) (by exact HS9.out) (fun hHeld => ?_)
              refine wpTill_take0 (i := 0) (oi := ⟨some 69, _, _, _, _, _⟩) (v := ?_) rfl (by kernel_rfl) (fun _ _ _ h => h) (Or.inl ⟨by rfl, ?_⟩) (fun _ => hHeld) ?_
              rotate_left
              · intro w hSw
                (try dsimp only at hSw)
                go_simp
                try with_reducible rfl
              try simp only [Act.put, List.setIfInBounds_toArray, List.set_cons_zero, List.set_cons_succ]
              refine wpTill_take0 (i := 1) (oi := ⟨some 70, _, _, _, _, _⟩) (v := ?_) rfl (by kernel_rfl) (fun _ _ _ h => h) (Or.inl ⟨by rfl, ?_⟩) (fun _ => hHeld) ?_
              rotate_left
              · intro w hSw
                (try dsimp only at hSw)
                go_simp
                try with_reducible rfl
              try simp only [Act.put, List.setIfInBounds_toArray, List.set_cons_zero, List.set_cons_succ]
              refine wpTill_take0 (i := 2) (oi := ⟨some 71, _, _, _, _, _⟩) (v := ?_) rfl (by kernel_rfl) (fun _ _ _ h => h) (Or.inl ⟨by rfl, ?_⟩) (fun _ => hHeld) ?_
              rotate_left
              · intro w hSw
                (try dsimp only at hSw)
                go_simp
                try with_reducible rfl
              try simp only [Act.put, List.setIfInBounds_toArray, List.set_cons_zero, List.set_cons_succ]
              refine wpTill_take (i := 3) (oi := ⟨some 72, _, _, _, _, _⟩) (v := ?_) rfl (by kernel_rfl) (fun _ _ _ h => h) (Or.inl ⟨by rfl, ?_⟩) (by exact hHeld) ?_
              rotate_left
              · intro w hSw
                (try dsimp only at hSw)
                go_simp
                try with_reducible rfl
              try simp only [Act.put, List.setIfInBounds_toArray, List.set_cons_zero, List.set_cons_succ]
              refine wpTill_take0 (i := 4) (oi := ⟨some 73, _, _, _, _, _⟩) (v := ?_) rfl (by kernel_rfl) (fun _ _ _ h => h) (Or.inl ⟨by rfl, ?_⟩) (fun _ => hHeld) ?_
              rotate_left
              · intro w hSw
                (try dsimp only at hSw)
                go_simp
                try with_reducible rfl
              try simp only [Act.put, List.setIfInBounds_toArray, List.set_cons_zero, List.set_cons_succ]
              refine wpTill_take (i := 5) (oi := ⟨some 74, _, _, _, _, _⟩) (v := ?_) rfl (by kernel_rfl) (fun _ _ _ h => h) (Or.inl ⟨by rfl, ?_⟩) (by exact hHeld) ?_
              rotate_left
              · intro w hSw
                (try dsimp only at hSw)
                go_simp
                try with_reducible rfl
              try simp only [Act.put, List.setIfInBounds_toArray, List.set_cons_zero, List.set_cons_succ]
              refine wpTill_ready (rs := [6]) (by kernel_rfl) (by simp) ?_
              refine AllTill.consD (o := ⟨some 75, _, _, _, _, _⟩) rfl (by kernel_rfl) (fun K hK => ?_) AllTill.nil
              rw [if_pos (show Region.wanted _ _ = true from rfl)]
              go_simp
              go_at_call 24
              refine (slimit_any bs hh.s fs lim _ (by exact HSC.out.below (by first | exact Below.refl _ _ | exact (Below.refl _ _).drew)) HF.out.1.lim).mono ?_
              rintro e w10 ⟨rfl, hm⟩
              have HE10 := Lib.hid (HRT.out w10 (by obtain ⟨fp', m1, m2⟩ := hm; exact ⟨fp', m1, m2.first (Below.refl _ _).drew⟩))
              clear hm
              go_wp2_with fail
              refine hK.out _ _ ?_
              clear hK K
              try simp only [Act.put, List.setIfInBounds_toArray, List.set_cons_zero, List.set_cons_succ]
              refine wpTill_done (by kernel_rfl) ?_ _
              go_wp2_with fail
              go_ret
              exact ⟨rfl, HE10.out⟩
    · have HEND := Lib.hid (show ∃ lab', StAt w2 p TN lab' a b ∧ Went (fun k => lab k ≠ .out) (fun k => lab' k ≠ .out) w w2 from ⟨lab, by rw [HON.out, if_pos a0]; exact H2.out, HW2.out⟩)
      have a0i : ((ans : Int) != 0) = true := by simpa using a0
      go_wp2_with fail
      go_ret
      exact ⟨rfl, HEND.out⟩
end Go.Proofs.Ytfdgamlakfkekaa

/- DERIVED. A row of bytes that is laid down at once, as a view. -/
namespace Go.Proofs.Ytfdgamlakfkekaa
open Go.RowKit

theorem lit_vw {w : World} {g n c : Nat} {cs : Array Value} {t : TypeId} {z : Nat × Nat} {xs : List Nat} (h : w.heap[g]? = some (.cells cs t z)) (hl : cs.toList = flat encB xs) (hn : n = xs.length) (hc : n ≤ c) (hc2 : c ≤ 9223372036854775807) :
    Vw encB w w.heap.size (.slice (some ⟨g, 0, none⟩) n c) xs := (lit_vwa (fp := fun _ => False) h hl (fun q => q) hn hc hc2).vw
end Go.Proofs.Ytfdgamlakfkekaa

/- DERIVED. Walk of narthexlaw18's known; sets of one's own. -/
namespace Go.Proofs.Ytfdgamlakfkekaa
open Go.RowKit

theorem TMine.below {W w : World} {p : Nat} {t : ST} (h : TMine W w p t) : Below W.heap.size W w := by
  obtain ⟨_, _, _, _, _, h⟩ := h
  exact h
theorem TMine.later {W w w' : World} {p : Nat} {t : ST} (h : TMine W w p t) (hb : Below w.heap.size w w') : TMine W w' p t := by
  obtain ⟨lab, a, b, h1, h2, h3⟩ := h
  exact ⟨lab, a, b, h1.below hb, h2, below_call h3 h3.size hb⟩
theorem TMine.first {W0 W w : World} {p : Nat} {t : ST} (hb : Below W0.heap.size W0 W) (h : TMine W w p t) : TMine W0 w p t := by
  obtain ⟨lab, a, b, h1, h2, h3⟩ := h
  exact ⟨lab, a, b, h1, fun k hk => Nat.le_trans hb.size (h2 k hk), below_call hb hb.size h3⟩
theorem went_mine {W w w' : World} {lab lab' : Nat → Lab} (h2 : ∀ k, lab k ≠ .out → W.heap.size ≤ k) (h3 : Below W.heap.size W w) (hw : Went (fun k => lab k ≠ .out) (fun k => lab' k ≠ .out) w w') : (∀ k, lab' k ≠ .out → W.heap.size ≤ k) ∧ Below W.heap.size W w' := by
  have hs := h3.size
  refine ⟨fun k hk => ?_, Upd.belowOf h3 hw.upd (fun k hk q => by have := h2 k q; omega)⟩
  rcases hw.new k hk with q | q
  · exact h2 k q
  · omega
theorem TMine.open {W w : World} {p : Nat} {t : ST} (h : TMine W w p t) : ∃ lab a b, StAt w p t lab a b ∧ ∀ w' t', (∃ lab', StAt w' p t' lab' a b ∧ Went (fun k => lab k ≠ .out) (fun k => lab' k ≠ .out) w w') → TMine W w' p t' := by
  obtain ⟨lab, a, b, h1, h2, h3⟩ := h
  refine ⟨lab, a, b, h1, fun w' t' ⟨lab', q1, q2⟩ => ?_⟩
  obtain ⟨r1, r2⟩ := went_mine h2 h3 q2
  exact ⟨lab', a, b, q1, r1, r2⟩
theorem Pm.zero_ok : Pm.zero.Ok := ⟨by decide, by decide, by decide, by decide⟩
def kF : Fr := ⟨8, 4, 0, .slice none 0 0, false, 0, 0, 0, 0, 0, .slice none 0 0, 0, 0, 0, 0, 0, 0, 0, 0⟩
theorem kF_ok : FrOk kF := ⟨by decide, by decide, by decide, by decide, by decide, by decide⟩
theorem vwa_none {fp : Nat → Prop} {w : World} : VwA encB fp w (.slice none 0 0) [] := ⟨none, 0, rfl, Nat.le_refl _, by decide, .inl rfl⟩
def kT0 : ST := ST.new false Pm.zero
def kT1 : ST := kT0.allow ⟨0, 0, 0, 1, 0, 0, 0, 0, 0, 0, 0, 0⟩
def kT2 : ST := kT1.opn
theorem kT_facts : kT0.opnV = (0, 31) ∧ kT0.opn = kT0 ∧ kT1.opnV = (0, 0) ∧ kT2.opnV = (0, 31) ∧ kT2.opn = kT2 ∧ kT2.wrR 8 1 = (0, 22) ∧ kT2.wr 8 [97] = kT2 ∧ kT2.may kF 0 = 5 ∧ kT2.find 8 = none ∧ kT0.own.length = 0 ∧ kT1.own.length = 0 ∧ kT2.own.length = 1 ∧ kT2.others.length = 0 ∧ kT2.mine.ms = 0 :=
  ⟨rfl, rfl, rfl, rfl, rfl, rfl, rfl, rfl, rfl, rfl, rfl, rfl, rfl, rfl⟩
set_option maxRecDepth 100000 in
set_option maxHeartbeats 4000000 in
theorem stknown_any (w : World) : Calls Try.prog 13 #[] w fun e w' => e = .returned (.bool true) ∧ Below w.heap.size w w' := by
  have hcs := fun (w : World) (C : Array Value) (n c : Nat) => Lib.run_convert_bytes_const (P := Try.prog) w 36 5 C n c Try.underlying36 Try.underlying5
  obtain ⟨k1, k2, k3, k4, k5, k6, k7, k8, k9, k10, k11, k12, k13, k14⟩ := kT_facts
  have K := Lib.hid kT_facts
  clear k1 k2 k3 k4 k5 k6 k7 k8 k9 k10 k11 k12 k13 k14
  go_enter Try.func13, Try.ntmps13
  go_wp2_with fail
  refine (tnew_any false Pm.zero Pm.zero_ok _).mono ?_
  rintro e w1 ⟨p, rfl, hm⟩
  have HM1 := Lib.hid (show TMine w w1 p kT0 from hm)
  clear hm
  go_wp2_with fail
  obtain ⟨lab, a, b, hs, hgo⟩ := HM1.out.open
  have HG := Lib.hid hgo
  refine (tOpen_any p kT0 lab a b _ hs (by rw [K.out.2.2.2.2.2.2.2.2.2.1]; omega)).mono ?_
  rw [K.out.1, K.out.2.1]
  rintro e w2 ⟨rfl, hr⟩
  have HM2 := Lib.hid (HG.out _ _ hr)
  clear hs hgo hr HG HM1 lab a b
  go_wp2_with fail
  obtain ⟨lab, a, b, hs, hgo⟩ := HM2.out.open
  have HG := Lib.hid hgo
  refine (tallow_any p kT0 lab a b ⟨0, 0, 0, 1, 0, 0, 0, 0, 0, 0, 0, 0⟩ _ hs ⟨by decide, by decide, by decide, by decide⟩ rfl rfl).mono ?_
  rintro e w3 ⟨rfl, hs3, hu3⟩
  have HM3 := Lib.hid (show TMine w w3 p kT1 from HG.out _ _ ⟨lab, hs3, hu3, fun k hk => .inl hk⟩)
  clear hs hgo hs3 hu3 HG HM2 lab a b
  go_wp2_with fail
  obtain ⟨lab, a, b, hs, hgo⟩ := HM3.out.open
  have HG := Lib.hid hgo
  refine (tOpen_any p kT1 lab a b _ hs (by rw [K.out.2.2.2.2.2.2.2.2.2.2.1]; omega)).mono ?_
  rw [K.out.2.2.1]
  rintro e w4 ⟨rfl, hr⟩
  have HM4 := Lib.hid (show TMine w w4 p kT2 from HG.out _ _ hr)
  clear hs hgo hr HG HM3 lab a b
  go_wp2_with fail
  obtain ⟨lab, a, b, hs, hgo⟩ := HM4.out.open
  have HG := Lib.hid hgo
  refine (tOpen_any p kT2 lab a b _ hs (by rw [K.out.2.2.2.2.2.2.2.2.2.2.2.1]; omega)).mono ?_
  rw [K.out.2.2.2.1, K.out.2.2.2.2.1]
  rintro e w5 ⟨rfl, hr⟩
  have HM5 := Lib.hid (HG.out _ _ hr)
  clear hs hgo hr HG HM4 lab a b
  go_wp2_with fail
  obtain ⟨lab, a, b, hs, hgo⟩ := (HM5.out.later ((Below.refl _ _).alloc (Nat.le_refl _) (.cells #[.int .u8 97] 5 (1, 2)))).open
  have HG := Lib.hid hgo
  refine (twrite_any p kT2 lab a b 8 _ [97] _ hs (by omega) (by exact lit_vw (alloc_at _ _) rfl rfl (by omega) (by omega)) (Nat.le_refl _) (by unfold Bys; decide) (by decide) (fun x hx => by rw [K.out.2.2.2.2.2.2.2.2.1] at hx; cases hx)).mono ?_
  rw [show ([97] : List Nat).length = 1 from rfl, K.out.2.2.2.2.2.1, K.out.2.2.2.2.2.2.1]
  rintro e w6 ⟨rfl, hr⟩
  have HM6 := Lib.hid (HG.out _ _ hr)
  clear hs hgo hr HG HM5 lab a b
  go_wp2_with fail
  obtain ⟨lab, a, b, hs, hgo⟩ := HM6.out.open
  have HG := Lib.hid hgo
  refine (ton_str p kT2 lab a b kF none 0 0 [] _ hs kF_ok rfl (.inl rfl) vwa_none (by unfold Bys; decide) rfl (by omega) (by rw [K.out.2.2.2.2.2.2.2.2.2.2.2.2.2]; omega) (by rw [K.out.2.2.2.2.2.2.2.2.2.2.2.2.1]; omega)).mono ?_
  rw [K.out.2.2.2.2.2.2.2.1]
  rintro e w7 ⟨rfl, hr⟩
  have HB := Lib.hid (HG.out _ _ hr).below
  clear hs hgo hr HG HM6 lab a b
  go_wp2_with fail
  go_ret
  exact ⟨rfl, HB.out⟩
end Go.Proofs.Ytfdgamlakfkekaa

/- DERIVED. Walks of narthexbook's small functions. -/
namespace Go.Proofs.Ytfdgamlakfkekaa
open Go.RowKit

def withinS (n lo hi : Int) : Int := if lo ≤ n ∧ n ≤ hi then n else lo + n % (hi - lo + 1)
theorem withinS_bd (n lo hi : Int) (h : lo ≤ hi) : lo ≤ withinS n lo hi ∧ withinS n lo hi ≤ hi := by
  unfold withinS
  split
  · assumption
  · have := Int.emod_nonneg n (b := hi - lo + 1) (by omega)
    have := Int.emod_lt_of_pos n (b := hi - lo + 1) (by omega)
    omega
theorem tmod_fix (n m : Int) (hm : 0 < m) : (if n.tmod m < 0 then n.tmod m + m else n.tmod m) = n % m := by
  have h1 := Int.emod_nonneg n (b := m) (by omega)
  have h2 := Int.emod_lt_of_pos n (b := m) hm
  rcases Int.le_total 0 n with hn | hn
  · rw [Int.tmod_eq_emod_of_nonneg hn]
    split <;> omega
  · have h3 := Int.tmod_eq_emod (a := n) (b := m)
    have h4 := Int.emod_eq_zero_of_dvd (a := m) (b := n)
    have h5 : ((m.natAbs : Nat) : Int) = m := by omega
    split at h3
    · rename_i hd
      simp only [Int.sub_zero, Int.cast_ofNat_Int] at h3
      rcases hd with hd | hd
      · obtain rfl : n = 0 := by omega
        simp
      · have := h4 hd
        split <;> omega
    · split <;> omega
theorem tmod_bd (n m : Int) (hm : 0 < m) : -m ≤ n.tmod m ∧ n.tmod m < m := by
  have h := tmod_fix n m hm
  have h1 := Int.emod_nonneg n (b := m) (by omega)
  have h2 := Int.emod_lt_of_pos n (b := m) hm
  split at h <;> omega


set_option maxHeartbeats 1000000 in
theorem within_any (n lo hi : Int) (w : World) (h : lo ≤ hi) (h1 : -1099511627776 ≤ lo) (h2 : hi ≤ 1099511627776) (hn : -9223372036854775808 ≤ n) (hn2 : n ≤ 9223372036854775807) :
    Calls Try.prog 6 #[.int .i64 n, .int .i64 lo, .int .i64 hi] w fun e w' =>
      e = .returned (.int .i64 (withinS n lo hi)) ∧ w = w' := by
  obtain ⟨b1, b2⟩ := tmod_bd n (hi - lo + 1) (by omega)
  have hfix := Lib.hid (tmod_fix n (hi - lo + 1) (by omega))
  by_cases hc : lo ≤ n
  all_goals by_cases hd : n ≤ hi
  all_goals
    go_enter Try.func6, Try.ntmps6
    go_wp2
  all_goals (first | (exfalso; omega) | skip)
  all_goals go_ret
  all_goals refine ⟨ret_i64 ?_, rfl⟩
  all_goals have hfx := hfix.out
  all_goals unfold withinS
  all_goals first | (rw [if_pos ⟨hc, hd⟩]; done) | (rw [if_neg (by omega)]; split at hfx <;> omega)

end Go.Proofs.Ytfdgamlakfkekaa

/- DERIVED. Walk of narthexlaw18's StreamsOpen. -/
namespace Go.Proofs.Ytfdgamlakfkekaa
open Go.RowKit

/-- Two sets of one's own. -/
def TP (W w : World) (p : Nat) (t : ST) (q : Nat) (u : ST) : Prop := ∃ lab a b lab2 a2 b2, StAt w p t lab a b ∧ StAt w q u lab2 a2 b2 ∧ (∀ k, lab k ≠ .out → lab2 k = .out) ∧ (∀ k, lab k ≠ .out → W.heap.size ≤ k) ∧ (∀ k, lab2 k ≠ .out → W.heap.size ≤ k) ∧ Below W.heap.size W w
theorem TP.below {W w : World} {p q : Nat} {t u : ST} (h : TP W w p t q u) : Below W.heap.size W w := by
  obtain ⟨_, _, _, _, _, _, _, _, _, _, _, h⟩ := h
  exact h
theorem TP.later {W w w' : World} {p q : Nat} {t u : ST} (h : TP W w p t q u) (hb : Below w.heap.size w w') : TP W w' p t q u := by
  obtain ⟨lab, a, b, lab2, a2, b2, h1, h2, h3, h4, h5, h6⟩ := h
  exact ⟨lab, a, b, lab2, a2, b2, h1.below hb, h2.below hb, h3, h4, h5, below_call h6 h6.size hb⟩
theorem TP.swap {W w : World} {p q : Nat} {t u : ST} (h : TP W w p t q u) : TP W w q u p t := by
  obtain ⟨lab, a, b, lab2, a2, b2, h1, h2, h3, h4, h5, h6⟩ := h
  refine ⟨lab2, a2, b2, lab, a, b, h2, h1, fun k hk => ?_, h5, h4, h6⟩
  cases hq : lab k with
  | out => rfl
  | _ => exact absurd (h3 k (by rw [hq]; simp)) hk
theorem TP.mk {W w1 w2 : World} {p q : Nat} {t u : ST} (h : TMine W w1 p t) (k : TMine w1 w2 q u) : TP W w2 p t q u := by
  obtain ⟨lab, a, b, h1, h2, h3⟩ := h
  obtain ⟨lab2, a2, b2, k1, k2, k3⟩ := k
  have hs := h3.size
  refine ⟨lab, a, b, lab2, a2, b2, h1.below k3, k1, fun j hj => ?_, h2, fun j hj => by have := k2 j hj; omega, below_call h3 hs k3⟩
  cases hq : lab2 j with
  | out => rfl
  | _ =>
    have := k2 j (by rw [hq]; simp)
    have := h1.lt j hj
    omega
/-- The first one, to be turned. -/
theorem TP.open {W w : World} {p q : Nat} {t u : ST} (h : TP W w p t q u) : ∃ lab a b, StAt w p t lab a b ∧ ∀ w' t', (∃ lab', StAt w' p t' lab' a b ∧ Went (fun k => lab k ≠ .out) (fun k => lab' k ≠ .out) w w') → TP W w' p t' q u := by
  obtain ⟨lab, a, b, lab2, a2, b2, h1, h2, h3, h4, h5, h6⟩ := h
  refine ⟨lab, a, b, h1, fun w' t' ⟨lab', q1, q2⟩ => ?_⟩
  obtain ⟨r1, r2⟩ := went_mine h4 h6 q2
  refine ⟨lab', a, b, lab2, a2, b2, q1, h2.keeps q2.upd (fun k hk => h3 k hk), fun k hk => ?_, r1, h5, r2⟩
  rcases q2.new k hk with e | e
  · exact h3 k e
  · cases hq : lab2 k with
    | out => rfl
    | _ =>
      have := h2.lt k (by rw [hq]; simp)
      have e : w.heap.size ≤ k := e
      omega
def oT (sv : Bool) (k : Nat) : ST := (ST.new sv (pmN 63)).allow ⟨0, 100, 100, k, 0, 0, 0, 0, 0, 0, 0, 0⟩
def ST.opns (t : ST) : Nat → ST
  | 0 => t
  | n + 1 => (t.opns n).opn
def oU (sv : Bool) : ST := ST.new (!sv) (pmN 63)
def oF (sv : Bool) (j : Nat) : Fr := ⟨8, (if sv then 1 else 0) + 4 * j, 0, .slice none 0 0, false, 0, 0, 0, 0, 0, .slice none 0 0, 0, 0, 0, 0, 0, 0, 0, 0⟩
theorem oT_facts : ∀ (sv : Bool) (k : Fin 13) (i : Fin 15), ((oT sv k.val).opns i.val).opnV = (if i.val < min k.val 8 then ((if sv then 1 else 0) + 4 * i.val, 0) else (0, 31)) ∧ ((oT sv k.val).opns i.val).own.length = min i.val (min k.val 8) ∧
    ((oT sv k.val).opns i.val).ids.length = min i.val (min k.val 8) := by decide +kernel
theorem oU_facts : ∀ (sv : Bool) (j : Fin 8), (oU sv).may (oF sv j.val) 0 = 0 ∧ ((oU sv).onS (oF sv j.val) []).ids = (List.range (j.val + 1)).map fun i => (if sv then 1 else 0) + 4 * i := by decide +kernel
theorem oU_more : ∀ sv : Bool, (oU sv).mine.ms = 8 ∧ (oU sv).others.length = 0 := by decide +kernel
theorem pm63_ok : (pmN 63).Ok := ⟨by decide, by decide, by decide, by decide⟩
end Go.Proofs.Ytfdgamlakfkekaa

/- DERIVED. narthexlaw18's StreamsRing: how a's streams begin; plain. -/
namespace Go.Proofs.Ytfdgamlakfkekaa
open Go.RowKit

theorem tau0 {k c : Nat} (hc : c < k) : tau k 0 c = 0 := by
  unfold tau
  exact Nat.div_eq_of_lt (by omega)
theorem rH0 {k c : Nat} (hc : c < k) (d : List Nat) : rH k 0 d c = ⟨4 * c, ⟨4 * c, 1, 9999, none, false, { OS.zero with B := d }⟩, RS.new (4 * c) rT0.mine.msd⟩ := by
  unfold rH
  rw [tau0 hc]
  rfl
theorem rT_zero (d : List Nat) : rT 0 0 d = rT0 := by
  obtain ⟨_, _, _, _, _, _, h7, _, _, h10, h11, _⟩ := rT0_facts
  unfold rT
  simp only [List.range_zero, List.map_nil, if_true]
  rw [show decide (0 < 0) = false from rfl, ← h7]
  conv => rhs; rw [show rT0 = { rT0 with last := rT0.last, told := rT0.told } from rfl, h10, h11]
theorem rT_own0 (c : Nat) (d : List Nat) : (rT c 0 d).own.length = c := by
  show ((List.range c).map (rH c 0 d)).length = c
  simp
theorem rT_opnV {c : Nat} (hc : c < 8) (d : List Nat) : (rT c 0 d).opnV = (4 * c, 0) := by
  unfold ST.opnV
  have h1 : (rT c 0 d).theirs.ms = 8 := rT0_facts.2.2.2.2.2.2.2.1
  have h2 : (rT c 0 d).rest = 0 := rT0_facts.2.2.2.2.1
  rw [h1, rT_own0, if_neg (by omega)]
  unfold ST.nid ST.rs
  simp only [if_true]
  rw [h2]
  show (4 * (rT c 0 d).own.length + 0, 0) = _
  rw [rT_own0, Nat.add_zero]
def rN (c : Nat) : H1 := ⟨4 * c, ⟨4 * c, 1, 9999, none, false, OS.zero⟩, RS.new (4 * c) rT0.mine.msd⟩
theorem rT_newH (c : Nat) (d : List Nat) : (rT c 0 d).newH true = rN c := by
  have h2 : (rT c 0 d).rest = 0 := rT0_facts.2.2.2.2.1
  have h3 : (rT c 0 d).theirs.msd = 9999 := rT0_facts.2.2.2.2.2.2.2.2.1
  have hn : (rT c 0 d).nid true = 4 * c := by
    unfold ST.nid ST.rs
    simp only [if_true]
    rw [h2]
    show 4 * (rT c 0 d).own.length + 0 = _
    rw [rT_own0, Nat.add_zero]
  unfold ST.newH
  rw [hn, h3]
  rfl
theorem rT_opn {c : Nat} (hc : c < 8) (d : List Nat) : (rT c 0 d).opn = (rT c 0 d).add true (rN c) := by
  unfold ST.opn
  have h1 : (rT c 0 d).theirs.ms = 8 := rT0_facts.2.2.2.2.2.2.2.1
  rw [h1, rT_own0, if_neg (by omega), rT_newH]
theorem rT_find {c : Nat} (hc : c < 8) (d : List Nat) : ((rT c 0 d).opn).find (4 * c) = some (true, c, rN c) := by
  rw [rT_opn hc]
  have h2 : ((rT c 0 d).add true (rN c)).rest = 0 := rT0_facts.2.2.2.2.1
  unfold ST.find ST.sideO
  rw [h2, if_pos (by omega)]
  simp only
  have e : (((rT c 0 d).add true (rN c)).hs true) = (List.range c).map (rH c 0 d) ++ [rN c] := rfl
  rw [e, show 4 * c / 4 = c from by omega, List.getElem?_append_right (by simp)]
  simp
theorem rN_wrN (c n : Nat) (hn : n ≤ 2048) : (rN c).s.wrN n = (n, 0) := by
  unfold SS.wrN
  have h1 : (rN c).s.closed = false := rfl
  have h2 : (rN c).s.os.room = 2048 := rfl
  rw [h1, h2]
  simp only [Bool.false_eq_true, if_false]
  rw [if_neg (by omega), Nat.min_eq_left hn]
theorem rT_wrR {c : Nat} (hc : c < 8) (d : List Nat) (n : Nat) (hn : n ≤ 2048) : ((rT c 0 d).opn).wrR (4 * c) n = (n, 0) := by
  unfold ST.wrR
  rw [rT_find hc]
  exact rN_wrN c n hn
theorem rT_wr {c : Nat} (hc : c < 8) (d : List Nat) (hd : d.length ≤ 2048) : ((rT c 0 d).opn).wr (4 * c) d = rT (c + 1) 0 d := by
  unfold ST.wr
  rw [rT_find hc]
  simp only
  have hw : (rN c).s.wr d = ⟨4 * c, 1, 9999, none, false, { OS.zero with B := d }⟩ := by
    unfold SS.wr
    have h1 : (rN c).s.closed = false := rfl
    rw [h1]
    simp only [Bool.false_eq_true, if_false]
    have h2 : (rN c).s.os.write d = { OS.zero with B := d } := by
      unfold OS.write
      have h2 : (rN c).s.os.room = 2048 := rfl
      have h3 : (rN c).s.os.B = [] := rfl
      rw [h2, h3, Nat.min_eq_left hd, List.take_length, List.nil_append]
      rfl
    rw [h2]
    rfl
  rw [hw, rT_opn hc]
  have e : ((List.range c).map (rH c 0 d) ++ [rN c]).set c ⟨(rN c).id, ⟨4 * c, 1, 9999, none, false, { OS.zero with B := d }⟩, (rN c).r⟩ = (List.range (c + 1)).map (rH (c + 1) 0 d) := by
    rw [List.set_append_right _ _ (by simp), List.range_succ, List.map_append, List.map_singleton, rH0 (by omega)]
    simp only [List.length_map, List.length_range, Nat.sub_self, List.set_cons_zero]
    congr 1
    apply List.map_congr_left
    intro x hx
    have hx := List.mem_range.1 hx
    rw [rH0 hx, rH0 (by omega)]
  have e2 : ∀ X : H1, ((rT c 0 d).add true (rN c)).put true c X = { rT c 0 d with own := ((List.range c).map (rH c 0 d) ++ [rN c]).set c X } := fun X => rfl
  rw [e2, e]
  rfl
theorem rS_gj {id lim τ : Nat} {d : List Nat} (ht : τ ≤ 5) (h1 : 400 ≤ d.length) (h2 : d.length ≤ 450) (hb : Bys d) : GJ (rS id lim d τ).os :=
  ⟨⟨by show d.length ≤ _; omega, Nat.zero_le _, by show 40 * τ ≤ d.length; omega, OS.zero_ok.nx, OS.zero_ok.ny, OS.zero_ok.lx, OS.zero_ok.ly, hb⟩, by show d.length ≤ _; omega, by show d.length ≤ 0 + 2048; omega, fun j q => by simp [rS, OS.zero, mem] at q, fun j q => by simp [rS, OS.zero, mem] at q, fun j q => absurd q (Nat.not_lt_zero _)⟩
end Go.Proofs.Ytfdgamlakfkekaa
