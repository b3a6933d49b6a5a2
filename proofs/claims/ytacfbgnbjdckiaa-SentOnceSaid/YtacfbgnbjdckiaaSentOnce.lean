/- DERIVED. Walk of narthexlaw11's SentOnce. -/
import Derived.Test.YtacfbgnbjdckiaaOnceL
import Derived.Test.YtacfbgnbjdckiaaBook
import Derived.Test.YtacfbgnbjdckiaaStr
import Derived.Laws.Rows
import Derived.Deep.DeepCutAuto
import Derived.DeepKeys
namespace Go.Proofs.Ytacfbgnbjdckiaa
open Go.RowKit

theorem flatL (l : List Bool) : flat encL l = l.map Value.bool := by
  induction l with
  | nil => rfl
  | cons x l ih => rw [flat_cons, ih]; rfl
theorem lvw {w : World} {B : Nat} {oa : Option Addr} {n cap : Nat} {L : List Bool} (h : Vw encL w B (.slice oa n cap) L) {i : Nat} {x : Bool} (ha : L[i]? = some x) :
    ∃ b off, oa = some ⟨b, off, none⟩ ∧ b < B ∧ w.cell? ⟨b, off + i, none⟩ = some (.bool x) := by
  obtain ⟨b, off, h1, h2, h3⟩ := h.el (k := 1) (fun _ => rfl) ha
  refine ⟨b, off, h1, h2, ?_⟩
  have := h3 0 (by omega)
  simpa [encL] using this
def encV (v : Value) : List Value := [v]
theorem vvw {w : World} {B : Nat} {oa : Option Addr} {n cap : Nat} {L : List Value} (h : Vw encV w B (.slice oa n cap) L) {i : Nat} {x : Value} (ha : L[i]? = some x) :
    ∃ b off, oa = some ⟨b, off, none⟩ ∧ b < B ∧ w.cell? ⟨b, off + i, none⟩ = some x := by
  obtain ⟨b, off, h1, h2, h3⟩ := h.el (k := 1) (fun _ => rfl) ha
  refine ⟨b, off, h1, h2, ?_⟩
  have := h3 0 (by omega)
  simpa [encV] using this
/-- A row of numbers that came in. -/
def U64s (w : World) (B : Nat) (v : Value) : Prop := ∃ xs, Vw encU w B v xs ∧ ∀ x ∈ xs, x < 18446744073709551616

/-- The ledger, and the two rows of flags. -/
def On (W w : World) (b g1 g2 : Nat) (s : LS) (pt ot : List Bool) : Prop :=
  ∃ fp, LAt w b s fp ∧ (∀ k, fp k → W.heap.size ≤ k) ∧ Below W.heap.size W w ∧ Row encL w 26 g1 pt ∧ Row encL w 26 g2 ot ∧ W.heap.size ≤ g1 ∧ W.heap.size ≤ g2 ∧ g1 ≠ g2 ∧ ¬ fp g1 ∧ ¬ fp g2
theorem On.below {W w : World} {b g1 g2 : Nat} {s : LS} {pt ot : List Bool} (h : On W w b g1 g2 s pt ot) : Below W.heap.size W w := by
  obtain ⟨_, _, _, h, _⟩ := h
  exact h
theorem On.lm {W w w' : World} {b g1 g2 : Nat} {s' : LS} {pt ot : List Bool} {fp : Nat → Prop} (h2 : ∀ k, fp k → W.heap.size ≤ k) (h3 : Below W.heap.size W w) (h4 : Row encL w 26 g1 pt) (h5 : Row encL w 26 g2 ot) (h6 : W.heap.size ≤ g1) (h7 : W.heap.size ≤ g2)
    (h8 : g1 ≠ g2) (h9 : ¬ fp g1) (h10 : ¬ fp g2) (m : LM w w' fp b s') : On W w' b g1 g2 s' pt ot := by
  obtain ⟨fp', m1, m2, m3⟩ := m
  have hs := h3.size
  have hg1 := heap_lt h4
  have hg2 := heap_lt h5
  refine ⟨fp', m1, fun k hk => ?_, Upd.onto h3 m2 hs (fun k hk q => by have := h2 k q; omega), m2.keeps h4 h9, m2.keeps h5 h10, h6, h7, h8, fun q => ?_, fun q => ?_⟩
  · rcases m3 k hk with q | q
    · exact h2 k q
    · omega
  · rcases m3 g1 q with q | q
    · exact h9 q
    · omega
  · rcases m3 g2 q with q | q
    · exact h10 q
    · omega
theorem On.later {W w w' : World} {b g1 g2 : Nat} {s : LS} {pt ot : List Bool} (h : On W w b g1 g2 s pt ot) (hb : Below w.heap.size w w') : On W w' b g1 g2 s pt ot := by
  obtain ⟨fp, h1, h2, h3, h4, h5, h6, h7, h8, h9, h10⟩ := h
  exact ⟨fp, h1.below hb, h2, below_call h3 h3.size hb, below_keeps hb h4 (heap_lt h4), below_keeps hb h5 (heap_lt h5), h6, h7, h8, h9, h10⟩
theorem On.drewN {W w : World} {b g1 g2 : Nat} {s : LS} {pt ot : List Bool} (h : On W w b g1 g2 s pt ot) (n : Nat) : On W (w.drewN n) b g1 g2 s pt ot := h.later (below_drewN (Below.refl _ _) n)
theorem On.alloc {W w : World} {b g1 g2 : Nat} {s : LS} {pt ot : List Bool} (h : On W w b g1 g2 s pt ot) (o : Obj) : On W (w.alloc o) b g1 g2 s pt ot := h.later ((Below.refl _ _).alloc (Nat.le_refl _) _)
theorem row_put {w : World} {E : TypeId} {g : Nat} {l : List Bool} (h : Row encL w E g l) (j : Nat) (x : Bool) : Row encL (w.setCell ⟨g, j, none⟩ (.bool x)) E g (l.set j x) := by
  have := set_at h j (.bool x)
  unfold Row
  rw [this, flatL, flatL]
  congr 2
  apply Array.toList_inj.1
  simp [List.map_set]
theorem row_cell {w : World} {E : TypeId} {g : Nat} {l : List Bool} (h : Row encL w E g l) {j : Nat} {x : Bool} (hx : l[j]? = some x) : w.cell? ⟨g, j, none⟩ = some (.bool x) ∧ w.frozen? ⟨g, j, none⟩ = false := by
  refine ⟨?_, free_at h j⟩
  rw [cell_at h, flatL]
  simp [hx]
theorem On.put1 {W w : World} {b g1 g2 : Nat} {s : LS} {pt ot : List Bool} (h : On W w b g1 g2 s pt ot) (j : Nat) (x : Bool) : On W (w.setCell ⟨g1, j, none⟩ (.bool x)) b g1 g2 s (pt.set j x) ot := by
  obtain ⟨fp, h1, h2, h3, h4, h5, h6, h7, h8, h9, h10⟩ := h
  have hu : Upd (fun k => k = g1) w (w.setCell ⟨g1, j, none⟩ (.bool x)) := (Upd.refl (fun k => k = g1) w).setCell ⟨g1, j, none⟩ (.inl rfl) _
  exact ⟨fp, h1.keeps hu (fun k hk e => h9 (by subst e; exact hk)), h2, Upd.onto h3 hu h3.size (fun k hk e => by omega), row_put h4 j x, hu.keeps h5 (fun e => h8 e.symm), h6, h7, h8, h9, h10⟩
theorem On.put2 {W w : World} {b g1 g2 : Nat} {s : LS} {pt ot : List Bool} (h : On W w b g1 g2 s pt ot) (j : Nat) (x : Bool) : On W (w.setCell ⟨g2, j, none⟩ (.bool x)) b g1 g2 s pt (ot.set j x) := by
  obtain ⟨fp, h1, h2, h3, h4, h5, h6, h7, h8, h9, h10⟩ := h
  have hu : Upd (fun k => k = g2) w (w.setCell ⟨g2, j, none⟩ (.bool x)) := (Upd.refl (fun k => k = g2) w).setCell ⟨g2, j, none⟩ (.inl rfl) _
  exact ⟨fp, h1.keeps hu (fun k hk e => h10 (by subst e; exact hk)), h2, Upd.onto h3 hu h3.size (fun k hk e => by omega), hu.keeps h4 (fun e => h8 e), row_put h5 j x, h6, h7, h8, h9, h10⟩
/-- Add of a packet that asks, or not. -/
def addS (s : LS) (k : Nat) (x : Bool) : LS := if x then s.puts ⟨k, 0, 0, true, .slice none 0 0⟩ else s.skips k
theorem OI.addx {s : LS} {i : Nat} {pt ot : List Bool} (h : OI s i pt ot) (hi : i < 60) (x : Bool) : OI (addS s i x) (i + 1) (pt.set i x) ot := by
  cases x
  · exact h.skip hi
  · exact h.add hi
theorem ladd_x (b : Nat) (s : LS) (fp : Nat → Prop) (k : Nat) (x : Bool) {pt ot : List Bool} (w : World) (h : LAt w b s fp) (ho : OI s k pt ot) (hk : k < 60) :
    Calls Try.prog 8 #[.pointer (some ⟨b, 0, none⟩), .agg #[.int .u64 k, .int .i64 0, .int .i64 0, .bool x, .slice none 0 0]] w fun e w' => e = .returned (.int .i64 0) ∧ LM w w' fp b (addS s k x) := by
  have hn := ho.nx
  have hl := ho.len
  cases x
  · exact ladd_no b s fp k 0 0 w h (by omega) (by omega) (by omega) (by omega) (by omega) (by omega)
  · exact ladd_yes b s fp k 0 0 w h (by omega) (by omega) (by omega) (by omega) (by omega) (by omega) (by omega)
/-- Between two rounds. -/
def OnR (W w : World) (b g1 g2 i : Nat) : Prop := ∃ s pt ot, OI s i pt ot ∧ On W w b g1 g2 s pt ot
def slLen : Value → Nat
  | .slice _ n _ => n
  | _ => 0
/-- Behind Ack. -/
def OnQ (W w : World) (b g1 g2 k : Nat) (v1 v2 : Value) : Prop :=
  ∃ s pt ot Lg Ll o1 o2, OM s k pt ot (Lg ++ Ll) ∧ On W w b g1 g2 s pt ot ∧ SlG encQ 32 w v1 o1 Lg ∧ SlG encQ 32 w v2 o2 Ll ∧ Lg.length ≤ 64 ∧ Ll.length ≤ 64
theorem OnQ.none {W w : World} {b g1 g2 k : Nat} {s : LS} {pt ot : List Bool} (h : OI s k pt ot) (ho : On W w b g1 g2 s pt ot) : OnQ W w b g1 g2 k (.slice none 0 0) (.slice none 0 0) :=
  ⟨s, pt, ot, [], [], _, _, h.none, ho, SlG.nil _, SlG.nil _, by simp, by simp⟩
/-- While the packets are looked at. -/
def OnL (z : Prop) (W w : World) (b g1 g2 k : Nat) (Q : List Pk) (v : Value) (m : Nat) : Prop :=
  ∃ s pt ot o, OM s k pt ot (Q.drop m) ∧ On W w b g1 g2 s pt ot ∧ SlG encQ 32 w v o Q ∧ (∀ g, o = some g → g2 < g) ∧ (z → s.L = [])
theorem infoL60 : (Try.prog.info? 4).map (fun i => (i.size, i.bytes)) = some (1, 1) := by kernel_rfl
theorem size60 : (Try.prog.info? 26).map (·.size) = some 60 := by kernel_rfl
theorem plainL : Try.prog.plainKey 4 = true := by kernel_rfl
theorem cellsL : Try.prog.cellsOf 4 = 1 := by kernel_rfl
theorem eq_bool1 (d : Nat) (x : Bool) (w : World) : (Op.equalIn (d + 1) 4 (.bool x) (.bool x)).run Try.prog w = .ok true w := by
  simp [Op.equalIn, run_underlying Try.underlying4]
/-- A row of flags is as itself. -/
theorem eq_bools (l : List Bool) (hl : l.length = 60) (w : World) : (Op.equalIn 10000 26 (.agg (flat encL l).toArray) (.agg (flat encL l).toArray)).run Try.prog w = .ok true w := by
  obtain ⟨i0, hi⟩ : ∃ i0, Try.prog.info? 4 = some i0 := by
    have := infoL60
    cases h : Try.prog.info? 4 with
    | none => rw [h] at this; cases this
    | some i => exact ⟨i, rfl⟩
  rw [show (10000 : Nat) = 9999 + 1 from rfl, run_equalIn_array w 9999 _ _ Try.underlying26 hi, cellsL]
  suffices h : ∀ is : List Nat, (∀ i ∈ is, i < 60) → (Op.eqItems 9999 4 1 (flat encL l).toArray (flat encL l).toArray is).run Try.prog w = .ok true w from h _ (fun i hi => by simpa using hi)
  intro is
  induction is with
  | nil => intro _; simp [Op.eqItems]
  | cons i is ih =>
    intro h
    have hi60 := h i (List.mem_cons_self ..)
    have hx : (flat encL l).toArray[i * 1]? = some (.bool (l[i]'(by omega))) := by
      rw [flatL]
      simp [List.getElem?_eq_getElem (show i < l.length by omega)]
    have hp := run_part_plain (w := w) plainL hx
    have he : ∀ x : Bool, (Op.equalIn 9999 4 (.bool x) (.bool x)).run Try.prog w = .ok true w := fun x => eq_bool1 9998 x w
    simp only [Op.eqItems, Sem.run_bind, hp, he, Result.andThen_ok]
    simpa using ih (fun j hj => h j (List.mem_cons_of_mem _ hj))
theorem infoP60 : ∃ Z : Array Value, (∀ w : World, (zeroValue 26).run Try.prog w = .ok (.agg Z) w) ∧ Z = ((List.replicate 60 false).map Value.bool).toArray := by
  refine ⟨_, fun w => by kernel_rfl, rfl⟩
set_option maxRecDepth 100000 in
set_option maxHeartbeats 4000000 in
theorem once_walk (va vb : Value) (la : List Bool) (lb : List Value) (w : World) (ha : Vw encL w w.heap.size va la) (hb : Vw encV w w.heap.size vb lb) (hB : ∀ v ∈ lb, U64s w w.heap.size v) :
    Calls Try.prog 3 #[va, vb] w fun e w' => e = .returned (.bool true) ∧ Below w.heap.size w w' := by
  obtain ⟨oa, capa, rfl, hca1, hca2⟩ := ha.shape
  obtain ⟨ob, capb, rfl, hcb1, hcb2⟩ := hb.shape
  have HVA := Lib.hid ha
  have HVB := Lib.hid hb
  have HBO := Lib.hid hB
  clear ha hb hB
  generalize hna : la.length = na at *
  generalize hnb : lb.length = nb at *
  have HNA := Lib.hid hna
  have HNB := Lib.hid hnb
  clear hna hnb
  obtain ⟨Z, hZ, hZl⟩ := infoP60
  have HZL := Lib.hid hZl
  clear hZl
  go_enter Try.func3, Try.ntmps3
  go_wp2_with fail
  refine (lnew_any _).mono ?_
  rintro e w1 ⟨b, rfl, hm⟩
  have H1 := Lib.hid hm
  clear hm
  go_upto_region 4 with fail
  go_cut [6, 7] (fun v u wx => ∃ g1 g2, v = .pointer (some ⟨g1, 0, none⟩) ∧ u = .pointer (some ⟨g2, 0, none⟩) ∧ OnR w wx b g1 g2 0)
  case first =>
    go_wp2_with fail
    go_meet
    case rel =>
      obtain ⟨fp, h1, h2, h3⟩ := H1.out
      have ha := (Below.refl w1.heap.size w1).alloc (Nat.le_refl _) (.cells Z 26)
      have hb := ha.alloc (by simp) (.cells Z 26)
      have hzl : (flat encL (List.replicate 60 false)).toArray = Z := by rw [flatL, HZL.out]
      have hs := h3.size
      have hlt := h1.lt.2
      refine ⟨w1.heap.size, w1.heap.size + 1, rfl, rfl, LS.zero, _, _, OI.start, fp, h1.below hb, h2, below_call h3 hs hb, ?_, ?_, hs, by omega, by omega, fun q => by have := hlt _ q; omega, fun q => by have := hlt _ q; omega⟩
      · unfold Row
        rw [hzl]
        exact alloc_old (alloc_at w1 _)
      · unfold Row
        rw [hzl]
        have := alloc_at (w1.alloc (.cells Z 26)) (.cells Z 26)
        simpa using this
  case rest =>
    obtain ⟨g1, g2, rfl, rfl, hst⟩ := hcut
    generalize wc = w2 at *
    have HS0 := Lib.hid hst
    clear hst H1 hZ HZL
    go_upto_block 0 with fail
    go_cut [] (fun wx => ∃ k, k ≤ 60 ∧ OnR w wx b g1 g2 k)
    case first =>
      go_wp2_with fail
      go_loopw [8, 9, 10, 11, 12, 14, 90, 91, 92] (fun i _ _ _ _ _ _ _ _ wr => ∃ k : Nat, i = .int .i64 k ∧ k ≤ na ∧ k ≤ 60 ∧ OnR w wr b g1 g2 k) (fun i _ _ _ _ _ _ _ _ _ => na - (intOf i).toNat)
      case atStart => exact ⟨0, rfl, by omega, by omega, HS0.out⟩
      case round =>
        obtain ⟨k, rfl, hkn, hk6, hst⟩ := hrel
        have HST := Lib.hid hst
        clear hst HS0
        by_cases hgo : k < na ∧ k < 60
        · obtain ⟨hlt, hlt6⟩ := hgo
          obtain ⟨x, hx⟩ : ∃ x, la[k]? = some x := ⟨_, List.getElem?_eq_getElem (by rw [HNA.out]; exact hlt)⟩
          obtain ⟨c, ofc, rfl, hc, q0⟩ := lvw HVA.out hx
          obtain ⟨s, pt, ot, hoi, hon⟩ := HST.out
          have QX := Lib.hid q0
          have q0 := cell_keep hon.below hc q0
          have HOI := Lib.hid hoi
          obtain ⟨fp, h1, h2, h3, h4, h5, h6, h7, h8, h9, h10⟩ := hon
          have HO := Lib.hid h1
          have HN := Lib.hid (And.intro h2 (And.intro h3 (And.intro h4 (And.intro h5 (And.intro h6 (And.intro h7 (And.intro h8 (And.intro h9 h10))))))))
          have hwk : IntKind.u64.wrap (k : Int) = k := IntWalk.u64_in _ (by omega)
          clear hx hoi h1 h2 h3 h4 h5 h6 h7 h8 h9 h10
          go_wp2_with fail
          refine (ladd_x b s fp k x _ (by exact HO.out) HOI.out hlt6).mono ?_
          rintro e w3 ⟨rfl, hm⟩
          have hon3 := On.lm HN.out.1 HN.out.2.1 HN.out.2.2.1 HN.out.2.2.2.1 HN.out.2.2.2.2.1 HN.out.2.2.2.2.2.1 HN.out.2.2.2.2.2.2.1 HN.out.2.2.2.2.2.2.2.1 HN.out.2.2.2.2.2.2.2.2 hm
          have HON3 := Lib.hid hon3
          have HOI3 := Lib.hid (HOI.out.addx hlt6 x)
          have q0 := cell_keep hon3.below hc QX.out
          obtain ⟨_, _, _, _, hr1, _⟩ := hon3
          obtain ⟨r0, r1⟩ := row_cell hr1 (HOI.out.pf k (Nat.le_refl _) hlt6)
          have H4 := Lib.hid (show OI (addS s k x) (k + 1) (pt.set k x) ot ∧ On w (w3.setCell ⟨g1, k, none⟩ (.bool x)) b g1 g2 (addS s k x) (pt.set k x) ot from ⟨HOI3.out, HON3.out.put1 k x⟩)
          clear hm hr1 HO HN HOI HON3 HOI3 HST
          go_upto_if 49 with fail
          have hbw := H4.out.2.below
          generalize hw4 : w3.setCell ⟨g1, k, none⟩ (.bool x) = w4 at *
          clear hw4 r0 r1 q0
          by_cases hlb : k < nb
          · obtain ⟨v, hv⟩ : ∃ v, lb[k]? = some v := ⟨_, List.getElem?_eq_getElem (by rw [HNB.out]; exact hlb)⟩
            obtain ⟨xs, hxs, hxb⟩ := HBO.out v (List.mem_of_getElem? hv)
            obtain ⟨cb, ofb, rfl, hcb, q2⟩ := vvw HVB.out hv
            have q2 := cell_keep hbw hcb q2
            obtain ⟨ov, cv, rfl, _, _⟩ := hxs.shape
            have HXS := Lib.hid ((hxs.below hbw).mono hbw.size)
            have HXB := Lib.hid hxb
            obtain ⟨m4, hm4, hm4b⟩ : ∃ m4 : Nat, (k : Int) % 4 = (m4 : Int) ∧ m4 < 4 := ⟨k % 4, by omega, by omega⟩
            clear hv hxs hxb
            go_wp2_with fail
            refine (krng_any _ xs m4 _ (by exact HXS.out) HXB.out (by omega)).mono ?_
            rintro e w5 ⟨v', og, rfl, hs, hn, hb5⟩
            obtain ⟨hr1, hr2, hr3⟩ := kRngs_norm xs m4 (by omega)
            have H5 := Lib.hid (And.intro H4.out.1 (H4.out.2.later hb5))
            generalize kRngs xs m4 = rs at *
            obtain ⟨orr, cr, rfl, hcr1, hcr2⟩ := hs.shape
            have HV5 := Lib.hid hs.vw
            have HNR := Lib.hid hr1
            obtain ⟨n0, hn0⟩ : ∃ n0, rs.length = n0 := ⟨_, rfl⟩
            have HLR := Lib.hid hn0
            rw [hn0] at hr2 hr3 hcr1 HV5 ⊢
            obtain ⟨k1, hk1, hk1b⟩ : ∃ k1 : Nat, (k : Int) + 1 = (k1 : Int) ∧ k + 1 = k1 := ⟨k + 1, by omega, rfl⟩
            have hwk1 : IntKind.u64.wrap (k1 : Int) = k1 := IntWalk.u64_in _ (by omega)
            have HK1 := Lib.hid hk1b
            rw [hk1b] at H5
            clear hs hn hb5 hr1 hn0 hk1b hm4 q2 H4 HXS hwk
            go_upto_block 2 with fail
            go_cut [9] (fun v wx => ∃ k2, v = .slice orr k2 cr ∧ k2 ≤ n0 ∧ wx = w5 ∧ (k2 = 0 ∨ ∃ r, rs[k2 - 1]? = some r ∧ r.2 ≤ k1))
            case first =>
              go_wp2_with fail
              go_loopw [9] (fun v wr => ∃ k2, v = .slice orr k2 cr ∧ k2 ≤ n0 ∧ wr = w5) (fun v _ => slLen v)
              case atStart => exact ⟨n0, rfl, Nat.le_refl _, rfl⟩
              case round =>
                obtain ⟨k2, rfl, hk2, hwr⟩ := hrel
                subst hwr
                generalize wr = w5 at *
                rcases Nat.eq_zero_or_pos k2 with h0 | h0
                · subst h0
                  go_wp2_with fail
                  go_meet
                  case rel => exact ⟨0, rfl, by omega, by first | rfl | trivial, .inl rfl⟩
                · obtain ⟨j, hj, hjb⟩ : ∃ j : Nat, (k2 : Int) - 1 = (j : Int) ∧ k2 - 1 = j := ⟨k2 - 1, by omega, rfl⟩
                  have hjl : j < k2 := by omega
                  have h0i : (0 : Int) < (k2 : Int) := by omega
                  have hjcr : j ≤ cr := by omega
                  have hk2cr : k2 ≤ cr := by omega
                  obtain ⟨r, hr⟩ : ∃ r, rs[j]? = some r := ⟨_, List.getElem?_eq_getElem (by rw [HLR.out]; omega)⟩
                  obtain ⟨br, ofr, rfl, hbr, p0, p1⟩ := HV5.out.rng hr
                  have HR := Lib.hid hr
                  have HJ := Lib.hid hjb
                  clear hr hjb p0
                  by_cases hgt : k1 < r.2
                  · have hgi : (k1 : Int) < (r.2 : Int) := by omega
                    go_wp2_with fail
                    go_roundw
                    case rel => exact ⟨j, rfl, by omega, by first | rfl | trivial⟩
                    case measure => simp [slLen]; omega
                  · have hgi : ¬ (k1 : Int) < (r.2 : Int) := by omega
                    go_wp2_with fail
                    go_meet
                    case rel => exact ⟨k2, rfl, hk2, by first | rfl | trivial, .inr ⟨r, by rw [HJ.out]; exact HR.out, by omega⟩⟩
            case rest =>
              obtain ⟨k2, rfl, hk2, rfl, htop⟩ := hcut
              generalize wc = w5 at *
              have HTP := Lib.hid htop
              clear htop
              go_upto_region 15 with fail
              go_cut [10, 11] (fun v1 v2 wx => OnQ w wx b g1 g2 k1 v1 v2)
              case first =>
                obtain ⟨hoi5, fp5, h1, h2, h3, h4, h5, h6, h7, h8, h9, h10⟩ := H5.out
                rcases Nat.eq_zero_or_pos k2 with h0 | h0
                · subst h0
                  clear h1 h2 h3 h4 h5 h6 h7 h8 h9 h10 hoi5
                  go_wp2_with fail
                  refine (lack_none b _ _ _).mono ?_
                  rintro e w6 ⟨rfl, hb6⟩
                  have HQ := Lib.hid (OnQ.none H5.out.1 (H5.out.2.later hb6))
                  clear hb6
                  go_wp2_with fail
                  go_meet
                  case rel => exact HQ.out
                · obtain ⟨r, hr, hrk⟩ := HTP.out.resolve_left (by omega)
                  have HO := Lib.hid h1
                  have HN5 := Lib.hid (And.intro h2 (And.intro h3 (And.intro h4 (And.intro h5 (And.intro h6 (And.intro h7 (And.intro h8 (And.intro h9 h10))))))))
                  have HI5 := Lib.hid hoi5
                  have hnx := hoi5.nx
                  have hrp := (HNR.out.1 r (List.mem_of_getElem? hr))
                  have HVF := Lib.hid (Vw.front encR_len HV5.out k2 hk2)
                  have HTN := Lib.hid (show Norm (rs.take k2) ∧ (rs.take k2).length = k2 ∧ ∀ q, (rs.take k2)[(rs.take k2).length - 1]? = some q → q.2 = r.2 from by
                    have hl : (rs.take k2).length = k2 := by rw [List.length_take, HLR.out]; omega
                    refine ⟨⟨fun q hq => HNR.out.1 q (List.mem_of_mem_take hq), HNR.out.2.sublist (List.take_sublist _ _)⟩, hl, fun q hq => ?_⟩
                    rw [hl, List.getElem?_take, if_pos (by omega), hr] at hq
                    cases hq
                    rfl)
                  clear h1 h2 h3 h4 h5 h6 h7 h8 h9 h10 hoi5 hr
                  go_wp2_with fail
                  refine (lack_norm b _ fp5 _ (rs.take k2) r.2 _ (by exact HO.out) (by exact HVF.out) (Nat.le_refl _) HTN.out.1 (by rw [HTN.out.2.1]; omega) (by rw [HTN.out.2.1]; omega) HTN.out.2.2 (by omega) (by omega)).mono ?_
                  rintro e w6 ⟨v1, o1, v2, o2, rfl, hs1, hs2, hg1, hg2, hml⟩
                  have HQ := Lib.hid (show OnQ w w6 b g1 g2 k1 v1 v2 from by
                    have hl64 := HI5.out.ok.len
                    exact ⟨_, _, _, _, _, o1, o2, HI5.out.told (rs.take k2) r.2 (by omega), On.lm HN5.out.1 HN5.out.2.1 HN5.out.2.2.1 HN5.out.2.2.2.1 HN5.out.2.2.2.2.1 HN5.out.2.2.2.2.2.1 HN5.out.2.2.2.2.2.2.1 HN5.out.2.2.2.2.2.2.2.1 HN5.out.2.2.2.2.2.2.2.2 hml, hs1, hs2, Nat.le_trans (List.length_filter_le _ _) hl64, Nat.le_trans (List.length_filter_le _ _) (Nat.le_trans (List.length_filter_le _ _) hl64)⟩)
                  clear hs1 hs2 hg1 hg2 hml HO HN5 HI5 hnx hrp HVF HTN
                  go_wp2_with fail
                  go_meet
                  case rel => exact HQ.out
              case rest =>
                have HQ := Lib.hid (show OnQ w wc b g1 g2 k1 _ _ from hcut)
                clear hcut H5 HV5 HNR HLR HTP HXB
                generalize wc = w6 at *
                obtain ⟨i0, hi0, hz0, hz1, hz2'⟩ := info_parts infoP
                obtain ⟨s, pt, ot, Lg, Ll, o1, o2, hom, hon, hs1, hs2, hl1, hl2⟩ := HQ.out
                obtain ⟨a1, c1, rfl, hc11, hc12⟩ := hs1.shape
                obtain ⟨a2, c2, rfl, hc21, hc22⟩ := hs2.shape
                have HS1 := Lib.hid hs1
                have HS2 := Lib.hid hs2
                have HON := Lib.hid (And.intro hom hon)
                clear hom hon hs1 hs2 HQ
                go_wp2_with (refine wpList_pushV encQ_len encQ_one Try.underlying38 hi0 hz1 hz0 zeroP rfl (.tmp 86) (.tmp 87) rfl (by exact (show SlG encQ 32 _ _ (some w6.heap.size) [] from .inr ⟨w6.heap.size, [], rfl, rfl, alloc_at _ _, by simp⟩)) (by exact (HS1.out.alloc _).vw) rfl rfl (by rw [hz2']; simp; omega) (by simp; omega) ?_)
                intro W4 v4 o4 hs4 ho4 hu4
                have hb4 : Below w6.heap.size w6 W4 := Upd.belowOf ((Below.refl _ _).alloc (Nat.le_refl _) _) hu4 (fun j hj e => by cases e; omega)
                have ho4 : ∀ g, o4 = some g → w6.heap.size ≤ g := by
                  intro g hg
                  rcases ho4 with rfl | ⟨g', rfl, h4⟩
                  · cases hg
                    exact Nat.le_refl _
                  · cases hg
                    first | omega | (simp at h4; omega)
                have HS4 := Lib.hid hs4
                have HB4 := Lib.hid hb4
                have HO4 := Lib.hid ho4
                obtain ⟨a4, c4, rfl, hc41, hc42⟩ := hs4.shape
                clear hs4 hb4 ho4 hu4
                go_wp2_with (refine wpList_pushV encQ_len encQ_one Try.underlying38 hi0 hz1 hz0 zeroP rfl (.tmp 88) (.tmp 89) rfl (by exact HS4.out) (by exact (HS2.out.below HB4.out).vw) rfl rfl (by rw [hz2']; omega) (by omega) ?_)
                intro W5 v5 o5 hs5 ho5 hu5
                have hb5 : Below w6.heap.size w6 W5 := Upd.belowOf HB4.out hu5 (fun j hj e => by have := HO4.out j e; omega)
                have hs45 := HB4.out.size
                have ho5 : ∀ g, o5 = some g → w6.heap.size ≤ g := by
                  intro g hg
                  rcases ho5 with rfl | ⟨g', rfl, h4⟩
                  · exact HO4.out g hg
                  · cases hg
                    omega
                obtain ⟨s', pt', ot', hom, hon⟩ : ∃ s' pt' ot', OM s' k1 pt' ot' (Lg ++ Ll) ∧ On w w6 b g1 g2 s' pt' ot' := ⟨_, _, _, HON.out.1, HON.out.2⟩
                have hql : (Lg ++ Ll).length ≤ 128 := by rw [List.length_append]; omega
                generalize Lg ++ Ll = Q at *
                obtain ⟨a5, c5, rfl, hc51, hc52⟩ := hs5.shape
                have H0 := Lib.hid (show OnL False w W5 b g1 g2 k1 Q (.slice a5 Q.length c5) 0 from ⟨s', pt', ot', o5, by rw [List.drop_zero]; exact hom, hon.later hb5, hs5, fun g hg => by
                  have h1 := ho5 g hg
                  obtain ⟨_, _, _, _, _, h5, _⟩ := hon
                  have := heap_lt h5
                  omega, fun h => h.elim⟩)
                obtain ⟨q, hq⟩ : ∃ q, Q.length = q := ⟨_, rfl⟩
                have HQL := Lib.hid hq
                rw [hq] at H0 hql hc51 ⊢
                clear hs5 ho5 hu5 hb5 hom hon hq hs45 HS1 HS2 HS4 HON HB4 HO4
                go_wp2_with fail
                go_loopw [14, 92] (fun _ i wx => ∃ m : Nat, i = .int .i64 m ∧ m ≤ q ∧ OnL False w wx b g1 g2 k1 Q (.slice a5 q c5) m) (fun _ i _ => q - (intOf i).toNat)
                case atStart => exact ⟨0, rfl, by omega, H0.out⟩
                case round =>
                  obtain ⟨m, rfl, hm, hst⟩ := hrel
                  have HL := Lib.hid hst
                  clear hst H0
                  by_cases hmq : m < q
                  · obtain ⟨p, hp⟩ : ∃ p, Q[m]? = some p := ⟨_, List.getElem?_eq_getElem (by rw [HQL.out]; exact hmq)⟩
                    obtain ⟨s, pt, ot, o, hom, hon, hs, hgo, hzz⟩ := HL.out
                    have hdr : Q.drop m = p :: Q.drop (m + 1) := by
                      obtain ⟨h1, h2⟩ := List.getElem?_eq_some_iff.1 hp
                      rw [List.drop_eq_getElem_cons h1, h2]
                    rw [hdr] at hom
                    obtain ⟨hom2, hp1, hp2, hp3, hp4⟩ := hom.take
                    obtain ⟨bq, ofq, rfl, hbq, y0, y1, y2, y3, y4⟩ := hs.vw.pkt hp
                    have HONA := Lib.hid (hon.alloc (.cells #[.int .u64 p.n, .int .i64 p.t, .int .i64 p.z, .bool p.a, .slice none 0 0] 32))
                    have HSA := Lib.hid (hs.alloc (.cells #[.int .u64 p.n, .int .i64 p.t, .int .i64 p.z, .bool p.a, .slice none 0 0] 32))
                    have HGO := Lib.hid hgo
                    have HOM2 := Lib.hid hom2
                    obtain ⟨_, _, _, _, hr1, hr2, _, _, _⟩ := HONA.out
                    obtain ⟨z0, z1⟩ := row_cell hr1 hp1
                    obtain ⟨u0, u1⟩ := row_cell hr2 hp2
                    have hpk : ¬ k < p.n := by omega
                    have hpki : ¬ (k : Int) < (p.n : Int) := by omega
                    have hwk : IntKind.u64.wrap (k : Int) = k := IntWalk.u64_in _ (by omega)
                    have HNX := Lib.hid (show OnL False w ((wr.alloc (.cells #[.int .u64 p.n, .int .i64 p.t, .int .i64 p.z, .bool p.a, .slice none 0 0] 32)).setCell ⟨g2, p.n, none⟩ (.bool true)) b g1 g2 k1 Q (.slice (some ⟨bq, ofq, none⟩) q c5) (m + 1) from
                      ⟨s, pt, ot.set p.n true, o, HOM2.out, HONA.out.put2 p.n true, HSA.out.keeps ((Upd.refl (fun k => k = g2) _).setCell ⟨g2, p.n, none⟩ (.inl rfl) _) (fun g hg e => by have := HGO.out g hg; omega), HGO.out, hzz⟩)
                    clear hom hom2 hon hs hgo hdr hp hp1 hp2 hr1 hr2 HONA HSA HGO HOM2
                    go_wp2_with fail
                    go_roundw
                    case rel => exact ⟨m + 1, by go_num, by omega, HNX.out⟩
                    case measure => simp [intOf]; omega
                  · obtain rfl : m = q := by omega
                    obtain ⟨s, pt, ot, o, hom, hon, hs, hgo, hzz⟩ := HL.out
                    have HRR := Lib.hid (show OnR w wr b g1 g2 (k + 1) from by
                      rw [HK1.out]
                      rw [← HQL.out, List.drop_length] at hom
                      exact ⟨s, pt, ot, hom.all, hon⟩)
                    clear hom hon hs hgo
                    go_wp2_with fail
                    go_roundw
                    case rel => exact ⟨k + 1, by go_num, by omega, by omega, HRR.out⟩
                    case measure => simp [intOf]; omega
          · have HRR := Lib.hid (show OnR w w4 b g1 g2 (k + 1) from ⟨_, _, _, H4.out.1, H4.out.2⟩)
            clear H4
            go_wp2_with fail
            go_roundw
            case rel => exact ⟨k + 1, by go_num, by omega, by omega, HRR.out⟩
            case measure => simp [intOf]; omega
        · obtain ⟨s, pt, ot, hoi, hon⟩ := HST.out
          have HQ := Lib.hid (show ∃ s pt ot, OI s k pt ot ∧ On w wr b g1 g2 s pt ot from ⟨s, pt, ot, hoi, hon⟩)
          have HF := Lib.hid (show OnR w wr b g1 g2 k from HQ.out)
          clear hoi hon HQ HST
          by_cases hq1 : k < na
          · have hq2 : ¬ k < 60 := fun h => hgo ⟨hq1, h⟩
            clear hgo
            go_wp2_with fail
            go_meet
            case rel => exact ⟨k, hk6, HF.out⟩
          · clear hgo
            go_wp2_with fail
            go_meet
            case rel => exact ⟨k, hk6, HF.out⟩
    case rest =>
      obtain ⟨k, hk6, hst⟩ := hcut
      generalize wc = w3 at *
      obtain ⟨s, pt, ot, hoi, fp, h1, h2, h3, h4, h5, h6, h7, h8, h9, h10⟩ := hst
      have HO := Lib.hid h1
      have HI := Lib.hid hoi
      have hl64 := hoi.ok.len
      have HN := Lib.hid (And.intro h2 (And.intro h3 (And.intro h4 (And.intro h5 (And.intro h6 (And.intro h7 (And.intro h8 (And.intro h9 h10))))))))
      clear h1 h2 h3 h4 h5 h6 h7 h8 h9 h10 hoi HS0
      go_wp2_with fail
      refine (lclear_any b s fp _ (by exact HO.out)).mono ?_
      rintro e w4 ⟨v, o, rfl, hs, ho, hml⟩
      have hon4 := On.lm HN.out.1 HN.out.2.1 HN.out.2.2.1 HN.out.2.2.2.1 HN.out.2.2.2.2.1 HN.out.2.2.2.2.2.1 HN.out.2.2.2.2.2.2.1 HN.out.2.2.2.2.2.2.2.1 HN.out.2.2.2.2.2.2.2.2 hml
      obtain ⟨s', hs', hom⟩ : ∃ s', ({ s with L := [] } : LS) = s' ∧ OM s' k pt ot s.L := ⟨_, rfl, HI.out.clear⟩
      rw [hs'] at hon4
      have HSL := Lib.hid (show s'.L = [] from by rw [← hs'])
      generalize hQ : s.L = Q at *
      obtain ⟨a5, c5, rfl, hc51, hc52⟩ := hs.shape
      have H0 := Lib.hid (show OnL True w w4 b g1 g2 k Q (.slice a5 Q.length c5) 0 from ⟨s', pt, ot, o, by rw [List.drop_zero]; exact hom, hon4, hs, fun g hg => by
        have h1 := ho g hg
        have := heap_lt HN.out.2.2.2.1
        omega, fun _ => HSL.out⟩)
      obtain ⟨q, hq⟩ : ∃ q, Q.length = q := ⟨_, rfl⟩
      have HQL := Lib.hid hq
      rw [hq] at H0 hl64 hc51
      simp only [hq]
      clear hml hon4 hs hom hs' hQ hq HO HN HI HSL ho
      go_wp2_with fail
      go_loopw [16, 121] (fun _ i wx => ∃ m : Nat, i = .int .i64 m ∧ m ≤ q ∧ OnL True w wx b g1 g2 k Q (.slice a5 q c5) m) (fun _ i _ => q - (intOf i).toNat)
      case atStart => exact ⟨0, rfl, by omega, H0.out⟩
      case round =>
        obtain ⟨m, rfl, hm, hst⟩ := hrel
        have HL := Lib.hid hst
        clear hst H0
        by_cases hmq : m < q
        · obtain ⟨p, hp⟩ : ∃ p, Q[m]? = some p := ⟨_, List.getElem?_eq_getElem (by rw [HQL.out]; exact hmq)⟩
          obtain ⟨s, pt, ot, o, hom, hon, hs, hgo, hzz⟩ := HL.out
          have hdr : Q.drop m = p :: Q.drop (m + 1) := by
            obtain ⟨h1, h2⟩ := List.getElem?_eq_some_iff.1 hp
            rw [List.drop_eq_getElem_cons h1, h2]
          rw [hdr] at hom
          obtain ⟨hom2, hp1, hp2, hp3, hp4⟩ := hom.take
          obtain ⟨bq, ofq, rfl, hbq, y0, y1, y2, y3, y4⟩ := hs.vw.pkt hp
          have HONA := Lib.hid (hon.alloc (.cells #[.int .u64 p.n, .int .i64 p.t, .int .i64 p.z, .bool p.a, .slice none 0 0] 32))
          have HSA := Lib.hid (hs.alloc (.cells #[.int .u64 p.n, .int .i64 p.t, .int .i64 p.z, .bool p.a, .slice none 0 0] 32))
          have HGO := Lib.hid hgo
          have HOM2 := Lib.hid hom2
          obtain ⟨_, _, _, _, hr1, hr2, _, _, _⟩ := HONA.out
          obtain ⟨z0, z1⟩ := row_cell hr1 hp1
          obtain ⟨u0, u1⟩ := row_cell hr2 hp2
          have hpk : ¬ 60 ≤ p.n := by omega
          have hpki : ¬ (60 : Int) ≤ (p.n : Int) := by omega
          have HNX := Lib.hid (show OnL True w ((wr.alloc (.cells #[.int .u64 p.n, .int .i64 p.t, .int .i64 p.z, .bool p.a, .slice none 0 0] 32)).setCell ⟨g2, p.n, none⟩ (.bool true)) b g1 g2 k Q (.slice (some ⟨bq, ofq, none⟩) q c5) (m + 1) from
            ⟨s, pt, ot.set p.n true, o, HOM2.out, HONA.out.put2 p.n true, HSA.out.keeps ((Upd.refl (fun k => k = g2) _).setCell ⟨g2, p.n, none⟩ (.inl rfl) _) (fun g hg e => by have := HGO.out g hg; omega), HGO.out, hzz⟩)
          clear hom hom2 hon hs hgo hdr hp hp1 hp2 hr1 hr2 HONA HSA HGO HOM2
          go_wp2_with fail
          go_roundw
          case rel => exact ⟨m + 1, by go_num, by omega, HNX.out⟩
          case measure => simp [intOf]; omega
        · obtain rfl : m = q := by omega
          obtain ⟨s, pt, ot, o, hom, hon, hs, hgo, hzz⟩ := HL.out
          have hs0 := hzz trivial
          rw [← HQL.out, List.drop_length] at hom
          have hpi := hom.all.pi
          rw [hs0] at hpi
          have hpt := hpi.done
          have hpl := hpi.pl
          have HEQ := Lib.hid (eq_bools pt hpl)
          subst hpt
          obtain ⟨fp, h1, h2, h3, h4, h5, h6⟩ := hon
          have HO := Lib.hid h1
          have HB := Lib.hid h3
          have HS0 := Lib.hid hs0
          have HR := Lib.hid (show wr.heap[g1]? = some (.cells (flat encL pt).toArray 26 (0, 0)) ∧ wr.heap[g2]? = some (.cells (flat encL pt).toArray 26 (0, 0)) from ⟨h4, h5⟩)
          have HSZ := Lib.hid (show (flat encL pt).toArray.size = 60 by rw [flatL]; simp [hpl])
          clear hom hs hgo hs0 hpi hpl h1 h2 h3 h4 h5 h6 hzz HL
          generalize (flat encL pt).toArray = C at *
          have heq := HEQ.out
          go_wp2_with (first | (refine wpList_load_row rfl 26 (.tmp 6) rfl g1 rfl 26 C (0, 0) _ (by exact HR.out.1) Try.underlying26 rfl (by rw [size60, HSZ.out]) ?_) | (refine wpList_load_row rfl 26 (.tmp 7) rfl g2 rfl 26 C (0, 0) _ (by exact HR.out.2) Try.underlying26 rfl (by rw [size60, HSZ.out]) ?_))
          refine (llen_q b _ fp _ (by exact HO.out)).mono ?_
          rw [HS0.out]
          rintro e w5 ⟨rfl, x5, rfl⟩
          have HO5 := Lib.hid (HO.out.drewN x5)
          have HB5 := Lib.hid (below_drewN HB.out x5)
          clear HO HB HR heq
          generalize wr.drewN x5 = w5 at *
          go_wp2_with fail
          refine (lflight_any b _ fp _ (by exact HO5.out)).mono ?_
          rw [HS0.out]
          rintro e w6 ⟨he, hb6⟩
          obtain rfl : e = .returned (.int .i64 0) := he
          have HB6 := Lib.hid (below_call HB5.out HB5.out.size hb6)
          clear hb6 HO5 HB5
          go_wp2_with fail
          refine (known_any _).mono ?_
          rintro e w7 ⟨rfl, hb7⟩
          have HB7 := Lib.hid (below_call HB6.out HB6.out.size hb7)
          clear hb7
          go_wp2_with fail
          go_ret
          exact ⟨rfl, HB7.out⟩
end Go.Proofs.Ytacfbgnbjdckiaa
