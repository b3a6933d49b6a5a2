/- DERIVED. streams: may (printed by mkstmay.py). -/
import Derived.LaidEqlPtr
import Derived.Test.YtnneoeimgbemfaaGreatQH3
import Derived.Test.YtnneoeimgbemfaaGreatQH13
set_option linter.all false
namespace Go.Proofs.YtnneoeimgbemfaaGreat
open Go.RowKit

/-- Is a stream's frame refused at once? -/
def ST.gate (t : ST) (id : Nat) : Option Nat := match t.sideO id with
  | none => some 5
  | some true => if (t.find id).isNone then some 5 else none
  | some false => if t.mine.ms ≤ id / 4 then some 4 else none
def ST.rcv (t : ST) (id : Nat) : RS := match t.find id with
  | none => RS.new id t.mine.msd
  | some x => x.2.2.r
def ST.mayR (t : ST) (f : Fr) (n : Nat) : Nat :=
  if (t.rcv f.sid).may f n = 0 then (if t.limit < t.got + (max (endOf f n) (t.rcv f.sid).high - (t.rcv f.sid).high) then 3 else 0)
  else if (t.rcv f.sid).may f n = 30 then 6 else 3
def ST.may (t : ST) (f : Fr) (n : Nat) : Nat := match t.gate f.sid with
  | some c => c
  | none => if f.kd ≠ 8 ∧ f.kd ≠ 4 then 0 else t.mayR f n
theorem may_lim {s : RS} {f : Fr} {n : Nat} (h : s.may f n = 0) : endOf f n ≤ s.lim := by
  unfold RS.may at h
  split at h
  · cases h
  · split at h
    · cases h
    · omega
theorem StAt.ne {w : World} {p a b : Nat} {t : ST} {lab : Nat → Lab} (h : StAt w p t lab a b) : a ≠ b ∧ p ≠ a ∧ p ≠ b := by
  obtain ⟨_, _, _, _, l1, _⟩ := h.own
  obtain ⟨_, _, _, _, l2, _⟩ := h.others
  have l0 := h.lp
  refine ⟨fun e => ?_, fun e => ?_, fun e => ?_⟩
  · rw [e, l2] at l1
    cases l1
  · rw [e, l1] at l0
    cases l0
  · rw [e, l2] at l0
    cases l0
theorem one1_high (o : Bool) (n : Nat) (x : Option H1) (B : Nat) (hx : ∀ h, x = some h → h.r.high ≤ B) : ∀ y ∈ one1 o n x, y.2.2.r.high ≤ B := by
  intro y hy
  cases x with
  | none => simp [one1] at hy
  | some h =>
    simp only [one1, List.mem_singleton] at hy
    subst hy
    exact hx h rfl
theorem inter_high {oa ob : Bool} {A B : List H1} {K : Nat} (hA : ∀ (i : Nat) (h : H1), A[i]? = some h → h.r.high ≤ K) (hB : ∀ (i : Nat) (h : H1), B[i]? = some h → h.r.high ≤ K) : ∀ n, ∀ y ∈ inter oa ob A B n, y.2.2.r.high ≤ K
  | 0 => fun y hy => by simp [inter] at hy
  | n + 1 => fun y hy => by
    simp only [inter, List.mem_append] at hy
    rcases hy with (hy | hy) | hy
    · exact inter_high hA hB n y hy
    · exact one1_high _ _ _ _ (hA n) y hy
    · exact one1_high _ _ _ _ (hB n) y hy
theorem sumL_le {l : List Nat} {K : Nat} (h : ∀ x ∈ l, x ≤ K) : sumL l ≤ K * l.length := by
  induction l with
  | nil => exact Nat.zero_le _
  | cons a l ih =>
    have h1 := h a (by simp)
    have h2 := ih (fun x hx => h x (by simp [hx]))
    show a + sumL l ≤ K * (l.length + 1)
    rw [Nat.mul_succ]
    omega
theorem StAt.gotb {w : World} {p a b : Nat} {t : ST} {lab : Nat → Lab} (h : StAt w p t lab a b) : t.got ≤ 2199023280000000 := by
  have hs : ∀ (o : Bool) (i : Nat) (hh : H1), (t.hs o)[i]? = some hh → hh.r.high ≤ 1099511640000 := fun o i hh hi => by
    obtain ⟨y, _, bs, br, fs, fr, _, _, _, _, hr, _⟩ := h.pick hi
    exact hr.highb
  have hall : ∀ y ∈ t.all, y.2.2.r.high ≤ 1099511640000 := by
    unfold ST.all
    split
    · exact inter_high (hs true) (hs false) _
    · exact inter_high (hs false) (hs true) _
  have h1 := sumL_le (l := t.all.map fun x => x.2.2.r.high) (K := 1099511640000) (fun x hx => by
    obtain ⟨y, hy, rfl⟩ := List.mem_map.1 hx
    exact hall y hy)
  rw [List.length_map] at h1
  have h2 := t.all_len h.ok
  unfold ST.got
  have h3 := Nat.mul_le_mul_left 1099511640000 h2
  omega
theorem infoSd : (Tryz.prog.info? 65).map (·.size) = some 2 := by kernel_rfl
/-- Two sides are one, or not. -/
theorem side_same (a : Nat) (w : World) : (binOp .eql 66 (.pointer (some ⟨a, 0, none⟩)) (.pointer (some ⟨a, 0, none⟩))).run Tryz.prog w = .ok (.bool true) w := by
  obtain ⟨i, hi, _⟩ := Option.map_eq_some_iff.1 infoSd
  exact run_eql_ptr_same w _ Tryz.underlying66 hi
theorem side_other {a b : Nat} {w : World} {ca cb : Array Value} {ta tb : TypeId} (hne : a ≠ b) (ha : w.heap[a]? = some (.cells ca ta (0, 0))) (hb : w.heap[b]? = some (.cells cb tb (0, 0))) (n : Nat) :
    (binOp .eql 66 (.pointer (some ⟨a, 0, none⟩)) (.pointer (some ⟨b, 0, none⟩))).run Tryz.prog (w.drewN n) = .ok (.bool false) (w.drewN n) := by
  obtain ⟨i, hi, hs⟩ := Option.map_eq_some_iff.1 infoSd
  exact run_eql_ptr_other (w.drewN n) Tryz.underlying66 hi (by rw [hs]; decide) (fun e => hne (by cases e; rfl)) (ha := ha) (hb := hb)
set_option maxRecDepth 100000 in
set_option maxHeartbeats 4000000 in
theorem tmay_any (p : Nat) (t : ST) (lab : Nat → Lab) (a b : Nat) (f : Fr) (od : Option Addr) (n cd : Nat) (w : World) (h : StAt w p t lab a b) (hf : FrOk f) (hv : f.vd = .slice od n cd) (hn : n ≤ 1099511627776) :
    Calls Tryz.prog 27 #[.pointer (some ⟨p, 0, none⟩), .agg (encF f).toArray] w fun e w' => e = .returned (.int .i64 (t.may f n)) ∧ Below w.heap.size w w' := by
  obtain ⟨kd, sid, off, vd, fin, lim, code, fnl, seq, dly, vr, e0, e1, e2, e3, e4, e5, e6, e7⟩ := f
  obtain rfl : vd = .slice od n cd := hv
  have HF := Lib.hid (And.intro hf hn)
  obtain ⟨W1, hW1⟩ : ∃ W1, W1 = w.alloc (.cells (encF ⟨kd, sid, off, .slice od n cd, fin, lim, code, fnl, seq, dly, vr, e0, e1, e2, e3, e4, e5, e6, e7⟩).toArray 46) := ⟨_, rfl⟩
  have hb1 : Below w.heap.size w W1 := by rw [hW1]; exact (Below.refl _ _).alloc (Nat.le_refl _) _
  have hzf : W1.heap[w.heap.size]? = some (.cells (encF ⟨kd, sid, off, .slice od n cd, fin, lim, code, fnl, seq, dly, vr, e0, e1, e2, e3, e4, e5, e6, e7⟩).toArray 46 (0, 0)) := by rw [hW1]; exact alloc_at _ _
  have HB1 := Lib.hid hb1
  have h1 := h.below hb1
  have HZF := Lib.hid hzf
  have H1 := Lib.hid h1
  have z1 : W1.cell? ⟨w.heap.size, 1, none⟩ = some (.int .u64 sid) := (cell_at hzf 1).trans rfl
  have z0 : W1.cell? ⟨w.heap.size, 0, none⟩ = some (.int .i64 kd) := (cell_at hzf 0).trans rfl
  have c24 : W1.cell? ⟨p, 24, none⟩ = some (.pointer (some ⟨a, 0, none⟩)) := (h1.cell 24).trans rfl
  have c25 : W1.cell? ⟨p, 25, none⟩ = some (.pointer (some ⟨b, 0, none⟩)) := (h1.cell 25).trans rfl
  have c3 : W1.cell? ⟨p, 3, none⟩ = some (.int .u64 t.mine.ms) := (h1.cell 3).trans rfl
  obtain ⟨hab, _, _⟩ := h1.ne
  obtain ⟨_, _, _, ga, _⟩ := h1.own
  obtain ⟨_, _, _, gb, _⟩ := h1.others
  have eaa := side_same a
  have ebb := side_same b
  have eab := side_other hab ga gb
  have eba := side_other (fun e => hab e.symm) gb ga
  clear ga gb
  have hba : ¬ b = a := fun e => hab e.symm
  have hmsd := h.ok.mine.msd
  have hms := h.ok.mine.ms
  have hsid := hf.sid
  simp only at hsid
  obtain ⟨ms, hmse⟩ : ∃ ms, t.mine.ms = ms := ⟨_, rfl⟩
  obtain ⟨msd, hmsde⟩ : ∃ msd, t.mine.msd = msd := ⟨_, rfl⟩
  have HE := Lib.hid (And.intro hmse hmsde)
  rw [hmse] at c3 hms
  rw [hmsde] at hmsd
  obtain ⟨q, hq, hq2⟩ : ∃ q : Nat, (sid : Int).tdiv 4 = (q : Int) ∧ sid / 4 = q := ⟨sid / 4, by rw [Int.tdiv_eq_ediv_of_nonneg (by omega)]; omega, rfl⟩
  have HQ2 := Lib.hid hq2
  have hwq : IntKind.u64.wrap (q : Int) = q := IntWalk.u64_in _ (by omega)
  obtain ⟨ans, hans⟩ : ∃ ans, t.may ⟨kd, sid, off, .slice od n cd, fin, lim, code, fnl, seq, dly, vr, e0, e1, e2, e3, e4, e5, e6, e7⟩ n = ans := ⟨_, rfl⟩
  have HANS := Lib.hid hans
  rw [hans]
  clear h h1 hb1 hf hn hmse hmsde hq2 hzf hans
  simp only [encF] at hW1 ⊢
  go_enter Tryz.func27, Tryz.ntmps27
  go_upto_region 1 with fail
  rw [← hW1]
  clear hW1
  obtain ⟨z, hz⟩ : ∃ z, w.heap.size = z := ⟨_, rfl⟩
  have HZ := Lib.hid hz
  rw [hz] at HZF z0 z1 ⊢
  clear hz
  go_wp2_with fail
  refine (tside_q p t lab a b _ _ (by exact H1.out) hsid).mono ?_
  rintro e w2 ⟨rfl, n2, rfl⟩
  cases hso : t.sideO sid with
  | none =>
    obtain rfl : ans = 5 := by
      rw [← HANS.out]
      unfold ST.may ST.gate
      simp only [hso]
    rw [sideV]
    go_wp2_with fail
    go_ret
    exact ⟨rfl, below_drewN HB1.out n2⟩
  | some o =>
    rw [sideV]
    obtain ⟨x, hx⟩ : ∃ x, (if o then a else b) = x := ⟨_, rfl⟩
    rw [hx]
    by_cases hg : o = true ∧ t.find sid = none
    · obtain ⟨rfl, hfn⟩ := hg
      obtain rfl : a = x := hx
      obtain rfl : ans = 5 := by
        rw [← HANS.out]
        unfold ST.may ST.gate
        simp only [hso, hfn, Option.isNone_none, if_true]
      clear hso
      go_wp2_with fail
      refine (tfind_q p t lab a b _ _ (by exact H1.out.drewN n2) hsid).mono ?_
      rintro e w3 ⟨v, rfl, hv, n3, rfl⟩
      rcases hv with ⟨_, rfl⟩ | ⟨o2, i2, h2, y2, hf2, _⟩
      · go_wp2_with fail
        go_ret
        exact ⟨rfl, below_drewN HB1.out _⟩
      · rw [hfn] at hf2
        cases hf2
    · by_cases hg2 : o = false ∧ ms ≤ q
      · obtain ⟨rfl, hmq⟩ := hg2
        obtain rfl : b = x := hx
        obtain rfl : ans = 4 := by
          rw [← HANS.out]
          unfold ST.may ST.gate
          simp only [hso]
          rw [if_pos (by rw [HE.out.1, HQ2.out]; exact hmq)]
        clear hso hg
        have hmqi : (ms : Int) ≤ (q : Int) := by omega
        go_upto_region 5 with fail
        go_cut [29] (fun v wx => v = .bool true ∧ ∃ m, wx = W1.drewN m)
        case first =>
          go_quiet (fail)
          go_wp2_with fail
          go_meet
          case rel => exact ⟨by first | rfl | trivial, _, by first | rfl | exact World.drewN_drewN _ _ _⟩
        case rest =>
          obtain ⟨rfl, n5, rfl⟩ := hcut
          go_wp2_with fail
          go_ret
          exact ⟨rfl, below_drewN HB1.out n5⟩
      · have HAR0 := Lib.hid (show ans = if kd ≠ 8 ∧ kd ≠ 4 then 0 else t.mayR ⟨kd, sid, off, .slice od n cd, fin, lim, code, fnl, seq, dly, vr, e0, e1, e2, e3, e4, e5, e6, e7⟩ n from by
          rw [← HANS.out]
          have hgt : t.gate sid = none := by
            unfold ST.gate
            cases o
            · simp only [hso]
              rw [if_neg (by rw [HE.out.1, HQ2.out]; exact fun e => hg2 ⟨rfl, e⟩)]
            · simp only [hso]
              cases hfi : t.find sid with
              | none => exact absurd ⟨rfl, hfi⟩ hg
              | some x => rfl
          unfold ST.may
          rw [hgt])
        have HG1 := Lib.hid hg
        clear hg hso HANS
        go_upto_region 3 with fail
        go_cut [13] (fun v wx => v = .bool false ∧ ∃ m, wx = W1.drewN m)
        case first =>
          cases o
          · obtain rfl : b = x := hx
            go_wp2_with fail
            go_meet
            case rel => exact ⟨by first | rfl | trivial, _, rfl⟩
          · obtain rfl : a = x := hx
            go_wp2_with fail
            refine (tfind_q p t lab a b _ _ (by exact H1.out.drewN n2) hsid).mono ?_
            rintro e w3 ⟨v, rfl, hv, n3, rfl⟩
            rcases hv with ⟨hfn, rfl⟩ | ⟨o2, i2, h2, y2, _, _, _, rfl⟩
            · exact absurd ⟨by first | rfl | trivial, hfn⟩ HG1.out
            · go_wp2_with fail
              go_meet
              case rel => exact ⟨by first | rfl | trivial, _, by first | rfl | exact World.drewN_drewN _ _ _⟩
        case rest =>
          obtain ⟨rfl, n3, rfl⟩ := hcut
          go_upto_region 5 with fail
          go_cut [29] (fun v wx => v = .bool false ∧ ∃ m, wx = W1.drewN m)
          case first =>
            cases o
            · obtain rfl : b = x := hx
              have hmqi : ¬ (ms : Int) ≤ (q : Int) := fun e => hg2 ⟨rfl, by omega⟩
              go_quiet (fail)
              go_wp2_with fail
              go_meet
              case rel => exact ⟨by first | rfl | trivial, _, by first | rfl | exact World.drewN_drewN _ _ _⟩
            · obtain rfl : a = x := hx
              go_quiet (fail)
              go_wp2_with fail
              go_meet
              case rel => exact ⟨by first | rfl | trivial, _, by first | rfl | exact World.drewN_drewN _ _ _⟩
          case rest =>
            obtain ⟨rfl, n5, rfl⟩ := hcut
            clear hg2 hx HG1 c3 c24 c25 eaa ebb eab eba
            by_cases hk : kd ≠ 8 ∧ kd ≠ 4
            · obtain rfl : ans = 0 := by rw [HAR0.out, if_pos hk]
              obtain ⟨hk1, hk2⟩ := hk
              have kb1 : (kd != 8) = true := by simpa using hk1
              have kb2 : (kd != 4) = true := by simpa using hk2
              go_wp2_with fail
              go_ret
              exact ⟨rfl, below_drewN HB1.out n5⟩
            · have HAR := Lib.hid (show ans = t.mayR ⟨kd, sid, off, .slice od n cd, fin, lim, code, fnl, seq, dly, vr, e0, e1, e2, e3, e4, e5, e6, e7⟩ n from by rw [HAR0.out, if_neg hk])
              have hk : kd = 8 ∨ kd = 4 := by omega
              have HK := Lib.hid hk
              go_upto_region 7 with fail
              go_cut [47] (fun v wx => v = .bool false ∧ wx = W1.drewN n5)
              case first =>
                rcases hk with rfl | rfl
                all_goals
                  go_wp2_with fail
                  go_meet
                  case rel => exact ⟨rfl, rfl⟩
              case rest =>
                obtain ⟨rfl, rfl⟩ := hcut
                have HB3 := Lib.hid (below_drewN HB1.out n5)
                have H3 := Lib.hid (H1.out.drewN n5)
                have HZ3 := Lib.hid (show (W1.drewN n5).heap[z]? = some (.cells (encF ⟨kd, sid, off, .slice od n cd, fin, lim, code, fnl, seq, dly, vr, e0, e1, e2, e3, e4, e5, e6, e7⟩).toArray 46 (0, 0)) from HZF.out)
                generalize W1.drewN n5 = w3 at *
                have HSof := Lib.hid (fun (W : World) (hB : Below w3.heap.size w3 W) => show W.cell? ⟨z, 1, none⟩ = some (.int .u64 sid) ∧ W.cell? ⟨p, 2, none⟩ = some (.int .u64 msd) from
                  ⟨cell_keep hB (heap_lt HZ3.out) ((cell_at HZ3.out 1).trans rfl), cell_keep hB (heap_lt H3.out.blk) (by rw [← HE.out.2]; exact (H3.out.cell 2).trans rfl)⟩)
                clear z0 z1 hk H1 HZF HB1 HAR0
                go_upto_region 9 with fail
                go_cut [6] (fun v wx => ∃ r, v = .pointer (some ⟨r, 0, none⟩) ∧ RMine w3 wx r (RS.new sid msd))
                case first =>
                  refine wp_region_till (S := fun w' => w'.cell? ⟨z, 1, none⟩ = some (.int .u64 sid) ∧ w'.cell? ⟨p, 2, none⟩ = some (.int .u64 msd)) [] (by kernel_rfl) (by exact HSof.out _ ((Below.refl _ _).drew)) (fun hHeld => ?_)
                  refine wpTill_take0 (i := 0) (oi := ⟨some 56, _, _, _, _, _⟩) (v := ?_) rfl (by kernel_rfl) (fun _ _ _ h => h) (Or.inl ⟨by rfl, ?_⟩) (fun _ => hHeld) ?_
                  rotate_left
                  · intro w hSw
                    (try dsimp only at hSw)
                    go_simp
                    try with_reducible rfl
                  try simp only [Act.put, List.setIfInBounds_toArray, List.set_cons_zero, List.set_cons_succ]
                  refine wpTill_take (i := 1) (oi := ⟨some 57, _, _, _, _, _⟩) (v := ?_) rfl (by kernel_rfl) (fun _ _ _ h => h) (Or.inl ⟨by rfl, ?_⟩) (by exact hHeld) ?_
                  rotate_left
                  · intro w hSw
                    (try dsimp only at hSw)
                    go_simp
                    try with_reducible rfl
                  try simp only [Act.put, List.setIfInBounds_toArray, List.set_cons_zero, List.set_cons_succ]
                  refine wpTill_take0 (i := 2) (oi := ⟨some 58, _, _, _, _, _⟩) (v := ?_) rfl (by kernel_rfl) (fun _ _ _ h => h) (Or.inl ⟨by rfl, ?_⟩) (fun _ => hHeld) ?_
                  rotate_left
                  · intro w hSw
                    (try dsimp only at hSw)
                    go_simp
                    try with_reducible rfl
                  try simp only [Act.put, List.setIfInBounds_toArray, List.set_cons_zero, List.set_cons_succ]
                  refine wpTill_take0 (i := 3) (oi := ⟨some 59, _, _, _, _, _⟩) (v := ?_) rfl (by kernel_rfl) (fun _ _ _ h => h) (Or.inl ⟨by rfl, ?_⟩) (fun _ => hHeld) ?_
                  rotate_left
                  · intro w hSw
                    (try dsimp only at hSw)
                    go_simp
                    try with_reducible rfl
                  try simp only [Act.put, List.setIfInBounds_toArray, List.set_cons_zero, List.set_cons_succ]
                  refine wpTill_take0 (i := 4) (oi := ⟨some 60, _, _, _, _, _⟩) (v := ?_) rfl (by kernel_rfl) (fun _ _ _ h => h) (Or.inl ⟨by rfl, ?_⟩) (fun _ => hHeld) ?_
                  rotate_left
                  · intro w hSw
                    (try dsimp only at hSw)
                    go_simp
                    try with_reducible rfl
                  try simp only [Act.put, List.setIfInBounds_toArray, List.set_cons_zero, List.set_cons_succ]
                  refine wpTill_take0 (i := 5) (oi := ⟨some 61, _, _, _, _, _⟩) (v := ?_) rfl (by kernel_rfl) (fun _ _ _ h => h) (Or.inl ⟨by rfl, ?_⟩) (fun _ => hHeld) ?_
                  rotate_left
                  · intro w hSw
                    (try dsimp only at hSw)
                    go_simp
                    try with_reducible rfl
                  try simp only [Act.put, List.setIfInBounds_toArray, List.set_cons_zero, List.set_cons_succ]
                  refine wpTill_take (i := 6) (oi := ⟨some 62, _, _, _, _, _⟩) (v := ?_) rfl (by kernel_rfl) (fun _ _ _ h => h) (Or.inl ⟨by rfl, ?_⟩) (by exact hHeld) ?_
                  rotate_left
                  · intro w hSw
                    (try dsimp only at hSw)
                    go_simp
                    try with_reducible rfl
                  try simp only [Act.put, List.setIfInBounds_toArray, List.set_cons_zero, List.set_cons_succ]
                  refine wpTill_ready (rs := [7]) (by kernel_rfl) (by simp) ?_
                  refine AllTill.cons (o := ⟨some 63, _, _, _, _, _⟩) rfl (fun K hK => ?_) AllTill.nil
                  go_simp
                  go_at_call 38
                  refine (rnew_any sid msd _ hsid hmsd).mono ?_
                  rintro e w4 ⟨r0, rfl, hm4⟩
                  have HR0 := Lib.hid (hm4.first (Below.refl _ _).drew)
                  have HS4 := Lib.hid (HSof.out _ HR0.out.below)
                  clear hm4
                  go_wp2_with fail
                  refine hK.out _ _ (by exact HS4.out) (fun hHeld => ?_)
                  clear hK K
                  try simp only [Act.put, List.setIfInBounds_toArray, List.set_cons_zero, List.set_cons_succ]
                  refine wpTill_take0 (i := 8) (oi := ⟨some 6, _, _, _, _, _⟩) (v := ?_) rfl (by kernel_rfl) (fun _ _ _ h => h) (Or.inl ⟨by rfl, ?_⟩) (fun _ => hHeld) ?_
                  rotate_left
                  · intro w hSw
                    (try dsimp only at hSw)
                    go_simp
                    try with_reducible rfl
                  try simp only [Act.put, List.setIfInBounds_toArray, List.set_cons_zero, List.set_cons_succ]
                  refine wpTill_done (by kernel_rfl) ?_ _
                  go_wp2_with fail
                  go_meet
                  case rel => exact ⟨_, rfl, HR0.out⟩
                case rest =>
                  obtain ⟨r, rfl, fr, hr, hnew, hb⟩ := hcut
                  generalize wc = w5 at *
                  have H5 := Lib.hid (H3.out.below hb)
                  have HZ5 := Lib.hid (below_keeps hb HZ3.out (heap_lt HZ3.out))
                  have HB5 := Lib.hid (below_call HB3.out HB3.out.size hb)
                  have HR5 := Lib.hid hr
                  have z1 : w5.cell? ⟨z, 1, none⟩ = some (.int .u64 sid) := (cell_at HZ5.out 1).trans rfl
                  clear hb hr hnew H3 HZ3 HB3 HSof
                  go_wp2_with fail
                  refine (tfind_q p t lab a b _ _ (by exact H5.out) hsid).mono ?_
                  rintro e w6 ⟨v, rfl, hv, n6, rfl⟩
                  clear z1
                  rcases hv with ⟨hfn, rfl⟩ | ⟨o2, i2, h2, y2, hfn, _, hst, rfl⟩
                  · have HR6 := Lib.hid (show RAt (w5.drewN n6) r (t.rcv sid) fr from by unfold ST.rcv; rw [hfn, HE.out.2]; exact HR5.out.drewN n6)
                    have H6 := Lib.hid (H5.out.drewN n6)
                    have HZ6 := Lib.hid (show (w5.drewN n6).heap[z]? = _ from HZ5.out)
                    have HB6 := Lib.hid (below_drewN HB5.out n6)
                    clear hfn HR5 H5 HZ5 HB5
                    generalize w5.drewN n6 = w6 at *
                    go_wp2_with (refine wpList_load_row rfl 46 (.tmp 3) rfl z rfl 46 _ (0, 0) _ (by exact HZ6.out) Tryz.underlying46 rfl (by rw [sizeF]; rfl) ?_)
                    refine (rmay_any r (t.rcv sid) fr ⟨kd, sid, off, .slice od n cd, fin, lim, code, fnl, seq, dly, vr, e0, e1, e2, e3, e4, e5, e6, e7⟩ od n cd _ (by exact HR6.out) HF.out.1 rfl (by have := HF.out.2; omega)).mono ?_
                    obtain ⟨mm, hmm⟩ : ∃ mm, (t.rcv sid).may ⟨kd, sid, off, .slice od n cd, fin, lim, code, fnl, seq, dly, vr, e0, e1, e2, e3, e4, e5, e6, e7⟩ n = mm := ⟨_, rfl⟩
                    have HMM := Lib.hid hmm
                    rw [hmm]
                    clear hmm
                    rintro e w7 ⟨rfl, hb7⟩
                    have HB7 := Lib.hid (below_call HB6.out HB6.out.size hb7)
                    have H7 := Lib.hid (H6.out.below hb7)
                    have HZ7 := Lib.hid (below_keeps hb7 HZ6.out (heap_lt HZ6.out))
                    have HR7 := Lib.hid (HR6.out.below hb7)
                    have HA7 := Lib.hid (show ans = if mm = 0 then (if t.limit < t.got + (max (endOf ⟨kd, sid, off, .slice od n cd, fin, lim, code, fnl, seq, dly, vr, e0, e1, e2, e3, e4, e5, e6, e7⟩ n) (t.rcv sid).high - (t.rcv sid).high) then 3 else 0) else if mm = 30 then 6 else 3 from by rw [HAR.out]; unfold ST.mayR; rw [HMM.out])
                    clear hb7 H6 HZ6 HR6
                    by_cases m0 : mm = 0
                    · subst m0
                      have hel : endOf ⟨kd, sid, off, .slice od n cd, fin, lim, code, fnl, seq, dly, vr, e0, e1, e2, e3, e4, e5, e6, e7⟩ n ≤ (t.rcv sid).lim := may_lim HMM.out
                      have hlm := HR7.out.ok.lim
                      have hhb := HR7.out.highb
                      obtain ⟨hi, hhi⟩ : ∃ hi, (t.rcv sid).high = hi := ⟨_, rfl⟩
                      obtain ⟨en, hen⟩ : ∃ en, endOf ⟨kd, sid, off, .slice od n cd, fin, lim, code, fnl, seq, dly, vr, e0, e1, e2, e3, e4, e5, e6, e7⟩ n = en := ⟨_, rfl⟩
                      have HHI := Lib.hid (And.intro hhi hen)
                      have HA8 := Lib.hid (show ans = if t.limit < t.got + (max en hi - hi) then 3 else 0 from by rw [← hhi, ← hen]; exact HA7.out)
                      rw [hhi] at hhb
                      rw [hen] at hel
                      obtain ⟨more, hmore⟩ : ∃ more, max en hi - hi = more := ⟨_, rfl⟩
                      have hmw : ¬ (en : Int) < (hi : Int) → IntKind.u64.wrap ((en : Int) - hi) = (more : Nat) := fun q => by rw [IntWalk.u64_in _ (by omega)]; omega
                      have hmw2 : (en : Int) < (hi : Int) → more = 0 := fun q => by omega
                      rw [hmore] at HA8
                      have hmb : more ≤ 1099511640000 := by omega
                      clear hhi hen hmore HA7 HAR
                      go_upto_region 18 with fail
                      go_cut [8] (fun v wx => v = .int .u64 more ∧ Below w7.heap.size w7 wx)
                      case first =>
                        go_wp2_with (refine wpList_load_row rfl 46 (.tmp 3) rfl z rfl 46 _ (0, 0) _ (by exact HZ7.out) Tryz.underlying46 rfl (by rw [sizeF]; rfl) ?_)
                        refine (rend_any ⟨kd, sid, off, .slice od n cd, fin, lim, code, fnl, seq, dly, vr, e0, e1, e2, e3, e4, e5, e6, e7⟩ od n cd _ rfl (by have := HF.out.2; omega) HF.out.1.off).mono ?_
                        rw [HHI.out.2]
                        rintro e w8 ⟨rfl, hb8⟩
                        have HB8 := Lib.hid hb8
                        have HR8 := Lib.hid (HR7.out.below hb8)
                        clear hb8 H7 HZ7 HR7
                        by_cases hle : (en : Int) < (hi : Int)
                        · obtain rfl := hmw2 hle
                          go_wp2_with fail
                          refine (rhigh_q r (t.rcv sid) fr _ (by exact HR8.out)).mono ?_
                          rw [HHI.out.1]
                          rintro e w8b ⟨rfl, n8, rfl⟩
                          go_wp2_with fail
                          refine (rhigh_q r (t.rcv sid) fr _ (by exact HR8.out.drewN n8)).mono ?_
                          rw [HHI.out.1]
                          rintro e w8c ⟨rfl, n9, rfl⟩
                          rw [World.drewN_drewN]
                          go_wp2_with fail
                          go_meet
                          case rel => exact ⟨by first | rfl | trivial, below_drewN HB8.out (n8 + n9)⟩
                        · have hmw3 := hmw (by first | exact hle | omega)
                          go_wp2_with fail
                          refine (rhigh_q r (t.rcv sid) fr _ (by exact HR8.out)).mono ?_
                          rw [HHI.out.1]
                          rintro e w8b ⟨rfl, n8, rfl⟩
                          go_wp2_with fail
                          refine (rhigh_q r (t.rcv sid) fr _ (by exact HR8.out.drewN n8)).mono ?_
                          rw [HHI.out.1]
                          rintro e w8c ⟨rfl, n9, rfl⟩
                          rw [World.drewN_drewN]
                          go_wp2_with fail
                          go_meet
                          case rel => exact ⟨by first | rfl | trivial, below_drewN HB8.out (n8 + n9)⟩
                      case rest =>
                      obtain ⟨rfl, hb9⟩ := hcut
                      generalize wc = w9 at *
                      have HB9 := Lib.hid (below_call HB7.out HB7.out.size hb9)
                      have H9 := Lib.hid (H7.out.below hb9)
                      clear hb9 H7 HZ7 HR7 HB7 hmw hmw2
                      obtain ⟨lm, hlm2⟩ : ∃ lm, t.limit = lm := ⟨_, rfl⟩
                      obtain ⟨g, hg⟩ : ∃ g, t.got = g := ⟨_, rfl⟩
                      have HG := Lib.hid hg
                      have hgb : g ≤ 2199023280000000 := by rw [← hg]; exact H9.out.gotb
                      have HSof9 := Lib.hid (fun (W : World) (hB : Below w9.heap.size w9 W) => show W.cell? ⟨p, 28, none⟩ = some (.int .u64 lm) from cell_keep hB (heap_lt H9.out.blk) (by rw [← hlm2]; exact (H9.out.cell 28).trans rfl))
                      rw [hlm2, hg] at HA8
                      clear hlm2 hg
                      have hgw : IntKind.u64.wrap ((g : Int) + (more : Int)) = (g + more : Nat) := by rw [IntWalk.u64_in _ (by omega)]; omega
                      go_upto_region 19 with fail
                      go_cut [97] (fun v wx => v = .bool (decide ((lm : Int) < (g + more : Nat))) ∧ Below w9.heap.size w9 wx)
                      case first =>
                        refine wp_region_till (S := fun w' => w'.cell? ⟨p, 28, none⟩ = some (.int .u64 lm)) [] (by kernel_rfl) (by exact HSof9.out _ ((Below.refl _ _).drew)) (fun hHeld => ?_)
                        refine wpTill_take0 (i := 0) (oi := ⟨some 89, _, _, _, _, _⟩) (v := ?_) rfl (by kernel_rfl) (fun _ _ _ h => h) (Or.inl ⟨by rfl, ?_⟩) (fun _ => hHeld) ?_
                        rotate_left
                        · intro w hSw
                          (try dsimp only at hSw)
                          go_simp
                          try with_reducible rfl
                        try simp only [Act.put, List.setIfInBounds_toArray, List.set_cons_zero, List.set_cons_succ]
                        refine wpTill_take0 (i := 2) (oi := ⟨some 91, _, _, _, _, _⟩) (v := ?_) rfl (by kernel_rfl) (fun _ _ _ h => h) (Or.inl ⟨by rfl, ?_⟩) (fun _ => hHeld) ?_
                        rotate_left
                        · intro w hSw
                          (try dsimp only at hSw)
                          go_simp
                          try with_reducible rfl
                        try simp only [Act.put, List.setIfInBounds_toArray, List.set_cons_zero, List.set_cons_succ]
                        refine wpTill_take0 (i := 4) (oi := ⟨some 93, _, _, _, _, _⟩) (v := ?_) rfl (by kernel_rfl) (fun _ _ _ h => h) (Or.inl ⟨by rfl, ?_⟩) (fun _ => hHeld) ?_
                        rotate_left
                        · intro w hSw
                          (try dsimp only at hSw)
                          go_simp
                          try with_reducible rfl
                        try simp only [Act.put, List.setIfInBounds_toArray, List.set_cons_zero, List.set_cons_succ]
                        refine wpTill_take0 (i := 5) (oi := ⟨some 94, _, _, _, _, _⟩) (v := ?_) rfl (by kernel_rfl) (fun _ _ _ h => h) (Or.inl ⟨by rfl, ?_⟩) (fun _ => hHeld) ?_
                        rotate_left
                        · intro w hSw
                          (try dsimp only at hSw)
                          go_simp
                          try with_reducible rfl
                        try simp only [Act.put, List.setIfInBounds_toArray, List.set_cons_zero, List.set_cons_succ]
                        refine wpTill_take0 (i := 6) (oi := ⟨some 95, _, _, _, _, _⟩) (v := ?_) rfl (by kernel_rfl) (fun _ _ _ h => h) (Or.inl ⟨by rfl, ?_⟩) (fun _ => hHeld) ?_
                        rotate_left
                        · intro w hSw
                          (try dsimp only at hSw)
                          go_simp
                          try with_reducible rfl
                        try simp only [Act.put, List.setIfInBounds_toArray, List.set_cons_zero, List.set_cons_succ]
                        refine wpTill_take (i := 7) (oi := ⟨some 96, _, _, _, _, _⟩) (v := ?_) rfl (by kernel_rfl) (fun _ _ _ h => h) (Or.inl ⟨by rfl, ?_⟩) (by exact hHeld) ?_
                        rotate_left
                        · intro w hSw
                          (try dsimp only at hSw)
                          go_simp
                          try with_reducible rfl
                        try simp only [Act.put, List.setIfInBounds_toArray, List.set_cons_zero, List.set_cons_succ]
                        refine wpTill_ready (rs := [1]) (by kernel_rfl) (by simp) ?_
                        refine AllTill.cons (o := ⟨some 90, _, _, _, _, _⟩) rfl (fun K hK => ?_) AllTill.nil
                        go_simp
                        go_at_call 15
                        refine (tgot_any p t lab a b _ (by exact H9.out.below (by first | exact Below.refl _ _ | exact (Below.refl _ _).drew))).mono ?_
                        rw [HG.out]
                        rintro e w10 ⟨rfl, _, hb10⟩
                        have HB10 := Lib.hid (below_call (by first | exact Below.refl _ _ | exact (Below.refl _ _).drew) (by first | exact Nat.le_refl _ | simp) hb10 : Below w9.heap.size w9 w10)
                        have HS10 := Lib.hid (HSof9.out _ HB10.out)
                        clear hb10
                        go_wp2_with fail
                        refine hK.out _ _ (by exact HS10.out) (fun hHeld => ?_)
                        clear hK K
                        try simp only [Act.put, List.setIfInBounds_toArray, List.set_cons_zero, List.set_cons_succ]
                        refine wpTill_take0 (i := 3) (oi := ⟨some 92, _, _, _, _, _⟩) (v := ?_) rfl (by kernel_rfl) (fun _ _ _ h => h) (Or.inl ⟨by rfl, ?_⟩) (fun _ => hHeld) ?_
                        rotate_left
                        · intro w hSw
                          (try dsimp only at hSw)
                          go_simp
                          try with_reducible rfl
                        try simp only [Act.put, List.setIfInBounds_toArray, List.set_cons_zero, List.set_cons_succ]
                        refine wpTill_take0 (i := 8) (oi := ⟨some 97, _, _, _, _, _⟩) (v := ?_) rfl (by kernel_rfl) (fun _ _ _ h => h) (Or.inl ⟨by rfl, ?_⟩) (fun _ => hHeld) ?_
                        rotate_left
                        · intro w hSw
                          (try dsimp only at hSw)
                          go_simp
                          try with_reducible rfl
                        try simp only [Act.put, List.setIfInBounds_toArray, List.set_cons_zero, List.set_cons_succ]
                        refine wpTill_done (by kernel_rfl) ?_ _
                        go_wp2_with fail
                        go_meet
                        case rel => exact ⟨rfl, HB10.out⟩
                      case rest =>
                        obtain ⟨rfl, hb11⟩ := hcut
                        have HB11 := Lib.hid (below_call HB9.out HB9.out.size hb11)
                        clear hb11 HSof9 H9 HB9
                        by_cases hlt : lm < g + more
                        · obtain rfl : ans = 3 := by rw [HA8.out, if_pos hlt]
                          have hd : decide ((lm : Int) < (g + more : Nat)) = true := decide_eq_true (by omega)
                          rw [hd]
                          go_wp2_with fail
                          go_ret
                          exact ⟨rfl, HB11.out⟩
                        · obtain rfl : ans = 0 := by rw [HA8.out, if_neg hlt]
                          have hd : decide ((lm : Int) < (g + more : Nat)) = false := decide_eq_false (by omega)
                          rw [hd]
                          go_wp2_with fail
                          go_ret
                          exact ⟨rfl, HB11.out⟩
                    · by_cases m30 : mm = 30
                      · subst m30
                        obtain rfl : ans = 6 := HA7.out
                        go_wp2_with fail
                        go_ret
                        exact ⟨rfl, HB7.out⟩
                      · obtain rfl : ans = 3 := by have := HA7.out; rw [if_neg m0, if_neg m30] at this; exact this
                        have m0i : ¬ (mm : Int) = 0 := by omega
                        have m30i : ¬ (mm : Int) = 30 := by omega
                        go_wp2_with fail
                        go_ret
                        exact ⟨rfl, HB7.out⟩
                  · obtain ⟨bs, br, fs, fr2, k1, k2, k3, k4, k5, k6⟩ := hst
                    have y2' : w5.cell? ⟨y2, 2, none⟩ = some (.pointer (some ⟨br, 0, none⟩)) := (cell_at k1 2).trans rfl
                    have HR6 := Lib.hid (show RAt (w5.drewN n6) br (t.rcv sid) fr2 from by unfold ST.rcv; rw [hfn]; exact k5.drewN n6)
                    have H6 := Lib.hid (H5.out.drewN n6)
                    have HZ6 := Lib.hid (show (w5.drewN n6).heap[z]? = _ from HZ5.out)
                    have HB6 := Lib.hid (below_drewN HB5.out n6)
                    clear hfn HR5 H5 HZ5 HB5 k1 k2 k3 k4 k5 k6
                    replace y2' : (w5.drewN n6).cell? ⟨y2, 2, none⟩ = some (.pointer (some ⟨br, 0, none⟩)) := y2'
                    generalize w5.drewN n6 = w6 at *
                    go_wp2_with (refine wpList_load_row rfl 46 (.tmp 3) rfl z rfl 46 _ (0, 0) _ (by exact HZ6.out) Tryz.underlying46 rfl (by rw [sizeF]; rfl) ?_)
                    refine (rmay_any br (t.rcv sid) fr2 ⟨kd, sid, off, .slice od n cd, fin, lim, code, fnl, seq, dly, vr, e0, e1, e2, e3, e4, e5, e6, e7⟩ od n cd _ (by exact HR6.out) HF.out.1 rfl (by have := HF.out.2; omega)).mono ?_
                    obtain ⟨mm, hmm⟩ : ∃ mm, (t.rcv sid).may ⟨kd, sid, off, .slice od n cd, fin, lim, code, fnl, seq, dly, vr, e0, e1, e2, e3, e4, e5, e6, e7⟩ n = mm := ⟨_, rfl⟩
                    have HMM := Lib.hid hmm
                    rw [hmm]
                    clear hmm
                    rintro e w7 ⟨rfl, hb7⟩
                    have HB7 := Lib.hid (below_call HB6.out HB6.out.size hb7)
                    have H7 := Lib.hid (H6.out.below hb7)
                    have HZ7 := Lib.hid (below_keeps hb7 HZ6.out (heap_lt HZ6.out))
                    have HR7 := Lib.hid (HR6.out.below hb7)
                    have HA7 := Lib.hid (show ans = if mm = 0 then (if t.limit < t.got + (max (endOf ⟨kd, sid, off, .slice od n cd, fin, lim, code, fnl, seq, dly, vr, e0, e1, e2, e3, e4, e5, e6, e7⟩ n) (t.rcv sid).high - (t.rcv sid).high) then 3 else 0) else if mm = 30 then 6 else 3 from by rw [HAR.out]; unfold ST.mayR; rw [HMM.out])
                    clear hb7 H6 HZ6 HR6
                    by_cases m0 : mm = 0
                    · subst m0
                      have hel : endOf ⟨kd, sid, off, .slice od n cd, fin, lim, code, fnl, seq, dly, vr, e0, e1, e2, e3, e4, e5, e6, e7⟩ n ≤ (t.rcv sid).lim := may_lim HMM.out
                      have hlm := HR7.out.ok.lim
                      have hhb := HR7.out.highb
                      obtain ⟨hi, hhi⟩ : ∃ hi, (t.rcv sid).high = hi := ⟨_, rfl⟩
                      obtain ⟨en, hen⟩ : ∃ en, endOf ⟨kd, sid, off, .slice od n cd, fin, lim, code, fnl, seq, dly, vr, e0, e1, e2, e3, e4, e5, e6, e7⟩ n = en := ⟨_, rfl⟩
                      have HHI := Lib.hid (And.intro hhi hen)
                      have HA8 := Lib.hid (show ans = if t.limit < t.got + (max en hi - hi) then 3 else 0 from by rw [← hhi, ← hen]; exact HA7.out)
                      rw [hhi] at hhb
                      rw [hen] at hel
                      obtain ⟨more, hmore⟩ : ∃ more, max en hi - hi = more := ⟨_, rfl⟩
                      have hmw : ¬ (en : Int) < (hi : Int) → IntKind.u64.wrap ((en : Int) - hi) = (more : Nat) := fun q => by rw [IntWalk.u64_in _ (by omega)]; omega
                      have hmw2 : (en : Int) < (hi : Int) → more = 0 := fun q => by omega
                      rw [hmore] at HA8
                      have hmb : more ≤ 1099511640000 := by omega
                      clear hhi hen hmore HA7 HAR
                      go_upto_region 18 with fail
                      go_cut [8] (fun v wx => v = .int .u64 more ∧ Below w7.heap.size w7 wx)
                      case first =>
                        go_wp2_with (refine wpList_load_row rfl 46 (.tmp 3) rfl z rfl 46 _ (0, 0) _ (by exact HZ7.out) Tryz.underlying46 rfl (by rw [sizeF]; rfl) ?_)
                        refine (rend_any ⟨kd, sid, off, .slice od n cd, fin, lim, code, fnl, seq, dly, vr, e0, e1, e2, e3, e4, e5, e6, e7⟩ od n cd _ rfl (by have := HF.out.2; omega) HF.out.1.off).mono ?_
                        rw [HHI.out.2]
                        rintro e w8 ⟨rfl, hb8⟩
                        have HB8 := Lib.hid hb8
                        have HR8 := Lib.hid (HR7.out.below hb8)
                        clear hb8 H7 HZ7 HR7
                        by_cases hle : (en : Int) < (hi : Int)
                        · obtain rfl := hmw2 hle
                          go_wp2_with fail
                          refine (rhigh_q br (t.rcv sid) fr2 _ (by exact HR8.out)).mono ?_
                          rw [HHI.out.1]
                          rintro e w8b ⟨rfl, n8, rfl⟩
                          go_wp2_with fail
                          refine (rhigh_q br (t.rcv sid) fr2 _ (by exact HR8.out.drewN n8)).mono ?_
                          rw [HHI.out.1]
                          rintro e w8c ⟨rfl, n9, rfl⟩
                          rw [World.drewN_drewN]
                          go_wp2_with fail
                          go_meet
                          case rel => exact ⟨by first | rfl | trivial, below_drewN HB8.out (n8 + n9)⟩
                        · have hmw3 := hmw (by first | exact hle | omega)
                          go_wp2_with fail
                          refine (rhigh_q br (t.rcv sid) fr2 _ (by exact HR8.out)).mono ?_
                          rw [HHI.out.1]
                          rintro e w8b ⟨rfl, n8, rfl⟩
                          go_wp2_with fail
                          refine (rhigh_q br (t.rcv sid) fr2 _ (by exact HR8.out.drewN n8)).mono ?_
                          rw [HHI.out.1]
                          rintro e w8c ⟨rfl, n9, rfl⟩
                          rw [World.drewN_drewN]
                          go_wp2_with fail
                          go_meet
                          case rel => exact ⟨by first | rfl | trivial, below_drewN HB8.out (n8 + n9)⟩
                      case rest =>
                      obtain ⟨rfl, hb9⟩ := hcut
                      generalize wc = w9 at *
                      have HB9 := Lib.hid (below_call HB7.out HB7.out.size hb9)
                      have H9 := Lib.hid (H7.out.below hb9)
                      clear hb9 H7 HZ7 HR7 HB7 hmw hmw2
                      obtain ⟨lm, hlm2⟩ : ∃ lm, t.limit = lm := ⟨_, rfl⟩
                      obtain ⟨g, hg⟩ : ∃ g, t.got = g := ⟨_, rfl⟩
                      have HG := Lib.hid hg
                      have hgb : g ≤ 2199023280000000 := by rw [← hg]; exact H9.out.gotb
                      have HSof9 := Lib.hid (fun (W : World) (hB : Below w9.heap.size w9 W) => show W.cell? ⟨p, 28, none⟩ = some (.int .u64 lm) from cell_keep hB (heap_lt H9.out.blk) (by rw [← hlm2]; exact (H9.out.cell 28).trans rfl))
                      rw [hlm2, hg] at HA8
                      clear hlm2 hg
                      have hgw : IntKind.u64.wrap ((g : Int) + (more : Int)) = (g + more : Nat) := by rw [IntWalk.u64_in _ (by omega)]; omega
                      go_upto_region 19 with fail
                      go_cut [97] (fun v wx => v = .bool (decide ((lm : Int) < (g + more : Nat))) ∧ Below w9.heap.size w9 wx)
                      case first =>
                        refine wp_region_till (S := fun w' => w'.cell? ⟨p, 28, none⟩ = some (.int .u64 lm)) [] (by kernel_rfl) (by exact HSof9.out _ ((Below.refl _ _).drew)) (fun hHeld => ?_)
                        refine wpTill_take0 (i := 0) (oi := ⟨some 89, _, _, _, _, _⟩) (v := ?_) rfl (by kernel_rfl) (fun _ _ _ h => h) (Or.inl ⟨by rfl, ?_⟩) (fun _ => hHeld) ?_
                        rotate_left
                        · intro w hSw
                          (try dsimp only at hSw)
                          go_simp
                          try with_reducible rfl
                        try simp only [Act.put, List.setIfInBounds_toArray, List.set_cons_zero, List.set_cons_succ]
                        refine wpTill_take0 (i := 2) (oi := ⟨some 91, _, _, _, _, _⟩) (v := ?_) rfl (by kernel_rfl) (fun _ _ _ h => h) (Or.inl ⟨by rfl, ?_⟩) (fun _ => hHeld) ?_
                        rotate_left
                        · intro w hSw
                          (try dsimp only at hSw)
                          go_simp
                          try with_reducible rfl
                        try simp only [Act.put, List.setIfInBounds_toArray, List.set_cons_zero, List.set_cons_succ]
                        refine wpTill_take0 (i := 4) (oi := ⟨some 93, _, _, _, _, _⟩) (v := ?_) rfl (by kernel_rfl) (fun _ _ _ h => h) (Or.inl ⟨by rfl, ?_⟩) (fun _ => hHeld) ?_
                        rotate_left
                        · intro w hSw
                          (try dsimp only at hSw)
                          go_simp
                          try with_reducible rfl
                        try simp only [Act.put, List.setIfInBounds_toArray, List.set_cons_zero, List.set_cons_succ]
                        refine wpTill_take0 (i := 5) (oi := ⟨some 94, _, _, _, _, _⟩) (v := ?_) rfl (by kernel_rfl) (fun _ _ _ h => h) (Or.inl ⟨by rfl, ?_⟩) (fun _ => hHeld) ?_
                        rotate_left
                        · intro w hSw
                          (try dsimp only at hSw)
                          go_simp
                          try with_reducible rfl
                        try simp only [Act.put, List.setIfInBounds_toArray, List.set_cons_zero, List.set_cons_succ]
                        refine wpTill_take0 (i := 6) (oi := ⟨some 95, _, _, _, _, _⟩) (v := ?_) rfl (by kernel_rfl) (fun _ _ _ h => h) (Or.inl ⟨by rfl, ?_⟩) (fun _ => hHeld) ?_
                        rotate_left
                        · intro w hSw
                          (try dsimp only at hSw)
                          go_simp
                          try with_reducible rfl
                        try simp only [Act.put, List.setIfInBounds_toArray, List.set_cons_zero, List.set_cons_succ]
                        refine wpTill_take (i := 7) (oi := ⟨some 96, _, _, _, _, _⟩) (v := ?_) rfl (by kernel_rfl) (fun _ _ _ h => h) (Or.inl ⟨by rfl, ?_⟩) (by exact hHeld) ?_
                        rotate_left
                        · intro w hSw
                          (try dsimp only at hSw)
                          go_simp
                          try with_reducible rfl
                        try simp only [Act.put, List.setIfInBounds_toArray, List.set_cons_zero, List.set_cons_succ]
                        refine wpTill_ready (rs := [1]) (by kernel_rfl) (by simp) ?_
                        refine AllTill.cons (o := ⟨some 90, _, _, _, _, _⟩) rfl (fun K hK => ?_) AllTill.nil
                        go_simp
                        go_at_call 15
                        refine (tgot_any p t lab a b _ (by exact H9.out.below (by first | exact Below.refl _ _ | exact (Below.refl _ _).drew))).mono ?_
                        rw [HG.out]
                        rintro e w10 ⟨rfl, _, hb10⟩
                        have HB10 := Lib.hid (below_call (by first | exact Below.refl _ _ | exact (Below.refl _ _).drew) (by first | exact Nat.le_refl _ | simp) hb10 : Below w9.heap.size w9 w10)
                        have HS10 := Lib.hid (HSof9.out _ HB10.out)
                        clear hb10
                        go_wp2_with fail
                        refine hK.out _ _ (by exact HS10.out) (fun hHeld => ?_)
                        clear hK K
                        try simp only [Act.put, List.setIfInBounds_toArray, List.set_cons_zero, List.set_cons_succ]
                        refine wpTill_take0 (i := 3) (oi := ⟨some 92, _, _, _, _, _⟩) (v := ?_) rfl (by kernel_rfl) (fun _ _ _ h => h) (Or.inl ⟨by rfl, ?_⟩) (fun _ => hHeld) ?_
                        rotate_left
                        · intro w hSw
                          (try dsimp only at hSw)
                          go_simp
                          try with_reducible rfl
                        try simp only [Act.put, List.setIfInBounds_toArray, List.set_cons_zero, List.set_cons_succ]
                        refine wpTill_take0 (i := 8) (oi := ⟨some 97, _, _, _, _, _⟩) (v := ?_) rfl (by kernel_rfl) (fun _ _ _ h => h) (Or.inl ⟨by rfl, ?_⟩) (fun _ => hHeld) ?_
                        rotate_left
                        · intro w hSw
                          (try dsimp only at hSw)
                          go_simp
                          try with_reducible rfl
                        try simp only [Act.put, List.setIfInBounds_toArray, List.set_cons_zero, List.set_cons_succ]
                        refine wpTill_done (by kernel_rfl) ?_ _
                        go_wp2_with fail
                        go_meet
                        case rel => exact ⟨rfl, HB10.out⟩
                      case rest =>
                        obtain ⟨rfl, hb11⟩ := hcut
                        have HB11 := Lib.hid (below_call HB9.out HB9.out.size hb11)
                        clear hb11 HSof9 H9 HB9
                        by_cases hlt : lm < g + more
                        · obtain rfl : ans = 3 := by rw [HA8.out, if_pos hlt]
                          have hd : decide ((lm : Int) < (g + more : Nat)) = true := decide_eq_true (by omega)
                          rw [hd]
                          go_wp2_with fail
                          go_ret
                          exact ⟨rfl, HB11.out⟩
                        · obtain rfl : ans = 0 := by rw [HA8.out, if_neg hlt]
                          have hd : decide ((lm : Int) < (g + more : Nat)) = false := decide_eq_false (by omega)
                          rw [hd]
                          go_wp2_with fail
                          go_ret
                          exact ⟨rfl, HB11.out⟩
                    · by_cases m30 : mm = 30
                      · subst m30
                        obtain rfl : ans = 6 := HA7.out
                        go_wp2_with fail
                        go_ret
                        exact ⟨rfl, HB7.out⟩
                      · obtain rfl : ans = 3 := by have := HA7.out; rw [if_neg m0, if_neg m30] at this; exact this
                        have m0i : ¬ (mm : Int) = 0 := by omega
                        have m30i : ¬ (mm : Int) = 30 := by omega
                        go_wp2_with fail
                        go_ret
                        exact ⟨rfl, HB7.out⟩
end Go.Proofs.YtnneoeimgbemfaaGreat
