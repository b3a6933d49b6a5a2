/- DERIVED. Walk of outbuf's Acked, where nothing is lost. -/
import Derived.Test.YtkebjfaphmamjaaOutWr
import Derived.Test.YtkebjfaphmamjaaAdd
import Derived.Test.YtkebjfaphmamjaaGap
namespace Go.Proofs.Ytkebjfaphmamjaa
open Go.RowKit

theorem exec_tailK {P : Program} {o : Oper} {w : World} {t e : TypeId} (hu : P.underlying t = some (.slice e)) {i : TypeInfo} (hi : P.info? e = some i) {f : Operand → Value} {x l : Operand} (ho : o.op = .slice t x (some l) none none) {oa : Option Addr} {len cap n : Nat} {kn : IntKind}
    (hx : f x = .slice oa len cap) (hl : f l = .int kn n) (h1 : n ≤ len) (h2 : len ≤ cap) : (execOp f o).run P w = .ok (.value (tailV oa i.size len cap n)) w := by
  simp [execOp, ho, hx, hl, Instr.sliceAt, Instr.slice, run_underlying hu, Instr.sliceBounds, Instr.sliceBound, sizeOf, typeInfo, asIntOf, hi, h1, h2, tailV]
/-- Acknowledged: what becomes of it. -/
def OS.acks (s : OS) (zs : List Rg) (at_ : Nat) : OS := { s with xs := zs, base := at_ }
set_option maxRecDepth 100000 in
set_option maxHeartbeats 2000000 in
theorem oack_any (b : Nat) (s : OS) (fp : Nat → Prop) (off : Nat) (n : Int) (zs : List Rg) (at_ : Nat) (w : World) (h : OAt w b s fp) (ho : off < 18446744073709551616) (hn : -9223372036854775808 ≤ n) (hn2 : n ≤ 9223372036854775807) (hys : s.ys = [])
    (hzs : s.ackX (s.kn off n) = zs) (hnz : Norm zs) (hlz : zs.length ≤ 100000) (hat : atOf zs s.B.length = at_) (hat1 : s.base ≤ at_) (hat2 : at_ ≤ s.B.length) :
    Calls Try.prog 12 #[.pointer (some ⟨b, 0, none⟩), .int .u64 off, .int .i64 n, .bool false] w fun e w' => e = .returned (.tuple #[]) ∧ OM w w' fp b (s.acks zs at_) := by
  obtain ⟨i0, hi0, hz0, hz1, hz2'⟩ := info_parts infoB
  have hlen := h.ok.len
  have hsl := h.ok.sent
  obtain ⟨from_, to_, hkn⟩ : ∃ f t, s.kn off n = (f, t) := ⟨_, _, rfl⟩
  have hto : to_ ≤ s.B.length ∧ from_ ≤ s.B.length := by
    unfold OS.kn at hkn
    simp only [Prod.mk.injEq] at hkn
    omega
  have H := Lib.hid h
  have HY := Lib.hid hys
  have HKN := Lib.hid hkn
  have HZS := Lib.hid (show (if from_ < to_ ∧ to_ ≤ 4611686018427387904 then addL many s.xs from_ to_ else s.xs) = zs by
    rw [← hzs, hkn]
    unfold OS.ackX
    by_cases q : from_ < to_
    · rw [if_pos ⟨q, by omega⟩, if_pos q]
    · rw [if_neg (fun q2 => q q2.1), if_neg q])
  have HNZ := Lib.hid (And.intro hnz hlz)
  have HAT := Lib.hid (And.intro hat (And.intro hat1 hat2))
  clear h hys hkn hzs hnz hlz hat hat1 hat2
  obtain ⟨hto1, hto2⟩ := hto
  go_enter Try.func12, Try.ntmps12
  go_wp2_with fail
  refine (oknown_q b s fp off n _ (by exact H.out) ho hn hn2).mono ?_
  rw [HKN.out]
  rintro e w1 ⟨rfl, q, rfl⟩
  have H1 := Lib.hid ((OM.refl H.out).drewN q)
  generalize w.drewN q = w1 at *
  obtain ⟨fp1, hoa, hw1⟩ := H1.out
  obtain ⟨vb, ob, c, oc, d, od, hO, hfp⟩ := hoa
  rw [hfp] at hw1
  have HO := Lib.hid hO
  have HW := Lib.hid hw1
  have c4 : w1.cell? ⟨b, 4, none⟩ = some (.pointer (some ⟨c, 0, none⟩)) := (cell_at hO.blk 4).trans rfl
  clear hO hfp hw1 H1
  go_wp2_with fail
  refine (add_any c many oc s.xs from_ to_ _ (by exact HO.out.sx) (by decide) (by decide) (by have := HO.out.ok.lx; omega)).mono ?_
  rw [HZS.out]
  rintro e w2 ⟨rfl, ht⟩
  have H2 := Lib.hid (om_turnC HO.out HW.out ht HNZ.out.1 HNZ.out.2)
  clear ht HO HW c4
  obtain ⟨fp2, hoa, hw2⟩ := H2.out
  obtain ⟨vb, ob, c, oc, d, od, hO, hfp⟩ := hoa
  rw [hfp] at hw2
  have HO := Lib.hid hO
  have HW := Lib.hid hw2
  have c5 : w2.cell? ⟨b, 5, none⟩ = some (.pointer (some ⟨d, 0, none⟩)) := (cell_at hO.blk 5).trans rfl
  clear hO hfp hw2 H2
  go_wp2_with fail
  refine (cut_any d many od s.ys from_ to_ _ (by exact HO.out.sy) (by decide) (by decide) (by omega) (by omega) HO.out.ok.ny (by rw [HY.out]; simp)).mono ?_
  rw [HY.out]
  rintro e w3 ⟨rfl, ht⟩
  have hm3 := om_turnD HO.out HW.out ht (show Norm (trimL many (cutRaw from_ to_ [])) from ⟨by simp [trimL, cutRaw], by simp [trimL, cutRaw]⟩) (by simp [trimL, cutRaw])
  rw [show trimL many (cutRaw from_ to_ []) = [] by simp [trimL, cutRaw]] at hm3
  have H3 := Lib.hid hm3
  clear ht HO HW c5 hm3
  obtain ⟨fp3, hoa, hw3⟩ := H3.out
  obtain ⟨vb, ob, c, oc, d, od, hO, hfp⟩ := hoa
  rw [hfp] at hw3
  have HO := Lib.hid hO
  have HW := Lib.hid hw3
  clear hO hfp hw3 H3
  obtain ⟨len, hln⟩ : ∃ len, s.B.length = len := ⟨_, rfl⟩
  have HLE := Lib.hid hln
  rw [hln] at hlen hsl hto1 hto2 HAT
  obtain ⟨lo, hi, ok, hga⟩ : ∃ lo hi ok, gapL zs 0 len = ((lo, hi), ok) := ⟨_, _, _, rfl⟩
  have HGA := Lib.hid hga
  have e2 : w3.cell? ⟨b, 2, none⟩ = some (.int .u64 len) := by rw [cell_at HO.out.blk, ← hln]; rfl
  have HSX := Lib.hid (show SetAt w3.drew c many oc zs from HO.out.sx.below (Below.refl _ _).drew)
  have HSof := Lib.hid (show ∀ W, Below w3.drew.heap.size w3.drew W → W.cell? ⟨b, 4, none⟩ = some (.pointer (some ⟨c, 0, none⟩)) ∧ W.cell? ⟨b, 2, none⟩ = some (.int .u64 len) from fun W h => by
    have hk := below_keeps h (show w3.drew.heap[b]? = _ from HO.out.blk) (heap_lt HO.out.blk)
    refine ⟨(cell_at hk 4).trans rfl, ?_⟩
    rw [cell_at hk, ← hln]
    rfl)
  have HNX := Lib.hid HNZ.out.1
  clear hln hga
  go_upto_region 6 with fail
  go_cut [11, 12] (fun v a wx => ∃ z, v = .pointer (some ⟨z, 0, none⟩) ∧ a = .bool ok ∧ wx.cell? ⟨z, 0, none⟩ = some (.int .u64 lo) ∧ Below w3.drew.heap.size w3.drew wx)
  case first =>
    go_wp2_with fail
    have hb : Below w3.drew.heap.size w3.drew w3.drew := Below.refl _ _
    refine wp_region_till (S := fun w' => w'.cell? ⟨b, 4, none⟩ = some (.pointer (some ⟨c, 0, none⟩)) ∧ w'.cell? ⟨b, 2, none⟩ = some (.int .u64 len)) [] (by kernel_rfl) (by exact HSof.out _ hb) (fun hHeld => ?_)
    refine wpTill_take0 (i := 0) (oi := ⟨some 49, _, _, _, _, _⟩) (v := ?_) rfl (by kernel_rfl) (fun _ _ _ h => h) (Or.inl ⟨by rfl, ?_⟩) (fun _ => hHeld) ?_
    rotate_left
    · intro w hSw
      (try dsimp only at hSw)
      go_simp
      try with_reducible rfl
    try simp only [Act.put, List.setIfInBounds_toArray, List.set_cons_zero, List.set_cons_succ]
    refine wpTill_take0 (i := 1) (oi := ⟨some 50, _, _, _, _, _⟩) (v := ?_) rfl (by kernel_rfl) (fun _ _ _ h => h) (Or.inl ⟨by rfl, ?_⟩) (fun _ => hHeld) ?_
    rotate_left
    · intro w hSw
      (try dsimp only at hSw)
      go_simp
      try with_reducible rfl
    try simp only [Act.put, List.setIfInBounds_toArray, List.set_cons_zero, List.set_cons_succ]
    refine wpTill_take0 (i := 2) (oi := ⟨some 51, _, _, _, _, _⟩) (v := ?_) rfl (by kernel_rfl) (fun _ _ _ h => h) (Or.inl ⟨by rfl, ?_⟩) (fun _ => hHeld) ?_
    rotate_left
    · intro w hSw
      (try dsimp only at hSw)
      go_simp
      try with_reducible rfl
    try simp only [Act.put, List.setIfInBounds_toArray, List.set_cons_zero, List.set_cons_succ]
    refine wpTill_take (i := 3) (oi := ⟨some 52, _, _, _, _, _⟩) (v := ?_) rfl (by kernel_rfl) (fun _ _ _ h => h) (Or.inl ⟨by rfl, ?_⟩) (by exact hHeld) ?_
    rotate_left
    · intro w hSw
      (try dsimp only at hSw)
      go_simp
      try with_reducible rfl
    try simp only [Act.put, List.setIfInBounds_toArray, List.set_cons_zero, List.set_cons_succ]
    refine wpTill_take0 (i := 4) (oi := ⟨some 53, _, _, _, _, _⟩) (v := ?_) rfl (by kernel_rfl) (fun _ _ _ h => h) (Or.inl ⟨by rfl, ?_⟩) (fun _ => hHeld) ?_
    rotate_left
    · intro w hSw
      (try dsimp only at hSw)
      go_simp
      try with_reducible rfl
    try simp only [Act.put, List.setIfInBounds_toArray, List.set_cons_zero, List.set_cons_succ]
    refine wpTill_take0 (i := 5) (oi := ⟨some 54, _, _, _, _, _⟩) (v := ?_) rfl (by kernel_rfl) (fun _ _ _ h => h) (Or.inl ⟨by rfl, ?_⟩) (fun _ => hHeld) ?_
    rotate_left
    · intro w hSw
      (try dsimp only at hSw)
      go_simp
      try with_reducible rfl
    try simp only [Act.put, List.setIfInBounds_toArray, List.set_cons_zero, List.set_cons_succ]
    refine wpTill_take0 (i := 6) (oi := ⟨some 55, _, _, _, _, _⟩) (v := ?_) rfl (by kernel_rfl) (fun _ _ _ h => h) (Or.inl ⟨by rfl, ?_⟩) (fun _ => hHeld) ?_
    rotate_left
    · intro w hSw
      (try dsimp only at hSw)
      go_simp
      try with_reducible rfl
    try simp only [Act.put, List.setIfInBounds_toArray, List.set_cons_zero, List.set_cons_succ]
    refine wpTill_take (i := 7) (oi := ⟨some 56, _, _, _, _, _⟩) (v := ?_) rfl (by kernel_rfl) (fun _ _ _ h => h) (Or.inl ⟨by rfl, ?_⟩) (by exact hHeld) ?_
    rotate_left
    · intro w hSw
      (try dsimp only at hSw)
      go_simp
      try with_reducible rfl
    try simp only [Act.put, List.setIfInBounds_toArray, List.set_cons_zero, List.set_cons_succ]
    refine wpTill_ready (rs := [8, 12]) (by kernel_rfl) (by simp) ?_
    refine AllTill.cons (o := ⟨some 57, _, _, _, _, _⟩) rfl (fun K hK => ?_) ?_
    · go_simp
      go_at_call 29
      refine (gap_any c many oc zs 0 len _ (by exact HSX.out.below hb) (by omega) (by omega) HNX.out).mono ?_
      rw [HGA.out]
      rintro e W8 ⟨rfl, hx8⟩
      have hb := below_call hb hb.size hx8
      go_wp2_with fail
      refine hK.out _ _ (by exact HSof.out _ hb) (fun hHeld => ?_)
      clear hK K
      try simp only [Act.put, List.setIfInBounds_toArray, List.set_cons_zero, List.set_cons_succ]
      refine wpTill_take0 (i := 9) (oi := ⟨some 48, _, _, _, _, _⟩) (v := ?_) rfl (by kernel_rfl) (fun _ _ _ h => h) (Or.inl ⟨by rfl, ?_⟩) (fun _ => hHeld) ?_
      rotate_left
      · intro w hSw
        (try dsimp only at hSw)
        go_simp
        try with_reducible rfl
      try simp only [Act.put, List.setIfInBounds_toArray, List.set_cons_zero, List.set_cons_succ]
      refine wpTill_take0 (i := 10) (oi := ⟨some 58, _, _, _, _, _⟩) (v := ?_) rfl (by kernel_rfl) (fun _ _ _ h => h) (Or.inl ⟨by rfl, ?_⟩) (fun _ => hHeld) ?_
      rotate_left
      · intro w hSw
        (try dsimp only at hSw)
        go_simp
        try with_reducible rfl
      try simp only [Act.put, List.setIfInBounds_toArray, List.set_cons_zero, List.set_cons_succ]
      refine wpTill_take0 (i := 11) (oi := ⟨some 59, _, _, _, _, _⟩) (v := ?_) rfl (by kernel_rfl) (fun _ _ _ h => h) (Or.inl ⟨by rfl, ?_⟩) (fun _ => hHeld) ?_
      rotate_left
      · intro w hSw
        (try dsimp only at hSw)
        go_simp
        try with_reducible rfl
      try simp only [Act.put, List.setIfInBounds_toArray, List.set_cons_zero, List.set_cons_succ]
      refine wpTill_ready (rs := [12]) (by kernel_rfl) (by simp) ?_
      refine AllTill.cons (o := ⟨some 11, _, _, _, _, _⟩) rfl (fun K hK => ?_) AllTill.nil
      go_simp
      have hb8 := hb
      have hb := hb.alloc hb.size (.cells #[.int .u64 0, .int .u64 0] 59)
      refine hK.out _ _ (by exact HSof.out _ hb) (fun hHeld => ?_)
      clear hK K
      try simp only [Act.put, List.setIfInBounds_toArray, List.set_cons_zero, List.set_cons_succ]
      refine wpTill_ready (rs := [13]) (by kernel_rfl) (by simp) ?_
      refine AllTill.cons (o := ⟨none, _, _, _, _, _⟩) rfl (fun K hK => ?_) AllTill.nil
      go_simp
      have hb := hb8.alloc hb8.size (.cells #[.int .u64 lo, .int .u64 hi] 59)
      have hzz := alloc_at W8 (.cells #[.int .u64 lo, .int .u64 hi] 59)
      refine hK.out _ _ (by exact HSof.out _ hb) (fun hHeld => ?_)
      clear hK K
      try simp only [Act.put, List.setIfInBounds_toArray, List.set_cons_zero, List.set_cons_succ]
      refine wpTill_ready (rs := [14]) (by kernel_rfl) (by simp) ?_
      refine AllTill.cons (o := ⟨some 12, _, _, _, _, _⟩) rfl (fun K hK => ?_) AllTill.nil
      go_simp
      refine hK.out _ _ (by exact HSof.out _ hb) (fun hHeld => ?_)
      clear hK K
      try simp only [Act.put, List.setIfInBounds_toArray, List.set_cons_zero, List.set_cons_succ]
      refine wpTill_done (by kernel_rfl) ?_ _
      go_wp2_with fail
      go_meet
      case rel => exact ⟨_, rfl, rfl, (cell_at hzz 0).trans rfl, hb⟩
    refine AllTill.cons (o := ⟨some 11, _, _, _, _, _⟩) rfl (fun K hK => ?_) ?_
    · go_simp
      have hzz : (w3.drew.alloc (.cells #[.int .u64 0, .int .u64 0] 59)).heap[w3.heap.size]? = some (.cells #[.int .u64 0, .int .u64 0] 59 (0, 0)) := alloc_at w3.drew _
      have hz12 : w3.drew.heap.size ≤ w3.heap.size := Nat.le_refl _
      have hb := hb.alloc hb.size (.cells #[.int .u64 0, .int .u64 0] 59)
      refine hK.out _ _ (by exact HSof.out _ hb) (fun hHeld => ?_)
      clear hK K
      try simp only [Act.put, List.setIfInBounds_toArray, List.set_cons_zero, List.set_cons_succ]
      refine wpTill_ready (rs := [8]) (by kernel_rfl) (by simp) ?_
      refine AllTill.cons (o := ⟨some 57, _, _, _, _, _⟩) rfl (fun K hK => ?_) AllTill.nil
      go_simp
      go_at_call 29
      refine (gap_any c many oc zs 0 len _ (by exact HSX.out.below hb) (by omega) (by omega) HNX.out).mono ?_
      rw [HGA.out]
      rintro e W8 ⟨rfl, hx8⟩
      have hb := below_call hb hb.size hx8
      have hzz := below_keeps hx8 hzz (heap_lt hzz)
      go_wp2_with fail
      refine hK.out _ _ (by exact HSof.out _ hb) (fun hHeld => ?_)
      clear hK K
      try simp only [Act.put, List.setIfInBounds_toArray, List.set_cons_zero, List.set_cons_succ]
      refine wpTill_take0 (i := 9) (oi := ⟨some 48, _, _, _, _, _⟩) (v := ?_) rfl (by kernel_rfl) (fun _ _ _ h => h) (Or.inl ⟨by rfl, ?_⟩) (fun _ => hHeld) ?_
      rotate_left
      · intro w hSw
        (try dsimp only at hSw)
        go_simp
        try with_reducible rfl
      try simp only [Act.put, List.setIfInBounds_toArray, List.set_cons_zero, List.set_cons_succ]
      refine wpTill_take0 (i := 10) (oi := ⟨some 58, _, _, _, _, _⟩) (v := ?_) rfl (by kernel_rfl) (fun _ _ _ h => h) (Or.inl ⟨by rfl, ?_⟩) (fun _ => hHeld) ?_
      rotate_left
      · intro w hSw
        (try dsimp only at hSw)
        go_simp
        try with_reducible rfl
      try simp only [Act.put, List.setIfInBounds_toArray, List.set_cons_zero, List.set_cons_succ]
      refine wpTill_take0 (i := 11) (oi := ⟨some 59, _, _, _, _, _⟩) (v := ?_) rfl (by kernel_rfl) (fun _ _ _ h => h) (Or.inl ⟨by rfl, ?_⟩) (fun _ => hHeld) ?_
      rotate_left
      · intro w hSw
        (try dsimp only at hSw)
        go_simp
        try with_reducible rfl
      try simp only [Act.put, List.setIfInBounds_toArray, List.set_cons_zero, List.set_cons_succ]
      refine wpTill_ready (rs := [13]) (by kernel_rfl) (by simp) ?_
      refine AllTill.cons (o := ⟨none, _, _, _, _, _⟩) rfl (fun K hK => ?_) AllTill.nil
      have z0 := cell_at hzz 0
      have z1 := cell_at hzz 1
      have y0 := free_at hzz 0
      have y1 := free_at hzz 1
      go_simp
      have hb := (hb.setCell (p := ⟨w3.heap.size, 0, none⟩) hz12 (.int .u64 lo)).setCell (p := ⟨w3.heap.size, 1, none⟩) hz12 (.int .u64 hi)
      have hzz := set_at (set_at hzz 0 (.int .u64 lo)) 1 (.int .u64 hi)
      refine hK.out _ _ (by exact HSof.out _ hb) (fun hHeld => ?_)
      clear hK K
      try simp only [Act.put, List.setIfInBounds_toArray, List.set_cons_zero, List.set_cons_succ]
      refine wpTill_ready (rs := [14]) (by kernel_rfl) (by simp) ?_
      refine AllTill.cons (o := ⟨some 12, _, _, _, _, _⟩) rfl (fun K hK => ?_) AllTill.nil
      go_simp
      refine hK.out _ _ (by exact HSof.out _ hb) (fun hHeld => ?_)
      clear hK K
      try simp only [Act.put, List.setIfInBounds_toArray, List.set_cons_zero, List.set_cons_succ]
      refine wpTill_done (by kernel_rfl) ?_ _
      go_wp2_with fail
      go_meet
      case rel => exact ⟨_, rfl, rfl, (cell_at hzz 0).trans rfl, hb⟩
    exact AllTill.nil
  case rest =>
    obtain ⟨z, rfl, rfl, hz0, hb4⟩ := hcut
    generalize wc = w4 at *
    have hb34 : Below w3.heap.size w3 w4 := below_call (Below.refl _ _).drew (Nat.le_refl _) hb4
    have HO4 := Lib.hid (HO.out.below hb34)
    have HW4 := Lib.hid (HW.out.later hb34)
    have hatv : (if ok then lo else len) = at_ := by
      have := HAT.out.1
      unfold atOf at this
      rw [HGA.out] at this
      exact this
    obtain ⟨_, hat1, hat2⟩ := HAT.out
    clear hb4 hb34 HSof HSX HO HW e2
    go_upto_if 60 with fail
    go_cut [10] (fun v wx => v = .int .u64 at_ ∧ wx = w4)
    case first =>
      cases ok
      · simp at hatv
        subst hatv
        go_wp2_with fail
        go_meet
        case rel => exact ⟨rfl, rfl⟩
      · simp at hatv
        subst hatv
        go_wp2_with fail
        go_meet
        case rel => exact ⟨rfl, rfl⟩
    case rest =>
      obtain ⟨rfl, rfl⟩ := hcut
      clear hatv hz0
      generalize wc = w4 at *
      obtain ⟨oB, cB, e0, hcB, hcB2⟩ := HO4.out.row.shape
      have HBS := Lib.hid (show ({ s with xs := zs, ys := [] } : OS).base = s.base from rfl)
      obtain ⟨base, hbase⟩ : ∃ base, s.base = base := ⟨_, rfl⟩
      have HBA := Lib.hid hbase
      obtain ⟨n0, hn0⟩ : ∃ n0, len - base = n0 := ⟨_, rfl⟩
      have hdl : (s.B.drop s.base).length = n0 := by rw [List.length_drop, HLE.out, hbase]; exact hn0
      rw [show ((({ s with xs := zs, ys := [] } : OS).B.drop ({ s with xs := zs, ys := [] } : OS).base)).length = n0 from hdl] at e0 hcB
      subst e0
      rw [hbase] at hat1
      obtain ⟨l, hl, hl2⟩ : ∃ l : Nat, (at_ : Int) - (base : Int) = (l : Int) ∧ at_ - base = l := ⟨at_ - base, by omega, rfl⟩
      have hln0 : l ≤ n0 := by omega
      have hwl : IntKind.u64.wrap (l : Int) = l := IntWalk.u64_in _ (by omega)
      have HBK4 := Lib.hid (show w4.drew.heap[b]? = some (.cells #[.slice oB n0 cB, .int .u64 base, .int .u64 s.B.length, .int .u64 s.sent, .pointer (some ⟨c, 0, none⟩), .pointer (some ⟨d, 0, none⟩), .bool s.fi, .bool s.es, .bool s.ea, .bool s.el] 51 (0, 0)) from by
        rw [← hbase]
        exact HO4.out.blk)
      have HRT := Lib.hid (show ∃ og', SlO encB 1 5 w4.drew (tailV oB 1 n0 cB l) og' (s.B.drop at_) ∧ (og' = ob ∨ og' = none) from by
        obtain ⟨og', h1, h2⟩ := SlO.tail (HO4.out.row.below (Below.refl _ _).drew) hln0
        refine ⟨og', ?_, h2⟩
        have e : (s.B.drop s.base).drop l = s.B.drop at_ := by rw [List.drop_drop, hbase, show base + l = at_ by omega]
        rw [← e]
        exact h1)
      have HFIN := Lib.hid (show OM w ((w4.drew.setCell ⟨b, 0, none⟩ (tailV oB 1 n0 cB l)).setCell ⟨b, 1, none⟩ (.int .u64 (at_ : Nat))) fp b (s.acks zs at_) from by
        obtain ⟨og', h1, h2⟩ := HRT.out
        have ho := HO4.out.ok
        refine om_set (s' := s.acks zs at_) (HO4.out.below (Below.refl _ _).drew) (HW4.out.later (Below.refl _ _).drew) (Upd.refl _ _) (((Upd.refl (fun j => j = b) w4.drew).setCell ⟨b, 0, none⟩ (.inl rfl) _).setCell ⟨b, 1, none⟩ (.inl rfl) _) (set_at (set_at HBK4.out 0 (tailV oB 1 n0 cB l)) 1 (.int .u64 (at_ : Nat))) h1 (h2.imp id .inl) rfl ?_ ⟨ho.len, by show at_ ≤ s.B.length; rw [HLE.out]; exact hat2, ho.sent, ho.nx, ?_, ho.lx, ?_, ho.bys⟩
        · exact HY.out
        · show Norm s.ys
          rw [HY.out]
          exact ⟨by simp, by simp⟩
        · show s.ys.length ≤ 100000
          rw [HY.out]
          simp)
      obtain ⟨oT, hT⟩ : ∃ oT, tailV oB 1 n0 cB l = .slice oT (n0 - l) (cB - l) := ⟨_, rfl⟩
      rw [hT] at HFIN
      have HTT := Lib.hid hT
      have e1 : w4.cell? ⟨b, 1, none⟩ = some (.int .u64 base) := (cell_at (show w4.heap[b]? = _ from HBK4.out) 1).trans rfl
      have q1 : w4.frozen? ⟨b, 1, none⟩ = false := free_at (show w4.heap[b]? = _ from HBK4.out) 1
      clear hdl hn0 hl2 hat1 hat2 hbase hT HRT
      go_wp2_with fail
      refine wp_region_till (S := fun w' => w'.cell? ⟨b, 0, none⟩ = some (.slice oB n0 cB) ∧ w'.cell? ⟨b, 1, none⟩ = some (.int .u64 base)) [14] (by kernel_rfl) (by exact ⟨(cell_at HBK4.out 0).trans rfl, (cell_at HBK4.out 1).trans rfl⟩) (fun hHeld => ?_)
      refine wpTill_take0 (i := 0) (oi := ⟨some 63, _, _, _, _, _⟩) (v := ?_) rfl (by kernel_rfl) (fun _ _ _ h => h) (Or.inl ⟨by rfl, ?_⟩) (fun _ => hHeld) ?_
      rotate_left
      · intro w hSw
        (try dsimp only at hSw)
        go_simp
        try with_reducible rfl
      try simp only [Act.put, List.setIfInBounds_toArray, List.set_cons_zero, List.set_cons_succ]
      refine wpTill_take0 (i := 1) (oi := ⟨some 64, _, _, _, _, _⟩) (v := ?_) rfl (by kernel_rfl) (fun _ _ _ h => h) (Or.inl ⟨by rfl, ?_⟩) (fun _ => hHeld) ?_
      rotate_left
      · intro w hSw
        (try dsimp only at hSw)
        go_simp
        try with_reducible rfl
      try simp only [Act.put, List.setIfInBounds_toArray, List.set_cons_zero, List.set_cons_succ]
      refine wpTill_take0 (i := 2) (oi := ⟨some 65, _, _, _, _, _⟩) (v := ?_) rfl (by kernel_rfl) (fun _ _ _ h => h) (Or.inl ⟨by rfl, ?_⟩) (fun _ => hHeld) ?_
      rotate_left
      · intro w hSw
        (try dsimp only at hSw)
        go_simp
        try with_reducible rfl
      try simp only [Act.put, List.setIfInBounds_toArray, List.set_cons_zero, List.set_cons_succ]
      refine wpTill_take0 (i := 3) (oi := ⟨some 66, _, _, _, _, _⟩) (v := ?_) rfl (by kernel_rfl) (fun _ _ _ h => h) (Or.inl ⟨by rfl, ?_⟩) (fun _ => hHeld) ?_
      rotate_left
      · intro w hSw
        (try dsimp only at hSw)
        go_simp
        try with_reducible rfl
      try simp only [Act.put, List.setIfInBounds_toArray, List.set_cons_zero, List.set_cons_succ]
      refine wpTill_take (i := 4) (oi := ⟨some 67, _, _, _, _, _⟩) (v := ?_) rfl (by kernel_rfl) (fun _ _ _ h => h) (Or.inl ⟨by rfl, ?_⟩) (by exact hHeld) ?_
      rotate_left
      · intro w hSw
        (try dsimp only at hSw)
        go_simp
        try with_reducible rfl
      try simp only [Act.put, List.setIfInBounds_toArray, List.set_cons_zero, List.set_cons_succ]
      refine wpTill_take0 (i := 5) (oi := ⟨some 68, _, _, _, _, _⟩) (v := ?_) rfl (by kernel_rfl) (fun _ _ _ h => h) (Or.inl ⟨by rfl, ?_⟩) (fun _ => hHeld) ?_
      rotate_left
      · intro w hSw
        (try dsimp only at hSw)
        go_simp
        try with_reducible rfl
      try simp only [Act.put, List.setIfInBounds_toArray, List.set_cons_zero, List.set_cons_succ]
      refine wpTill_take0 (i := 6) (oi := ⟨some 69, _, _, _, _, _⟩) (v := ?_) rfl (by kernel_rfl) (fun _ _ _ h => h) (Or.inl ⟨by rfl, ?_⟩) (fun _ => hHeld) ?_
      rotate_left
      · intro w hSw
        (try dsimp only at hSw)
        go_simp
        try with_reducible rfl
      try simp only [Act.put, List.setIfInBounds_toArray, List.set_cons_zero, List.set_cons_succ]
      refine wpTill_take0 (i := 7) (oi := ⟨some 70, _, _, _, _, _⟩) (v := ?_) rfl (by kernel_rfl) (fun _ _ _ h => h) (Or.inl ⟨by rfl, ?_⟩) (fun _ => hHeld) ?_
      rotate_left
      · intro w hSw
        (try dsimp only at hSw)
        go_simp
        try with_reducible rfl
      try simp only [Act.put, List.setIfInBounds_toArray, List.set_cons_zero, List.set_cons_succ]
      refine wpTill_take0 (i := 8) (oi := ⟨some 71, _, _, _, _, _⟩) (v := ?_) rfl (by kernel_rfl) (fun _ _ _ h => h) (Or.inl ⟨by rfl, ?_⟩) (fun _ => hHeld) ?_
      rotate_left
      · intro w hSw
        (try dsimp only at hSw)
        go_simp
        try with_reducible rfl
      try simp only [Act.put, List.setIfInBounds_toArray, List.set_cons_zero, List.set_cons_succ]
      refine wpTill_take (i := 9) (oi := ⟨some 72, _, _, _, _, _⟩) (v := ?_) rfl (by kernel_rfl) (fun _ _ _ h => h) (Or.inl ⟨by rfl, ?_⟩) (by exact hHeld) ?_
      rotate_left
      · intro w hSw
        (try dsimp only at hSw)
        go_simp
        try with_reducible rfl
      try simp only [Act.put, List.setIfInBounds_toArray, List.set_cons_zero, List.set_cons_succ]
      refine wpTill_take0 (i := 10) (oi := ⟨some 73, _, _, _, _, _⟩) (v := ?_) rfl (by kernel_rfl) (fun _ _ _ h => h) (Or.inl ⟨by rfl, ?_⟩) (fun _ => hHeld) ?_
      rotate_left
      · intro w hSw
        (try dsimp only at hSw)
        go_simp
        try with_reducible rfl
      try simp only [Act.put, List.setIfInBounds_toArray, List.set_cons_zero, List.set_cons_succ]
      refine wpTill_take0 (i := 11) (oi := ⟨some 74, _, _, _, _, _⟩) (v := .slice oT (n0 - l) (cB - l)) rfl (by kernel_rfl) (fun _ _ _ h => h) (Or.inl ⟨by rfl, ?_⟩) (fun _ => hHeld) ?_
      · intro w hSw
        refine Eq.trans (exec_tailK Try.underlying28 hi0 rfl rfl rfl hln0 hcB) ?_
        rw [hz1, HTT.out]
      try simp only [Act.put, List.setIfInBounds_toArray, List.set_cons_zero, List.set_cons_succ]
      refine wpTill_take0 (i := 12) (oi := ⟨some 75, _, _, _, _, _⟩) (v := ?_) rfl (by kernel_rfl) (fun _ _ _ h => h) (Or.inl ⟨by rfl, ?_⟩) (fun _ => hHeld) ?_
      rotate_left
      · intro w hSw
        (try dsimp only at hSw)
        go_simp
        try with_reducible rfl
      try simp only [Act.put, List.setIfInBounds_toArray, List.set_cons_zero, List.set_cons_succ]
      refine wpTill_take0 (i := 13) (oi := ⟨some 76, _, _, _, _, _⟩) (v := ?_) rfl (by kernel_rfl) (fun _ _ _ h => h) (Or.inl ⟨by rfl, ?_⟩) (fun _ => hHeld) ?_
      rotate_left
      · intro w hSw
        (try dsimp only at hSw)
        go_simp
        try with_reducible rfl
      try simp only [Act.put, List.setIfInBounds_toArray, List.set_cons_zero, List.set_cons_succ]
      refine wpTill_ready (rs := [14]) (by kernel_rfl) (by simp) ?_
      refine AllTill.consD (o := ⟨none, _, _, _, _, _⟩) rfl (by kernel_rfl) (fun K hK => ?_) AllTill.nil
      have e0 := cell_at HBK4.out 0
      have q0 := free_at HBK4.out 0
      go_simp
      refine hK.out _ _ ?_
      clear hK K
      try simp only [Act.put, List.setIfInBounds_toArray, List.set_cons_zero, List.set_cons_succ]
      refine wpTill_done (by kernel_rfl) ?_ _
      go_wp2_with fail
      go_end0
      exact ⟨rfl, HFIN.out⟩
end Go.Proofs.Ytkebjfaphmamjaa
