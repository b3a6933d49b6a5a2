/- DERIVED. Walk of outbuf's Acked, where nothing is lost. -/
import Derived.Test.YtncfbaabhceeoaaQK8
set_option linter.all false
namespace Go.Proofs.Ytncfbaabhceeoaa
open Go.RowKit

theorem exec_tailK {P : Program} {o : Oper} {w : World} {t e : TypeId} (hu : P.underlying t = some (.slice e)) {i : TypeInfo} (hi : P.info? e = some i) {f : Operand → Value} {x l : Operand} (ho : o.op = .slice t x (some l) none none) {oa : Option Addr} {len cap n : Nat} {kn : IntKind}
    (hx : f x = .slice oa len cap) (hl : f l = .int kn n) (h1 : n ≤ len) (h2 : len ≤ cap) : (execOp f o).run P w = .ok (.value (tailV oa i.size len cap n)) w := by
  simp [execOp, ho, hx, hl, Instr.sliceAt, Instr.slice, run_underlying hu, Instr.sliceBounds, Instr.sliceBound, sizeOf, typeInfo, asIntOf, hi, h1, h2, tailV]
/-- Acknowledged: what becomes of it. -/
def OS.acks (s : OS) (zs : List Rg) (at_ : Nat) : OS := { s with xs := zs, base := at_ }
set_option maxRecDepth 100000 in
set_option maxHeartbeats 2000000 in
theorem oack_any (b : Nat) (s : OS) (fp : Nat → Prop) (off : Nat) (n : Int) (zs : List Rg) (at_ : Nat) (w : World) (h : OAt w b s fp) (ho : off < 18446744073709551616) (hn : -9223372036854775808 ≤ n) (hn2 : n ≤ 9223372036854775807) (hys : s.ys = [])
    (hzs : s.ackX (s.kn off n) = zs) (hnz : Norm zs) (hlz : zs.length ≤ 100000) (hat : atOf zs s.B.length = at_) (hat1 : s.base ≤ at_) (hat2 : at_ ≤ s.B.length) :
    Calls Try.prog 44 #[.pointer (some ⟨b, 0, none⟩), .int .u64 off, .int .i64 n, .bool false] w fun e w' => e = .returned (.tuple #[]) ∧ OM w w' fp b (s.acks zs at_) := by
  obtain ⟨i0, hi0, hz0, hz1, hz2'⟩ := info_parts infoB
  have hlen := h.ok.len
  have hsl := h.ok.sent
  obtain ⟨from_, to_, hkn⟩ : ∃ f t, s.kn off n = (f, t) := ⟨_, _, rfl⟩
  have hto : to_ ≤ s.B.length ∧ from_ ≤ s.B.length := by
    unfold OS.kn at hkn
    simp only [Prod.mk.injEq] at hkn
    omega
  have H := Lib.hid h
  have HY := Lib.hid hys
  have HKN := Lib.hid hkn
  have HZS := Lib.hid (show (if from_ < to_ ∧ to_ ≤ 4611686018427387904 then addL many s.xs from_ to_ else s.xs) = zs by
    rw [← hzs, hkn]
    unfold OS.ackX
    by_cases q : from_ < to_
    · rw [if_pos ⟨q, by omega⟩, if_pos q]
    · rw [if_neg (fun q2 => q q2.1), if_neg q])
  have HNZ := Lib.hid (And.intro hnz hlz)
  have HAT := Lib.hid (And.intro hat (And.intro hat1 hat2))
  clear h hys hkn hzs hnz hlz hat hat1 hat2
  obtain ⟨hto1, hto2⟩ := hto
  go_enter Try.func44, Try.ntmps44
  go_wp2_with fail
  refine (oknown_q b s fp off n _ (by exact H.out) ho hn hn2).mono ?_
  rw [HKN.out]
  rintro e w1 ⟨rfl, q, rfl⟩
  have H1 := Lib.hid ((OM.refl H.out).drewN q)
  generalize w.drewN q = w1 at *
  obtain ⟨fp1, hoa, hw1⟩ := H1.out
  obtain ⟨vb, ob, c, oc, d, od, hO, hfp⟩ := hoa
  rw [hfp] at hw1
  have HO := Lib.hid hO
  have HW := Lib.hid hw1
  have c4 : w1.cell? ⟨b, 4, none⟩ = some (.pointer (some ⟨c, 0, none⟩)) := (cell_at hO.blk 4).trans rfl
  clear hO hfp hw1 H1
  go_wp2_with fail
  refine (add_any c many oc s.xs from_ to_ _ (by exact HO.out.sx) (by decide) (by decide) (by have := HO.out.ok.lx; omega)).mono ?_
  rw [HZS.out]
  rintro e w2 ⟨rfl, ht⟩
  have H2 := Lib.hid (om_turnC HO.out HW.out ht HNZ.out.1 HNZ.out.2)
  clear ht HO HW c4
  obtain ⟨fp2, hoa, hw2⟩ := H2.out
  obtain ⟨vb, ob, c, oc, d, od, hO, hfp⟩ := hoa
  rw [hfp] at hw2
  have HO := Lib.hid hO
  have HW := Lib.hid hw2
  have c5 : w2.cell? ⟨b, 5, none⟩ = some (.pointer (some ⟨d, 0, none⟩)) := (cell_at hO.blk 5).trans rfl
  clear hO hfp hw2 H2
  go_wp2_with fail
  refine (cut_any d many od s.ys from_ to_ _ (by exact HO.out.sy) (by decide) (by decide) (by omega) (by omega) HO.out.ok.ny (by rw [HY.out]; simp)).mono ?_
  rw [HY.out]
  rintro e w3 ⟨rfl, ht⟩
  have hm3 := om_turnD HO.out HW.out ht (show Norm (trimL many (cutRaw from_ to_ [])) from ⟨by simp [trimL, cutRaw], by simp [trimL, cutRaw]⟩) (by simp [trimL, cutRaw])
  rw [show trimL many (cutRaw from_ to_ []) = [] by simp [trimL, cutRaw]] at hm3
  have H3 := Lib.hid hm3
  clear ht HO HW c5 hm3
  obtain ⟨fp3, hoa, hw3⟩ := H3.out
  obtain ⟨vb, ob, c, oc, d, od, hO, hfp⟩ := hoa
  rw [hfp] at hw3
  have HO := Lib.hid hO
  have HW := Lib.hid hw3
  clear hO hfp hw3 H3
  obtain ⟨len, hln⟩ : ∃ len, s.B.length = len := ⟨_, rfl⟩
  have HLE := Lib.hid hln
  rw [hln] at hlen hsl hto1 hto2 HAT
  obtain ⟨lo, hi, ok, hga⟩ : ∃ lo hi ok, gapL zs 0 len = ((lo, hi), ok) := ⟨_, _, _, rfl⟩
  have HGA := Lib.hid hga
  have e2 : w3.cell? ⟨b, 2, none⟩ = some (.int .u64 len) := by rw [cell_at HO.out.blk, ← hln]; rfl
  have HSX := Lib.hid (show SetAt w3.drew c many oc zs from HO.out.sx.below (Below.refl _ _).drew)
  have HSof := Lib.hid (show ∀ W, Below w3.drew.heap.size w3.drew W → W.cell? ⟨b, 4, none⟩ = some (.pointer (some ⟨c, 0, none⟩)) ∧ W.cell? ⟨b, 2, none⟩ = some (.int .u64 len) from fun W h => by
    have hk := below_keeps h (show w3.drew.heap[b]? = _ from HO.out.blk) (heap_lt HO.out.blk)
    refine ⟨(cell_at hk 4).trans rfl, ?_⟩
    rw [cell_at hk, ← hln]
    rfl)
  have HNX := Lib.hid HNZ.out.1
  clear hln hga
  go_upto_region 6 with fail
  go_cut [11, 12] (fun v a wx => ∃ z, v = .pointer (some ⟨z, 0, none⟩) ∧ a = .bool ok ∧ wx.cell? ⟨z, 0, none⟩ = some (.int .u64 lo) ∧ Below w3.drew.heap.size w3.drew wx)
  case first =>
    go_wp2_with fail
    have hb : Below w3.drew.heap.size w3.drew w3.drew := Below.refl _ _
    refine wp_region_till (S := fun w' => w'.cell? ⟨b, 4, none⟩ = some (.pointer (some ⟨c, 0, none⟩)) ∧ w'.cell? ⟨b, 2, none⟩ = some (.int .u64 len)) [] (by kernel_rfl) (by exact HSof.out _ hb) (fun hHeld => ?_)
    refine wpTill_take0 (i := 0) (oi := ⟨some 49, _, _, _, _, _⟩) (v := ?_) rfl (by kernel_rfl) (fun _ _ _ h => h) (Or.inl ⟨by rfl, ?_⟩) (fun _ => hHeld) ?_
    rotate_left
    · intro w hSw
      (try dsimp only at hSw)
      go_simp
      try with_reducible rfl
    try simp only [Act.put, List.setIfInBounds_toArray, List.set_cons_zero, List.set_cons_succ]
    refine wpTill_take0 (i := 1) (oi := ⟨some 50, _, _, _, _, _⟩) (v := ?_) rfl (by kernel_rfl) (fun _ _ _ h => h) (Or.inl ⟨by rfl, ?_⟩) (fun _ => hHeld) ?_
    rotate_left
    · intro w hSw
      (try dsimp only at hSw)
      go_simp
      try with_reducible rfl
    try simp only [Act.put, List.setIfInBounds_toArray, List.set_cons_zero, List.set_cons_succ]
    refine wpTill_take0 (i := 2) (oi := ⟨some 51, _, _, _, _, _⟩) (v := ?_) rfl (by kernel_rfl) (fun _ _ _ h => h) (Or.inl ⟨by rfl, ?_⟩) (fun _ => hHeld) ?_
    rotate_left
    · intro w hSw
      (try dsimp only at hSw)
      go_simp
      try with_reducible rfl
    try simp only [Act.put, List.setIfInBounds_toArray, List.set_cons_zero, List.set_cons_succ]
    refine wpTill_take (i := 3) (oi := ⟨some 52, _, _, _, _, _⟩) (v := ?_) rfl (by kernel_rfl) (fun _ _ _ h => h) (Or.inl ⟨by rfl, ?_⟩) (by exact hHeld) ?_
    rotate_left
    · intro w hSw
      (try dsimp only at hSw)
      go_simp
      try with_reducible rfl
    try simp only [Act.put, List.setIfInBounds_toArray, List.set_cons_zero, List.set_cons_succ]
    refine wpTill_take0 (i := 4) (oi := ⟨some 53, _, _, _, _, _⟩) (v := ?_) rfl (by kernel_rfl) (fun _ _ _ h => h) (Or.inl ⟨by rfl, ?_⟩) (fun _ => hHeld) ?_
    rotate_left
    · intro w hSw
      (try dsimp only at hSw)
      go_simp
      try with_reducible rfl
    try simp only [Act.put, List.setIfInBounds_toArray, List.set_cons_zero, List.set_cons_succ]
    refine wpTill_take0 (i := 5) (oi := ⟨some 54, _, _, _, _, _⟩) (v := ?_) rfl (by kernel_rfl) (fun _ _ _ h => h) (Or.inl ⟨by rfl, ?_⟩) (fun _ => hHeld) ?_
    rotate_left
    · intro w hSw
      (try dsimp only at hSw)
      go_simp
      try with_reducible rfl
    try simp only [Act.put, List.setIfInBounds_toArray, List.set_cons_zero, List.set_cons_succ]
    refine wpTill_take0 (i := 6) (oi := ⟨some 55, _, _, _, _, _⟩) (v := ?_) rfl (by kernel_rfl) (fun _ _ _ h => h) (Or.inl ⟨by rfl, ?_⟩) (fun _ => hHeld) ?_
    rotate_left
    · intro w hSw
      (try dsimp only at hSw)
      go_simp
      try with_reducible rfl
    try simp only [Act.put, List.setIfInBounds_toArray, List.set_cons_zero, List.set_cons_succ]
    refine wpTill_take (i := 7) (oi := ⟨some 56, _, _, _, _, _⟩) (v := ?_) rfl (by kernel_rfl) (fun _ _ _ h => h) (Or.inl ⟨by rfl, ?_⟩) (by exact hHeld) ?_
    rotate_left
    · intro w hSw
      (try dsimp only at hSw)
      go_simp
      try with_reducible rfl
    try simp only [Act.put, List.setIfInBounds_toArray, List.set_cons_zero, List.set_cons_succ]
    refine wpTill_ready (rs := [8, 12]) (by kernel_rfl) (by simp) ?_
    refine AllTill.cons (o := ⟨some 57, _, _, _, _, _⟩) rfl (fun K hK => ?_) ?_
    · go_simp
      go_at_call 66
      refine (gap_any c many oc zs 0 len _ (by exact HSX.out.below hb) (by omega) (by omega) HNX.out).mono ?_
      rw [HGA.out]
      rintro e W8 ⟨rfl, hx8⟩
      have hb := below_call hb hb.size hx8
      go_wp2_with fail
      refine hK.out _ _ (by exact HSof.out _ hb) (fun hHeld => ?_)
      clear hK K
      try simp only [Act.put, List.setIfInBounds_toArray, List.set_cons_zero, List.set_cons_succ]
      refine wpTill_take0 (i := 9) (oi := ⟨some 48, _, _, _, _, _⟩) (v := ?_) rfl (by kernel_rfl) (fun _ _ _ h => h) (Or.inl ⟨by rfl, ?_⟩) (fun _ => hHeld) ?_
      rotate_left
      · intro w hSw
        (try dsimp only at hSw)
        go_simp
        try with_reducible rfl
      try simp only [Act.put, List.setIfInBounds_toArray, List.set_cons_zero, List.set_cons_succ]
      refine wpTill_take0 (i := 10) (oi := ⟨some 58, _, _, _, _, _⟩) (v := ?_) rfl (by kernel_rfl) (fun _ _ _ h => h) (Or.inl ⟨by rfl, ?_⟩) (fun _ => hHeld) ?_
      rotate_left
      · intro w hSw
        (try dsimp only at hSw)
        go_simp
        try with_reducible rfl
      try simp only [Act.put, List.setIfInBounds_toArray, List.set_cons_zero, List.set_cons_succ]
      refine wpTill_take0 (i := 11) (oi := ⟨some 59, _, _, _, _, _⟩) (v := ?_) rfl (by kernel_rfl) (fun _ _ _ h => h) (Or.inl ⟨by rfl, ?_⟩) (fun _ => hHeld) ?_
      rotate_left
      · intro w hSw
        (try dsimp only at hSw)
        go_simp
        try with_reducible rfl
      try simp only [Act.put, List.setIfInBounds_toArray, List.set_cons_zero, List.set_cons_succ]
      refine wpTill_ready (rs := [12]) (by kernel_rfl) (by simp) ?_
      refine AllTill.cons (o := ⟨some 11, _, _, _, _, _⟩) rfl (fun K hK => ?_) AllTill.nil
      go_simp
      have hb8 := hb
      have hb := hb.alloc hb.size (.cells #[.int .u64 0, .int .u64 0] 92)
      refine hK.out _ _ (by exact HSof.out _ hb) (fun hHeld => ?_)
      clear hK K
      try simp only [Act.put, List.setIfInBounds_toArray, List.set_cons_zero, List.set_cons_succ]
      refine wpTill_ready (rs := [13]) (by kernel_rfl) (by simp) ?_
      refine AllTill.cons (o := ⟨none, _, _, _, _, _⟩) rfl (fun K hK => ?_) AllTill.nil
      go_simp
      have hb := hb8.alloc hb8.size (.cells #[.int .u64 lo, .int .u64 hi] 92)
      have hzz := alloc_at W8 (.cells #[.int .u64 lo, .int .u64 hi] 92)
      refine hK.out _ _ (by exact HSof.out _ hb) (fun hHeld => ?_)
      clear hK K
      try simp only [Act.put, List.setIfInBounds_toArray, List.set_cons_zero, List.set_cons_succ]
      refine wpTill_ready (rs := [14]) (by kernel_rfl) (by simp) ?_
      refine AllTill.cons (o := ⟨some 12, _, _, _, _, _⟩) rfl (fun K hK => ?_) AllTill.nil
      go_simp
      refine hK.out _ _ (by exact HSof.out _ hb) (fun hHeld => ?_)
      clear hK K
      try simp only [Act.put, List.setIfInBounds_toArray, List.set_cons_zero, List.set_cons_succ]
      refine wpTill_done (by kernel_rfl) ?_ _
      go_wp2_with fail
      go_meet
      case rel => exact ⟨_, rfl, rfl, (cell_at hzz 0).trans rfl, hb⟩
    refine AllTill.cons (o := ⟨some 11, _, _, _, _, _⟩) rfl (fun K hK => ?_) ?_
    · go_simp
      have hzz : (w3.drew.alloc (.cells #[.int .u64 0, .int .u64 0] 92)).heap[w3.heap.size]? = some (.cells #[.int .u64 0, .int .u64 0] 92 (0, 0)) := alloc_at w3.drew _
      have hz12 : w3.drew.heap.size ≤ w3.heap.size := Nat.le_refl _
      have hb := hb.alloc hb.size (.cells #[.int .u64 0, .int .u64 0] 92)
      refine hK.out _ _ (by exact HSof.out _ hb) (fun hHeld => ?_)
      clear hK K
      try simp only [Act.put, List.setIfInBounds_toArray, List.set_cons_zero, List.set_cons_succ]
      refine wpTill_ready (rs := [8]) (by kernel_rfl) (by simp) ?_
      refine AllTill.cons (o := ⟨some 57, _, _, _, _, _⟩) rfl (fun K hK => ?_) AllTill.nil
      go_simp
      go_at_call 66
      refine (gap_any c many oc zs 0 len _ (by exact HSX.out.below hb) (by omega) (by omega) HNX.out).mono ?_
      rw [HGA.out]
      rintro e W8 ⟨rfl, hx8⟩
      have hb := below_call hb hb.size hx8
      have hzz := below_keeps hx8 hzz (heap_lt hzz)
      go_wp2_with fail
      refine hK.out _ _ (by exact HSof.out _ hb) (fun hHeld => ?_)
      clear hK K
      try simp only [Act.put, List.setIfInBounds_toArray, List.set_cons_zero, List.set_cons_succ]
      refine wpTill_take0 (i := 9) (oi := ⟨some 48, _, _, _, _, _⟩) (v := ?_) rfl (by kernel_rfl) (fun _ _ _ h => h) (Or.inl ⟨by rfl, ?_⟩) (fun _ => hHeld) ?_
      rotate_left
      · intro w hSw
        (try dsimp only at hSw)
        go_simp
        try with_reducible rfl
      try simp only [Act.put, List.setIfInBounds_toArray, List.set_cons_zero, List.set_cons_succ]
      refine wpTill_take0 (i := 10) (oi := ⟨some 58, _, _, _, _, _⟩) (v := ?_) rfl (by kernel_rfl) (fun _ _ _ h => h) (Or.inl ⟨by rfl, ?_⟩) (fun _ => hHeld) ?_
      rotate_left
      · intro w hSw
        (try dsimp only at hSw)
        go_simp
        try with_reducible rfl
      try simp only [Act.put, List.setIfInBounds_toArray, List.set_cons_zero, List.set_cons_succ]
      refine wpTill_take0 (i := 11) (oi := ⟨some 59, _, _, _, _, _⟩) (v := ?_) rfl (by kernel_rfl) (fun _ _ _ h => h) (Or.inl ⟨by rfl, ?_⟩) (fun _ => hHeld) ?_
      rotate_left
      · intro w hSw
        (try dsimp only at hSw)
        go_simp
        try with_reducible rfl
      try simp only [Act.put, List.setIfInBounds_toArray, List.set_cons_zero, List.set_cons_succ]
      refine wpTill_ready (rs := [13]) (by kernel_rfl) (by simp) ?_
      refine AllTill.cons (o := ⟨none, _, _, _, _, _⟩) rfl (fun K hK => ?_) AllTill.nil
      have z0 := cell_at hzz 0
      have z1 := cell_at hzz 1
      have y0 := free_at hzz 0
      have y1 := free_at hzz 1
      go_simp
      have hb := (hb.setCell (p := ⟨w3.heap.size, 0, none⟩) hz12 (.int .u64 lo)).setCell (p := ⟨w3.heap.size, 1, none⟩) hz12 (.int .u64 hi)
      have hzz := set_at (set_at hzz 0 (.int .u64 lo)) 1 (.int .u64 hi)
      refine hK.out _ _ (by exact HSof.out _ hb) (fun hHeld => ?_)
      clear hK K
      try simp only [Act.put, List.setIfInBounds_toArray, List.set_cons_zero, List.set_cons_succ]
      refine wpTill_ready (rs := [14]) (by kernel_rfl) (by simp) ?_
      refine AllTill.cons (o := ⟨some 12, _, _, _, _, _⟩) rfl (fun K hK => ?_) AllTill.nil
      go_simp
      refine hK.out _ _ (by exact HSof.out _ hb) (fun hHeld => ?_)
      clear hK K
      try simp only [Act.put, List.setIfInBounds_toArray, List.set_cons_zero, List.set_cons_succ]
      refine wpTill_done (by kernel_rfl) ?_ _
      go_wp2_with fail
      go_meet
      case rel => exact ⟨_, rfl, rfl, (cell_at hzz 0).trans rfl, hb⟩
    exact AllTill.nil
  case rest =>
    obtain ⟨z, rfl, rfl, hz0, hb4⟩ := hcut
    generalize wc = w4 at *
    have hb34 : Below w3.heap.size w3 w4 := below_call (Below.refl _ _).drew (Nat.le_refl _) hb4
    have HO4 := Lib.hid (HO.out.below hb34)
    have HW4 := Lib.hid (HW.out.later hb34)
    have hatv : (if ok then lo else len) = at_ := by
      have := HAT.out.1
      unfold atOf at this
      rw [HGA.out] at this
      exact this
    obtain ⟨_, hat1, hat2⟩ := HAT.out
    clear hb4 hb34 HSof HSX HO HW e2
    go_upto_if 60 with fail
    go_cut [10] (fun v wx => v = .int .u64 at_ ∧ wx = w4)
    case first =>
      cases ok
      · simp at hatv
        subst hatv
        go_wp2_with fail
        go_meet
        case rel => exact ⟨rfl, rfl⟩
      · simp at hatv
        subst hatv
        go_wp2_with fail
        go_meet
        case rel => exact ⟨rfl, rfl⟩
    case rest =>
      obtain ⟨rfl, rfl⟩ := hcut
      clear hatv hz0
      generalize wc = w4 at *
      obtain ⟨oB, cB, e0, hcB, hcB2⟩ := HO4.out.row.shape
      have HBS := Lib.hid (show ({ s with xs := zs, ys := [] } : OS).base = s.base from rfl)
      obtain ⟨base, hbase⟩ : ∃ base, s.base = base := ⟨_, rfl⟩
      have HBA := Lib.hid hbase
      obtain ⟨n0, hn0⟩ : ∃ n0, len - base = n0 := ⟨_, rfl⟩
      have hdl : (s.B.drop s.base).length = n0 := by rw [List.length_drop, HLE.out, hbase]; exact hn0
      rw [show ((({ s with xs := zs, ys := [] } : OS).B.drop ({ s with xs := zs, ys := [] } : OS).base)).length = n0 from hdl] at e0 hcB
      subst e0
      rw [hbase] at hat1
      obtain ⟨l, hl, hl2⟩ : ∃ l : Nat, (at_ : Int) - (base : Int) = (l : Int) ∧ at_ - base = l := ⟨at_ - base, by omega, rfl⟩
      have hln0 : l ≤ n0 := by omega
      have hwl : IntKind.u64.wrap (l : Int) = l := IntWalk.u64_in _ (by omega)
      have HBK4 := Lib.hid (show w4.drew.heap[b]? = some (.cells #[.slice oB n0 cB, .int .u64 base, .int .u64 s.B.length, .int .u64 s.sent, .pointer (some ⟨c, 0, none⟩), .pointer (some ⟨d, 0, none⟩), .bool s.fi, .bool s.es, .bool s.ea, .bool s.el] 107 (0, 0)) from by
        rw [← hbase]
        exact HO4.out.blk)
      have HRT := Lib.hid (show ∃ og', SlO encB 1 5 w4.drew (tailV oB 1 n0 cB l) og' (s.B.drop at_) ∧ (og' = ob ∨ og' = none) from by
        obtain ⟨og', h1, h2⟩ := SlO.tail (HO4.out.row.below (Below.refl _ _).drew) hln0
        refine ⟨og', ?_, h2⟩
        have e : (s.B.drop s.base).drop l = s.B.drop at_ := by rw [List.drop_drop, hbase, show base + l = at_ by omega]
        rw [← e]
        exact h1)
      have HFIN := Lib.hid (show OM w ((w4.drew.setCell ⟨b, 0, none⟩ (tailV oB 1 n0 cB l)).setCell ⟨b, 1, none⟩ (.int .u64 (at_ : Nat))) fp b (s.acks zs at_) from by
        obtain ⟨og', h1, h2⟩ := HRT.out
        have ho := HO4.out.ok
        refine om_set (s' := s.acks zs at_) (HO4.out.below (Below.refl _ _).drew) (HW4.out.later (Below.refl _ _).drew) (Upd.refl _ _) (((Upd.refl (fun j => j = b) w4.drew).setCell ⟨b, 0, none⟩ (.inl rfl) _).setCell ⟨b, 1, none⟩ (.inl rfl) _) (set_at (set_at HBK4.out 0 (tailV oB 1 n0 cB l)) 1 (.int .u64 (at_ : Nat))) h1 (h2.imp id .inl) rfl ?_ ⟨ho.len, by show at_ ≤ s.B.length; rw [HLE.out]; exact hat2, ho.sent, ho.nx, ?_, ho.lx, ?_, ho.bys⟩
        · exact HY.out
        · show Norm s.ys
          rw [HY.out]
          exact ⟨by simp, by simp⟩
        · show s.ys.length ≤ 100000
          rw [HY.out]
          simp)
      obtain ⟨oT, hT⟩ : ∃ oT, tailV oB 1 n0 cB l = .slice oT (n0 - l) (cB - l) := ⟨_, rfl⟩
      rw [hT] at HFIN
      have HTT := Lib.hid hT
      have e1 : w4.cell? ⟨b, 1, none⟩ = some (.int .u64 base) := (cell_at (show w4.heap[b]? = _ from HBK4.out) 1).trans rfl
      have q1 : w4.frozen? ⟨b, 1, none⟩ = false := free_at (show w4.heap[b]? = _ from HBK4.out) 1
      clear hdl hn0 hl2 hat1 hat2 hbase hT HRT
      go_wp2_with fail
      refine wp_region_till (S := fun w' => w'.cell? ⟨b, 0, none⟩ = some (.slice oB n0 cB) ∧ w'.cell? ⟨b, 1, none⟩ = some (.int .u64 base)) [14] (by kernel_rfl) (by exact ⟨(cell_at HBK4.out 0).trans rfl, (cell_at HBK4.out 1).trans rfl⟩) (fun hHeld => ?_)
      refine wpTill_take0 (i := 0) (oi := ⟨some 63, _, _, _, _, _⟩) (v := ?_) rfl (by kernel_rfl) (fun _ _ _ h => h) (Or.inl ⟨by rfl, ?_⟩) (fun _ => hHeld) ?_
      rotate_left
      · intro w hSw
        (try dsimp only at hSw)
        go_simp
        try with_reducible rfl
      try simp only [Act.put, List.setIfInBounds_toArray, List.set_cons_zero, List.set_cons_succ]
      refine wpTill_take0 (i := 1) (oi := ⟨some 64, _, _, _, _, _⟩) (v := ?_) rfl (by kernel_rfl) (fun _ _ _ h => h) (Or.inl ⟨by rfl, ?_⟩) (fun _ => hHeld) ?_
      rotate_left
      · intro w hSw
        (try dsimp only at hSw)
        go_simp
        try with_reducible rfl
      try simp only [Act.put, List.setIfInBounds_toArray, List.set_cons_zero, List.set_cons_succ]
      refine wpTill_take0 (i := 2) (oi := ⟨some 65, _, _, _, _, _⟩) (v := ?_) rfl (by kernel_rfl) (fun _ _ _ h => h) (Or.inl ⟨by rfl, ?_⟩) (fun _ => hHeld) ?_
      rotate_left
      · intro w hSw
        (try dsimp only at hSw)
        go_simp
        try with_reducible rfl
      try simp only [Act.put, List.setIfInBounds_toArray, List.set_cons_zero, List.set_cons_succ]
      refine wpTill_take0 (i := 3) (oi := ⟨some 66, _, _, _, _, _⟩) (v := ?_) rfl (by kernel_rfl) (fun _ _ _ h => h) (Or.inl ⟨by rfl, ?_⟩) (fun _ => hHeld) ?_
      rotate_left
      · intro w hSw
        (try dsimp only at hSw)
        go_simp
        try with_reducible rfl
      try simp only [Act.put, List.setIfInBounds_toArray, List.set_cons_zero, List.set_cons_succ]
      refine wpTill_take (i := 4) (oi := ⟨some 67, _, _, _, _, _⟩) (v := ?_) rfl (by kernel_rfl) (fun _ _ _ h => h) (Or.inl ⟨by rfl, ?_⟩) (by exact hHeld) ?_
      rotate_left
      · intro w hSw
        (try dsimp only at hSw)
        go_simp
        try with_reducible rfl
      try simp only [Act.put, List.setIfInBounds_toArray, List.set_cons_zero, List.set_cons_succ]
      refine wpTill_take0 (i := 5) (oi := ⟨some 68, _, _, _, _, _⟩) (v := ?_) rfl (by kernel_rfl) (fun _ _ _ h => h) (Or.inl ⟨by rfl, ?_⟩) (fun _ => hHeld) ?_
      rotate_left
      · intro w hSw
        (try dsimp only at hSw)
        go_simp
        try with_reducible rfl
      try simp only [Act.put, List.setIfInBounds_toArray, List.set_cons_zero, List.set_cons_succ]
      refine wpTill_take0 (i := 6) (oi := ⟨some 69, _, _, _, _, _⟩) (v := ?_) rfl (by kernel_rfl) (fun _ _ _ h => h) (Or.inl ⟨by rfl, ?_⟩) (fun _ => hHeld) ?_
      rotate_left
      · intro w hSw
        (try dsimp only at hSw)
        go_simp
        try with_reducible rfl
      try simp only [Act.put, List.setIfInBounds_toArray, List.set_cons_zero, List.set_cons_succ]
      refine wpTill_take0 (i := 7) (oi := ⟨some 70, _, _, _, _, _⟩) (v := ?_) rfl (by kernel_rfl) (fun _ _ _ h => h) (Or.inl ⟨by rfl, ?_⟩) (fun _ => hHeld) ?_
      rotate_left
      · intro w hSw
        (try dsimp only at hSw)
        go_simp
        try with_reducible rfl
      try simp only [Act.put, List.setIfInBounds_toArray, List.set_cons_zero, List.set_cons_succ]
      refine wpTill_take0 (i := 8) (oi := ⟨some 71, _, _, _, _, _⟩) (v := ?_) rfl (by kernel_rfl) (fun _ _ _ h => h) (Or.inl ⟨by rfl, ?_⟩) (fun _ => hHeld) ?_
      rotate_left
      · intro w hSw
        (try dsimp only at hSw)
        go_simp
        try with_reducible rfl
      try simp only [Act.put, List.setIfInBounds_toArray, List.set_cons_zero, List.set_cons_succ]
      refine wpTill_take (i := 9) (oi := ⟨some 72, _, _, _, _, _⟩) (v := ?_) rfl (by kernel_rfl) (fun _ _ _ h => h) (Or.inl ⟨by rfl, ?_⟩) (by exact hHeld) ?_
      rotate_left
      · intro w hSw
        (try dsimp only at hSw)
        go_simp
        try with_reducible rfl
      try simp only [Act.put, List.setIfInBounds_toArray, List.set_cons_zero, List.set_cons_succ]
      refine wpTill_take0 (i := 10) (oi := ⟨some 73, _, _, _, _, _⟩) (v := ?_) rfl (by kernel_rfl) (fun _ _ _ h => h) (Or.inl ⟨by rfl, ?_⟩) (fun _ => hHeld) ?_
      rotate_left
      · intro w hSw
        (try dsimp only at hSw)
        go_simp
        try with_reducible rfl
      try simp only [Act.put, List.setIfInBounds_toArray, List.set_cons_zero, List.set_cons_succ]
      refine wpTill_take0 (i := 11) (oi := ⟨some 74, _, _, _, _, _⟩) (v := .slice oT (n0 - l) (cB - l)) rfl (by kernel_rfl) (fun _ _ _ h => h) (Or.inl ⟨by rfl, ?_⟩) (fun _ => hHeld) ?_
      · intro w hSw
        refine Eq.trans (exec_tailK Try.underlying36 hi0 rfl rfl rfl hln0 hcB) ?_
        rw [hz1, HTT.out]
      try simp only [Act.put, List.setIfInBounds_toArray, List.set_cons_zero, List.set_cons_succ]
      refine wpTill_take0 (i := 12) (oi := ⟨some 75, _, _, _, _, _⟩) (v := ?_) rfl (by kernel_rfl) (fun _ _ _ h => h) (Or.inl ⟨by rfl, ?_⟩) (fun _ => hHeld) ?_
      rotate_left
      · intro w hSw
        (try dsimp only at hSw)
        go_simp
        try with_reducible rfl
      try simp only [Act.put, List.setIfInBounds_toArray, List.set_cons_zero, List.set_cons_succ]
      refine wpTill_take0 (i := 13) (oi := ⟨some 76, _, _, _, _, _⟩) (v := ?_) rfl (by kernel_rfl) (fun _ _ _ h => h) (Or.inl ⟨by rfl, ?_⟩) (fun _ => hHeld) ?_
      rotate_left
      · intro w hSw
        (try dsimp only at hSw)
        go_simp
        try with_reducible rfl
      try simp only [Act.put, List.setIfInBounds_toArray, List.set_cons_zero, List.set_cons_succ]
      refine wpTill_ready (rs := [14]) (by kernel_rfl) (by simp) ?_
      refine AllTill.consD (o := ⟨none, _, _, _, _, _⟩) rfl (by kernel_rfl) (fun K hK => ?_) AllTill.nil
      have e0 := cell_at HBK4.out 0
      have q0 := free_at HBK4.out 0
      go_simp
      refine hK.out _ _ ?_
      clear hK K
      try simp only [Act.put, List.setIfInBounds_toArray, List.set_cons_zero, List.set_cons_succ]
      refine wpTill_done (by kernel_rfl) ?_ _
      go_wp2_with fail
      go_end0
      exact ⟨rfl, HFIN.out⟩
end Go.Proofs.Ytncfbaabhceeoaa

/- DERIVED. Walks of outbuf: part where something is lost; Finish; Whole. -/
namespace Go.Proofs.Ytncfbaabhceeoaa
open Go.RowKit

set_option maxRecDepth 100000 in
set_option maxHeartbeats 1000000 in
theorem opart_cons (b : Nat) (s : OS) (fp : Nat → Prop) (limit : Nat) (r : Rg) (rest : List Rg) (w : World) (h : OAt w b s fp) (hys : s.ys = r :: rest) :
    Calls Try.prog 57 #[.pointer (some ⟨b, 0, none⟩), .int .u64 limit] w fun e w' => e = .returned (.tuple #[.int .u64 r.1, .int .u64 r.2]) ∧ Below w.heap.size w w' := by
  obtain ⟨vb, ob, c, oc, d, od, hO, hfp⟩ := h
  have c5 : w.cell? ⟨b, 5, none⟩ = some (.pointer (some ⟨d, 0, none⟩)) := (cell_at hO.blk 5).trans rfl
  have HO := Lib.hid hO
  have HY := Lib.hid hys
  clear hO hfp hys
  go_enter Try.func57, Try.ntmps57
  go_wp2_with fail
  refine (all_any d many od s.ys _ (by exact HO.out.sy) (by have := HO.out.ok.ly; omega)).mono ?_
  rw [HY.out]
  rintro e w1 ⟨v, og, rfl, hs, hnew, hb⟩
  obtain ⟨oa, cap, rfl, hc1, hc2⟩ := hs.shape
  have HB := Lib.hid hb
  obtain ⟨g, hg, rfl, hgl, q0, q1⟩ := hs.atS (i := 0) (r := r) rfl
  rw [Nat.zero_mul] at q0 q1
  have hln : 0 < (r :: rest).length := by simp
  clear hs hb hnew c5 hg
  generalize (r :: rest).length = ln at *
  have HB1 := Lib.hid (HB.out.alloc HB.out.size (.cells #[.int .u64 r.1, .int .u64 r.2] 92))
  go_wp2_with fail
  go_loopw [14] (fun i wr => i = .int .i64 0 ∧ wr = w1) (fun _ _ => 0)
  case atStart => exact ⟨rfl, rfl⟩
  case round =>
    obtain ⟨rfl, rfl⟩ := hrel
    go_wp2_with fail
    go_quiet (fail)
    go_wp2_with fail
    go_ret2
    exact ⟨rfl, below_drewN HB1.out _⟩
set_option maxRecDepth 100000 in
set_option maxHeartbeats 1000000 in
theorem ofinish_any (b : Nat) (s : OS) (fp : Nat → Prop) (w : World) (h : OAt w b s fp) :
    Calls Try.prog 37 #[.pointer (some ⟨b, 0, none⟩)] w fun e w' => e = .returned (.bool (!s.fi)) ∧ OM w w' fp b { s with fi := true } := by
  obtain ⟨vb, ob, c, oc, d, od, hO, hfp⟩ := h
  have c6 : w.cell? ⟨b, 6, none⟩ = some (.bool s.fi) := (cell_at hO.blk 6).trans rfl
  have f6 := free_at hO.blk 6
  have HM := Lib.hid (show OM w (w.setCell ⟨b, 6, none⟩ (.bool true)) fp b { s with fi := true } from by
    rw [hfp]
    exact om_set (s' := { s with fi := true }) hO (Went.refl _ _) (Upd.refl _ _) ((Upd.refl (fun j => j = b) w).setCell ⟨b, 6, none⟩ (.inl rfl) _) (set_at hO.blk 6 _) hO.row (.inl rfl) rfl rfl ⟨hO.ok.len, hO.ok.base, hO.ok.sent, hO.ok.nx, hO.ok.ny, hO.ok.lx, hO.ok.ly, hO.ok.bys⟩)
  clear hO hfp
  generalize s.fi = fi at c6 ⊢
  cases fi
  all_goals go_enter Try.func37, Try.ntmps37
  all_goals go_wp2_with fail
  all_goals go_ret
  all_goals exact ⟨rfl, HM.out⟩
set_option maxRecDepth 100000 in
set_option maxHeartbeats 1000000 in
theorem owhole_q (b : Nat) (s : OS) (fp : Nat → Prop) (w : World) (h : OAt w b s fp) :
    Calls Try.prog 45 #[.pointer (some ⟨b, 0, none⟩)] w fun e w' => e = .returned (.bool (s.fi && s.ea && decide (s.base = s.B.length))) ∧ ∃ n, w' = w.drewN n := by
  obtain ⟨c1, c2, _, c6, _, c8, _⟩ := h.cells
  generalize s.fi = fi at *
  generalize s.ea = ea at *
  generalize s.base = base at *
  generalize s.B.length = len at *
  clear h
  cases fi
  all_goals cases ea
  all_goals by_cases hb : base = len
  all_goals try subst hb
  all_goals go_enter Try.func45, Try.ntmps45
  all_goals go_wp2_with fail
  all_goals try go_quiet (fail)
  all_goals try go_wp2_with fail
  all_goals go_ret
  all_goals first
    | exact ⟨by simp [eqN], _, rfl⟩
    | exact ⟨rfl, 0, rfl⟩
    | exact ⟨by simp, 0, rfl⟩
    | exact ⟨by simp; omega, 0, rfl⟩
    | exact ⟨by simp, _, rfl⟩
    | exact ⟨by simp; omega, _, rfl⟩
    | exact ⟨by simp; rw [eqN], _, rfl⟩
end Go.Proofs.Ytncfbaabhceeoaa

/- DERIVED. Walk of outbuf's Lost. -/
namespace Go.Proofs.Ytncfbaabhceeoaa
open Go.RowKit

theorem cut_ab {lo hi : Nat} {xs : List Rg} (h : ∀ r ∈ xs, hi ≤ r.1) : cutRaw lo hi xs = xs := by
  induction xs with
  | nil => simp [cutRaw]
  | cons r xs ih =>
    have e : cutRaw lo hi (r :: xs) = cut1 lo hi r ++ cutRaw lo hi xs := by simp [cutRaw]
    rw [e, ih (fun x hx => h x (List.mem_cons_of_mem _ hx)), cut1, if_pos (.inr (.inr (h r (List.mem_cons_self ..))))]
    rfl
theorem cut_le (lo hi : Nat) : ∀ xs : List Rg, Norm xs → (cutRaw lo hi xs).length ≤ xs.length + 1
  | [], _ => by simp [cutRaw]
  | r :: xs, hn => by
    obtain ⟨h1, h2⟩ := hn.head
    have ih := cut_le lo hi xs hn.tail
    have e : cutRaw lo hi (r :: xs) = cut1 lo hi r ++ cutRaw lo hi xs := by simp [cutRaw]
    rw [e, List.length_append, List.length_cons]
    by_cases h : hi < r.2
    · have := cut1_len lo hi r
      rw [cut_ab (fun x hx => by have := h2 x hx; omega)]
      omega
    · have : (cut1 lo hi r).length ≤ 1 := by
        unfold cut1
        split
        · simp
        · split <;> simp
      omega
/-- What is lost behind a number of cuts by what is acknowledged. -/
def lostY (s : OS) (y0 : List Rg) (k : Nat) : List Rg := (s.xs.take k).foldl (fun y x => cutRaw x.1 x.2 y) y0
theorem lostY_succ {s : OS} {y0 : List Rg} {k : Nat} {r : Rg} (h : s.xs[k]? = some r) : lostY s y0 (k + 1) = cutRaw r.1 r.2 (lostY s y0 k) := by
  unfold lostY
  rw [List.take_add_one, h, List.foldl_append]
  rfl
def OS.lostB (s : OS) (r : Nat × Nat) : List Rg := if r.1 < r.2 then addL many s.ys r.1 r.2 else s.ys
/-- The buffer while what is acknowledged is cut out; the copy of its ranges is apart. -/
def LostR (w0 w : World) (fp : Nat → Prop) (b : Nat) (s : OS) (v : Value) (og : Option Nat) (xs : List Rg) : Prop :=
  ∃ fp', OAt w b s fp' ∧ Went fp fp' w0 w ∧ Sl w v og xs ∧ ∀ g, og = some g → ¬ fp' g
theorem lost_next {w0 w W W8 : World} {fp : Nat → Prop} {b : Nat} {s : OS} {v vb : Value} {og ob : Option Nat} {xs zs : List Rg} {c d : Nat} {oc od : Option Nat} (h : ∃ hb : Below w.heap.size w W, Went fp (OFp b c d ob oc od) w0 w ∧ Sl w v og xs ∧ ∀ g, og = some g → ¬ OFp b c d ob oc od g)
    (hO : OutAt W b s vb ob c oc d od) (t : Turned W d many od (trimL many zs) W8) (hz : Norm zs ∧ zs.length ≤ 100000) : LostR w0 W8 fp b { s with ys := zs } v og xs := by
  obtain ⟨hb, hw, hs, hg⟩ := h
  have e : trimL many zs = zs := trim_all (by unfold many; omega)
  rw [e] at t
  obtain ⟨fp', h1, h2⟩ := om_turnD hO (Went.refl _ W) t hz.1 hz.2
  have hs2 := hs.below hb
  have hsl := hs2.lt
  refine ⟨fp', h1, (hw.later hb).trans h2, hs2.keeps h2.upd (fun g e q => hg g e q), fun g e q => ?_⟩
  rcases h2.new g q with q | q
  · exact hg g e q
  · have := hsl g e
    omega
set_option maxRecDepth 100000 in
set_option maxHeartbeats 4000000 in
theorem olost_any (b : Nat) (s : OS) (fp : Nat → Prop) (off : Nat) (n : Int) (f : Bool) (y0 ys : List Rg) (w : World) (h : OAt w b s fp) (ho : off < 18446744073709551616) (hn : -9223372036854775808 ≤ n) (hn2 : n ≤ 9223372036854775807)
    (hy0 : s.lostB (s.kn off n) = y0) (hny : Norm y0) (hly : y0.length + s.xs.length ≤ 100000) (hys : lostY s y0 s.xs.length = ys) :
    Calls Try.prog 43 #[.pointer (some ⟨b, 0, none⟩), .int .u64 off, .int .i64 n, .bool f] w fun e w' => e = .returned (.tuple #[]) ∧ OM w w' fp b { s with ys := ys, el := s.el || (f && s.es) } := by
  have hlen := h.ok.len
  have hsl := h.ok.sent
  obtain ⟨from_, to_, hkn⟩ : ∃ f t, s.kn off n = (f, t) := ⟨_, _, rfl⟩
  have hto : to_ ≤ s.B.length ∧ from_ ≤ s.B.length := by
    unfold OS.kn at hkn
    simp only [Prod.mk.injEq] at hkn
    omega
  have H := Lib.hid h
  have HKN := Lib.hid hkn
  have HXN := Lib.hid h.ok.nx
  have HZS := Lib.hid (show (if from_ < to_ ∧ to_ ≤ 4611686018427387904 then addL many s.ys from_ to_ else s.ys) = y0 by
    rw [← hy0, hkn]
    unfold OS.lostB
    by_cases q : from_ < to_
    · rw [if_pos ⟨q, by omega⟩, if_pos q]
    · rw [if_neg (fun q2 => q q2.1), if_neg q])
  have HNK := Lib.hid (show ∀ k, k ≤ s.xs.length → Norm (lostY s y0 k) ∧ (lostY s y0 k).length ≤ y0.length + k from by
    intro k
    induction k with
    | zero => intro _; exact ⟨hny, Nat.le_refl _⟩
    | succ k ih =>
      intro hk
      obtain ⟨h1, h2⟩ := ih (by omega)
      obtain ⟨r, hr⟩ : ∃ r, s.xs[k]? = some r := ⟨_, List.getElem?_eq_getElem (by omega)⟩
      rw [lostY_succ hr]
      have := cut_le r.1 r.2 _ h1
      exact ⟨cut_norm _ _ _ h1, by omega⟩)
  have HLY := Lib.hid hly
  have HYS := Lib.hid hys
  have HNY := Lib.hid hny
  clear h hkn hy0 hny hly hys
  obtain ⟨hto1, hto2⟩ := hto
  go_enter Try.func43, Try.ntmps43
  go_wp2_with fail
  refine (oknown_q b s fp off n _ (by exact H.out) ho hn hn2).mono ?_
  rw [HKN.out]
  rintro e w1 ⟨rfl, q, rfl⟩
  have H1 := Lib.hid ((OM.refl H.out).drewN q)
  generalize w.drewN q = w1 at *
  obtain ⟨fp1, hoa, hw1⟩ := H1.out
  obtain ⟨vb, ob, c, oc, d, od, hO, hfp⟩ := hoa
  rw [hfp] at hw1
  have HO := Lib.hid hO
  have HW := Lib.hid hw1
  have c5 : w1.cell? ⟨b, 5, none⟩ = some (.pointer (some ⟨d, 0, none⟩)) := (cell_at hO.blk 5).trans rfl
  clear hO hfp hw1 H1
  go_wp2_with fail
  refine (add_any d many od s.ys from_ to_ _ (by exact HO.out.sy) (by decide) (by decide) (by have := HO.out.ok.ly; omega)).mono ?_
  rw [HZS.out]
  rintro e w2 ⟨rfl, ht⟩
  have H2 := Lib.hid (om_turnD HO.out HW.out ht HNY.out (by have := HLY.out; omega))
  clear ht HO HW c5
  obtain ⟨fp2, hoa, hw2⟩ := H2.out
  have HOA := Lib.hid hoa
  obtain ⟨vb, ob, c, oc, d, od, hO, hfp⟩ := hoa
  have HO := Lib.hid hO
  have HW := Lib.hid hw2
  have c4 : w2.cell? ⟨b, 4, none⟩ = some (.pointer (some ⟨c, 0, none⟩)) := (cell_at hO.blk 4).trans rfl
  clear hO hfp hw2 H2
  go_wp2_with fail
  refine (all_any c many oc s.xs _ (by exact HO.out.sx) (by have h9 : s.xs.length ≤ 100000 := HO.out.ok.lx; omega)).mono ?_
  rintro e w3 ⟨v, og, rfl, hs, hnew, hb3⟩
  obtain ⟨oa, cap, rfl, hc1, hc2⟩ := hs.shape
  have HR0 := Lib.hid (show LostR w w3 fp b { s with ys := lostY s y0 0 } (.slice oa s.xs.length cap) og s.xs from ⟨fp2, HOA.out.below hb3, HW.out.later hb3, hs, fun g e q => by have := hnew g e; have := HOA.out.lt.2 g q; omega⟩)
  clear hs hnew hb3 HO HW HOA c4
  obtain ⟨len, hln⟩ : ∃ len, s.xs.length = len := ⟨_, rfl⟩
  have HLN := Lib.hid hln
  rw [hln] at HR0 hc1 ⊢
  clear hln
  go_wp2_with fail
  go_loopw [32] (fun i wr => ∃ k : Nat, i = .int .i64 k ∧ k ≤ len ∧ LostR w wr fp b { s with ys := lostY s y0 k } (.slice oa len cap) og s.xs) (fun i _ => len - (intOf i).toNat)
  case atStart => exact ⟨0, rfl, by omega, HR0.out⟩
  case round =>
    obtain ⟨k, rfl, hk, hr⟩ := hrel
    have HR := Lib.hid hr
    clear hr HR0
    by_cases hlt : k < len
    · obtain ⟨r, hr⟩ : ∃ r, s.xs[k]? = some r := ⟨_, List.getElem?_eq_getElem (by rw [HLN.out]; exact hlt)⟩
      obtain ⟨fp', hoa, hw, hsl, hng⟩ := HR.out
      obtain ⟨vb, ob, c, oc, d, od, hO, hfp⟩ := hoa
      rw [hfp] at hw hng
      obtain ⟨g, hog, rfl, hgl, q0, q1⟩ := hsl.atS hr
      have hrb := HXN.out.at hr
      have ha : Below wr.heap.size wr (wr.alloc (.cells #[.int .u64 r.1, .int .u64 r.2] 92)).drew := ((Below.refl _ _).alloc (Nat.le_refl _) _).drew
      have HO5 := Lib.hid (hO.below ha)
      have HR5 := Lib.hid (show ∃ hb : Below wr.heap.size wr (wr.alloc (.cells #[.int .u64 r.1, .int .u64 r.2] 92)).drew, Went fp (OFp b c d ob oc od) w wr ∧ Sl wr (.slice (some ⟨g, 0, none⟩) len cap) og s.xs ∧ ∀ g, og = some g → ¬ OFp b c d ob oc od g from ⟨ha, hw, hsl, hng⟩)
      have HSC := Lib.hid (lostY_succ (y0 := y0) hr)
      have HN8 := Lib.hid (show Norm (lostY s y0 (k + 1)) ∧ (lostY s y0 (k + 1)).length ≤ 100000 from by
        obtain ⟨h1, h2⟩ := HNK.out (k + 1) (by rw [HLN.out]; omega)
        have := HLY.out
        rw [HLN.out] at this
        exact ⟨h1, by omega⟩)
      have x5 : (wr.alloc (.cells #[.int .u64 r.1, .int .u64 r.2] 92)).drew.cell? ⟨b, 5, none⟩ = some (.pointer (some ⟨d, 0, none⟩)) := (cell_at HO5.out.blk 5).trans rfl
      have hzz : (wr.alloc (.cells #[.int .u64 r.1, .int .u64 r.2] 92)).drew.heap[wr.heap.size]? = some (.cells #[.int .u64 r.1, .int .u64 r.2] 92 (0, 0)) := alloc_at wr _
      obtain ⟨z, hz⟩ : ∃ z, wr.heap.size = z := ⟨_, rfl⟩
      rw [hz] at hzz
      have z0 := (cell_at hzz 0).trans (by rfl : _ = some (Value.int .u64 r.1))
      have z1 := (cell_at hzz 1).trans (by rfl : _ = some (Value.int .u64 r.2))
      have hr1 : r.1 < 18446744073709551616 := by omega
      have hr2 : r.2 < 18446744073709551616 := by omega
      clear hr hO hfp hw hsl hng hog ha hzz HR
      go_wp2_with fail
      refine wp_region_till (S := fun w' => w'.cell? ⟨b, 5, none⟩ = some (.pointer (some ⟨d, 0, none⟩)) ∧ w'.cell? ⟨z, 0, none⟩ = some (.int .u64 r.1) ∧ w'.cell? ⟨z, 1, none⟩ = some (.int .u64 r.2)) [8] (by kernel_rfl) (by exact ⟨x5, z0, z1⟩) (fun hHeld => ?_)
      refine wpTill_take0 (i := 0) (oi := ⟨some 36, _, _, _, _, _⟩) (v := ?_) rfl (by kernel_rfl) (fun _ _ _ h => h) (Or.inl ⟨by rfl, ?_⟩) (fun _ => hHeld) ?_
      rotate_left
      · intro w hSw
        (try dsimp only at hSw)
        go_simp
        try with_reducible rfl
      try simp only [Act.put, List.setIfInBounds_toArray, List.set_cons_zero, List.set_cons_succ]
      refine wpTill_take0 (i := 1) (oi := ⟨some 37, _, _, _, _, _⟩) (v := ?_) rfl (by kernel_rfl) (fun _ _ _ h => h) (Or.inl ⟨by rfl, ?_⟩) (fun _ => hHeld) ?_
      rotate_left
      · intro w hSw
        (try dsimp only at hSw)
        go_simp
        try with_reducible rfl
      try simp only [Act.put, List.setIfInBounds_toArray, List.set_cons_zero, List.set_cons_succ]
      refine wpTill_take0 (i := 2) (oi := ⟨some 38, _, _, _, _, _⟩) (v := ?_) rfl (by kernel_rfl) (fun _ _ _ h => h) (Or.inl ⟨by rfl, ?_⟩) (fun _ => hHeld) ?_
      rotate_left
      · intro w hSw
        (try dsimp only at hSw)
        go_simp
        try with_reducible rfl
      try simp only [Act.put, List.setIfInBounds_toArray, List.set_cons_zero, List.set_cons_succ]
      refine wpTill_take (i := 3) (oi := ⟨some 39, _, _, _, _, _⟩) (v := ?_) rfl (by kernel_rfl) (fun _ _ _ h => h) (Or.inl ⟨by rfl, ?_⟩) (by exact hHeld) ?_
      rotate_left
      · intro w hSw
        (try dsimp only at hSw)
        go_simp
        try with_reducible rfl
      try simp only [Act.put, List.setIfInBounds_toArray, List.set_cons_zero, List.set_cons_succ]
      refine wpTill_take0 (i := 4) (oi := ⟨some 40, _, _, _, _, _⟩) (v := ?_) rfl (by kernel_rfl) (fun _ _ _ h => h) (Or.inl ⟨by rfl, ?_⟩) (fun _ => hHeld) ?_
      rotate_left
      · intro w hSw
        (try dsimp only at hSw)
        go_simp
        try with_reducible rfl
      try simp only [Act.put, List.setIfInBounds_toArray, List.set_cons_zero, List.set_cons_succ]
      refine wpTill_take (i := 5) (oi := ⟨some 41, _, _, _, _, _⟩) (v := ?_) rfl (by kernel_rfl) (fun _ _ _ h => h) (Or.inl ⟨by rfl, ?_⟩) (by exact hHeld) ?_
      rotate_left
      · intro w hSw
        (try dsimp only at hSw)
        go_simp
        try with_reducible rfl
      try simp only [Act.put, List.setIfInBounds_toArray, List.set_cons_zero, List.set_cons_succ]
      refine wpTill_take0 (i := 6) (oi := ⟨some 42, _, _, _, _, _⟩) (v := ?_) rfl (by kernel_rfl) (fun _ _ _ h => h) (Or.inl ⟨by rfl, ?_⟩) (fun _ => hHeld) ?_
      rotate_left
      · intro w hSw
        (try dsimp only at hSw)
        go_simp
        try with_reducible rfl
      try simp only [Act.put, List.setIfInBounds_toArray, List.set_cons_zero, List.set_cons_succ]
      refine wpTill_take (i := 7) (oi := ⟨some 43, _, _, _, _, _⟩) (v := ?_) rfl (by kernel_rfl) (fun _ _ _ h => h) (Or.inl ⟨by rfl, ?_⟩) (by exact hHeld) ?_
      rotate_left
      · intro w hSw
        (try dsimp only at hSw)
        go_simp
        try with_reducible rfl
      try simp only [Act.put, List.setIfInBounds_toArray, List.set_cons_zero, List.set_cons_succ]
      refine wpTill_ready (rs := [8]) (by kernel_rfl) (by simp) ?_
      refine AllTill.consD (o := ⟨some 44, _, _, _, _, _⟩) rfl (by kernel_rfl) (fun K hK => ?_) AllTill.nil
      go_simp
      go_at_call 61
      refine (cut_any d many od (lostY s y0 k) r.1 r.2 _ (by exact HO5.out.sy) (by decide) (by decide) (by omega) (by omega) HO5.out.ok.ny (by have h9 : (lostY s y0 k).length ≤ 100000 := HO5.out.ok.ly; omega)).mono ?_
      rintro e W8 ⟨rfl, ht⟩
      rw [← HSC.out] at ht
      have H8 := Lib.hid (lost_next HR5.out HO5.out ht HN8.out)
      clear ht
      go_wp2_with fail
      refine hK.out _ _ ?_
      clear hK K
      try simp only [Act.put, List.setIfInBounds_toArray, List.set_cons_zero, List.set_cons_succ]
      refine wpTill_done (by kernel_rfl) ?_ _
      go_wp2_with fail
      go_roundw
      case rel => exact ⟨k + 1, by go_num, by omega, H8.out⟩
      case measure => simp [intOf]; omega
    · obtain rfl : k = len := by omega
      have hyk : lostY s y0 k = ys := by rw [← HLN.out]; exact HYS.out
      rw [hyk] at HR
      obtain ⟨fp', hoa, hw, _, _⟩ := HR.out
      obtain ⟨vb, ob, c, oc, d, od, hO, hfp⟩ := hoa
      rw [hfp] at hw
      have e7 : wr.cell? ⟨b, 7, none⟩ = some (.bool s.es) := (cell_at hO.blk 7).trans rfl
      have e9 : wr.cell? ⟨b, 9, none⟩ = some (.bool s.el) := (cell_at hO.blk 9).trans rfl
      have q9 := free_at hO.blk 9
      have HM0 := Lib.hid (show OM w wr fp b { s with ys := ys } from ⟨_, ⟨vb, ob, c, oc, d, od, hO, rfl⟩, hw⟩)
      have HM1 := Lib.hid (show OM w (wr.setCell ⟨b, 9, none⟩ (.bool true)) fp b { s with ys := ys, el := true } from
        om_set (s' := { s with ys := ys, el := true }) hO hw (Upd.refl _ _) ((Upd.refl (fun j => j = b) wr).setCell ⟨b, 9, none⟩ (.inl rfl) _) (set_at hO.blk 9 _) hO.row (.inl rfl) rfl rfl ⟨hO.ok.len, hO.ok.base, hO.ok.sent, hO.ok.nx, hO.ok.ny, hO.ok.lx, hO.ok.ly, hO.ok.bys⟩)
      clear hO hfp hw hyk HR
      cases f
      · go_wp2_with fail
        go_end0
        refine ⟨rfl, ?_⟩
        simp only [Bool.false_and, Bool.or_false]
        exact HM0.out
      · have hes : s.es = true ∨ s.es = false := by cases s.es <;> simp
        rcases hes with hes | hes
        · rw [hes] at e7
          have HE := Lib.hid (show (s.el || (true && s.es)) = true by rw [hes]; simp)
          clear hes
          go_wp2_with fail
          go_end0
          refine ⟨rfl, ?_⟩
          rw [HE.out]
          exact HM1.out
        · rw [hes] at e7
          have HE := Lib.hid (show (s.el || (true && s.es)) = s.el by rw [hes]; simp)
          clear hes
          go_wp2_with fail
          go_end0
          refine ⟨rfl, ?_⟩
          rw [HE.out]
          exact HM0.out
end Go.Proofs.Ytncfbaabhceeoaa

/- DERIVED. Walk of outbuf's Waits. -/
namespace Go.Proofs.Ytncfbaabhceeoaa
open Go.RowKit

theorem opart_any (b : Nat) (s : OS) (fp : Nat → Prop) (limit : Nat) (w : World) (h : OAt w b s fp) (hlim : limit < 18446744073709551616) {f t : Nat} (hp : s.part limit = (f, t)) :
    Calls Try.prog 57 #[.pointer (some ⟨b, 0, none⟩), .int .u64 limit] w fun e w' => e = .returned (.tuple #[.int .u64 f, .int .u64 t]) ∧ Below w.heap.size w w' := by
  cases hys : s.ys with
  | nil =>
    unfold OS.part at hp
    rw [hys] at hp
    simp only [Prod.mk.injEq] at hp
    rw [← hp.1]
    exact opart_nil b s fp limit t w h hlim hys hp.2
  | cons r rest =>
    unfold OS.part at hp
    rw [hys] at hp
    simp only at hp
    have := opart_cons b s fp limit r rest w h hys
    rw [hp] at this
    exact this
theorem oend_e (b : Nat) (s : OS) (fp : Nat → Prop) (w : World) (h : OAt w b s fp) {en : Bool} (he : s.ende = en) : Calls Try.prog 59 #[.pointer (some ⟨b, 0, none⟩)] w fun e w' => e = .returned (.bool en) ∧ ∃ n, w' = w.drewN n := by
  rw [← he]
  exact oend_q b s fp w h
/-- Is something to be sent? -/
def OS.waits (s : OS) (limit : Nat) : Bool := decide ((s.part limit).1 < (s.part limit).2) || (decide (s.sent = s.B.length) && s.ende)
end Go.Proofs.Ytncfbaabhceeoaa
