/- DERIVED. Walk of outbuf's Next, where nothing is lost and the end is not to be sent. -/
import Derived.Test.YtkebjfaphmamjaaOutPart
import Derived.Test.YtkebjfaphmamjaaCut
import Derived.Test.YtkebjfaphmamjaaRngLaw4
import Derived.OwnWalk
namespace Go.Proofs.Ytkebjfaphmamjaa
open Go.RowKit

def partV (oa : Option Addr) (k cap l h : Nat) : Value := .slice (if cap = l then oa else oa.map (·.add (l * k))) (h - l) (cap - l)
theorem exec_part {P : Program} {o : Oper} {w : World} {t e : TypeId} (hu : P.underlying t = some (.slice e)) {i : TypeInfo} (hi : P.info? e = some i) {f : Operand → Value} {x l h : Operand} (ho : o.op = .slice t x (some l) (some h) none) {oa : Option Addr} {len cap : Nat} {n m : Nat} {kn km : IntKind}
    (hx : f x = .slice oa len cap) (hl : f l = .int kn n) (hh : f h = .int km m) (h1 : n ≤ m) (h2 : m ≤ cap) : (execOp f o).run P w = .ok (.value (partV oa i.size cap n m)) w := by
  simp [execOp, ho, hx, hl, hh, Instr.sliceAt, Instr.slice, run_underlying hu, Instr.sliceBounds, Instr.sliceBound, sizeOf, typeInfo, asIntOf, hi, h1, h2, partV]
theorem Vw.mid {α : Type} {enc : α → List Value} {k : Nat} {w : World} {B : Nat} {oa : Option Addr} {len cap l h : Nat} {xs : List α} (hv : Vw enc w B (.slice oa len cap) xs) (hk : ∀ a, (enc a).length = k) (h1 : l ≤ h) (h2 : h ≤ len) : Vw enc w B (partV oa k cap l h) ((xs.drop l).take (h - l)) := by
  have ht := hv.tail hk (Nat.le_trans h1 h2)
  obtain ⟨oa', cap', e1, e2, e3, _⟩ := hv
  cases e1
  obtain ⟨o2, c2, f1, f2, f3, f4⟩ := ht
  unfold tailV at f1
  have f5 : o2 = (if cap = l then oa else oa.map (·.add (l * k))) ∧ c2 = cap - l := by
    rw [Value.slice.injEq] at f1
    exact ⟨f1.1.symm, f1.2.2.symm⟩
  have hl : ((xs.drop l).take (h - l)).length = h - l := by rw [List.length_take, List.length_drop]; omega
  refine ⟨_, cap - l, by rw [hl]; rfl, by rw [hl]; omega, by omega, ?_⟩
  rcases f4 with f4 | ⟨b, off, f6, f7, f8⟩
  · left
    rw [f4, List.take_nil]
  · right
    rw [f5.1] at f6
    refine ⟨b, off, f6, f7, fun j u hj => f8 j u ?_⟩
    rw [← flat_take hk, List.getElem?_take] at hj
    split at hj
    · exact hj
    · cases hj
theorem slen_q0 (b : Nat) (og : Option Nat) (w : World) (h : SetAt w b many og []) : Calls Try.prog 23 #[.pointer (some ⟨b, 0, none⟩)] w fun e w' => e = .returned (.int .i64 0) ∧ ∃ n, w' = w.drewN n := slen_q b many og [] w h
theorem oend_f (b : Nat) (s : OS) (fp : Nat → Prop) (w : World) (h : OAt w b s fp) (he : s.ende = false) : Calls Try.prog 24 #[.pointer (some ⟨b, 0, none⟩)] w fun e w' => e = .returned (.bool false) ∧ ∃ n, w' = w.drewN n := by
  rw [← he]
  exact oend_q b s fp w h
theorem results_tmp4 {fn : Func} {t u v x : Tmp} (h : fn.results = #[.tmp t, .tmp u, .tmp v, .tmp x]) (tmps : Array Value) (P : Program) (w : World) :
    (results fn tmps).run P w = .ok (.tuple #[tmps.getD t undef, tmps.getD u undef, tmps.getD v undef, tmps.getD x undef]) w := by
  simp [results, h]
theorem og_le {B n : Nat} {og : Option Nat} (h : ∀ g, og = some g → n ≤ g) (hn : B ≤ n) : ∀ g, og = some g → B ≤ g := fun g e => Nat.le_trans hn (h g e)

set_option maxRecDepth 100000 in
set_option maxHeartbeats 1000000 in
theorem onext_no (b : Nat) (s : OS) (fp : Nat → Prop) (most limit : Nat) (w : World) (h : OAt w b s fp) (hlim : limit < 18446744073709551616) (hll : s.B.length ≤ limit) (hys : s.ys = []) (hs : s.sent = s.B.length) (hend : s.ende = false) (hm : most ≤ 1000000) :
    Calls Try.prog 10 #[.pointer (some ⟨b, 0, none⟩), .int .i64 most, .int .u64 limit] w fun e w' => e = .returned (.tuple #[.int .u64 0, .slice none 0 0, .bool false, .bool false]) ∧ Below w.heap.size w w' := by
  have hlen := h.ok.len
  have H := Lib.hid h
  have HY := Lib.hid hys
  have HE := Lib.hid hend
  have HPT := Lib.hid (show max s.sent (min limit s.B.length) = s.sent by omega)
  have HC := Lib.hid (show ∀ W, Below w.heap.size w W → W.cell? ⟨b, 2, none⟩ = some (.int .u64 s.sent) ∧ W.cell? ⟨b, 3, none⟩ = some (.int .u64 s.sent) from fun W hb => by
    obtain ⟨_, c2, c3, _⟩ := (H.out.below hb).cells
    rw [hs] at c3 ⊢
    exact ⟨c2, c3⟩)
  rw [← hs] at hlen
  have HS := Lib.hid hs
  clear h hys hend hs hll
  obtain ⟨sent, hsent⟩ : ∃ sent, s.sent = sent := ⟨_, rfl⟩
  have HSE := Lib.hid hsent
  rw [hsent] at HC hlen HPT
  clear hsent
  go_enter Try.func10, Try.ntmps10
  go_wp2_with fail
  refine (opart_nil b s fp limit sent _ (by exact H.out) hlim HY.out (by rw [HSE.out]; exact HPT.out)).mono ?_
  rw [HSE.out]
  rintro e w1 ⟨rfl, hb⟩
  have HB := Lib.hid hb
  clear hb
  obtain ⟨vb, ob, c, oc, d, od, hO, hfp⟩ := H.out.below HB.out
  obtain ⟨c2, c3⟩ := HC.out _ HB.out
  have c5 : w1.cell? ⟨b, 5, none⟩ = some (.pointer (some ⟨d, 0, none⟩)) := (cell_at hO.blk 5).trans rfl
  have HO := Lib.hid hO
  clear hO hfp
  have hmm : (sent : Int) ≤ (sent : Int) + (most : Int) := by omega
  go_upto_region 2 with fail
  go_cut [11] (fun v wx => v = .int .u64 sent ∧ wx = w1)
  case first =>
    rcases (by omega : (0 < most) ∨ (most = 0)) with q | q
    · have q' : (sent : Int) < (sent : Int) + (most : Int) := by omega
      have q2 : (0 : Int) < (most : Int) := by omega
      go_wp2_with fail
      go_meet
      case rel => exact ⟨rfl, rfl⟩
    · subst q
      go_wp2_with fail
      go_meet
      case rel => exact ⟨rfl, rfl⟩
  case rest =>
    obtain ⟨rfl, rfl⟩ := hcut
    go_wp2_with fail
    go_quiet (first | (go_at_call 23; exact Calls.quiet_of (slen_q0 d od _ (by rw [← HY.out]; exact HO.out.sy.below (below_drewN (Below.refl _ _) _)))) | (go_at_call 24; exact Calls.quiet_of (oend_f b s _ _ (by exact (H.out.below HB.out).drewN _) HE.out)))
    go_wp2_with fail
    (try simp only [Exit.inBlock, Exit.then])
    refine bodyPost_ret (results_tmp4 rfl _ _ _) rfl ?_
    exact ⟨rfl, below_drewN HB.out _⟩

def OS.sends (s : OS) (t : Nat) : OS := { s with sent := t, ys := [] }
set_option maxRecDepth 100000 in
set_option maxHeartbeats 2000000 in
theorem onext_yes (b : Nat) (s : OS) (fp : Nat → Prop) (most limit t : Nat) (w : World) (h : OAt w b s fp) (hlim : limit < 18446744073709551616) (hll : s.B.length ≤ limit) (hys : s.ys = []) (hbs : s.base ≤ s.sent) (hlt : s.sent < t) (ht : min s.B.length (s.sent + most) = t) (hend : s.ende = false) (hm : most ≤ 1000000) :
    Calls Try.prog 10 #[.pointer (some ⟨b, 0, none⟩), .int .i64 most, .int .u64 limit] w
      fun e w' => ∃ v og, e = .returned (.tuple #[.int .u64 s.sent, v, .bool false, .bool true]) ∧ OM w w' fp b (s.sends t) ∧ SlG encB 5 w' v og ((s.B.drop s.sent).take (t - s.sent)) ∧ (∀ g, og = some g → w.heap.size ≤ g) := by
  obtain ⟨i0, hi0, hz0, hz1, hz2'⟩ := info_parts infoB
  have hlen := h.ok.len
  have hbl := h.ok.base
  have H := Lib.hid h
  have HY := Lib.hid hys
  have HE := Lib.hid hend
  obtain ⟨len, hln⟩ : ∃ len, s.B.length = len := ⟨_, rfl⟩
  obtain ⟨sent, hsent⟩ : ∃ sent, s.sent = sent := ⟨_, rfl⟩
  obtain ⟨base, hbase⟩ : ∃ base, s.base = base := ⟨_, rfl⟩
  have HSE := Lib.hid hsent
  have HLE := Lib.hid hln
  have HBA := Lib.hid hbase
  rw [hln] at hlen hbl hll ht
  rw [hsent] at hbs hlt ht
  rw [hbase] at hbs hbl
  have HT := Lib.hid (show (s.sends t).sent = t from rfl)
  rw [hsent]
  clear h hys hend hln hsent hbase
  have htl : t ≤ len := by omega
  have HPT := Lib.hid (show max sent (min limit len) = len by omega)
  have HTL := Lib.hid htl
  go_enter Try.func10, Try.ntmps10
  go_wp2_with fail
  refine (opart_nil b s fp limit len _ (by exact H.out) hlim HY.out (by rw [HSE.out, HLE.out]; exact HPT.out)).mono ?_
  rw [HSE.out]
  rintro e w1 ⟨rfl, hb⟩
  have HB := Lib.hid hb
  clear hb
  go_upto_region 2 with fail
  go_cut [11] (fun v wx => v = .int .u64 t ∧ wx = w1)
  case first =>
    have q2 : (0 : Int) < (most : Int) := by omega
    rcases (by omega : (sent + most < len ∧ t = sent + most) ∨ (len < sent + most ∧ t = len) ∨ (len = sent + most ∧ t = len)) with ⟨q1, q3⟩ | ⟨q1, q3⟩ | ⟨q1, q3⟩
    · have q4 : (sent : Int) + (most : Int) = (t : Int) := by omega
      have q5 : (t : Int) < (len : Int) := by omega
      clear q3 ht
      go_wp2_with fail
      go_meet
      case rel => exact ⟨rfl, rfl⟩
    · obtain ⟨z, hz, hzt⟩ : ∃ z : Nat, (sent : Int) + (most : Int) = (z : Int) ∧ z < 18446744073709551616 := ⟨sent + most, by omega, by omega⟩
      have q5 : (len : Int) < (z : Int) := by omega
      subst q3
      clear ht
      go_wp2_with fail
      go_meet
      case rel => exact ⟨rfl, rfl⟩
    · have q4 : (sent : Int) + (most : Int) = (t : Int) := by omega
      subst q3
      clear ht q1
      go_wp2_with fail
      go_meet
      case rel => exact ⟨rfl, rfl⟩
  case rest =>
    obtain ⟨rfl, rfl⟩ := hcut
    generalize wc = w1 at *
    have H1 := Lib.hid (H.out.below HB.out)
    obtain ⟨vb, ob, c, oc, d, od, hO, hfp⟩ := H1.out
    obtain ⟨oB, cB, e0, hcB, hcB2⟩ := hO.row.shape
    rw [List.length_drop, HLE.out, HBA.out] at e0 hcB
    obtain ⟨n0, hn0⟩ : ∃ n0, len - base = n0 := ⟨_, rfl⟩
    rw [hn0] at e0 hcB
    subst e0
    have HO := Lib.hid hO
    have HFP := Lib.hid hfp
    have hrv := (hO.row.vw encB_len).below (Below.refl _ _).drew
    obtain ⟨l, hl, hl2⟩ : ∃ l : Nat, (sent : Int) - (base : Int) = (l : Int) ∧ sent - base = l := ⟨sent - base, by omega, rfl⟩
    obtain ⟨hh, hhh, hhh2⟩ : ∃ hh : Nat, (t : Int) - (base : Int) = (hh : Int) ∧ t - base = hh := ⟨t - base, by omega, rfl⟩
    have hlh : l ≤ hh := by omega
    have hhc : hh ≤ cB := by omega
    have hlb : (l : Int) ≤ 1099511627776 := by omega
    have hsb : sent ≤ 1099511627776 := by omega
    have hsti : (sent : Int) < (t : Int) := by omega
    have htb : t ≤ 1099511627776 := by omega
    have hhb : (hh : Int) ≤ 1099511627776 := by omega
    have hwl : IntKind.u64.wrap (l : Int) = l := IntWalk.u64_in _ (by omega)
    have hwh : IntKind.u64.wrap (hh : Int) = hh := IntWalk.u64_in _ (by omega)
    have HP0 := hrv.mid encB_len hlh (show hh ≤ n0 by omega)
    have hpc : ((s.B.drop s.base).drop l).take (hh - l) = (s.B.drop sent).take (t - sent) := by
      rw [List.drop_drop, HBA.out, show base + l = sent by omega, show hh - l = t - sent by omega]
    rw [hpc] at HP0
    have HP := Lib.hid HP0
    have HPL := Lib.hid (show ((s.B.drop sent).take (t - sent)).length ≤ 1000000000 by rw [List.length_take]; omega)
    have hst : ¬ sent = t := by omega
    have HSof := Lib.hid (show ∀ W, Below w1.drew.heap.size w1.drew W → W.cell? ⟨b, 0, none⟩ = some (.slice oB n0 cB) ∧ W.cell? ⟨b, 1, none⟩ = some (.int .u64 base) from fun W h => by
      have hk := below_keeps h (show w1.drew.heap[b]? = _ from HO.out.blk) (heap_lt HO.out.blk)
      refine ⟨(cell_at hk 0).trans rfl, ?_⟩
      rw [cell_at hk, ← HBA.out]
      rfl)
    clear hO hfp hrv HP0 hpc hl2 hhh2 hn0 ht htl hlt
    go_upto_region 8 with fail
    go_cut [12] (fun v wx => ∃ og, Below w1.drew.heap.size w1.drew wx ∧ SlG encB 5 wx v og ((s.B.drop sent).take (t - sent)) ∧ ∀ g, og = some g → w1.drew.heap.size ≤ g)
    case first =>
      go_wp2_with fail
      have hb : Below w1.drew.heap.size w1.drew w1.drew := Below.refl _ _
      refine wp_region_till (S := fun w' => w'.cell? ⟨b, 0, none⟩ = some (.slice oB n0 cB) ∧ w'.cell? ⟨b, 1, none⟩ = some (.int .u64 base)) [] (by kernel_rfl) (by exact HSof.out _ hb) (fun hHeld => ?_)
      refine wpTill_take0 (i := 0) (oi := ⟨some 62, _, _, _, _, _⟩) (v := ?_) rfl (by kernel_rfl) (fun _ _ _ h => h) (Or.inl ⟨by rfl, ?_⟩) (fun _ => hHeld) ?_
      rotate_left
      · intro w hSw
        (try dsimp only at hSw)
        go_simp
        try with_reducible rfl
      try simp only [Act.put, List.setIfInBounds_toArray, List.set_cons_zero, List.set_cons_succ]
      refine wpTill_take0 (i := 1) (oi := ⟨some 63, _, _, _, _, _⟩) (v := ?_) rfl (by kernel_rfl) (fun _ _ _ h => h) (Or.inl ⟨by rfl, ?_⟩) (fun _ => hHeld) ?_
      rotate_left
      · intro w hSw
        (try dsimp only at hSw)
        go_simp
        try with_reducible rfl
      try simp only [Act.put, List.setIfInBounds_toArray, List.set_cons_zero, List.set_cons_succ]
      refine wpTill_take0 (i := 2) (oi := ⟨some 64, _, _, _, _, _⟩) (v := ?_) rfl (by kernel_rfl) (fun _ _ _ h => h) (Or.inl ⟨by rfl, ?_⟩) (fun _ => hHeld) ?_
      rotate_left
      · intro w hSw
        (try dsimp only at hSw)
        go_simp
        try with_reducible rfl
      try simp only [Act.put, List.setIfInBounds_toArray, List.set_cons_zero, List.set_cons_succ]
      refine wpTill_take (i := 3) (oi := ⟨some 65, _, _, _, _, _⟩) (v := ?_) rfl (by kernel_rfl) (fun _ _ _ h => h) (Or.inl ⟨by rfl, ?_⟩) (by exact hHeld) ?_
      rotate_left
      · intro w hSw
        (try dsimp only at hSw)
        go_simp
        try with_reducible rfl
      try simp only [Act.put, List.setIfInBounds_toArray, List.set_cons_zero, List.set_cons_succ]
      refine wpTill_take0 (i := 4) (oi := ⟨some 66, _, _, _, _, _⟩) (v := ?_) rfl (by kernel_rfl) (fun _ _ _ h => h) (Or.inl ⟨by rfl, ?_⟩) (fun _ => hHeld) ?_
      rotate_left
      · intro w hSw
        (try dsimp only at hSw)
        go_simp
        try with_reducible rfl
      try simp only [Act.put, List.setIfInBounds_toArray, List.set_cons_zero, List.set_cons_succ]
      refine wpTill_take0 (i := 5) (oi := ⟨some 67, _, _, _, _, _⟩) (v := ?_) rfl (by kernel_rfl) (fun _ _ _ h => h) (Or.inl ⟨by rfl, ?_⟩) (fun _ => hHeld) ?_
      rotate_left
      · intro w hSw
        (try dsimp only at hSw)
        go_simp
        try with_reducible rfl
      try simp only [Act.put, List.setIfInBounds_toArray, List.set_cons_zero, List.set_cons_succ]
      refine wpTill_take0 (i := 6) (oi := ⟨some 68, _, _, _, _, _⟩) (v := ?_) rfl (by kernel_rfl) (fun _ _ _ h => h) (Or.inl ⟨by rfl, ?_⟩) (fun _ => hHeld) ?_
      rotate_left
      · intro w hSw
        (try dsimp only at hSw)
        go_simp
        try with_reducible rfl
      try simp only [Act.put, List.setIfInBounds_toArray, List.set_cons_zero, List.set_cons_succ]
      refine wpTill_take0 (i := 7) (oi := ⟨some 69, _, _, _, _, _⟩) (v := ?_) rfl (by kernel_rfl) (fun _ _ _ h => h) (Or.inl ⟨by rfl, ?_⟩) (fun _ => hHeld) ?_
      rotate_left
      · intro w hSw
        (try dsimp only at hSw)
        go_simp
        try with_reducible rfl
      try simp only [Act.put, List.setIfInBounds_toArray, List.set_cons_zero, List.set_cons_succ]
      refine wpTill_take (i := 8) (oi := ⟨some 70, _, _, _, _, _⟩) (v := ?_) rfl (by kernel_rfl) (fun _ _ _ h => h) (Or.inl ⟨by rfl, ?_⟩) (by exact hHeld) ?_
      rotate_left
      · intro w hSw
        (try dsimp only at hSw)
        go_simp
        try with_reducible rfl
      try simp only [Act.put, List.setIfInBounds_toArray, List.set_cons_zero, List.set_cons_succ]
      refine wpTill_take0 (i := 9) (oi := ⟨some 71, _, _, _, _, _⟩) (v := ?_) rfl (by kernel_rfl) (fun _ _ _ h => h) (Or.inl ⟨by rfl, ?_⟩) (fun _ => hHeld) ?_
      rotate_left
      · intro w hSw
        (try dsimp only at hSw)
        go_simp
        try with_reducible rfl
      try simp only [Act.put, List.setIfInBounds_toArray, List.set_cons_zero, List.set_cons_succ]
      refine wpTill_take0 (i := 10) (oi := ⟨some 72, _, _, _, _, _⟩) (v := ?_) rfl (by kernel_rfl) (fun _ _ _ h => h) (Or.inl ⟨by rfl, ?_⟩) (fun _ => hHeld) ?_
      rotate_left
      · intro w hSw
        (try dsimp only at hSw)
        go_simp
        try with_reducible rfl
      try simp only [Act.put, List.setIfInBounds_toArray, List.set_cons_zero, List.set_cons_succ]
      refine wpTill_take0 (i := 11) (oi := ⟨some 73, _, _, _, _, _⟩) (v := ?_) rfl (by kernel_rfl) (fun _ _ _ h => h) (Or.inl ⟨by rfl, ?_⟩) (fun _ => hHeld) ?_
      rotate_left
      · intro w hSw
        (try dsimp only at hSw)
        go_simp
        try with_reducible rfl
      try simp only [Act.put, List.setIfInBounds_toArray, List.set_cons_zero, List.set_cons_succ]
      refine wpTill_take0 (i := 12) (oi := ⟨some 74, _, _, _, _, _⟩) (v := ?_) rfl (by kernel_rfl) (fun _ _ _ h => h) (Or.inl ⟨by rfl, ?_⟩) (fun _ => hHeld) ?_
      rotate_left
      · intro w hSw
        (try dsimp only at hSw)
        go_simp
        try with_reducible rfl
      try simp only [Act.put, List.setIfInBounds_toArray, List.set_cons_zero, List.set_cons_succ]
      refine wpTill_take0 (i := 13) (oi := ⟨some 75, _, _, _, _, _⟩) (v := ?_) rfl (by kernel_rfl) (fun _ _ _ h => h) (Or.inl ⟨by rfl, ?_⟩) (fun _ => hHeld) ?_
      rotate_left
      · intro w hSw
        (try dsimp only at hSw)
        go_simp
        try with_reducible rfl
      try simp only [Act.put, List.setIfInBounds_toArray, List.set_cons_zero, List.set_cons_succ]
      refine wpTill_take (i := 14) (oi := ⟨some 76, _, _, _, _, _⟩) (v := ?_) rfl (by kernel_rfl) (fun _ _ _ h => h) (Or.inl ⟨by rfl, ?_⟩) (by exact hHeld) ?_
      rotate_left
      · intro w hSw
        (try dsimp only at hSw)
        go_simp
        try with_reducible rfl
      try simp only [Act.put, List.setIfInBounds_toArray, List.set_cons_zero, List.set_cons_succ]
      refine wpTill_take0 (i := 15) (oi := ⟨some 77, _, _, _, _, _⟩) (v := ?_) rfl (by kernel_rfl) (fun _ _ _ h => h) (Or.inl ⟨by rfl, ?_⟩) (fun _ => hHeld) ?_
      rotate_left
      · intro w hSw
        (try dsimp only at hSw)
        go_simp
        try with_reducible rfl
      try simp only [Act.put, List.setIfInBounds_toArray, List.set_cons_zero, List.set_cons_succ]
      refine wpTill_take0 (i := 16) (oi := ⟨some 78, _, _, _, _, _⟩) (v := partV oB 1 cB l hh) rfl (by kernel_rfl) (fun _ _ _ h => h) (Or.inl ⟨by rfl, ?_⟩) (fun _ => hHeld) ?_
      · intro w hSw
        refine Eq.trans (exec_part Try.underlying28 hi0 rfl rfl rfl rfl hlh hhc) ?_
        rw [hz1]
      try simp only [Act.put, List.setIfInBounds_toArray, List.set_cons_zero, List.set_cons_succ]
      refine wpTill_ready (rs := [17]) (by kernel_rfl) (by simp) ?_
      refine AllTill.cons (o := ⟨some 79, _, _, _, _, _⟩) rfl (fun K hK => ?_) AllTill.nil
      go_simp
      go_at_call 25
      refine (cloneB_any _ _ _ (by exact HP.out.below hb) (by exact hb.size) HPL.out).mono ?_
      rintro e W17 ⟨v12, og12, rfl, hs12, hg12, hx12⟩
      have hb := below_call hb hb.size hx12
      go_wp2_with fail
      refine hK.out _ _ (by exact HSof.out _ hb) (fun hHeld => ?_)
      clear hK K
      try simp only [Act.put, List.setIfInBounds_toArray, List.set_cons_zero, List.set_cons_succ]
      refine wpTill_ready (rs := [18]) (by kernel_rfl) (by simp) ?_
      refine AllTill.cons (o := ⟨some 12, _, _, _, _, _⟩) rfl (fun K hK => ?_) AllTill.nil
      go_simp
      refine hK.out _ _ (by exact HSof.out _ hb) (fun hHeld => ?_)
      clear hK K
      try simp only [Act.put, List.setIfInBounds_toArray, List.set_cons_zero, List.set_cons_succ]
      refine wpTill_done (by kernel_rfl) ?_ _
      go_wp2_with fail
      go_meet
      case rel => exact ⟨og12, hb, hs12, og_le hg12 (Nat.le_refl _)⟩
    case rest =>
      obtain ⟨og, hb2, hsv, hgv⟩ := hcut
      have HSV := Lib.hid hsv
      have HGV := Lib.hid (og_le hgv HB.out.size)
      have HB2 := Lib.hid (show Below w1.heap.size w1 wc from below_call (Below.refl _ _).drew (Nat.le_refl _) hb2)
      generalize wc = w2 at *
      have HO2 := Lib.hid (HO.out.below HB2.out)
      have HW2 := Lib.hid (show Went fp (OFp b c d ob oc od) w w2 from by
        rw [← HFP.out]
        exact (Went.first HB.out (Went.refl fp w1)).later HB2.out)
      have HGV2 := Lib.hid (show ∀ g, og = some g → w1.heap.size ≤ g from hgv)
      have HOL := Lib.hid HO.out.lt
      have c5 : w2.cell? ⟨b, 5, none⟩ = some (.pointer (some ⟨d, 0, none⟩)) := (cell_at HO2.out.blk 5).trans rfl
      clear hb2 hsv hgv HO HB2 HSof HP hl hhh
      go_wp2_with fail
      refine (cut_any d many od s.ys sent t _ (by exact HO2.out.sy) (by decide) (by decide) (by omega) (by omega) HO2.out.ok.ny (by rw [HY.out]; simp)).mono ?_
      rw [HY.out]
      rintro e w3 ⟨rfl, ht3⟩
      have hu3 : Upd (OFp b c d ob oc od) w2 w3 := by
        obtain ⟨_, _, _, hu⟩ := ht3
        exact hu.mono (fun j _ q => by
          rcases q with rfl | q
          · exact .inr (.inr (.inl rfl))
          · exact .inr (.inr (.inr (.inr (.inr q)))))
      have HSV3 := Lib.hid (HSV.out.keeps hu3 (fun g hg q => by have := HGV2.out g hg; have := HOL.out g q; omega))
      have hm3 := om_turnD HO2.out HW2.out ht3 (show Norm (trimL many (cutRaw sent t [])) from ⟨by simp [trimL, cutRaw], by simp [trimL, cutRaw]⟩) (by simp [trimL, cutRaw])
      rw [show trimL many (cutRaw sent t []) = [] by simp [trimL, cutRaw]] at hm3
      obtain ⟨fp3, hoa3, hw3⟩ := hm3
      obtain ⟨vb3, ob3, c3', oc3, d3, od3, hO3, hfp3⟩ := hoa3
      rw [hfp3] at hw3
      have e2 : w3.cell? ⟨b, 2, none⟩ = some (.int .u64 len) := by rw [cell_at hO3.blk, ← HLE.out]; rfl
      have e3 : w3.cell? ⟨b, 3, none⟩ = some (.int .u64 sent) := by rw [cell_at hO3.blk, ← HSE.out]; rfl
      have f3 := free_at hO3.blk 3
      have hok3 := hO3.ok
      have hm4 : OM w (w3.setCell ⟨b, 3, none⟩ (.int .u64 t)) fp b (s.sends t) := om_set (s' := s.sends t) hO3 hw3 (Upd.refl _ _) ((Upd.refl (fun j => j = b) w3).setCell ⟨b, 3, none⟩ (.inl rfl) _) (set_at hO3.blk 3 _) hO3.row (.inl rfl) rfl rfl
        ⟨hok3.len, hok3.base, by show t ≤ s.B.length; rw [HLE.out]; exact HTL.out, hok3.nx, hok3.ny, hok3.lx, hok3.ly, hok3.bys⟩
      have hbn : og ≠ some b := fun q => by have := HGV2.out b q; have := HOL.out b (.inl rfl); omega
      have HSV4 := Lib.hid (HSV3.out.keeps ((Upd.refl (fun j => j = b) w3).setCell ⟨b, 3, none⟩ (.inl rfl) (.int .u64 t)) (fun g hg q => hbn (by rw [hg, q])))
      have HM4 := Lib.hid hm4
      clear ht3 hu3 hw3 hO3 hfp3 hok3 hm4 HSV HSV3 HO2 HW2 hbn c5
      by_cases htl2 : t = len
      · subst htl2
        go_wp2_with fail
        obtain ⟨fp4, hoa4, _⟩ := HM4.out
        refine (oend_f b _ fp4 _ (by exact hoa4) (by exact HE.out)).mono ?_
        rintro e w5 ⟨rfl, q, rfl⟩
        go_wp2_with fail
        (try simp only [Exit.inBlock, Exit.then])
        refine bodyPost_ret (results_tmp4 rfl _ _ _) rfl ?_
        exact ⟨_, og, rfl, HM4.out.drewN q, HSV4.out.drewN q, HGV.out⟩
      · have htl3 : ¬ (t : Int) = len := by omega
        go_wp2_with fail
        (try simp only [Exit.inBlock, Exit.then])
        refine bodyPost_ret (results_tmp4 rfl _ _ _) rfl ?_
        exact ⟨_, og, rfl, HM4.out, HSV4.out, HGV.out⟩
end Go.Proofs.Ytkebjfaphmamjaa
