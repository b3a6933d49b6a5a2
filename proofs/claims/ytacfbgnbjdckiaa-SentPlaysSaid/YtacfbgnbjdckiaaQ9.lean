/- DERIVED. Walk of the document's Take (printed by mksqdtake.py). -/
import Derived.OwnWalk
import Derived.Test.YtacfbgnbjdckiaaQ2
import Derived.Test.YtacfbgnbjdckiaaQ6
import Derived.Test.YtacfbgnbjdckiaaQ8
namespace Go.Proofs.Ytacfbgnbjdckiaa
open Go.RowKit

theorem vw_front {α : Type} {enc : α → List Value} {k : Nat} {w : World} {B : Nat} {oa : Option Addr} {len cap n : Nat} {xs : List α} (h : Vw enc w B (.slice oa len cap) xs) (hk : ∀ a, (enc a).length = k) (hn : n ≤ len) : Vw enc w B (.slice oa n cap) (xs.take n) := by
  obtain ⟨oa', cap', h1, h2, h3, h4⟩ := h
  injection h1 with e1 e2 e3
  subst e1 e3
  have hl : (xs.take n).length = n := by rw [List.length_take]; omega
  refine ⟨oa, cap, by rw [hl], by rw [hl]; omega, h3, ?_⟩
  rcases h4 with rfl | ⟨b, off, e, h5, h6⟩
  · left
    simp
  · right
    refine ⟨b, off, e, h5, fun j u hj => h6 j u ?_⟩
    rw [← flat_take hk, List.getElem?_take] at hj
    split at hj
    · exact hj
    · cases hj
theorem filter_ne {L : List Pk} {p : Pk} {k : Nat} (hs : L.Pairwise fun a b => a.n < b.n) (hp : L[k]? = some p) : L.take k ++ L.drop (k + 1) = L.filter fun q => !decide (q.n = p.n) := by
  obtain ⟨hk, he⟩ := List.getElem?_eq_some_iff.1 hp
  have h1 : L = L.take k ++ p :: L.drop (k + 1) := by
    rw [← he, ← List.drop_eq_getElem_cons hk, List.take_append_drop]
  have hs2 := hs
  rw [h1, List.pairwise_append] at hs2
  obtain ⟨_, h3, h4⟩ := hs2
  rw [List.pairwise_cons] at h3
  conv => rhs; rw [h1]
  rw [List.filter_append, List.filter_cons]
  simp only [decide_true, Bool.not_true, Bool.false_eq_true, if_false]
  rw [List.filter_eq_self.2, List.filter_eq_self.2]
  · intro q hq
    have := h3.1 q hq
    simp
    omega
  · intro q hq
    have := h4 q hq p (List.mem_cons_self ..)
    simp
    omega
theorem find_at {L : List Pk} {p : Pk} {k n : Nat} (hp : L[k]? = some p) (hn : p.n = n) (hb : ∀ j q, j < k → L[j]? = some q → q.n ≠ n) : L.find? (fun p => decide (p.n = n)) = some p := by
  obtain ⟨hk, he⟩ := List.getElem?_eq_some_iff.1 hp
  have h1 : L = L.take k ++ p :: L.drop (k + 1) := by
    rw [← he, ← List.drop_eq_getElem_cons hk, List.take_append_drop]
  rw [h1, List.find?_append]
  rw [List.find?_eq_none.2]
  · simp [hn]
  · intro q hq
    obtain ⟨j, hj⟩ := List.mem_iff_getElem?.1 hq
    rw [List.getElem?_take] at hj
    split at hj
    · rename_i hjk
      simpa using hb j q hjk hj
    · cases hj
theorem find_no {L : List Pk} {n : Nat} (hb : ∀ j q, j < L.length → L[j]? = some q → q.n ≠ n) : L.find? (fun p => decide (p.n = n)) = none := by
  rw [List.find?_eq_none]
  intro q hq
  obtain ⟨j, hj⟩ := List.mem_iff_getElem?.1 hq
  simpa using hb j q (List.getElem?_eq_some_iff.1 hj).1 hj
theorem LS.takeS_ok {s : LS} (h : s.Ok) (n : Nat) : (s.takeS n).Ok :=
  ⟨Nat.le_trans (List.length_filter_le _ _) h.len, h.nx, h.ak, fun p hp => h.num p (List.mem_filter.1 hp).1, fun p hp => h.z p (List.mem_filter.1 hp).1, fun p hp => h.t p (List.mem_filter.1 hp).1, fun p hp => h.ask p (List.mem_filter.1 hp).1, h.srt.filter _⟩
theorem lm_refl_new {K : TypeId × Bool} {w W W' : World} {fp : Nat → Prop} {b y : Nat} {s : LS} (h : LAt K w b s fp) (hb : Below w.heap.size w W) (hu : Upd (fun j => j = y) W W') (hy : w.heap.size ≤ y) : LM K w W' fp b s :=
  (LM.refl h).later (Upd.belowOf hb hu (fun k hk e => by omega))
theorem dtake_fin {w w3 W : World} {b n k1 k x y g nl c9 : Nat} {a9 : Option Addr} {s : LS} {fp : Nat → Prop} {v0 : Value} {cx cy : Array Value} (h : LAt kD w b s fp) (h3 : Below w.heap.size w w3) (hB : Below w3.heap.size w3 W)
    (hk : w3.heap[b]? = some (.cells #[v0, .int .u64 s.nx, .int .u64 s.ak, .bool s.has] kD.1 (0, 0))) (f : SlG encQ 32 W (.slice a9 nl c9) (some g) (([] ++ s.L.take k) ++ s.L.drop k1)) (hg : w3.heap.size ≤ g)
    (hL : ([] ++ s.L.take k) ++ s.L.drop k1 = (s.takeS n).L) (hx : w3.heap[x]? = some (.cells cx 32 (0, 0))) (hy : w3.heap[y]? = some (.cells cy 32 (0, 0))) (hxy : b ≠ x ∧ b ≠ y) (hwy : w.heap.size ≤ y) :
    (∀ W', Upd (fun j => j = y) (W.setCell ⟨b, 0, none⟩ (.slice a9 nl c9)) W' → LM kD w W' fp b (s.takeS n)) ∧ (W.setCell ⟨b, 0, none⟩ (.slice a9 nl c9)).heap[x]? = some (.cells cx 32 (0, 0)) ∧ (W.setCell ⟨b, 0, none⟩ (.slice a9 nl c9)).heap[y]? = some (.cells cy 32 (0, 0)) := by
  have hbw := h.lt.2 b h.lt.1
  have h3s := h3.size
  have hkW := below_keeps hB hk (heap_lt hk)
  have hu : Upd (fun j => j = b) W (W.setCell ⟨b, 0, none⟩ (.slice a9 nl c9)) := (Upd.refl (fun j => j = b) W).setCell ⟨b, 0, none⟩ (.inl rfl) _
  have hylt := heap_lt hy
  refine ⟨fun W' hW' => ⟨LFp kD b (some g) (s.takeS n).L, ⟨_, some g, ⟨hW'.keeps ((set_at hkW 0 _).trans rfl) hxy.2, ?_, fun k => (by cases k), .inr rfl, LS.takeS_ok h.ok n⟩, rfl⟩, ?_, fun j hj => ?_⟩, ?_, ?_⟩
  · rw [← hL]
    exact (f.keeps hu (fun j e q => by cases e; omega)).keeps hW' (fun j e q => by cases e; omega)
  · have e1 : Upd (fun j => j = b) w W := ((Upd.below h3).mono (fun j hj x => by omega) : Upd (fun j => j = b) w w3).trans (Upd.below hB) (fun _ _ x => x) (fun j hj x => by omega)
    exact ((e1.then hu).mono (fun j hj x => by rw [x]; exact h.lt.1) : Upd fp w _).trans hW' (H := fp) (fun _ _ q => q) (fun j hj q => by omega)
  · rcases hj with hj | hj | ⟨q, _, hk, _⟩
    · exact .inl (by rw [hj]; exact h.lt.1)
    · cases hj
      right
      omega
    · cases hk
  · exact hu.keeps (below_keeps hB hx (heap_lt hx)) (fun e => hxy.1 e.symm)
  · exact hu.keeps (below_keeps hB hy (heap_lt hy)) (fun e => hxy.2 e.symm)
set_option maxRecDepth 100000 in
set_option maxHeartbeats 4000000 in
theorem dtake_any (b : Nat) (s : LS) (fp : Nat → Prop) (n : Nat) (w : World) (h : LAt kD w b s fp) :
    Calls Try.prog 32 #[.pointer (some ⟨b, 0, none⟩), .int .u64 n] w (TakePost kD b s fp n w) := by
  obtain ⟨i0, hi0, hz0, hz1, hz2'⟩ := info_parts infoP
  have H := Lib.hid h
  obtain ⟨vL, og, hL, hfp⟩ := h
  obtain ⟨oa, cap, rfl, hc1, hc2⟩ := hL.row.shape
  have HL := Lib.hid hL
  have hl64 := hL.ok.len
  obtain ⟨len, hlen⟩ : ∃ len, s.L.length = len := ⟨_, rfl⟩
  have HLN := Lib.hid hlen
  have HOGW := Lib.hid hL.row.lt
  rw [hlen] at hc1 hl64
  clear hL hfp hlen
  go_enter Try.func32, Try.ntmps32
  go_upto_region 0 with fail
  go_cut [4, 5] (fun x f wx => ∃ y, x = .pointer (some ⟨y, 0, none⟩) ∧ f = .bool false ∧ w.heap.size ≤ y ∧ Below w.heap.size w wx ∧ wx.heap[y]? = some (.cells #[.int .u64 0, .int .i64 0, .int .i64 0, .bool false, .slice none 0 0] 32 (0, 0)))
  case first =>
    go_wp2_with fail
    go_meet
    case rel => exact ⟨_, rfl, rfl, Nat.le_refl _, (Below.refl _ _).alloc (Nat.le_refl _) _, alloc_at _ _⟩
  case rest =>
    obtain ⟨y, rfl, rfl, hy, hb, hky⟩ := hcut
    generalize wc = w1 at *
    have hbw := H.out.lt.2 b H.out.lt.1
    have hk1 := below_keeps hb HL.out.blk hbw
    have b0 : w1.cell? ⟨b, 0, none⟩ = some (.slice oa len cap) := by rw [cell_at hk1, ← HLN.out]; rfl
    have HB := Lib.hid hb
    have HK1 := Lib.hid hk1
    have HKY := Lib.hid hky
    have HROW := Lib.hid (show SlG encQ 32 w1 (.slice oa len cap) og s.L from by rw [← HLN.out]; exact HL.out.row.below hb)
    have HI0 := Lib.hid (show ∀ j q, j < 0 → s.L[j]? = some q → q.n ≠ n from fun j q hj => by omega)
    clear hb hk1 hky
    go_wp2_with fail
    go_loopw [6] (fun i wr => ∃ k : Nat, i = .int .i64 k ∧ k ≤ len ∧ wr = w1 ∧ ∀ j q, j < k → s.L[j]? = some q → q.n ≠ n) (fun i _ => len - (intOf i).toNat)
    case atStart => exact ⟨0, rfl, by omega, rfl, HI0.out⟩
    case round =>
      obtain ⟨k, rfl, hkl, rfl, hno⟩ := hrel
      have HNO := Lib.hid hno
      clear hno HI0
      by_cases hlt : k < len
      · obtain ⟨p, hp⟩ : ∃ p, s.L[k]? = some p := ⟨_, List.getElem?_eq_getElem (by rw [HLN.out]; exact hlt)⟩
        obtain ⟨c, ofc, rfl, hc, q0, q1, q2, q3, q4⟩ := HROW.out.vw.pkt hp
        have HP := Lib.hid hp
        clear hp
        by_cases hn : p.n = n
        · subst hn
          have HTK := Lib.hid (show s.takeP p.n = some p from find_at HP.out rfl HNO.out)
          obtain ⟨k1, hk1e, hk1i⟩ : ∃ k1, k + 1 = k1 ∧ (k : Int) + 1 = (k1 : Int) := ⟨k + 1, rfl, by omega⟩
          have hk1 : k1 ≤ len := by omega
          have hcap : len ≤ cap := hc1
          have hwk : IntKind.i64.wrap (k1 : Int) = (k1 : Int) := IntWalk.i64_in _ (by omega)
          have HSP := Lib.hid (show ([] ++ s.L.take k) ++ s.L.drop k1 = (s.takeS p.n).L from by
            rw [List.nil_append, ← hk1e, filter_ne HL.out.ok.srt HP.out]
            rfl)
          go_upto_region 5 with fail
          go_cut [7] (fun v wx => ∃ x, v = .pointer (some ⟨x, 0, none⟩) ∧ wr.heap.size ≤ x ∧ Below wr.heap.size wr wx ∧ wx.heap[x]? = some (.cells #[.int .u64 p.n, .int .i64 p.t, .int .i64 p.z, .bool p.a, .slice p.fa p.fl p.fc] 32 (0, 0)))
          case first =>
            go_wp2_with fail
            go_meet
            case rel => exact ⟨_, rfl, Nat.le_refl _, (Below.refl _ _).alloc (Nat.le_refl _) _, alloc_at _ _⟩
          case rest =>
          obtain ⟨x, rfl, hx, hb3, hkx⟩ := hcut
          have hk3 := below_keeps hb3 HK1.out (heap_lt HK1.out)
          have hky3 := below_keeps hb3 HKY.out (heap_lt HKY.out)
          have HB3 := Lib.hid (below_call HB.out HB.out.size hb3)
          have HK3 := Lib.hid hk3
          have HKX := Lib.hid hkx
          have HKY3 := Lib.hid hky3
          have hws := HB.out.size
          have HXY := Lib.hid (show b ≠ x ∧ b ≠ y from ⟨by omega, by omega⟩)
          have HBB := Lib.hid (heap_lt hk3)
          have HR3 := Lib.hid (HROW.out.below hb3)
          have hxylt := heap_lt HKY.out
          have hyx : ¬ y = x := by omega
          have hxny : ¬ x = y := by omega
          have hb3s := hb3.size
          clear hk3 hky3 hkx hb3 q0 q1 q2 q3 q4 b0
          generalize hoa : (some (⟨c, ofc, none⟩ : Addr)) = oa at *
          clear hoa
          generalize wc = w3 at *
          have HSof := Lib.hid (show ∀ W, Below w3.heap.size w3 W → W.cell? ⟨b, 0, none⟩ = some (.slice oa len cap) from fun W hW => by
            rw [cell_at (below_keeps hW HK3.out HBB.out), ← HLN.out]
            rfl)
          have HOG := Lib.hid (show ∀ g, og = some g → g < w3.heap.size from HR3.out.lt)
          have HYN := Lib.hid (show w.heap.size ≤ y from hy)
          have hB : Below w3.heap.size w3 w3.drew := (Below.refl _ _).drew
          have f := HR3.out.drew
          have hkc : k ≤ cap := by omega
          go_wp2_with fail
          refine wp_region_till (S := fun w' => w'.cell? ⟨b, 0, none⟩ = some (.slice oa len cap)) [19] (by kernel_rfl) (by exact HSof.out _ hB) (fun hHeld => ?_)
          refine wpTill_take0 (i := 0) (oi := ⟨some 34, _, _, _, _, _⟩) (v := ?_) rfl (by kernel_rfl) (fun _ _ _ h => h) (Or.inl ⟨by rfl, ?_⟩) (fun _ => hHeld) ?_
          rotate_left
          · intro w hSw
            (try dsimp only at hSw)
            go_simp
            try with_reducible rfl
          try simp only [Act.put, List.setIfInBounds_toArray, List.set_cons_zero, List.set_cons_succ]
          refine wpTill_take0 (i := 2) (oi := ⟨some 36, _, _, _, _, _⟩) (v := ?_) rfl (by kernel_rfl) (fun _ _ _ h => h) (Or.inl ⟨by rfl, ?_⟩) (fun _ => hHeld) ?_
          rotate_left
          · intro w hSw
            (try dsimp only at hSw)
            go_simp
            try with_reducible rfl
          try simp only [Act.put, List.setIfInBounds_toArray, List.set_cons_zero, List.set_cons_succ]
          refine wpTill_take0 (i := 3) (oi := ⟨some 37, _, _, _, _, _⟩) (v := ?_) rfl (by kernel_rfl) (fun _ _ _ h => h) (Or.inl ⟨by rfl, ?_⟩) (fun _ => hHeld) ?_
          rotate_left
          · intro w hSw
            (try dsimp only at hSw)
            go_simp
            try with_reducible rfl
          try simp only [Act.put, List.setIfInBounds_toArray, List.set_cons_zero, List.set_cons_succ]
          refine wpTill_take0 (i := 4) (oi := ⟨some 38, _, _, _, _, _⟩) (v := ?_) rfl (by kernel_rfl) (fun _ _ _ h => h) (Or.inl ⟨by rfl, ?_⟩) (fun _ => hHeld) ?_
          rotate_left
          · intro w hSw
            (try dsimp only at hSw)
            go_simp
            try with_reducible rfl
          try simp only [Act.put, List.setIfInBounds_toArray, List.set_cons_zero, List.set_cons_succ]
          refine wpTill_take (i := 5) (oi := ⟨some 39, _, _, _, _, _⟩) (v := ?_) rfl (by kernel_rfl) (fun _ _ _ h => h) (Or.inl ⟨by rfl, ?_⟩) (by exact hHeld) ?_
          rotate_left
          · intro w hSw
            (try dsimp only at hSw)
            go_simp
            try with_reducible rfl
          try simp only [Act.put, List.setIfInBounds_toArray, List.set_cons_zero, List.set_cons_succ]
          refine wpTill_take0 (i := 6) (oi := ⟨some 40, _, _, _, _, _⟩) (v := ?_) rfl (by kernel_rfl) (fun _ _ _ h => h) (Or.inl ⟨by rfl, ?_⟩) (fun _ => hHeld) ?_
          rotate_left
          · intro w hSw
            (try dsimp only at hSw)
            go_simp
            try with_reducible rfl
          try simp only [Act.put, List.setIfInBounds_toArray, List.set_cons_zero, List.set_cons_succ]
          refine wpTill_take0 (i := 7) (oi := ⟨some 41, _, _, _, _, _⟩) (v := ?_) rfl (by kernel_rfl) (fun _ _ _ h => h) (Or.inl ⟨by rfl, ?_⟩) (fun _ => hHeld) ?_
          rotate_left
          · intro w hSw
            (try dsimp only at hSw)
            go_simp
            try with_reducible rfl
          try simp only [Act.put, List.setIfInBounds_toArray, List.set_cons_zero, List.set_cons_succ]
          refine wpTill_take0 (i := 9) (oi := ⟨some 43, _, _, _, _, _⟩) (v := ?_) rfl (by kernel_rfl) (fun _ _ _ h => h) (Or.inl ⟨by rfl, ?_⟩) (fun _ => hHeld) ?_
          rotate_left
          · intro w hSw
            (try dsimp only at hSw)
            go_simp
            try with_reducible rfl
          try simp only [Act.put, List.setIfInBounds_toArray, List.set_cons_zero, List.set_cons_succ]
          refine wpTill_take0 (i := 10) (oi := ⟨some 44, _, _, _, _, _⟩) (v := ?_) rfl (by kernel_rfl) (fun _ _ _ h => h) (Or.inl ⟨by rfl, ?_⟩) (fun _ => hHeld) ?_
          rotate_left
          · intro w hSw
            (try dsimp only at hSw)
            go_simp
            try with_reducible rfl
          try simp only [Act.put, List.setIfInBounds_toArray, List.set_cons_zero, List.set_cons_succ]
          refine wpTill_take0 (i := 11) (oi := ⟨some 45, _, _, _, _, _⟩) (v := ?_) rfl (by kernel_rfl) (fun _ _ _ h => h) (Or.inl ⟨by rfl, ?_⟩) (fun _ => hHeld) ?_
          rotate_left
          · intro w hSw
            (try dsimp only at hSw)
            go_simp
            try with_reducible rfl
          try simp only [Act.put, List.setIfInBounds_toArray, List.set_cons_zero, List.set_cons_succ]
          refine wpTill_take (i := 12) (oi := ⟨some 46, _, _, _, _, _⟩) (v := ?_) rfl (by kernel_rfl) (fun _ _ _ h => h) (Or.inl ⟨by rfl, ?_⟩) (by exact hHeld) ?_
          rotate_left
          · intro w hSw
            (try dsimp only at hSw)
            go_simp
            try with_reducible rfl
          try simp only [Act.put, List.setIfInBounds_toArray, List.set_cons_zero, List.set_cons_succ]
          refine wpTill_take0 (i := 13) (oi := ⟨some 47, _, _, _, _, _⟩) (v := ?_) rfl (by kernel_rfl) (fun _ _ _ h => h) (Or.inl ⟨by rfl, ?_⟩) (fun _ => hHeld) ?_
          rotate_left
          · intro w hSw
            (try dsimp only at hSw)
            go_simp
            try with_reducible rfl
          try simp only [Act.put, List.setIfInBounds_toArray, List.set_cons_zero, List.set_cons_succ]
          refine wpTill_take0 (i := 14) (oi := ⟨some 48, _, _, _, _, _⟩) (v := ?_) rfl (by kernel_rfl) (fun _ _ _ h => h) (Or.inl ⟨by rfl, ?_⟩) (fun _ => hHeld) ?_
          rotate_left
          · intro w hSw
            (try dsimp only at hSw)
            go_simp
            try with_reducible rfl
          try simp only [Act.put, List.setIfInBounds_toArray, List.set_cons_zero, List.set_cons_succ]
          refine wpTill_take0 (i := 15) (oi := ⟨some 49, _, _, _, _, _⟩) (v := tailV oa 5 len cap k1) rfl (by kernel_rfl) (fun _ _ _ h => h) (Or.inl ⟨by rfl, ?_⟩) (fun _ => hHeld) ?_
          · intro w hSw
            refine Eq.trans (exec_tail Try.underlying38 hi0 rfl rfl rfl hk1 hcap) ?_
            rw [hz1]
          try simp only [Act.put, List.setIfInBounds_toArray, List.set_cons_zero, List.set_cons_succ]
          refine wpTill_ready (rs := [1]) (by kernel_rfl) (by simp) ?_
          refine AllTill.cons (o := ⟨some 35, _, _, _, _, _⟩) rfl (fun K hK => ?_) AllTill.nil
          refine step_fresh (enc := encQ) (E := 32) rfl [] #[] rfl (by simp) (by kernel_rfl) ?_
          intro W1 v1 g1 f1 hg1 hx1
          have n1 := Nat.le_trans hB.size hg1
          have hB := below_call hB hB.size hx1
          have f := f.below hx1
          refine hK.out _ _ (by exact HSof.out _ hB) (fun hHeld => ?_)
          clear hK K
          try simp only [Act.put, List.setIfInBounds_toArray, List.set_cons_zero, List.set_cons_succ]
          refine wpTill_ready (rs := [8]) (by kernel_rfl) (by simp) ?_
          refine AllTill.cons (o := ⟨some 42, _, _, _, _, _⟩) rfl (fun K hK => ?_) AllTill.nil
          refine step_pushV encQ_len encQ_one Try.underlying38 hi0 hz1 hz0 zeroP rfl (.tmp 35) (.tmp 41) rfl (by exact f1) (by exact (vw_front f.vw encQ_len hkl)) rfl rfl (by rw [hz2']; simp [HLN.out]; omega) (by simp [HLN.out]; omega) ?_
          intro W8 v8 o8 f8 ho8 hu8
          have f := f.keeps hu8 (fun g e x => by cases x; have := HOG.out _ e; omega)
          obtain ⟨g8, rfl, n8⟩ : ∃ g, o8 = some g ∧ w3.heap.size ≤ g := by
            rcases ho8 with rfl | ⟨g, rfl, h⟩
            · exact ⟨_, rfl, n1⟩
            · exact ⟨_, rfl, Nat.le_trans hB.size h⟩
          have hB := Upd.onto hB hu8 hB.size (fun k hk e => by cases e; omega)
          refine hK.out _ _ (by exact HSof.out _ hB) (fun hHeld => ?_)
          clear hK K
          try simp only [Act.put, List.setIfInBounds_toArray, List.set_cons_zero, List.set_cons_succ]
          refine wpTill_ready (rs := [16]) (by kernel_rfl) (by simp) ?_
          refine AllTill.cons (o := ⟨some 50, _, _, _, _, _⟩) rfl (fun K hK => ?_) AllTill.nil
          refine step_pushV encQ_len encQ_one Try.underlying38 hi0 hz1 hz0 zeroP rfl (.tmp 42) (.tmp 49) rfl (by exact f8) (by exact (Vw.tail f.vw encQ_len hk1)) rfl rfl (by rw [hz2']; simp [HLN.out]; omega) (by simp [HLN.out]; omega) ?_
          intro W16 v16 o16 f16 ho16 hu16
          have f := f.keeps hu16 (fun g e x => by cases x; have := HOG.out _ e; omega)
          obtain ⟨g16, rfl, n16⟩ : ∃ g, o16 = some g ∧ w3.heap.size ≤ g := by
            rcases ho16 with rfl | ⟨g, rfl, h⟩
            · exact ⟨_, rfl, n8⟩
            · exact ⟨_, rfl, Nat.le_trans hB.size h⟩
          have hB := Upd.onto hB hu16 hB.size (fun k hk e => by cases e; omega)
          refine hK.out _ _ (by exact HSof.out _ hB) (fun hHeld => ?_)
          clear hK K
          try simp only [Act.put, List.setIfInBounds_toArray, List.set_cons_zero, List.set_cons_succ]
          refine wpTill_take0 (i := 17) (oi := ⟨some 51, _, _, _, _, _⟩) (v := ?_) rfl (by kernel_rfl) (fun _ _ _ h => h) (Or.inl ⟨by rfl, ?_⟩) (fun _ => hHeld) ?_
          rotate_left
          · intro w hSw
            (try dsimp only at hSw)
            go_simp
            try with_reducible rfl
          try simp only [Act.put, List.setIfInBounds_toArray, List.set_cons_zero, List.set_cons_succ]
          refine wpTill_take0 (i := 18) (oi := ⟨some 52, _, _, _, _, _⟩) (v := ?_) rfl (by kernel_rfl) (fun _ _ _ h => h) (Or.inl ⟨by rfl, ?_⟩) (fun _ => hHeld) ?_
          rotate_left
          · intro w hSw
            (try dsimp only at hSw)
            go_simp
            try with_reducible rfl
          try simp only [Act.put, List.setIfInBounds_toArray, List.set_cons_zero, List.set_cons_succ]
          refine wpTill_ready (rs := [19]) (by kernel_rfl) (by simp) ?_
          refine AllTill.consD (o := ⟨none, _, _, _, _, _⟩) rfl (by kernel_rfl) (fun K hK => ?_) AllTill.nil
          obtain ⟨a9, c9, e9, _, _⟩ := f16.shape
          generalize hnl : (([] ++ s.L.take k) ++ s.L.drop k1).length = nl at e9
          subst e9
          have hk := below_keeps hB HK3.out HBB.out
          have e0 := cell_at hk 0
          have q0 := free_at hk 0
          go_simp
          refine hK.out _ _ ?_
          clear hK K
          try simp only [Act.put, List.setIfInBounds_toArray, List.set_cons_zero, List.set_cons_succ]
          refine wpTill_done (by kernel_rfl) ?_ _
          have HF := Lib.hid (show (∀ W', Upd (fun j => j = y) (W16.setCell ⟨b, 0, none⟩ (.slice a9 nl c9)) W' → LM kD w W' fp b (s.takeS p.n)) ∧ (W16.setCell ⟨b, 0, none⟩ (.slice a9 nl c9)).heap[x]? = some (.cells #[.int .u64 p.n, .int .i64 p.t, .int .i64 p.z, .bool p.a, .slice p.fa p.fl p.fc] 32 (0, 0)) ∧ (W16.setCell ⟨b, 0, none⟩ (.slice a9 nl c9)).heap[y]? = some (.cells #[.int .u64 0, .int .i64 0, .int .i64 0, .bool false, .slice none 0 0] 32 (0, 0)) from by
            exact dtake_fin H.out HB3.out hB HK3.out (by exact f16) n16 HSP.out HKX.out HKY3.out HXY.out HYN.out)
          clear f f1 f8 f16 hB hk e0 q0
          obtain ⟨W, hW⟩ : ∃ W, W16.setCell ⟨b, 0, none⟩ (.slice a9 nl c9) = W := ⟨_, rfl⟩
          rw [hW] at HF
          rw [hW]
          clear hW
          have hkx := HF.out.2.1
          have hky := HF.out.2.2
          have x0 := (cell_at hkx 0).trans (by rfl : _ = some (Value.int .u64 p.n))
          have xf0 := free_at hkx 0
          have x1 := (cell_at hkx 1).trans (by rfl : _ = some (Value.int .i64 p.t))
          have xf1 := free_at hkx 1
          have x2 := (cell_at hkx 2).trans (by rfl : _ = some (Value.int .i64 p.z))
          have xf2 := free_at hkx 2
          have x3 := (cell_at hkx 3).trans (by rfl : _ = some (Value.bool p.a))
          have xf3 := free_at hkx 3
          have x4 := (cell_at hkx 4).trans (by rfl : _ = some (Value.slice p.fa p.fl p.fc))
          have xf4 := free_at hkx 4
          have y0 := (cell_at hky 0).trans (by rfl : _ = some (Value.int .u64 0))
          have yf0 := free_at hky 0
          have y1 := (cell_at hky 1).trans (by rfl : _ = some (Value.int .i64 0))
          have yf1 := free_at hky 1
          have y2 := (cell_at hky 2).trans (by rfl : _ = some (Value.int .i64 0))
          have yf2 := free_at hky 2
          have y3 := (cell_at hky 3).trans (by rfl : _ = some (Value.bool false))
          have yf3 := free_at hky 3
          have y4 := (cell_at hky 4).trans (by rfl : _ = some (Value.slice none 0 0))
          have yf4 := free_at hky 4
          have hylt := heap_lt hky
          have HXN := Lib.hid hky
          clear hkx hky
          go_wp2_with fail
          (try simp only [Exit.inBlock, Exit.then])
          refine bodyPost_ret (v := .tuple #[.agg #[.int .u64 p.n, .int .i64 p.t, .int .i64 p.z, .bool p.a, .slice p.fa p.fl p.fc], .bool true]) ?_ rfl ⟨by rw [HTK.out]; rfl, ?_⟩
          · rw [results_cell_tmp rfl]
            go_simp
          · exact HF.out.1 _ ((((((Upd.refl (fun k => k = y) W).setCell ⟨y, 0, none⟩ (.inl rfl) _).setCell ⟨y, 1, none⟩ (.inl rfl) _).setCell ⟨y, 2, none⟩ (.inl rfl) _).setCell ⟨y, 3, none⟩ (.inl rfl) _).setCell ⟨y, 4, none⟩ (.inl rfl) _)
        · have hni : ¬ (p.n : Int) = (n : Int) := by omega
          have HN := Lib.hid (show ∀ j q, j < k + 1 → s.L[j]? = some q → q.n ≠ n from fun j q hj hq => by
            by_cases e : j = k
            · rw [e, HP.out] at hq
              cases hq
              exact hn
            · exact HNO.out j q (by omega) hq)
          go_wp2_with fail
          go_roundw
          case rel => exact ⟨k + 1, by go_num, by omega, trivial, HN.out⟩
          case measure => simp [intOf]; omega
      · obtain rfl : k = len := by omega
        have HTK := Lib.hid (show s.takeP n = none ∧ s.takeS n = s from by
          have h0 : s.takeP n = none := find_no (by rw [HLN.out]; exact HNO.out)
          refine ⟨h0, ?_⟩
          unfold LS.takeS
          rw [List.filter_eq_self.2]
          intro q hq
          have := List.find?_eq_none.1 h0 q hq
          simpa using this)
        have hky := HKY.out
        have y0 := (cell_at hky 0).trans (by rfl : _ = some (Value.int .u64 0))
        have yf0 := free_at hky 0
        have y1 := (cell_at hky 1).trans (by rfl : _ = some (Value.int .i64 0))
        have yf1 := free_at hky 1
        have y2 := (cell_at hky 2).trans (by rfl : _ = some (Value.int .i64 0))
        have yf2 := free_at hky 2
        have y3 := (cell_at hky 3).trans (by rfl : _ = some (Value.bool false))
        have yf3 := free_at hky 3
        have y4 := (cell_at hky 4).trans (by rfl : _ = some (Value.slice none 0 0))
        have yf4 := free_at hky 4
        clear hky
        go_wp2_with fail
        (try simp only [Exit.inBlock, Exit.then])
        refine bodyPost_ret (v := .tuple #[.agg #[.int .u64 0, .int .i64 0, .int .i64 0, .bool false, .slice none 0 0], .bool false]) ?_ rfl ⟨by rw [HTK.out.1]; rfl, ?_⟩
        · rw [results_cell_tmp rfl]
          go_simp
        · rw [HTK.out.2]
          exact lm_refl_new H.out HB.out ((((((Upd.refl (fun k => k = y) _).setCell ⟨y, 0, none⟩ (.inl rfl) _).setCell ⟨y, 1, none⟩ (.inl rfl) _).setCell ⟨y, 2, none⟩ (.inl rfl) _).setCell ⟨y, 3, none⟩ (.inl rfl) _).setCell ⟨y, 4, none⟩ (.inl rfl) _) hy
end Go.Proofs.Ytacfbgnbjdckiaa

/- DERIVED. Ledgers that hold the same but for their frames' own memory. -/
namespace Go.Proofs.Ytacfbgnbjdckiaa
open Go.RowKit

def Pk.core (p : Pk) : Pk := { p with fa := none, fc := 0 }
def LS.core (s : LS) : LS := { s with L := s.L.map Pk.core }
theorem LS.core_eq {s d : LS} (h : s.core = d.core) : s.L.map Pk.core = d.L.map Pk.core ∧ s.nx = d.nx ∧ s.ak = d.ak ∧ s.has = d.has :=
  ⟨show s.core.L = d.core.L by rw [h], show s.core.nx = d.core.nx by rw [h], show s.core.ak = d.core.ak by rw [h], show s.core.has = d.core.has by rw [h]⟩
theorem Pk.core_eq {p q : Pk} (h : p.core = q.core) : p.n = q.n ∧ p.t = q.t ∧ p.z = q.z ∧ p.a = q.a ∧ p.fl = q.fl :=
  ⟨show p.core.n = q.core.n by rw [h], show p.core.t = q.core.t by rw [h], show p.core.z = q.core.z by rw [h], show p.core.a = q.core.a by rw [h], show p.core.fl = q.core.fl by rw [h]⟩
theorem LS.core_of {s d : LS} (h1 : s.L.map Pk.core = d.L.map Pk.core) (h2 : s.nx = d.nx) (h3 : s.ak = d.ak) (h4 : s.has = d.has) : s.core = d.core := by
  unfold LS.core
  rw [h1, h2, h3, h4]
theorem core_len {L M : List Pk} (h : L.map Pk.core = M.map Pk.core) : L.length = M.length := by
  have := congrArg List.length h
  simpa using this
theorem core_sum {L M : List Pk} (h : L.map Pk.core = M.map Pk.core) : sumZ L = sumZ M := by
  have e : ∀ L : List Pk, sumZ L = sumZ (L.map Pk.core) := fun L => by
    unfold sumZ
    rw [List.map_map]
    rfl
  rw [e L, e M, h]
theorem core_filter {L M : List Pk} (h : L.map Pk.core = M.map Pk.core) (f : Pk → Bool) (hf : ∀ p, f p.core = f p) : (L.filter f).map Pk.core = (M.filter f).map Pk.core := by
  have e : ∀ L : List Pk, (L.filter f).map Pk.core = (L.map Pk.core).filter f := fun L => by
    rw [List.filter_map]
    congr 1
    exact List.filter_congr (fun p _ => (hf p).symm)
  rw [e L, e M, h]
theorem core_find {L M : List Pk} (h : L.map Pk.core = M.map Pk.core) (f : Pk → Bool) (hf : ∀ p, f p.core = f p) : (L.find? f).map Pk.core = (M.find? f).map Pk.core := by
  have e : ∀ L : List Pk, (L.find? f).map Pk.core = (L.map Pk.core).find? f := fun L => by
    rw [List.find?_map]
    congr 1
    congr 1
    funext p
    exact (hf p).symm
  rw [e L, e M, h]
theorem core_get {L M : List Pk} (h : L.map Pk.core = M.map Pk.core) (i : Nat) : (L[i]?).map Pk.core = (M[i]?).map Pk.core := by
  rw [← List.getElem?_map, ← List.getElem?_map, h]
theorem sim_ackErr {s d : LS} (h : s.core = d.core) (rs : List Rg) : s.ackErr rs = d.ackErr rs := by
  unfold LS.ackErr
  rw [(LS.core_eq h).2.1]
theorem sim_top {s d : LS} (h : s.core = d.core) (rs : List Rg) : s.top rs = d.top rs := by
  unfold LS.top
  rw [(LS.core_eq h).2.2.1]
theorem sim_got {s d : LS} (h : s.core = d.core) (rs : List Rg) : (s.got rs).map Pk.core = (d.got rs).map Pk.core := core_filter (LS.core_eq h).1 _ (fun _ => rfl)
theorem sim_lost {s d : LS} (h : s.core = d.core) (rs : List Rg) : (s.lost rs).map Pk.core = (d.lost rs).map Pk.core := by
  unfold LS.lost
  rw [sim_top h]
  exact core_filter (LS.core_eq h).1 _ (fun _ => rfl)
theorem sim_acks {s d : LS} (h : s.core = d.core) (rs : List Rg) : (s.acks rs).core = (d.acks rs).core := by
  refine LS.core_of ?_ (LS.core_eq h).2.1 (sim_top h rs) rfl
  show (s.left rs).map _ = (d.left rs).map _
  unfold LS.left
  rw [sim_top h]
  exact core_filter (LS.core_eq h).1 _ (fun _ => rfl)
theorem sim_takeP {s d : LS} (h : s.core = d.core) (n : Nat) : (s.takeP n).map Pk.core = (d.takeP n).map Pk.core := core_find (LS.core_eq h).1 _ (fun _ => rfl)
theorem sim_takeS {s d : LS} (h : s.core = d.core) (n : Nat) : (s.takeS n).core = (d.takeS n).core :=
  LS.core_of (core_filter (LS.core_eq h).1 _ (fun _ => rfl)) (LS.core_eq h).2.1 (LS.core_eq h).2.2.1 (LS.core_eq h).2.2.2
theorem sim_addErr {s d : LS} (h : s.core = d.core) {p q : Pk} (hp : p.core = q.core) : s.addErr p = d.addErr q := by
  obtain ⟨e1, e2, e3, e4, _⟩ := Pk.core_eq hp
  unfold LS.addErr LS.bad
  rw [(LS.core_eq h).2.1, core_len (LS.core_eq h).1, e1, e2, e3, e4]
theorem sim_addS {s d : LS} (h : s.core = d.core) {p q : Pk} (hp : p.core = q.core) : (s.addS p).core = (d.addS q).core := by
  have he := sim_addErr h hp
  obtain ⟨e1, _, _, e4, _⟩ := Pk.core_eq hp
  unfold LS.addS
  rw [he, e4]
  split
  · exact h
  · split
    · refine LS.core_of ?_ (by show p.n + 1 = q.n + 1; rw [e1]) (LS.core_eq h).2.2.1 (LS.core_eq h).2.2.2
      show (s.L ++ [p]).map _ = (d.L ++ [q]).map _
      rw [List.map_append, List.map_append, (LS.core_eq h).1]
      simp [hp]
    · exact LS.core_of (LS.core_eq h).1 (by show p.n + 1 = q.n + 1; rw [e1]) (LS.core_eq h).2.2.1 (LS.core_eq h).2.2.2

/-- The two ledgers, in memory. -/
structure Two (W w : World) (b c : Nat) (s d : LS) (fp fq : Nat → Prop) : Prop where
  p : LAt kP w b s fp
  d : LAt kD w c d fq
  np : ∀ k, fp k → W.heap.size ≤ k
  nd : ∀ k, fq k → W.heap.size ≤ k
  ap : ∀ k, fp k → ¬ fq k
  below : Below W.heap.size W w
theorem Two.later {W w w' : World} {b c : Nat} {s d : LS} {fp fq : Nat → Prop} (h : Two W w b c s d fp fq) (hb : Below w.heap.size w w') : Two W w' b c s d fp fq :=
  ⟨h.p.below hb, h.d.below hb, h.np, h.nd, h.ap, below_call h.below h.below.size hb⟩
theorem Two.goP {W w w' : World} {b c : Nat} {s d s' : LS} {fp fq : Nat → Prop} (h : Two W w b c s d fp fq) (m : LM kP w w' fp b s') : ∃ fp', Two W w' b c s' d fp' fq := by
  obtain ⟨fp', h1, h2, h3⟩ := m
  have hs := h.below.size
  refine ⟨fp', h1, h.d.keeps h2 (fun k hk q => h.ap k q hk), fun k hk => ?_, h.nd, fun k hk q => ?_, Upd.belowOf h.below h2 (fun k hk q => by have := h.np k q; omega)⟩
  · rcases h3 k hk with x | x
    · exact h.np k x
    · omega
  · rcases h3 k hk with x | x
    · exact h.ap k x q
    · have := h.d.lt.2 k q
      omega
theorem Two.goD {W w w' : World} {b c : Nat} {s d d' : LS} {fp fq : Nat → Prop} (h : Two W w b c s d fp fq) (m : LM kD w w' fq c d') : ∃ fq', Two W w' b c s d' fp fq' := by
  obtain ⟨fq', h1, h2, h3⟩ := m
  have hs := h.below.size
  refine ⟨fq', h.p.keeps h2 (fun k hk q => h.ap k hk q), h1, h.np, fun k hk => ?_, fun k hk q => ?_, Upd.belowOf h.below h2 (fun k hk q => by have := h.nd k q; omega)⟩
  · rcases h3 k hk with x | x
    · exact h.nd k x
    · omega
  · rcases h3 k q with x | x
    · exact h.ap k hk x
    · have := h.p.lt.2 k hk
      omega
end Go.Proofs.Ytacfbgnbjdckiaa

/- DERIVED. Walk of narthexkeep's Packets, on lists that hold the same. -/
namespace Go.Proofs.Ytacfbgnbjdckiaa
open Go.RowKit

theorem drew_cell {w wr : World} {n : Nat} {a : Addr} {v : Value} (hw : wr = w.drewN n) (h : w.cell? a = some v) : wr.cell? a = some v := by
  subst hw
  exact h
set_option maxRecDepth 100000 in
set_option maxHeartbeats 2000000 in
theorem packs_eq (va vb : Value) (xs ys : List Pk) (w : World) {A B : Nat} (ha : Vw encQ w A va xs) (hb : Vw encQ w B vb ys) (he : xs.map Pk.core = ys.map Pk.core) (hl : xs.length ≤ 1000) :
    Calls Try.prog 30 #[va, vb] w fun e w' => e = .returned (.bool true) ∧ ∃ n, w' = w.drewN n := by
  obtain ⟨oa, ca, rfl, hc1, hc2⟩ := ha.shape
  obtain ⟨ob, cb, rfl, hd1, hd2⟩ := hb.shape
  have HA := Lib.hid ha
  have HB := Lib.hid hb
  have HE := Lib.hid he
  have hll := core_len he
  obtain ⟨len, hlen⟩ : ∃ len, xs.length = len := ⟨_, rfl⟩
  rw [← hll] at HB hd1 ⊢
  rw [hlen] at HA HB hc1 hd1 hl ⊢
  have HLN := Lib.hid hlen
  have HLM := Lib.hid (show ys.length = len from by rw [← hll]; exact hlen)
  clear ha hb he hll hlen
  go_enter Try.func30, Try.ntmps30
  go_wp2_with fail
  go_loopw [5] (fun i wr => ∃ k : Nat, i = .int .i64 k ∧ k ≤ len ∧ ∃ n, wr = w.drewN n) (fun i _ => len - (intOf i).toNat)
  case atStart => exact ⟨0, rfl, by omega, 0, rfl⟩
  case round =>
    obtain ⟨k, rfl, hk, n, hw⟩ := hrel
    have HW := Lib.hid hw
    clear hw
    by_cases hlt : k < len
    · obtain ⟨p, hp⟩ : ∃ p, xs[k]? = some p := ⟨_, List.getElem?_eq_getElem (by rw [HLN.out]; exact hlt)⟩
      obtain ⟨q, hq⟩ : ∃ q, ys[k]? = some q := ⟨_, List.getElem?_eq_getElem (by rw [HLM.out]; exact hlt)⟩
      have hpq : p.core = q.core := by
        have := core_get HE.out k
        rw [hp, hq] at this
        simpa using this
      obtain ⟨c, ofc, rfl, hc, q0, q1, q2, q3, q4⟩ := HA.out.pkt hp
      obtain ⟨d, ofd, rfl, hd, r0, r1, r2, r3, r4⟩ := HB.out.pkt hq
      obtain ⟨e1, e2, e3, e4, e5⟩ := Pk.core_eq hpq
      rw [← e1] at r0
      have q0 := drew_cell HW.out q0
      have q1 := drew_cell HW.out q1
      have q2 := drew_cell HW.out q2
      have q3 := drew_cell HW.out q3
      have q4 := drew_cell HW.out q4
      rw [← e2] at r1
      rw [← e3] at r2
      rw [← e4] at r3
      rw [← e5] at r4
      have r0 := drew_cell HW.out r0
      have r1 := drew_cell HW.out r1
      have r2 := drew_cell HW.out r2
      have r3 := drew_cell HW.out r3
      have r4 := drew_cell HW.out r4
      clear hp hq hpq e1 e2 e3 e4 e5
      go_wp2_with fail
      simp only [List.append_eq, List.cons_append, List.nil_append]
      go_quiet (fail)
      go_wp2_with fail
      go_roundw
      case rel => exact ⟨k + 1, by go_num, by omega, _, by rw [HW.out]; exact drewN_drewN _ _ _⟩
      case measure => simp [intOf]; omega
    · obtain rfl : k = len := by omega
      go_wp2_with fail
      go_ret
      exact ⟨rfl, n, HW.out⟩
end Go.Proofs.Ytacfbgnbjdckiaa

/- DERIVED. Walk of narthexlaw11's same (printed by mksqsame.py). -/
namespace Go.Proofs.Ytacfbgnbjdckiaa
open Go.RowKit

theorem q_below {P : Program} {F : Nat} {args : Array Value} {w : World} {R : Value} (h : Calls P F args w fun e w' => e = .returned R ∧ ∃ n, w' = w.drewN n) : Calls P F args w fun e w' => e = .returned R ∧ Below w.heap.size w w' :=
  h.mono (fun e w' h => ⟨h.1, by obtain ⟨n, hn⟩ := h.2; rw [hn]; exact below_drewN (Below.refl _ _) n⟩)
theorem q_same {P : Program} {F : Nat} {args : Array Value} {w : World} {R : Value} (h : Calls P F args w fun e w' => e = .returned R ∧ w' = w) : Calls P F args w fun e w' => e = .returned R ∧ Below w.heap.size w w' :=
  h.mono (fun e w' h => ⟨h.1, by rw [h.2]; exact Below.refl _ _⟩)
/-- What Oldest and Last tell, of both. -/
def oldZ : Pk := ⟨0, 0, 0, false, none, 0, 0⟩
theorem lold_any (b : Nat) (s : LS) (fp : Nat → Prop) (w : World) (h : LAt kP w b s fp) : Calls Try.prog 16 #[.pointer (some ⟨b, 0, none⟩)] w fun e w' =>
    ∃ q, e = .returned (.tuple #[.agg (encQ q).toArray, .bool (s.L[0]?).isSome]) ∧ q.n = ((s.L[0]?).getD oldZ).n ∧ q.z = ((s.L[0]?).getD oldZ).z ∧ Below w.heap.size w w' := by
  cases hp : s.L[0]?
  · have hnil : s.L = [] := by
      cases h2 : s.L with
      | nil => rfl
      | cons a l => rw [h2] at hp; simp at hp
    refine (lold_none b s fp w h hnil).mono ?_
    rintro e w' ⟨rfl, hb⟩
    exact ⟨oldZ, rfl, rfl, rfl, hb⟩
  · rename_i p
    refine (lold_some b s fp p w h hp).mono ?_
    rintro e w' ⟨q, rfl, hc, hb⟩
    exact ⟨q, rfl, hc.n, hc.z, hb⟩
theorem dold_any (b : Nat) (s : LS) (fp : Nat → Prop) (w : World) (h : LAt kD w b s fp) : Calls Try.prog 43 #[.pointer (some ⟨b, 0, none⟩)] w fun e w' =>
    ∃ q, e = .returned (.tuple #[.agg (encQ q).toArray, .bool (s.L[0]?).isSome]) ∧ q.n = ((s.L[0]?).getD oldZ).n ∧ q.z = ((s.L[0]?).getD oldZ).z ∧ Below w.heap.size w w' := by
  cases hp : s.L[0]?
  · have hnil : s.L = [] := by
      cases h2 : s.L with
      | nil => rfl
      | cons a l => rw [h2] at hp; simp at hp
    refine (dold_none b s fp w h hnil).mono ?_
    rintro e w' ⟨rfl, hb⟩
    exact ⟨oldZ, rfl, rfl, rfl, hb⟩
  · rename_i p
    refine (dold_some b s fp p w h hp).mono ?_
    rintro e w' ⟨rfl, hb⟩
    refine ⟨{ p with a := true }, rfl, rfl, rfl, hb⟩
def lastT (s : LS) : Int := ((s.L[s.L.length - 1]?).getD oldZ).t
theorem llast_any (b : Nat) (s : LS) (fp : Nat → Prop) (w : World) (h : LAt kP w b s fp) : Calls Try.prog 17 #[.pointer (some ⟨b, 0, none⟩)] w fun e w' =>
    e = .returned (.tuple #[.int .i64 (lastT s), .bool (decide (s.L ≠ []))]) ∧ Below w.heap.size w w' := by
  by_cases hn : s.L = []
  · refine (llast_none b s fp w h hn).mono ?_
    rintro e w' ⟨rfl, hb⟩
    refine ⟨?_, hb⟩
    unfold lastT
    rw [hn]
    rfl
  · obtain ⟨p, hp⟩ : ∃ p, s.L[s.L.length - 1]? = some p := ⟨_, List.getElem?_eq_getElem (by have := List.length_pos_iff.2 hn; omega)⟩
    refine (llast_some b s fp p w h hp).mono ?_
    rintro e w' ⟨rfl, hb⟩
    refine ⟨?_, hb⟩
    unfold lastT
    rw [hp, decide_eq_true hn]
    rfl
theorem dlast_any (b : Nat) (s : LS) (fp : Nat → Prop) (w : World) (h : LAt kD w b s fp) : Calls Try.prog 44 #[.pointer (some ⟨b, 0, none⟩)] w fun e w' =>
    e = .returned (.tuple #[.int .i64 (lastT s), .bool (decide (s.L ≠ []))]) ∧ Below w.heap.size w w' := by
  by_cases hn : s.L = []
  · refine (dlast_none b s fp w h hn).mono ?_
    rintro e w' ⟨rfl, rfl⟩
    refine ⟨?_, Below.refl _ _⟩
    unfold lastT
    rw [hn]
    rfl
  · obtain ⟨p, hp⟩ : ∃ p, s.L[s.L.length - 1]? = some p := ⟨_, List.getElem?_eq_getElem (by have := List.length_pos_iff.2 hn; omega)⟩
    refine (dlast_some b s fp p w h hp).mono ?_
    rintro e w' ⟨rfl, rfl⟩
    refine ⟨?_, Below.refl _ _⟩
    unfold lastT
    rw [hp, decide_eq_true hn]
    rfl
theorem sim_old {s d : LS} (h : s.core = d.core) : (s.L[0]?).isSome = (d.L[0]?).isSome ∧ ((s.L[0]?).getD oldZ).n = ((d.L[0]?).getD oldZ).n ∧ ((s.L[0]?).getD oldZ).z = ((d.L[0]?).getD oldZ).z := by
  have := core_get (LS.core_eq h).1 0
  cases h1 : s.L[0]? <;> cases h2 : d.L[0]? <;> rw [h1, h2] at this
  · exact ⟨rfl, rfl, rfl⟩
  · cases this
  · cases this
  · simp only [Option.map_some, Option.some.injEq] at this
    obtain ⟨e1, _, e3, _⟩ := Pk.core_eq this
    exact ⟨rfl, e1, e3⟩
theorem sim_last {s d : LS} (h : s.core = d.core) : lastT s = lastT d ∧ decide (s.L ≠ []) = decide (d.L ≠ []) := by
  have hl := core_len (LS.core_eq h).1
  have := core_get (LS.core_eq h).1 (s.L.length - 1)
  constructor
  · unfold lastT
    rw [hl] at this ⊢
    have e := congrArg (Option.map Pk.t) this
    rw [Option.map_map, Option.map_map] at e
    rw [← Option.getD_map Pk.t, ← Option.getD_map Pk.t]
    exact congrArg (fun o => Option.getD o (Pk.t oldZ)) e
  · rw [decide_eq_decide, ← List.length_pos_iff, ← List.length_pos_iff, hl]
set_option maxRecDepth 100000 in
set_option maxHeartbeats 4000000 in
theorem same_two {W : World} (b c : Nat) (s d : LS) (fp fq : Nat → Prop) (w : World) (h : Two W w b c s d fp fq) (hs : s.core = d.core) :
    Calls Try.prog 34 #[.pointer (some ⟨b, 0, none⟩), .pointer (some ⟨c, 0, none⟩)] w fun e w' => e = .returned (.bool true) ∧ Two W w' b c s d fp fq := by
  have H := Lib.hid h
  obtain ⟨so1, so2, so3⟩ := sim_old hs
  obtain ⟨sl1, sl2⟩ := sim_last hs
  have HS := Lib.hid hs
  obtain ⟨ho, hho⟩ : ∃ ho, (s.L[0]?).isSome = ho := ⟨_, rfl⟩
  obtain ⟨on, hon⟩ : ∃ on, ((s.L[0]?).getD oldZ).n = on := ⟨_, rfl⟩
  obtain ⟨oz, hoz⟩ : ∃ oz, ((s.L[0]?).getD oldZ).z = oz := ⟨_, rfl⟩
  obtain ⟨lt, hlt⟩ : ∃ lt, lastT s = lt := ⟨_, rfl⟩
  obtain ⟨lh, hlh⟩ : ∃ lh, decide (s.L ≠ []) = lh := ⟨_, rfl⟩
  rw [hho] at so1
  rw [hon] at so2
  rw [hoz] at so3
  rw [hlt] at sl1
  rw [hlh] at sl2
  have HO := Lib.hid (show ((s.L[0]?).isSome = ho ∧ ((s.L[0]?).getD oldZ).n = on ∧ ((s.L[0]?).getD oldZ).z = oz) ∧ ((d.L[0]?).isSome = ho ∧ ((d.L[0]?).getD oldZ).n = on ∧ ((d.L[0]?).getD oldZ).z = oz) ∧ (lastT s = lt ∧ decide (s.L ≠ []) = lh) ∧ (lastT d = lt ∧ decide (d.L ≠ []) = lh) from
    ⟨⟨hho, hon, hoz⟩, ⟨so1.symm, so2.symm, so3.symm⟩, ⟨hlt, hlh⟩, ⟨sl1.symm, sl2.symm⟩⟩)
  clear h hs so1 so2 so3 sl1 sl2 hho hon hoz hlt hlh
  go_enter Try.func34, Try.ntmps34
  go_upto_region 1 with fail
  go_cut [5, 6] (fun v f wx => ∃ (x : Nat) (q : Pk), v = .pointer (some ⟨x, 0, none⟩) ∧ f = .bool ho ∧ w.heap.size ≤ x ∧ Below w.heap.size w wx ∧ wx.heap[x]? = some (.cells #[.int .u64 on, .int .i64 q.t, .int .i64 oz, .bool q.a, .slice q.fa q.fl q.fc] 32 (0, 0)))
  case first =>
    go_wp2_with fail
    refine (lold_any b s fp _ (by exact H.out.p)).mono ?_
    rw [HO.out.1.1, HO.out.1.2.1, HO.out.1.2.2]
    rintro e w2 ⟨q, rfl, hq1, hq2, hb⟩
    have HB := Lib.hid hb
    clear hb
    simp only [encQ]
    go_wp2_with fail
    go_meet
    case rel => exact ⟨_, q, rfl, rfl, HB.out.size, HB.out.alloc HB.out.size _, alloc_at _ _⟩
  case rest =>
  obtain ⟨x, q, rfl, rfl, hx, hb, hkx⟩ := hcut
  have H1 := Lib.hid (H.out.later hb)
  have HKX := Lib.hid hkx
  clear hb hkx H
  generalize wc = w1 at *
  go_upto_region 2 with fail
  go_cut [7, 8] (fun v f wx => ∃ (y : Nat) (r : Pk), v = .pointer (some ⟨y, 0, none⟩) ∧ f = .bool ho ∧ w1.heap.size ≤ y ∧ Below w1.heap.size w1 wx ∧ wx.heap[y]? = some (.cells #[.int .u64 on, .int .i64 r.t, .int .i64 oz, .bool r.a, .slice r.fa r.fl r.fc] 32 (0, 0)))
  case first =>
    go_wp2_with fail
    refine (dold_any c d fq _ (by exact H1.out.d)).mono ?_
    rw [HO.out.2.1.1, HO.out.2.1.2.1, HO.out.2.1.2.2]
    rintro e w2 ⟨r, rfl, hq1, hq2, hb⟩
    have HB := Lib.hid hb
    clear hb
    simp only [encQ]
    go_wp2_with fail
    go_meet
    case rel => exact ⟨_, r, rfl, rfl, HB.out.size, HB.out.alloc HB.out.size _, alloc_at _ _⟩
  case rest =>
  obtain ⟨y, r, rfl, rfl, hy, hb, hky⟩ := hcut
  have H2 := Lib.hid (H1.out.later hb)
  have HKX2 := Lib.hid (below_keeps hb HKX.out (heap_lt HKX.out))
  have HKY := Lib.hid hky
  clear hb hky H1 HKX
  generalize wc = w2 at *
  go_upto_region 3 with fail
  go_cut [9, 10] (fun v f wx => v = .int .i64 lt ∧ f = .bool lh ∧ Below w2.heap.size w2 wx)
  case first =>
    go_wp2_with fail
    refine (llast_any b s fp _ (by exact H2.out.p)).mono ?_
    rw [HO.out.2.2.1.1, HO.out.2.2.1.2]
    rintro e w3 ⟨rfl, hb⟩
    have HB := Lib.hid hb
    clear hb
    go_wp2_with fail
    go_meet
    case rel => exact ⟨rfl, rfl, HB.out⟩
  case rest =>
  obtain ⟨rfl, rfl, hb⟩ := hcut
  have H3 := Lib.hid (H2.out.later hb)
  have HK3 := Lib.hid (And.intro (below_keeps hb HKX2.out (heap_lt HKX2.out)) (below_keeps hb HKY.out (heap_lt HKY.out)))
  clear hb H2 HKX2 HKY
  generalize wc = w3 at *
  go_upto_region 4 with fail
  go_cut [11, 12] (fun v f wx => v = .int .i64 lt ∧ f = .bool lh ∧ Below w3.heap.size w3 wx)
  case first =>
    go_wp2_with fail
    refine (dlast_any c d fq _ (by exact H3.out.d)).mono ?_
    rw [HO.out.2.2.2.1, HO.out.2.2.2.2]
    rintro e w4 ⟨rfl, hb⟩
    have HB := Lib.hid hb
    clear hb
    go_wp2_with fail
    go_meet
    case rel => exact ⟨rfl, rfl, HB.out⟩
  case rest =>
  obtain ⟨rfl, rfl, hb⟩ := hcut
  have H4 := Lib.hid (H3.out.later hb)
  have HK4 := Lib.hid (And.intro (below_keeps hb HK3.out.1 (heap_lt HK3.out.1)) (below_keeps hb HK3.out.2 (heap_lt HK3.out.2)))
  clear hb H3 HK3
  generalize wc = w4 at *
  go_wp2_with fail
  refine (lacked_q b s fp _ (by exact H4.out.p)).mono ?_
  rintro e w5 ⟨rfl, n5, rfl⟩
  have H5 := Lib.hid (H4.out.later (below_drewN (Below.refl _ _) n5))
  have HK5 := Lib.hid (show (w4.drewN n5).heap[x]? = _ ∧ (w4.drewN n5).heap[y]? = _ from HK4.out)
  obtain ⟨d1, d2, d3⟩ := H5.out.d.cells
  obtain ⟨_, e1, e2, e3⟩ := LS.core_eq HS.out
  rw [← e1] at d1
  rw [← e2] at d2
  rw [← e3] at d3
  obtain ⟨sak, hsak⟩ : ∃ sak, s.ak = sak := ⟨_, rfl⟩
  obtain ⟨shas, hshas⟩ : ∃ shas, s.has = shas := ⟨_, rfl⟩
  obtain ⟨snx, hsnx⟩ : ∃ snx, s.nx = snx := ⟨_, rfl⟩
  have HNX := Lib.hid hsnx
  rw [hsak] at d2 ⊢
  rw [hshas] at d3 ⊢
  rw [hsnx] at d1
  have hkx := HK5.out.1
  have hky := HK5.out.2
  have x0 := (cell_at hkx 0).trans (by rfl : _ = some (Value.int .u64 on))
  have x2 := (cell_at hkx 2).trans (by rfl : _ = some (Value.int .i64 oz))
  have y0 := (cell_at hky 0).trans (by rfl : _ = some (Value.int .u64 on))
  have y2 := (cell_at hky 2).trans (by rfl : _ = some (Value.int .i64 oz))
  clear hsak hshas hsnx hkx hky e1 e2 e3 H4 HK4 HO
  generalize w4.drewN n5 = w5 at *
  have D := Lib.hid (And.intro d1 (And.intro d2 d3))
  obtain ⟨vD, oD, hLD, _⟩ := H5.out.d
  obtain ⟨oc, cc, rfl, hcc1, hcc2⟩ := hLD.row.shape
  obtain ⟨ll, hll⟩ : ∃ ll, s.L.length = ll := ⟨_, rfl⟩
  have hll2 : d.L.length = ll := by rw [← core_len (LS.core_eq HS.out).1]; exact hll
  have HLL := Lib.hid (And.intro hll hll2)
  obtain ⟨fl, hfl⟩ : ∃ fl, sumZ s.L = fl := ⟨_, rfl⟩
  have HFL := Lib.hid (show sumZ s.L = fl ∧ sumZ d.L = fl from ⟨hfl, by rw [← core_sum (LS.core_eq HS.out).1]; exact hfl⟩)
  have HBK := Lib.hid (show w5.heap[c]? = some (.cells #[.slice oc ll cc, .int .u64 snx, .int .u64 d.ak, .bool d.has] kD.1 (0, 0)) from by
    have := hLD.blk
    rw [hll2, ← (LS.core_eq HS.out).2.1, HNX.out] at this
    exact this)
  have HSof := Lib.hid (show ∀ W, Below w5.heap.size w5 W → W.cell? ⟨c, 0, none⟩ = some (.slice oc ll cc) ∧ W.cell? ⟨c, 1, none⟩ = some (.int .u64 snx) from fun W hW => by
    have hk := below_keeps hW HBK.out (heap_lt HBK.out)
    exact ⟨(cell_at hk 0).trans rfl, (cell_at hk 1).trans rfl⟩)
  rw [hll2] at hcc1
  clear hLD hll hll2 hfl
  go_wp2_with fail
  have hb : Below w5.heap.size w5 w5.drew := (Below.refl _ _).drew
  refine wp_region_till (S := fun w' => w'.cell? ⟨c, 0, none⟩ = some (.slice oc ll cc) ∧ w'.cell? ⟨c, 1, none⟩ = some (.int .u64 snx)) [] (by kernel_rfl) (by exact HSof.out _ hb) (fun hHeld => ?_)
  refine wpTill_take0 (i := 0) (oi := ⟨some 83, _, _, _, _, _⟩) (v := ?_) rfl (by kernel_rfl) (fun _ _ _ h => h) (Or.inl ⟨by rfl, ?_⟩) (fun _ => hHeld) ?_
  rotate_left
  · intro w hSw
    (try dsimp only at hSw)
    go_simp
    try with_reducible rfl
  try simp only [Act.put, List.setIfInBounds_toArray, List.set_cons_zero, List.set_cons_succ]
  refine wpTill_take0 (i := 2) (oi := ⟨some 85, _, _, _, _, _⟩) (v := ?_) rfl (by kernel_rfl) (fun _ _ _ h => h) (Or.inl ⟨by rfl, ?_⟩) (fun _ => hHeld) ?_
  rotate_left
  · intro w hSw
    (try dsimp only at hSw)
    go_simp
    try with_reducible rfl
  try simp only [Act.put, List.setIfInBounds_toArray, List.set_cons_zero, List.set_cons_succ]
  refine wpTill_ready (rs := [1]) (by kernel_rfl) (by simp) ?_
  refine AllTill.cons (o := ⟨some 84, _, _, _, _, _⟩) rfl (fun K hK => ?_) AllTill.nil
  go_simp
  go_at_call 13
  refine (lflight_any b s fp _ (by exact H5.out.p.below hb)).mono ?_
  rw [HFL.out.1]
  rintro e W1 ⟨rfl, hx⟩
  have hb := below_call hb hb.size hx
  go_wp2_with fail
  refine hK.out _ _ (by exact HSof.out _ hb) (fun hHeld => ?_)
  clear hK K
  try simp only [Act.put, List.setIfInBounds_toArray, List.set_cons_zero, List.set_cons_succ]
  refine wpTill_ready (rs := [3]) (by kernel_rfl) (by simp) ?_
  refine AllTill.cons (o := ⟨some 86, _, _, _, _, _⟩) rfl (fun K hK => ?_) AllTill.nil
  go_simp
  go_at_call 46
  refine (q_same (dflight_any c d fq _ (by exact H5.out.d.below hb))).mono ?_
  rw [HFL.out.2]
  rintro e W3 ⟨rfl, hx⟩
  have hb := below_call hb hb.size hx
  go_wp2_with fail
  refine hK.out _ _ (by exact HSof.out _ hb) (fun hHeld => ?_)
  clear hK K
  try simp only [Act.put, List.setIfInBounds_toArray, List.set_cons_zero, List.set_cons_succ]
  refine wpTill_take0 (i := 4) (oi := ⟨some 87, _, _, _, _, _⟩) (v := ?_) rfl (by kernel_rfl) (fun _ _ _ h => h) (Or.inl ⟨by rfl, ?_⟩) (fun _ => hHeld) ?_
  rotate_left
  · intro w hSw
    (try dsimp only at hSw)
    go_simp
    try with_reducible rfl
  try simp only [Act.put, List.setIfInBounds_toArray, List.set_cons_zero, List.set_cons_succ]
  refine wpTill_take0 (i := 5) (oi := ⟨some 88, _, _, _, _, _⟩) (v := ?_) rfl (by kernel_rfl) (fun _ _ _ h => h) (Or.inl ⟨by rfl, ?_⟩) (fun _ => hHeld) ?_
  rotate_left
  · intro w hSw
    (try dsimp only at hSw)
    go_simp
    try with_reducible rfl
  try simp only [Act.put, List.setIfInBounds_toArray, List.set_cons_zero, List.set_cons_succ]
  refine wpTill_take0 (i := 6) (oi := ⟨some 89, _, _, _, _, _⟩) (v := ?_) rfl (by kernel_rfl) (fun _ _ _ h => h) (Or.inl ⟨by rfl, ?_⟩) (fun _ => hHeld) ?_
  rotate_left
  · intro w hSw
    (try dsimp only at hSw)
    go_simp
    try with_reducible rfl
  try simp only [Act.put, List.setIfInBounds_toArray, List.set_cons_zero, List.set_cons_succ]
  refine wpTill_take0 (i := 8) (oi := ⟨some 91, _, _, _, _, _⟩) (v := ?_) rfl (by kernel_rfl) (fun _ _ _ h => h) (Or.inl ⟨by rfl, ?_⟩) (fun _ => hHeld) ?_
  rotate_left
  · intro w hSw
    (try dsimp only at hSw)
    go_simp
    try with_reducible rfl
  try simp only [Act.put, List.setIfInBounds_toArray, List.set_cons_zero, List.set_cons_succ]
  refine wpTill_take0 (i := 9) (oi := ⟨some 92, _, _, _, _, _⟩) (v := ?_) rfl (by kernel_rfl) (fun _ _ _ h => h) (Or.inl ⟨by rfl, ?_⟩) (fun _ => hHeld) ?_
  rotate_left
  · intro w hSw
    (try dsimp only at hSw)
    go_simp
    try with_reducible rfl
  try simp only [Act.put, List.setIfInBounds_toArray, List.set_cons_zero, List.set_cons_succ]
  refine wpTill_take0 (i := 10) (oi := ⟨some 93, _, _, _, _, _⟩) (v := ?_) rfl (by kernel_rfl) (fun _ _ _ h => h) (Or.inl ⟨by rfl, ?_⟩) (fun _ => hHeld) ?_
  rotate_left
  · intro w hSw
    (try dsimp only at hSw)
    go_simp
    try with_reducible rfl
  try simp only [Act.put, List.setIfInBounds_toArray, List.set_cons_zero, List.set_cons_succ]
  refine wpTill_take (i := 11) (oi := ⟨some 94, _, _, _, _, _⟩) (v := ?_) rfl (by kernel_rfl) (fun _ _ _ h => h) (Or.inl ⟨by rfl, ?_⟩) (by exact hHeld) ?_
  rotate_left
  · intro w hSw
    (try dsimp only at hSw)
    go_simp
    try with_reducible rfl
  try simp only [Act.put, List.setIfInBounds_toArray, List.set_cons_zero, List.set_cons_succ]
  refine wpTill_take0 (i := 12) (oi := ⟨some 95, _, _, _, _, _⟩) (v := ?_) rfl (by kernel_rfl) (fun _ _ _ h => h) (Or.inl ⟨by rfl, ?_⟩) (fun _ => hHeld) ?_
  rotate_left
  · intro w hSw
    (try dsimp only at hSw)
    go_simp
    try with_reducible rfl
  try simp only [Act.put, List.setIfInBounds_toArray, List.set_cons_zero, List.set_cons_succ]
  refine wpTill_ready (rs := [7]) (by kernel_rfl) (by simp) ?_
  refine AllTill.cons (o := ⟨some 90, _, _, _, _, _⟩) rfl (fun K hK => ?_) AllTill.nil
  go_simp
  go_at_call 12
  refine (q_below (llen_q b s fp _ (by exact H5.out.p.below hb))).mono ?_
  rw [HLL.out.1]
  rintro e W7 ⟨rfl, hx⟩
  have hb := below_call hb hb.size hx
  go_wp2_with fail
  refine hK.out _ _ (by exact HSof.out _ hb) (fun hHeld => ?_)
  clear hK K
  try simp only [Act.put, List.setIfInBounds_toArray, List.set_cons_zero, List.set_cons_succ]
  refine wpTill_take0 (i := 13) (oi := ⟨some 96, _, _, _, _, _⟩) (v := ?_) rfl (by kernel_rfl) (fun _ _ _ h => h) (Or.inl ⟨by rfl, ?_⟩) (fun _ => hHeld) ?_
  rotate_left
  · intro w hSw
    (try dsimp only at hSw)
    go_simp
    try with_reducible rfl
  try simp only [Act.put, List.setIfInBounds_toArray, List.set_cons_zero, List.set_cons_succ]
  refine wpTill_take0 (i := 14) (oi := ⟨some 97, _, _, _, _, _⟩) (v := ?_) rfl (by kernel_rfl) (fun _ _ _ h => h) (Or.inl ⟨by rfl, ?_⟩) (fun _ => hHeld) ?_
  rotate_left
  · intro w hSw
    (try dsimp only at hSw)
    go_simp
    try with_reducible rfl
  try simp only [Act.put, List.setIfInBounds_toArray, List.set_cons_zero, List.set_cons_succ]
  refine wpTill_take0 (i := 15) (oi := ⟨some 98, _, _, _, _, _⟩) (v := ?_) rfl (by kernel_rfl) (fun _ _ _ h => h) (Or.inl ⟨by rfl, ?_⟩) (fun _ => hHeld) ?_
  rotate_left
  · intro w hSw
    (try dsimp only at hSw)
    go_simp
    try with_reducible rfl
  try simp only [Act.put, List.setIfInBounds_toArray, List.set_cons_zero, List.set_cons_succ]
  refine wpTill_take0 (i := 16) (oi := ⟨some 99, _, _, _, _, _⟩) (v := ?_) rfl (by kernel_rfl) (fun _ _ _ h => h) (Or.inl ⟨by rfl, ?_⟩) (fun _ => hHeld) ?_
  rotate_left
  · intro w hSw
    (try dsimp only at hSw)
    go_simp
    try with_reducible rfl
  try simp only [Act.put, List.setIfInBounds_toArray, List.set_cons_zero, List.set_cons_succ]
  refine wpTill_take0 (i := 18) (oi := ⟨some 101, _, _, _, _, _⟩) (v := ?_) rfl (by kernel_rfl) (fun _ _ _ h => h) (Or.inl ⟨by rfl, ?_⟩) (fun _ => hHeld) ?_
  rotate_left
  · intro w hSw
    (try dsimp only at hSw)
    go_simp
    try with_reducible rfl
  try simp only [Act.put, List.setIfInBounds_toArray, List.set_cons_zero, List.set_cons_succ]
  refine wpTill_take0 (i := 19) (oi := ⟨some 102, _, _, _, _, _⟩) (v := ?_) rfl (by kernel_rfl) (fun _ _ _ h => h) (Or.inl ⟨by rfl, ?_⟩) (fun _ => hHeld) ?_
  rotate_left
  · intro w hSw
    (try dsimp only at hSw)
    go_simp
    try with_reducible rfl
  try simp only [Act.put, List.setIfInBounds_toArray, List.set_cons_zero, List.set_cons_succ]
  refine wpTill_take0 (i := 20) (oi := ⟨some 103, _, _, _, _, _⟩) (v := ?_) rfl (by kernel_rfl) (fun _ _ _ h => h) (Or.inl ⟨by rfl, ?_⟩) (fun _ => hHeld) ?_
  rotate_left
  · intro w hSw
    (try dsimp only at hSw)
    go_simp
    try with_reducible rfl
  try simp only [Act.put, List.setIfInBounds_toArray, List.set_cons_zero, List.set_cons_succ]
  refine wpTill_take (i := 21) (oi := ⟨some 104, _, _, _, _, _⟩) (v := ?_) rfl (by kernel_rfl) (fun _ _ _ h => h) (Or.inl ⟨by rfl, ?_⟩) (by exact hHeld) ?_
  rotate_left
  · intro w hSw
    (try dsimp only at hSw)
    go_simp
    try with_reducible rfl
  try simp only [Act.put, List.setIfInBounds_toArray, List.set_cons_zero, List.set_cons_succ]
  refine wpTill_ready (rs := [17]) (by kernel_rfl) (by simp) ?_
  refine AllTill.cons (o := ⟨some 100, _, _, _, _, _⟩) rfl (fun K hK => ?_) AllTill.nil
  go_simp
  go_at_call 28
  refine (q_below (lnext_q b s fp _ (by exact H5.out.p.below hb))).mono ?_
  rw [HNX.out]
  rintro e W17 ⟨rfl, hx⟩
  have hb := below_call hb hb.size hx
  go_wp2_with fail
  refine hK.out _ _ (by exact HSof.out _ hb) (fun hHeld => ?_)
  clear hK K
  try simp only [Act.put, List.setIfInBounds_toArray, List.set_cons_zero, List.set_cons_succ]
  refine wpTill_take0 (i := 22) (oi := ⟨some 105, _, _, _, _, _⟩) (v := ?_) rfl (by kernel_rfl) (fun _ _ _ h => h) (Or.inl ⟨by rfl, ?_⟩) (fun _ => hHeld) ?_
  rotate_left
  · intro w hSw
    (try dsimp only at hSw)
    go_simp
    try with_reducible rfl
  try simp only [Act.put, List.setIfInBounds_toArray, List.set_cons_zero, List.set_cons_succ]
  refine wpTill_take0 (i := 23) (oi := ⟨some 106, _, _, _, _, _⟩) (v := ?_) rfl (by kernel_rfl) (fun _ _ _ h => h) (Or.inl ⟨by rfl, ?_⟩) (fun _ => hHeld) ?_
  rotate_left
  · intro w hSw
    (try dsimp only at hSw)
    go_simp
    try with_reducible rfl
  try simp only [Act.put, List.setIfInBounds_toArray, List.set_cons_zero, List.set_cons_succ]
  refine wpTill_take0 (i := 24) (oi := ⟨some 4, _, _, _, _, _⟩) (v := ?_) rfl (by kernel_rfl) (fun _ _ _ h => h) (Or.inl ⟨by rfl, ?_⟩) (fun _ => hHeld) ?_
  rotate_left
  · intro w hSw
    (try dsimp only at hSw)
    go_simp
    try with_reducible rfl
  try simp only [Act.put, List.setIfInBounds_toArray, List.set_cons_zero, List.set_cons_succ]
  refine wpTill_done (by kernel_rfl) ?_ _
  go_wp2_with fail
  go_ret
  exact ⟨rfl, H5.out.later hb⟩
end Go.Proofs.Ytacfbgnbjdckiaa

/- DERIVED. One range. -/
namespace Go.Proofs.Ytacfbgnbjdckiaa
open Go.RowKit

theorem one_vw (w : World) (lo hi : Nat) : Vw encR (w.alloc (.cells #[.int .u64 lo, .int .u64 hi] 37)) (w.heap.size + 1) (.slice (some ⟨w.heap.size, 0, none⟩) 1 1) [(lo, hi)] := by
  refine ⟨_, 1, rfl, Nat.le_refl _, by omega, .inr ⟨w.heap.size, 0, rfl, by omega, fun j u hu => ?_⟩⟩
  rw [Nat.zero_add, cell_at (alloc_at _ _)]
  simpa [flat, encR] using hu
theorem one_norm {lo hi : Nat} (h : lo < hi) (h2 : hi ≤ 4611686018427387904) : Norm [(lo, hi)] := ⟨by simp; omega, by simp⟩
theorem one_top {lo hi : Nat} : ∀ r, ([(lo, hi)] : List Rg)[([(lo, hi)] : List Rg).length - 1]? = some r → r.2 = hi := by
  intro r hr
  simp at hr
  rw [← hr]
end Go.Proofs.Ytacfbgnbjdckiaa
