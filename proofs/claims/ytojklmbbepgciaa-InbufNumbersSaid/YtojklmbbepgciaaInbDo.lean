/- DERIVED. Walk of narthexlaw14's do: the program's buffer and the document's go together. -/
import Derived.Test.YtojklmbbepgciaaInbSame
import Derived.Test.YtojklmbbepgciaaInbOrder
namespace Go.Proofs.Ytojklmbbepgciaa
open Go.RowKit

theorem radd_any (b : Nat) (s : IB) (fp : Nat → Prop) (off : Nat) (vd : Value) (d : List Nat) (f : Bool) (w : World) (h : RbAt w b s fp) (hd : VwA encB fp w vd d) (hb : Bys d) (hoff : off < 18446744073709551616) :
    Calls Try.prog 26 #[.pointer (some ⟨b, 0, none⟩), .int .u64 off, vd, .bool f] w fun e w' => e = .returned (.int .i64 (s.err off d.length f : Nat)) ∧ ∃ fp', RbAt w' b (s.add off d f) fp' ∧ Went fp fp' w w' := by
  by_cases he : s.err off d.length f = 0
  · refine (radd_ok b s fp off vd d f w h hd hb hoff he).mono ?_
    rintro e w' ⟨rfl, fp', h1, h2⟩
    rw [he]
    refine ⟨rfl, fp', ?_, h2⟩
    unfold IB.add
    rw [if_pos he]
    exact h1
  · refine (radd_err b s fp off vd d f w h hd hoff he).mono ?_
    rintro e w' ⟨rfl, rfl⟩
    refine ⟨rfl, fp, ?_, Went.refl _ _⟩
    unfold IB.add
    rw [if_neg he]
    exact h
/-- The program's buffer and the document's, apart from one another. -/
structure Two (w : World) (b m : Nat) (s : IB) (fp fm : Nat → Prop) : Prop where
  buf : IbAt w b s fp
  ref : RbAt w m s fm
  apart : ∀ k, fp k → ¬ fm k
theorem Two.below {w w' : World} {b m : Nat} {s : IB} {fp fm : Nat → Prop} (h : Two w b m s fp fm) (hb : Below w.heap.size w w') : Two w' b m s fp fm := ⟨h.buf.below hb, h.ref.below hb, h.apart⟩
/-- Between the two. -/
structure Half (w : World) (b m : Nat) (s s' : IB) (fp fm : Nat → Prop) : Prop where
  buf : IbAt w b s' fp
  ref : RbAt w m s fm
  apart : ∀ k, fp k → ¬ fm k
theorem Two.wentB {w w' : World} {b m : Nat} {s s' : IB} {fp fp' fm : Nat → Prop} (h : Two w b m s fp fm) (hi : IbAt w' b s' fp') (hw : Went fp fp' w w') : Half w' b m s s' fp' fm :=
  ⟨hi, h.ref.keeps hw.upd (fun k h1 h2 => h.apart k h2 h1), fun k h1 h2 => by
    rcases hw.new k h1 with q | q
    · exact h.apart k q h2
    · have := h.ref.lt.2 k h2
      omega⟩
theorem Half.wentM {w w' : World} {b m : Nat} {s s' : IB} {fp fm fm' : Nat → Prop} (h : Half w b m s s' fp fm) (hi : RbAt w' m s' fm') (hw : Went fm fm' w w') : Two w' b m s' fp fm' :=
  ⟨h.buf.keeps hw.upd (fun k h1 h2 => h.apart k h1 h2), hi, fun k h1 h2 => by
    rcases hw.new k h2 with q | q
    · exact h.apart k h1 q
    · have := h.buf.lt.2 k h1
      omega⟩
theorem two_went {w w1 w2 : World} {b m : Nat} {s : IB} {fp fp' fm fm' : Nat → Prop} (_h : Two w b m s fp fm) (h1 : Went fp fp' w w1) (h2 : Went fm fm' w1 w2) : Went (fun k => fp k ∨ fm k) (fun k => fp' k ∨ fm' k) w w2 :=
  ⟨h1.upd.trans h2.upd (fun _ _ q => .inl q) (fun _ _ q => .inr q), fun k hk => by
    have hs := h1.upd.size
    rcases hk with q | q
    · rcases h1.new k q with q | q
      · exact .inl (.inl q)
      · exact .inr q
    · rcases h2.new k q with q | q
      · exact .inl (.inr q)
      · right
        omega⟩
theorem VwA.mono {α : Type} {enc : α → List Value} {w : World} {v : Value} {xs : List α} {fp F : Nat → Prop} (h : VwA enc fp w v xs) (hF : ∀ k, F k → fp k) : VwA enc F w v xs := by
  obtain ⟨oa, cap, h1, h2, h3, h4⟩ := h
  refine ⟨oa, cap, h1, h2, h3, ?_⟩
  rcases h4 with h4 | ⟨b, off, h4, h5, h6, h7⟩
  · exact .inl h4
  · exact .inr ⟨b, off, h4, h5, fun q => h6 (hF b q), h7⟩
theorem VwA.below {α : Type} {enc : α → List Value} {w w' : World} {v : Value} {xs : List α} {fp : Nat → Prop} (h : VwA enc fp w v xs) (hb : Below w.heap.size w w') : VwA enc fp w' v xs := by
  obtain ⟨oa, cap, h1, h2, h3, h4⟩ := h
  refine ⟨oa, cap, h1, h2, h3, ?_⟩
  rcases h4 with h4 | ⟨b, off, h4, h5, h6, h7⟩
  · exact .inl h4
  · refine .inr ⟨b, off, h4, Nat.lt_of_lt_of_le h5 hb.size, h6, fun j u hj => ?_⟩
    rw [hb.cell (p := ⟨b, off + j, none⟩) h5]
    exact h7 j u hj
theorem VwA.front {α : Type} {enc : α → List Value} {k : Nat} (hk : ∀ a, (enc a).length = k) {fp : Nat → Prop} {w : World} {oa : Option Addr} {len cap : Nat} {xs : List α} (h : VwA enc fp w (.slice oa len cap) xs) (n : Nat) (hn : n ≤ len) : VwA enc fp w (.slice oa n cap) (xs.take n) := by
  obtain ⟨oa', cap', h1, h2, h3, h4⟩ := h
  cases h1
  have hl : (xs.take n).length = n := by rw [List.length_take]; omega
  refine ⟨oa, cap, by rw [hl], by rw [hl]; omega, h3, ?_⟩
  rcases h4 with rfl | ⟨b, off, rfl, h5, h6, h7⟩
  · left
    simp
  · refine .inr ⟨b, off, rfl, h5, h6, fun j u hj => h7 j u ?_⟩
    rw [← flat_take hk] at hj
    rw [List.getElem?_take] at hj
    split at hj
    · exact hj
    · cases hj
set_option maxRecDepth 100000 in
set_option maxHeartbeats 4000000 in
theorem do_any (b m : Nat) (s : IB) (fp fm : Nat → Prop) (a : AkI) (d : List Nat) (w : World) (h : Two w b m s fp fm) (hk : I64 a.kd ∧ I64 a.off ∧ I64 a.most ∧ a.at_ < 18446744073709551616) (hd : VwA encB (fun k => fp k ∨ fm k) w a.vd d) (hby : Bys d) :
    Calls Try.prog 14 #[.pointer (some ⟨b, 0, none⟩), .pointer (some ⟨m, 0, none⟩), .agg (encI a).toArray] w
      fun e w' => e = .returned (.bool true) ∧ ∃ s' fp' fm', Two w' b m s' fp' fm' ∧ Went (fun k => fp k ∨ fm k) (fun k => fp' k ∨ fm' k) w w' := by
  obtain ⟨kd, off, size, most, fin, raw, at_, vd⟩ := a
  simp only at hk hd
  obtain ⟨⟨hk1, hk2⟩, ⟨ho1, ho2⟩, ⟨hm1, hm2⟩, hat⟩ := hk
  obtain ⟨od, cap, rfl, hlc, hcc⟩ := hd.shape
  generalize hlen : d.length = len at *
  have HLEN := Lib.hid hlen
  have H0 := Lib.hid h
  have HD0 := Lib.hid hd
  have HB0 := Lib.hid hby
  clear h hd hby hlen
  simp only [encI]
  go_enter Try.func14, Try.ntmps14
  go_upto_region 0 with fail
  go_cut [5] (fun v wx => ∃ z, v = .pointer (some ⟨z, 0, none⟩) ∧ w.heap.size ≤ z ∧ Below w.heap.size w wx ∧ wx.heap[z]? = some (.cells #[.int .i64 kd, .int .i64 off, .int .i64 size, .int .i64 most, .bool fin, .bool raw, .int .u64 at_, .slice od len cap] 29 (0, 0)))
  case first =>
    go_wp2_with fail
    go_meet
    case rel => exact ⟨_, rfl, Nat.le_refl _, (Below.refl _ _).alloc (Nat.le_refl _) _, alloc_at _ _⟩
  case rest =>
    obtain ⟨z, rfl, hz, hbz, hblk⟩ := hcut
    generalize wc = w0 at *
    have HT := Lib.hid (H0.out.below hbz)
    have HBZ := Lib.hid hbz
    have HZ := Lib.hid hblk
    have HNZ := Lib.hid (show ¬ fp z ∧ ¬ fm z from ⟨fun q => by have := H0.out.buf.lt.2 z q; omega, fun q => by have := H0.out.ref.lt.2 z q; omega⟩)
    have HD := Lib.hid (HD0.out.below hbz)
    have z0 : w0.cell? ⟨z, 0, none⟩ = some (.int .i64 kd) := (cell_at hblk 0).trans rfl
    have z3 : w0.cell? ⟨z, 3, none⟩ = some (.int .i64 most) := (cell_at hblk 3).trans rfl
    have z5 : w0.cell? ⟨z, 5, none⟩ = some (.bool raw) := (cell_at hblk 5).trans rfl
    have z6 : w0.cell? ⟨z, 6, none⟩ = some (.int .u64 at_) := (cell_at hblk 6).trans rfl
    have HX := Lib.hid (fun (fp' fm' : Nat → Prop) (w' : World) (h : Went (fun k => fp k ∨ fm k) (fun k => fp' k ∨ fm' k) w0 w') => Went.first hbz h)
    clear hz hbz hblk
    by_cases hkd : kd = 1
    · subst hkd
      obtain ⟨n, hn⟩ : ∃ n, s.num most = n := ⟨_, rfl⟩
      have HN := Lib.hid hn
      clear hn
      go_wp2_with fail
      refine (btake_any b s fp most _ (by exact HT.out.buf) hm1 hm2 HN.out).mono ?_
      rintro e w3 ⟨v3, fp3, rfl, hi, hw, hv⟩
      have HT3 := Lib.hid (HT.out.wentB hi hw)
      have HU3 := Lib.hid hw
      have hz3 := hw.upd.keeps HZ.out HNZ.out.1
      have z3' : w3.cell? ⟨z, 3, none⟩ = some (.int .i64 most) := (cell_at hz3 3).trans rfl
      have HZ3 := Lib.hid hz3
      have HV3 := Lib.hid hv
      clear hi hw hv hz3
      go_wp2_with fail
      refine (rtake_any m s fm most _ (by exact HT3.out.ref) hm1 hm2 HN.out).mono ?_
      rintro e w4 ⟨v4, fm4, rfl, hi, hw, hv⟩
      have HT4 := Lib.hid (HT3.out.wentM hi hw)
      have HU4 := Lib.hid hw
      have hx3 := (HV3.out.upd hw.upd (fun k hk => .inl (HT.out.ref.lt.2 k hk))).rds.str (P := Try.prog) (src := 22) (dst := 9) Try.underlying22 Try.underlying5 Try.underlying9
      have hx4 := hv.rds.str (P := Try.prog) (src := 22) (dst := 9) Try.underlying22 Try.underlying5 Try.underlying9
      generalize strB (s.out n) = str at *
      generalize (s.take n).last = lst at *
      clear hi hw hv
      cases lst
      · go_wp2_with fail
        refine (same_any b m _ fp3 fm4 _ (by exact HT4.out.buf) (by exact HT4.out.ref)).mono ?_
        rintro e w5 ⟨rfl, hb5⟩
        go_wp2_with fail
        go_ret
        exact ⟨rfl, _, fp3, fm4, HT4.out.below hb5, HX.out _ _ _ ((two_went HT.out HU3.out HU4.out).later hb5)⟩
      · go_wp2_with fail
        refine (same_any b m _ fp3 fm4 _ (by exact HT4.out.buf) (by exact HT4.out.ref)).mono ?_
        rintro e w5 ⟨rfl, hb5⟩
        go_wp2_with fail
        go_ret
        exact ⟨rfl, _, fp3, fm4, HT4.out.below hb5, HX.out _ _ _ ((two_went HT.out HU3.out HU4.out).later hb5)⟩
    · have hw1 := withinS_bd off 0 300 (by omega)
      obtain ⟨o, ho, ho3⟩ : ∃ o : Nat, withinS off 0 300 = (o : Int) ∧ o ≤ 300 := ⟨(withinS off 0 300).toNat, by omega, by omega⟩
      have HO := Lib.hid ho
      clear hw1 ho
      obtain ⟨len4, hl4, hl4b⟩ : ∃ l4, min len 40 = l4 ∧ l4 ≤ cap := ⟨_, rfl, by omega⟩
      have hwo : IntKind.u64.wrap (o : Int) = o := IntWalk.u64_in _ (by omega)
      have HSof := Lib.hid (show ∀ W, Below w0.heap.size w0 W → W.cell? ⟨z, 1, none⟩ = some (.int .i64 off) ∧ W.cell? ⟨z, 4, none⟩ = some (.bool fin) ∧ W.cell? ⟨z, 7, none⟩ = some (.slice od len cap) from fun W h => by
        have hk := below_keeps h HZ.out (heap_lt HZ.out)
        exact ⟨(cell_at hk 1).trans rfl, (cell_at hk 4).trans rfl, (cell_at hk 7).trans rfl⟩)
      clear z3
      go_upto_region 5 with fail
      go_cut [11, 12] (fun v1 v2 wx => v1 = .int .u64 o ∧ v2 = .slice od len4 cap ∧ wx = w0.drew)
      case first =>
        go_wp2_with fail
        have hb : Below w0.heap.size w0 w0.drew := (Below.refl _ _).drew
        refine wp_region_till (S := fun w' => w'.cell? ⟨z, 1, none⟩ = some (.int .i64 off) ∧ w'.cell? ⟨z, 4, none⟩ = some (.bool fin) ∧ w'.cell? ⟨z, 7, none⟩ = some (.slice od len cap)) [] (by kernel_rfl) (by exact HSof.out _ hb) (fun hHeld => ?_)
        refine wpTill_take0 (i := 0) (oi := ⟨some 45, _, _, _, _, _⟩) (v := ?_) rfl (by kernel_rfl) (fun _ _ _ h => h) (Or.inl ⟨by rfl, ?_⟩) (fun _ => hHeld) ?_
        rotate_left
        · intro w hSw
          (try dsimp only at hSw)
          go_simp
          try with_reducible rfl
        try simp only [Act.put, List.setIfInBounds_toArray, List.set_cons_zero, List.set_cons_succ]
        refine wpTill_take (i := 1) (oi := ⟨some 46, _, _, _, _, _⟩) (v := ?_) rfl (by kernel_rfl) (fun _ _ _ h => h) (Or.inl ⟨by rfl, ?_⟩) (by exact hHeld) ?_
        rotate_left
        · intro w hSw
          (try dsimp only at hSw)
          go_simp
          try with_reducible rfl
        try simp only [Act.put, List.setIfInBounds_toArray, List.set_cons_zero, List.set_cons_succ]
        refine wpTill_take0 (i := 4) (oi := ⟨some 49, _, _, _, _, _⟩) (v := ?_) rfl (by kernel_rfl) (fun _ _ _ h => h) (Or.inl ⟨by rfl, ?_⟩) (fun _ => hHeld) ?_
        rotate_left
        · intro w hSw
          (try dsimp only at hSw)
          go_simp
          try with_reducible rfl
        try simp only [Act.put, List.setIfInBounds_toArray, List.set_cons_zero, List.set_cons_succ]
        refine wpTill_take (i := 5) (oi := ⟨some 50, _, _, _, _, _⟩) (v := ?_) rfl (by kernel_rfl) (fun _ _ _ h => h) (Or.inl ⟨by rfl, ?_⟩) (by exact hHeld) ?_
        rotate_left
        · intro w hSw
          (try dsimp only at hSw)
          go_simp
          try with_reducible rfl
        try simp only [Act.put, List.setIfInBounds_toArray, List.set_cons_zero, List.set_cons_succ]
        refine wpTill_ready (rs := [2]) (by kernel_rfl) (by simp) ?_
        refine AllTill.cons (o := ⟨some 47, _, _, _, _, _⟩) rfl (fun K hK => ?_) AllTill.nil
        go_simp
        go_at_call 10
        refine (within_any off 0 300 _ (by omega) (by omega) (by omega) (by omega) (by omega)).mono ?_
        rw [HO.out]
        rintro e w' ⟨rfl, hw⟩
        obtain rfl := hw
        go_wp2_with fail
        refine hK.out _ _ (by exact HSof.out _ hb) (fun hHeld => ?_)
        clear hK K
        try simp only [Act.put, List.setIfInBounds_toArray, List.set_cons_zero, List.set_cons_succ]
        refine wpTill_take0 (i := 3) (oi := ⟨some 48, _, _, _, _, _⟩) (v := ?_) rfl (by kernel_rfl) (fun _ _ _ h => h) (Or.inl ⟨by rfl, ?_⟩) (fun _ => hHeld) ?_
        rotate_left
        · intro w hSw
          (try dsimp only at hSw)
          go_simp
          try with_reducible rfl
        try simp only [Act.put, List.setIfInBounds_toArray, List.set_cons_zero, List.set_cons_succ]
        refine wpTill_ready (rs := [6]) (by kernel_rfl) (by simp) ?_
        refine AllTill.cons (o := ⟨some 51, _, _, _, _, _⟩) rfl (fun K hK => ?_) AllTill.nil
        go_simp
        go_at_call 8
        refine (kcut_q od len cap 40 _ hlc hcc (by omega)).mono ?_
        rintro e w' ⟨rfl, hw⟩
        obtain rfl := hw
        go_wp2_with fail
        refine hK.out _ _ (by exact HSof.out _ hb) (fun hHeld => ?_)
        clear hK K
        try simp only [Act.put, List.setIfInBounds_toArray, List.set_cons_zero, List.set_cons_succ]
        refine wpTill_ready (rs := [7]) (by kernel_rfl) (by simp) ?_
        refine AllTill.cons (o := ⟨some 11, _, _, _, _, _⟩) rfl (fun K hK => ?_) AllTill.nil
        go_simp
        refine hK.out _ _ (by exact HSof.out _ hb) (fun hHeld => ?_)
        clear hK K
        try simp only [Act.put, List.setIfInBounds_toArray, List.set_cons_zero, List.set_cons_succ]
        refine wpTill_ready (rs := [8]) (by kernel_rfl) (by simp) ?_
        refine AllTill.cons (o := ⟨some 12, _, _, _, _, _⟩) rfl (fun K hK => ?_) AllTill.nil
        go_simp
        refine hK.out _ _ (by exact HSof.out _ hb) (fun hHeld => ?_)
        clear hK K
        try simp only [Act.put, List.setIfInBounds_toArray, List.set_cons_zero, List.set_cons_succ]
        refine wpTill_done (by kernel_rfl) ?_ _
        go_wp2_with fail
        go_meet
        case rel => exact ⟨rfl, rfl, rfl⟩
      case rest =>
        obtain ⟨rfl, rfl, rfl⟩ := hcut
        have hb0 : Below w0.heap.size w0 w0.drew := (Below.refl _ _).drew
        have HT1 := Lib.hid (HT.out.below hb0)
        have HZ1 := Lib.hid (below_keeps hb0 HZ.out (heap_lt HZ.out))
        have HX1 := Lib.hid (fun (fp' fm' : Nat → Prop) (w' : World) (h : Went (fun k => fp k ∨ fm k) (fun k => fp' k ∨ fm' k) w0.drew w') => HX.out _ _ _ (Went.first hb0 h))
        have HD1 := Lib.hid (show VwA encB (fun k => fp k ∨ fm k) w0.drew (.slice od len4 cap) (d.take 40) from by
          have h := HD.out.below hb0
          rw [← hl4]
          have h2 := h.front encB_len (min len 40) (Nat.min_le_left _ _)
          rw [← HLEN.out] at h2 ⊢
          rw [show d.take (min d.length 40) = d.take 40 by rw [Nat.min_comm, ← List.take_take, List.take_length]] at h2
          exact h2)
        have HBY := Lib.hid (show Bys (d.take 40) from fun x hx => HB0.out x (List.mem_of_mem_take hx))
        have HDL := Lib.hid (show (d.take 40).length = len4 by rw [List.length_take, HLEN.out]; omega)
        clear HT HZ HX HD HD0 HB0 HSof z0 z5 z6 hb0 hl4
        generalize w0.drew = w1 at *
        generalize d.take 40 = D at *
        have z5 : w1.cell? ⟨z, 5, none⟩ = some (.bool raw) := (cell_at HZ1.out 5).trans rfl
        have z6 : w1.cell? ⟨z, 6, none⟩ = some (.int .u64 at_) := (cell_at HZ1.out 6).trans rfl
        go_upto_if 53 with fail
        go_cut [11] (fun v wx => (∃ O : Nat, v = .int .u64 O ∧ O < 18446744073709551616) ∧ wx = w1)
        case first =>
          cases raw
          · go_wp2_with fail
            go_meet
            case rel => exact ⟨⟨o, rfl, by omega⟩, rfl⟩
          · go_wp2_with fail
            go_meet
            case rel => exact ⟨⟨at_, rfl, hat⟩, rfl⟩
        case rest =>
          obtain ⟨⟨O, rfl, hO⟩, rfl⟩ := hcut
          have hb1 : Below wc.heap.size wc wc.drew := (Below.refl _ _).drew
          have HDM := Lib.hid (HD1.out.below hb1)
          have HDB := Lib.hid (HDM.out.mono (fun k hk => .inl hk) (F := fp))
          have HT := Lib.hid (HT1.out.below hb1)
          have HZ := Lib.hid (below_keeps hb1 HZ1.out (heap_lt HZ1.out))
          have HX2 := Lib.hid (fun (fp' fm' : Nat → Prop) (w' : World) (h : Went (fun k => fp k ∨ fm k) (fun k => fp' k ∨ fm' k) wc.drew w') => HX1.out _ _ _ (Went.first hb1 h))
          clear hb1
          clear z5 z6 HT1 HZ1
          go_wp2_with fail
          refine wp_region_till (S := fun w' => w'.cell? ⟨z, 4, none⟩ = some (.bool fin)) [] (by kernel_rfl) (by exact (cell_at HZ.out 4).trans rfl) (fun hHeld => ?_)
          refine wpTill_take0 (i := 0) (oi := ⟨some 56, _, _, _, _, _⟩) (v := ?_) rfl (by kernel_rfl) (fun _ _ _ h => h) (Or.inl ⟨by rfl, ?_⟩) (fun _ => hHeld) ?_
          rotate_left
          · intro w hSw
            (try dsimp only at hSw)
            go_simp
            try with_reducible rfl
          try simp only [Act.put, List.setIfInBounds_toArray, List.set_cons_zero, List.set_cons_succ]
          refine wpTill_take0 (i := 1) (oi := ⟨some 57, _, _, _, _, _⟩) (v := ?_) rfl (by kernel_rfl) (fun _ _ _ h => h) (Or.inl ⟨by rfl, ?_⟩) (fun _ => hHeld) ?_
          rotate_left
          · intro w hSw
            (try dsimp only at hSw)
            go_simp
            try with_reducible rfl
          try simp only [Act.put, List.setIfInBounds_toArray, List.set_cons_zero, List.set_cons_succ]
          refine wpTill_take0 (i := 2) (oi := ⟨some 58, _, _, _, _, _⟩) (v := ?_) rfl (by kernel_rfl) (fun _ _ _ h => h) (Or.inl ⟨by rfl, ?_⟩) (fun _ => hHeld) ?_
          rotate_left
          · intro w hSw
            (try dsimp only at hSw)
            go_simp
            try with_reducible rfl
          try simp only [Act.put, List.setIfInBounds_toArray, List.set_cons_zero, List.set_cons_succ]
          refine wpTill_take0 (i := 3) (oi := ⟨some 59, _, _, _, _, _⟩) (v := ?_) rfl (by kernel_rfl) (fun _ _ _ h => h) (Or.inl ⟨by rfl, ?_⟩) (fun _ => hHeld) ?_
          rotate_left
          · intro w hSw
            (try dsimp only at hSw)
            go_simp
            try with_reducible rfl
          try simp only [Act.put, List.setIfInBounds_toArray, List.set_cons_zero, List.set_cons_succ]
          refine wpTill_take (i := 4) (oi := ⟨some 60, _, _, _, _, _⟩) (v := ?_) rfl (by kernel_rfl) (fun _ _ _ h => h) (Or.inl ⟨by rfl, ?_⟩) (by exact hHeld) ?_
          rotate_left
          · intro w hSw
            (try dsimp only at hSw)
            go_simp
            try with_reducible rfl
          try simp only [Act.put, List.setIfInBounds_toArray, List.set_cons_zero, List.set_cons_succ]
          refine wpTill_take0 (i := 6) (oi := ⟨some 62, _, _, _, _, _⟩) (v := ?_) rfl (by kernel_rfl) (fun _ _ _ h => h) (Or.inl ⟨by rfl, ?_⟩) (fun _ => hHeld) ?_
          rotate_left
          · intro w hSw
            (try dsimp only at hSw)
            go_simp
            try with_reducible rfl
          try simp only [Act.put, List.setIfInBounds_toArray, List.set_cons_zero, List.set_cons_succ]
          refine wpTill_take0 (i := 7) (oi := ⟨some 63, _, _, _, _, _⟩) (v := ?_) rfl (by kernel_rfl) (fun _ _ _ h => h) (Or.inl ⟨by rfl, ?_⟩) (fun _ => hHeld) ?_
          rotate_left
          · intro w hSw
            (try dsimp only at hSw)
            go_simp
            try with_reducible rfl
          try simp only [Act.put, List.setIfInBounds_toArray, List.set_cons_zero, List.set_cons_succ]
          refine wpTill_take0 (i := 8) (oi := ⟨some 64, _, _, _, _, _⟩) (v := ?_) rfl (by kernel_rfl) (fun _ _ _ h => h) (Or.inl ⟨by rfl, ?_⟩) (fun _ => hHeld) ?_
          rotate_left
          · intro w hSw
            (try dsimp only at hSw)
            go_simp
            try with_reducible rfl
          try simp only [Act.put, List.setIfInBounds_toArray, List.set_cons_zero, List.set_cons_succ]
          refine wpTill_take0 (i := 9) (oi := ⟨some 65, _, _, _, _, _⟩) (v := ?_) rfl (by kernel_rfl) (fun _ _ _ h => h) (Or.inl ⟨by rfl, ?_⟩) (fun _ => hHeld) ?_
          rotate_left
          · intro w hSw
            (try dsimp only at hSw)
            go_simp
            try with_reducible rfl
          try simp only [Act.put, List.setIfInBounds_toArray, List.set_cons_zero, List.set_cons_succ]
          refine wpTill_take (i := 10) (oi := ⟨some 66, _, _, _, _, _⟩) (v := ?_) rfl (by kernel_rfl) (fun _ _ _ h => h) (Or.inl ⟨by rfl, ?_⟩) (by exact hHeld) ?_
          rotate_left
          · intro w hSw
            (try dsimp only at hSw)
            go_simp
            try with_reducible rfl
          try simp only [Act.put, List.setIfInBounds_toArray, List.set_cons_zero, List.set_cons_succ]
          refine wpTill_ready (rs := [5]) (by kernel_rfl) (by simp) ?_
          refine AllTill.cons (o := ⟨some 61, _, _, _, _, _⟩) rfl (fun K hK => ?_) AllTill.nil
          go_simp
          go_at_call 11
          refine (badd_any b s fp O _ D fin _ (by exact HT.out.buf) (by exact HDB.out) HBY.out hO).mono ?_
          rw [HDL.out]
          rintro e W5 ⟨rfl, fp', hi, hw⟩
          have HT5 := Lib.hid (HT.out.wentB hi hw)
          have HU5 := Lib.hid hw
          have hz5 := hw.upd.keeps HZ.out HNZ.out.1
          have HDM5 := Lib.hid (HDM.out.upd hw.upd (fun k hk => .inl hk))
          clear hi hw
          go_wp2_with fail
          refine hK.out _ _ (by exact (cell_at hz5 4).trans rfl) (fun hHeld => ?_)
          clear hK K
          try simp only [Act.put, List.setIfInBounds_toArray, List.set_cons_zero, List.set_cons_succ]
          refine wpTill_ready (rs := [11]) (by kernel_rfl) (by simp) ?_
          refine AllTill.cons (o := ⟨some 67, _, _, _, _, _⟩) rfl (fun K hK => ?_) AllTill.nil
          go_simp
          go_at_call 26
          refine (radd_any m s fm O _ D fin _ (by exact HT5.out.ref) (by exact HDM5.out.mono (fun k hk => .inr hk)) HBY.out hO).mono ?_
          rw [HDL.out]
          rintro e W11 ⟨rfl, fm', hi, hw⟩
          have HT11 := Lib.hid (HT5.out.wentM hi hw)
          have HU11 := Lib.hid hw
          have hz11 := hw.upd.keeps hz5 HNZ.out.2
          clear hi hw
          go_wp2_with fail
          refine hK.out _ _ (by exact (cell_at hz11 4).trans rfl) (fun hHeld => ?_)
          clear hK K
          try simp only [Act.put, List.setIfInBounds_toArray, List.set_cons_zero, List.set_cons_succ]
          refine wpTill_take0 (i := 12) (oi := ⟨some 68, _, _, _, _, _⟩) (v := ?_) rfl (by kernel_rfl) (fun _ _ _ h => h) (Or.inl ⟨by rfl, ?_⟩) (fun _ => hHeld) ?_
          rotate_left
          · intro w hSw
            (try dsimp only at hSw)
            go_simp
            try with_reducible rfl
          try simp only [Act.put, List.setIfInBounds_toArray, List.set_cons_zero, List.set_cons_succ]
          refine wpTill_take0 (i := 13) (oi := ⟨some 69, _, _, _, _, _⟩) (v := ?_) rfl (by kernel_rfl) (fun _ _ _ h => h) (Or.inl ⟨by rfl, ?_⟩) (fun _ => hHeld) ?_
          rotate_left
          · intro w hSw
            (try dsimp only at hSw)
            go_simp
            try with_reducible rfl
          try simp only [Act.put, List.setIfInBounds_toArray, List.set_cons_zero, List.set_cons_succ]
          refine wpTill_take0 (i := 14) (oi := ⟨some 70, _, _, _, _, _⟩) (v := ?_) rfl (by kernel_rfl) (fun _ _ _ h => h) (Or.inl ⟨by rfl, ?_⟩) (fun _ => hHeld) ?_
          rotate_left
          · intro w hSw
            (try dsimp only at hSw)
            go_simp
            try with_reducible rfl
          try simp only [Act.put, List.setIfInBounds_toArray, List.set_cons_zero, List.set_cons_succ]
          refine wpTill_take0 (i := 15) (oi := ⟨some 71, _, _, _, _, _⟩) (v := ?_) rfl (by kernel_rfl) (fun _ _ _ h => h) (Or.inl ⟨by rfl, ?_⟩) (fun _ => hHeld) ?_
          rotate_left
          · intro w hSw
            (try dsimp only at hSw)
            go_simp
            try with_reducible rfl
          try simp only [Act.put, List.setIfInBounds_toArray, List.set_cons_zero, List.set_cons_succ]
          refine wpTill_ready (rs := [16]) (by kernel_rfl) (by simp) ?_
          refine AllTill.cons (o := ⟨some 72, _, _, _, _, _⟩) rfl (fun K hK => ?_) AllTill.nil
          go_simp
          go_at_call 25
          refine (same_any b m _ fp' fm' _ (by exact HT11.out.buf) (by exact HT11.out.ref)).mono ?_
          rintro e W16 ⟨rfl, hb16⟩
          have hz16 := below_keeps hb16 hz11 (heap_lt hz11)
          go_wp2_with fail
          refine hK.out _ _ (by exact (cell_at hz16 4).trans rfl) (fun hHeld => ?_)
          clear hK K
          try simp only [Act.put, List.setIfInBounds_toArray, List.set_cons_zero, List.set_cons_succ]
          refine wpTill_take0 (i := 17) (oi := ⟨some 73, _, _, _, _, _⟩) (v := ?_) rfl (by kernel_rfl) (fun _ _ _ h => h) (Or.inl ⟨by rfl, ?_⟩) (fun _ => hHeld) ?_
          rotate_left
          · intro w hSw
            (try dsimp only at hSw)
            go_simp
            try with_reducible rfl
          try simp only [Act.put, List.setIfInBounds_toArray, List.set_cons_zero, List.set_cons_succ]
          refine wpTill_ready (rs := [18]) (by kernel_rfl) (by simp) ?_
          refine AllTill.cons (o := ⟨some 6, _, _, _, _, _⟩) rfl (fun K hK => ?_) AllTill.nil
          go_simp
          refine hK.out _ _ (by exact (cell_at hz16 4).trans rfl) (fun hHeld => ?_)
          clear hK K
          try simp only [Act.put, List.setIfInBounds_toArray, List.set_cons_zero, List.set_cons_succ]
          refine wpTill_done (by kernel_rfl) ?_ _
          go_wp2
          go_ret
          exact ⟨rfl, _, fp', fm', HT11.out.below hb16, HX2.out _ _ _ ((two_went HT.out HU5.out HU11.out).later hb16)⟩
end Go.Proofs.Ytojklmbbepgciaa
