/- DERIVED. Walk of outbuf's Lost. -/
import Derived.Test.YtkebjfaphmamjaaOutPart2
namespace Go.Proofs.Ytkebjfaphmamjaa
open Go.RowKit

theorem cut_ab {lo hi : Nat} {xs : List Rg} (h : ∀ r ∈ xs, hi ≤ r.1) : cutRaw lo hi xs = xs := by
  induction xs with
  | nil => simp [cutRaw]
  | cons r xs ih =>
    have e : cutRaw lo hi (r :: xs) = cut1 lo hi r ++ cutRaw lo hi xs := by simp [cutRaw]
    rw [e, ih (fun x hx => h x (List.mem_cons_of_mem _ hx)), cut1, if_pos (.inr (.inr (h r (List.mem_cons_self ..))))]
    rfl
theorem cut_le (lo hi : Nat) : ∀ xs : List Rg, Norm xs → (cutRaw lo hi xs).length ≤ xs.length + 1
  | [], _ => by simp [cutRaw]
  | r :: xs, hn => by
    obtain ⟨h1, h2⟩ := hn.head
    have ih := cut_le lo hi xs hn.tail
    have e : cutRaw lo hi (r :: xs) = cut1 lo hi r ++ cutRaw lo hi xs := by simp [cutRaw]
    rw [e, List.length_append, List.length_cons]
    by_cases h : hi < r.2
    · have := cut1_len lo hi r
      rw [cut_ab (fun x hx => by have := h2 x hx; omega)]
      omega
    · have : (cut1 lo hi r).length ≤ 1 := by
        unfold cut1
        split
        · simp
        · split <;> simp
      omega
/-- What is lost behind a number of cuts by what is acknowledged. -/
def lostY (s : OS) (y0 : List Rg) (k : Nat) : List Rg := (s.xs.take k).foldl (fun y x => cutRaw x.1 x.2 y) y0
theorem lostY_succ {s : OS} {y0 : List Rg} {k : Nat} {r : Rg} (h : s.xs[k]? = some r) : lostY s y0 (k + 1) = cutRaw r.1 r.2 (lostY s y0 k) := by
  unfold lostY
  rw [List.take_add_one, h, List.foldl_append]
  rfl
def OS.lostB (s : OS) (r : Nat × Nat) : List Rg := if r.1 < r.2 then addL many s.ys r.1 r.2 else s.ys
/-- The buffer while what is acknowledged is cut out; the copy of its ranges is apart. -/
def LostR (w0 w : World) (fp : Nat → Prop) (b : Nat) (s : OS) (v : Value) (og : Option Nat) (xs : List Rg) : Prop :=
  ∃ fp', OAt w b s fp' ∧ Went fp fp' w0 w ∧ Sl w v og xs ∧ ∀ g, og = some g → ¬ fp' g
theorem lost_next {w0 w W W8 : World} {fp : Nat → Prop} {b : Nat} {s : OS} {v vb : Value} {og ob : Option Nat} {xs zs : List Rg} {c d : Nat} {oc od : Option Nat} (h : ∃ hb : Below w.heap.size w W, Went fp (OFp b c d ob oc od) w0 w ∧ Sl w v og xs ∧ ∀ g, og = some g → ¬ OFp b c d ob oc od g)
    (hO : OutAt W b s vb ob c oc d od) (t : Turned W d many od (trimL many zs) W8) (hz : Norm zs ∧ zs.length ≤ 100000) : LostR w0 W8 fp b { s with ys := zs } v og xs := by
  obtain ⟨hb, hw, hs, hg⟩ := h
  have e : trimL many zs = zs := trim_all (by unfold many; omega)
  rw [e] at t
  obtain ⟨fp', h1, h2⟩ := om_turnD hO (Went.refl _ W) t hz.1 hz.2
  have hs2 := hs.below hb
  have hsl := hs2.lt
  refine ⟨fp', h1, (hw.later hb).trans h2, hs2.keeps h2.upd (fun g e q => hg g e q), fun g e q => ?_⟩
  rcases h2.new g q with q | q
  · exact hg g e q
  · have := hsl g e
    omega
set_option maxRecDepth 100000 in
set_option maxHeartbeats 4000000 in
theorem olost_any (b : Nat) (s : OS) (fp : Nat → Prop) (off : Nat) (n : Int) (f : Bool) (y0 ys : List Rg) (w : World) (h : OAt w b s fp) (ho : off < 18446744073709551616) (hn : -9223372036854775808 ≤ n) (hn2 : n ≤ 9223372036854775807)
    (hy0 : s.lostB (s.kn off n) = y0) (hny : Norm y0) (hly : y0.length + s.xs.length ≤ 100000) (hys : lostY s y0 s.xs.length = ys) :
    Calls Try.prog 18 #[.pointer (some ⟨b, 0, none⟩), .int .u64 off, .int .i64 n, .bool f] w fun e w' => e = .returned (.tuple #[]) ∧ OM w w' fp b { s with ys := ys, el := s.el || (f && s.es) } := by
  have hlen := h.ok.len
  have hsl := h.ok.sent
  obtain ⟨from_, to_, hkn⟩ : ∃ f t, s.kn off n = (f, t) := ⟨_, _, rfl⟩
  have hto : to_ ≤ s.B.length ∧ from_ ≤ s.B.length := by
    unfold OS.kn at hkn
    simp only [Prod.mk.injEq] at hkn
    omega
  have H := Lib.hid h
  have HKN := Lib.hid hkn
  have HXN := Lib.hid h.ok.nx
  have HZS := Lib.hid (show (if from_ < to_ ∧ to_ ≤ 4611686018427387904 then addL many s.ys from_ to_ else s.ys) = y0 by
    rw [← hy0, hkn]
    unfold OS.lostB
    by_cases q : from_ < to_
    · rw [if_pos ⟨q, by omega⟩, if_pos q]
    · rw [if_neg (fun q2 => q q2.1), if_neg q])
  have HNK := Lib.hid (show ∀ k, k ≤ s.xs.length → Norm (lostY s y0 k) ∧ (lostY s y0 k).length ≤ y0.length + k from by
    intro k
    induction k with
    | zero => intro _; exact ⟨hny, Nat.le_refl _⟩
    | succ k ih =>
      intro hk
      obtain ⟨h1, h2⟩ := ih (by omega)
      obtain ⟨r, hr⟩ : ∃ r, s.xs[k]? = some r := ⟨_, List.getElem?_eq_getElem (by omega)⟩
      rw [lostY_succ hr]
      have := cut_le r.1 r.2 _ h1
      exact ⟨cut_norm _ _ _ h1, by omega⟩)
  have HLY := Lib.hid hly
  have HYS := Lib.hid hys
  have HNY := Lib.hid hny
  clear h hkn hy0 hny hly hys
  obtain ⟨hto1, hto2⟩ := hto
  go_enter Try.func18, Try.ntmps18
  go_wp2_with fail
  refine (oknown_q b s fp off n _ (by exact H.out) ho hn hn2).mono ?_
  rw [HKN.out]
  rintro e w1 ⟨rfl, q, rfl⟩
  have H1 := Lib.hid ((OM.refl H.out).drewN q)
  generalize w.drewN q = w1 at *
  obtain ⟨fp1, hoa, hw1⟩ := H1.out
  obtain ⟨vb, ob, c, oc, d, od, hO, hfp⟩ := hoa
  rw [hfp] at hw1
  have HO := Lib.hid hO
  have HW := Lib.hid hw1
  have c5 : w1.cell? ⟨b, 5, none⟩ = some (.pointer (some ⟨d, 0, none⟩)) := (cell_at hO.blk 5).trans rfl
  clear hO hfp hw1 H1
  go_wp2_with fail
  refine (add_any d many od s.ys from_ to_ _ (by exact HO.out.sy) (by decide) (by decide) (by have := HO.out.ok.ly; omega)).mono ?_
  rw [HZS.out]
  rintro e w2 ⟨rfl, ht⟩
  have H2 := Lib.hid (om_turnD HO.out HW.out ht HNY.out (by have := HLY.out; omega))
  clear ht HO HW c5
  obtain ⟨fp2, hoa, hw2⟩ := H2.out
  have HOA := Lib.hid hoa
  obtain ⟨vb, ob, c, oc, d, od, hO, hfp⟩ := hoa
  have HO := Lib.hid hO
  have HW := Lib.hid hw2
  have c4 : w2.cell? ⟨b, 4, none⟩ = some (.pointer (some ⟨c, 0, none⟩)) := (cell_at hO.blk 4).trans rfl
  clear hO hfp hw2 H2
  go_wp2_with fail
  refine (all_any c many oc s.xs _ (by exact HO.out.sx) (by have h9 : s.xs.length ≤ 100000 := HO.out.ok.lx; omega)).mono ?_
  rintro e w3 ⟨v, og, rfl, hs, hnew, hb3⟩
  obtain ⟨oa, cap, rfl, hc1, hc2⟩ := hs.shape
  have HR0 := Lib.hid (show LostR w w3 fp b { s with ys := lostY s y0 0 } (.slice oa s.xs.length cap) og s.xs from ⟨fp2, HOA.out.below hb3, HW.out.later hb3, hs, fun g e q => by have := hnew g e; have := HOA.out.lt.2 g q; omega⟩)
  clear hs hnew hb3 HO HW HOA c4
  obtain ⟨len, hln⟩ : ∃ len, s.xs.length = len := ⟨_, rfl⟩
  have HLN := Lib.hid hln
  rw [hln] at HR0 hc1 ⊢
  clear hln
  go_wp2_with fail
  go_loopw [32] (fun i wr => ∃ k : Nat, i = .int .i64 k ∧ k ≤ len ∧ LostR w wr fp b { s with ys := lostY s y0 k } (.slice oa len cap) og s.xs) (fun i _ => len - (intOf i).toNat)
  case atStart => exact ⟨0, rfl, by omega, HR0.out⟩
  case round =>
    obtain ⟨k, rfl, hk, hr⟩ := hrel
    have HR := Lib.hid hr
    clear hr HR0
    by_cases hlt : k < len
    · obtain ⟨r, hr⟩ : ∃ r, s.xs[k]? = some r := ⟨_, List.getElem?_eq_getElem (by rw [HLN.out]; exact hlt)⟩
      obtain ⟨fp', hoa, hw, hsl, hng⟩ := HR.out
      obtain ⟨vb, ob, c, oc, d, od, hO, hfp⟩ := hoa
      rw [hfp] at hw hng
      obtain ⟨g, hog, rfl, hgl, q0, q1⟩ := hsl.atS hr
      have hrb := HXN.out.at hr
      have ha : Below wr.heap.size wr (wr.alloc (.cells #[.int .u64 r.1, .int .u64 r.2] 59)).drew := ((Below.refl _ _).alloc (Nat.le_refl _) _).drew
      have HO5 := Lib.hid (hO.below ha)
      have HR5 := Lib.hid (show ∃ hb : Below wr.heap.size wr (wr.alloc (.cells #[.int .u64 r.1, .int .u64 r.2] 59)).drew, Went fp (OFp b c d ob oc od) w wr ∧ Sl wr (.slice (some ⟨g, 0, none⟩) len cap) og s.xs ∧ ∀ g, og = some g → ¬ OFp b c d ob oc od g from ⟨ha, hw, hsl, hng⟩)
      have HSC := Lib.hid (lostY_succ (y0 := y0) hr)
      have HN8 := Lib.hid (show Norm (lostY s y0 (k + 1)) ∧ (lostY s y0 (k + 1)).length ≤ 100000 from by
        obtain ⟨h1, h2⟩ := HNK.out (k + 1) (by rw [HLN.out]; omega)
        have := HLY.out
        rw [HLN.out] at this
        exact ⟨h1, by omega⟩)
      have x5 : (wr.alloc (.cells #[.int .u64 r.1, .int .u64 r.2] 59)).drew.cell? ⟨b, 5, none⟩ = some (.pointer (some ⟨d, 0, none⟩)) := (cell_at HO5.out.blk 5).trans rfl
      have hzz : (wr.alloc (.cells #[.int .u64 r.1, .int .u64 r.2] 59)).drew.heap[wr.heap.size]? = some (.cells #[.int .u64 r.1, .int .u64 r.2] 59 (0, 0)) := alloc_at wr _
      obtain ⟨z, hz⟩ : ∃ z, wr.heap.size = z := ⟨_, rfl⟩
      rw [hz] at hzz
      have z0 := (cell_at hzz 0).trans (by rfl : _ = some (Value.int .u64 r.1))
      have z1 := (cell_at hzz 1).trans (by rfl : _ = some (Value.int .u64 r.2))
      have hr1 : r.1 < 18446744073709551616 := by omega
      have hr2 : r.2 < 18446744073709551616 := by omega
      clear hr hO hfp hw hsl hng hog ha hzz HR
      go_wp2_with fail
      refine wp_region_till (S := fun w' => w'.cell? ⟨b, 5, none⟩ = some (.pointer (some ⟨d, 0, none⟩)) ∧ w'.cell? ⟨z, 0, none⟩ = some (.int .u64 r.1) ∧ w'.cell? ⟨z, 1, none⟩ = some (.int .u64 r.2)) [8] (by kernel_rfl) (by exact ⟨x5, z0, z1⟩) (fun hHeld => ?_)
      refine wpTill_take0 (i := 0) (oi := ⟨some 36, _, _, _, _, _⟩) (v := ?_) rfl (by kernel_rfl) (fun _ _ _ h => h) (Or.inl ⟨by rfl, ?_⟩) (fun _ => hHeld) ?_
      rotate_left
      · intro w hSw
        (try dsimp only at hSw)
        go_simp
        try with_reducible rfl
      try simp only [Act.put, List.setIfInBounds_toArray, List.set_cons_zero, List.set_cons_succ]
      refine wpTill_take0 (i := 1) (oi := ⟨some 37, _, _, _, _, _⟩) (v := ?_) rfl (by kernel_rfl) (fun _ _ _ h => h) (Or.inl ⟨by rfl, ?_⟩) (fun _ => hHeld) ?_
      rotate_left
      · intro w hSw
        (try dsimp only at hSw)
        go_simp
        try with_reducible rfl
      try simp only [Act.put, List.setIfInBounds_toArray, List.set_cons_zero, List.set_cons_succ]
      refine wpTill_take0 (i := 2) (oi := ⟨some 38, _, _, _, _, _⟩) (v := ?_) rfl (by kernel_rfl) (fun _ _ _ h => h) (Or.inl ⟨by rfl, ?_⟩) (fun _ => hHeld) ?_
      rotate_left
      · intro w hSw
        (try dsimp only at hSw)
        go_simp
        try with_reducible rfl
      try simp only [Act.put, List.setIfInBounds_toArray, List.set_cons_zero, List.set_cons_succ]
      refine wpTill_take (i := 3) (oi := ⟨some 39, _, _, _, _, _⟩) (v := ?_) rfl (by kernel_rfl) (fun _ _ _ h => h) (Or.inl ⟨by rfl, ?_⟩) (by exact hHeld) ?_
      rotate_left
      · intro w hSw
        (try dsimp only at hSw)
        go_simp
        try with_reducible rfl
      try simp only [Act.put, List.setIfInBounds_toArray, List.set_cons_zero, List.set_cons_succ]
      refine wpTill_take0 (i := 4) (oi := ⟨some 40, _, _, _, _, _⟩) (v := ?_) rfl (by kernel_rfl) (fun _ _ _ h => h) (Or.inl ⟨by rfl, ?_⟩) (fun _ => hHeld) ?_
      rotate_left
      · intro w hSw
        (try dsimp only at hSw)
        go_simp
        try with_reducible rfl
      try simp only [Act.put, List.setIfInBounds_toArray, List.set_cons_zero, List.set_cons_succ]
      refine wpTill_take (i := 5) (oi := ⟨some 41, _, _, _, _, _⟩) (v := ?_) rfl (by kernel_rfl) (fun _ _ _ h => h) (Or.inl ⟨by rfl, ?_⟩) (by exact hHeld) ?_
      rotate_left
      · intro w hSw
        (try dsimp only at hSw)
        go_simp
        try with_reducible rfl
      try simp only [Act.put, List.setIfInBounds_toArray, List.set_cons_zero, List.set_cons_succ]
      refine wpTill_take0 (i := 6) (oi := ⟨some 42, _, _, _, _, _⟩) (v := ?_) rfl (by kernel_rfl) (fun _ _ _ h => h) (Or.inl ⟨by rfl, ?_⟩) (fun _ => hHeld) ?_
      rotate_left
      · intro w hSw
        (try dsimp only at hSw)
        go_simp
        try with_reducible rfl
      try simp only [Act.put, List.setIfInBounds_toArray, List.set_cons_zero, List.set_cons_succ]
      refine wpTill_take (i := 7) (oi := ⟨some 43, _, _, _, _, _⟩) (v := ?_) rfl (by kernel_rfl) (fun _ _ _ h => h) (Or.inl ⟨by rfl, ?_⟩) (by exact hHeld) ?_
      rotate_left
      · intro w hSw
        (try dsimp only at hSw)
        go_simp
        try with_reducible rfl
      try simp only [Act.put, List.setIfInBounds_toArray, List.set_cons_zero, List.set_cons_succ]
      refine wpTill_ready (rs := [8]) (by kernel_rfl) (by simp) ?_
      refine AllTill.consD (o := ⟨some 44, _, _, _, _, _⟩) rfl (by kernel_rfl) (fun K hK => ?_) AllTill.nil
      go_simp
      go_at_call 26
      refine (cut_any d many od (lostY s y0 k) r.1 r.2 _ (by exact HO5.out.sy) (by decide) (by decide) (by omega) (by omega) HO5.out.ok.ny (by have h9 : (lostY s y0 k).length ≤ 100000 := HO5.out.ok.ly; omega)).mono ?_
      rintro e W8 ⟨rfl, ht⟩
      rw [← HSC.out] at ht
      have H8 := Lib.hid (lost_next HR5.out HO5.out ht HN8.out)
      clear ht
      go_wp2_with fail
      refine hK.out _ _ ?_
      clear hK K
      try simp only [Act.put, List.setIfInBounds_toArray, List.set_cons_zero, List.set_cons_succ]
      refine wpTill_done (by kernel_rfl) ?_ _
      go_wp2_with fail
      go_roundw
      case rel => exact ⟨k + 1, by go_num, by omega, H8.out⟩
      case measure => simp [intOf]; omega
    · obtain rfl : k = len := by omega
      have hyk : lostY s y0 k = ys := by rw [← HLN.out]; exact HYS.out
      rw [hyk] at HR
      obtain ⟨fp', hoa, hw, _, _⟩ := HR.out
      obtain ⟨vb, ob, c, oc, d, od, hO, hfp⟩ := hoa
      rw [hfp] at hw
      have e7 : wr.cell? ⟨b, 7, none⟩ = some (.bool s.es) := (cell_at hO.blk 7).trans rfl
      have e9 : wr.cell? ⟨b, 9, none⟩ = some (.bool s.el) := (cell_at hO.blk 9).trans rfl
      have q9 := free_at hO.blk 9
      have HM0 := Lib.hid (show OM w wr fp b { s with ys := ys } from ⟨_, ⟨vb, ob, c, oc, d, od, hO, rfl⟩, hw⟩)
      have HM1 := Lib.hid (show OM w (wr.setCell ⟨b, 9, none⟩ (.bool true)) fp b { s with ys := ys, el := true } from
        om_set (s' := { s with ys := ys, el := true }) hO hw (Upd.refl _ _) ((Upd.refl (fun j => j = b) wr).setCell ⟨b, 9, none⟩ (.inl rfl) _) (set_at hO.blk 9 _) hO.row (.inl rfl) rfl rfl ⟨hO.ok.len, hO.ok.base, hO.ok.sent, hO.ok.nx, hO.ok.ny, hO.ok.lx, hO.ok.ly, hO.ok.bys⟩)
      clear hO hfp hw hyk HR
      cases f
      · go_wp2_with fail
        go_end0
        refine ⟨rfl, ?_⟩
        simp only [Bool.false_and, Bool.or_false]
        exact HM0.out
      · have hes : s.es = true ∨ s.es = false := by cases s.es <;> simp
        rcases hes with hes | hes
        · rw [hes] at e7
          have HE := Lib.hid (show (s.el || (true && s.es)) = true by rw [hes]; simp)
          clear hes
          go_wp2_with fail
          go_end0
          refine ⟨rfl, ?_⟩
          rw [HE.out]
          exact HM1.out
        · rw [hes] at e7
          have HE := Lib.hid (show (s.el || (true && s.es)) = s.el by rw [hes]; simp)
          clear hes
          go_wp2_with fail
          go_end0
          refine ⟨rfl, ?_⟩
          rw [HE.out]
          exact HM0.out
end Go.Proofs.Ytkebjfaphmamjaa
