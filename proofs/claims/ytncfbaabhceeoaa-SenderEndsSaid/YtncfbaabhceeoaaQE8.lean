/- DERIVED. Walk of outbuf's Lost. -/
import Derived.Test.YtncfbaabhceeoaaQE7
set_option linter.all false
namespace Go.Proofs.Ytncfbaabhceeoaa
open Go.RowKit

theorem cut_ab {lo hi : Nat} {xs : List Rg} (h : ∀ r ∈ xs, hi ≤ r.1) : cutRaw lo hi xs = xs := by
  induction xs with
  | nil => simp [cutRaw]
  | cons r xs ih =>
    have e : cutRaw lo hi (r :: xs) = cut1 lo hi r ++ cutRaw lo hi xs := by simp [cutRaw]
    rw [e, ih (fun x hx => h x (List.mem_cons_of_mem _ hx)), cut1, if_pos (.inr (.inr (h r (List.mem_cons_self ..))))]
    rfl
theorem cut_le (lo hi : Nat) : ∀ xs : List Rg, Norm xs → (cutRaw lo hi xs).length ≤ xs.length + 1
  | [], _ => by simp [cutRaw]
  | r :: xs, hn => by
    obtain ⟨h1, h2⟩ := hn.head
    have ih := cut_le lo hi xs hn.tail
    have e : cutRaw lo hi (r :: xs) = cut1 lo hi r ++ cutRaw lo hi xs := by simp [cutRaw]
    rw [e, List.length_append, List.length_cons]
    by_cases h : hi < r.2
    · have := cut1_len lo hi r
      rw [cut_ab (fun x hx => by have := h2 x hx; omega)]
      omega
    · have : (cut1 lo hi r).length ≤ 1 := by
        unfold cut1
        split
        · simp
        · split <;> simp
      omega
/-- What is lost behind a number of cuts by what is acknowledged. -/
def lostY (s : OS) (y0 : List Rg) (k : Nat) : List Rg := (s.xs.take k).foldl (fun y x => cutRaw x.1 x.2 y) y0
theorem lostY_succ {s : OS} {y0 : List Rg} {k : Nat} {r : Rg} (h : s.xs[k]? = some r) : lostY s y0 (k + 1) = cutRaw r.1 r.2 (lostY s y0 k) := by
  unfold lostY
  rw [List.take_add_one, h, List.foldl_append]
  rfl
def OS.lostB (s : OS) (r : Nat × Nat) : List Rg := if r.1 < r.2 then addL many s.ys r.1 r.2 else s.ys
/-- The buffer while what is acknowledged is cut out; the copy of its ranges is apart. -/
def LostR (w0 w : World) (fp : Nat → Prop) (b : Nat) (s : OS) (v : Value) (og : Option Nat) (xs : List Rg) : Prop :=
  ∃ fp', OAt w b s fp' ∧ Went fp fp' w0 w ∧ Sl w v og xs ∧ ∀ g, og = some g → ¬ fp' g
theorem lost_next {w0 w W W8 : World} {fp : Nat → Prop} {b : Nat} {s : OS} {v vb : Value} {og ob : Option Nat} {xs zs : List Rg} {c d : Nat} {oc od : Option Nat} (h : ∃ hb : Below w.heap.size w W, Went fp (OFp b c d ob oc od) w0 w ∧ Sl w v og xs ∧ ∀ g, og = some g → ¬ OFp b c d ob oc od g)
    (hO : OutAt W b s vb ob c oc d od) (t : Turned W d many od (trimL many zs) W8) (hz : Norm zs ∧ zs.length ≤ 100000) : LostR w0 W8 fp b { s with ys := zs } v og xs := by
  obtain ⟨hb, hw, hs, hg⟩ := h
  have e : trimL many zs = zs := trim_all (by unfold many; omega)
  rw [e] at t
  obtain ⟨fp', h1, h2⟩ := om_turnD hO (Went.refl _ W) t hz.1 hz.2
  have hs2 := hs.below hb
  have hsl := hs2.lt
  refine ⟨fp', h1, (hw.later hb).trans h2, hs2.keeps h2.upd (fun g e q => hg g e q), fun g e q => ?_⟩
  rcases h2.new g q with q | q
  · exact hg g e q
  · have := hsl g e
    omega
set_option maxRecDepth 100000 in
set_option maxHeartbeats 4000000 in
theorem olost_any (b : Nat) (s : OS) (fp : Nat → Prop) (off : Nat) (n : Int) (f : Bool) (y0 ys : List Rg) (w : World) (h : OAt w b s fp) (ho : off < 18446744073709551616) (hn : -9223372036854775808 ≤ n) (hn2 : n ≤ 9223372036854775807)
    (hy0 : s.lostB (s.kn off n) = y0) (hny : Norm y0) (hly : y0.length + s.xs.length ≤ 100000) (hys : lostY s y0 s.xs.length = ys) :
    Calls Try.prog 43 #[.pointer (some ⟨b, 0, none⟩), .int .u64 off, .int .i64 n, .bool f] w fun e w' => e = .returned (.tuple #[]) ∧ OM w w' fp b { s with ys := ys, el := s.el || (f && s.es) } := by
  have hlen := h.ok.len
  have hsl := h.ok.sent
  obtain ⟨from_, to_, hkn⟩ : ∃ f t, s.kn off n = (f, t) := ⟨_, _, rfl⟩
  have hto : to_ ≤ s.B.length ∧ from_ ≤ s.B.length := by
    unfold OS.kn at hkn
    simp only [Prod.mk.injEq] at hkn
    omega
  have H := Lib.hid h
  have HKN := Lib.hid hkn
  have HXN := Lib.hid h.ok.nx
  have HZS := Lib.hid (show (if from_ < to_ ∧ to_ ≤ 4611686018427387904 then addL many s.ys from_ to_ else s.ys) = y0 by
    rw [← hy0, hkn]
    unfold OS.lostB
    by_cases q : from_ < to_
    · rw [if_pos ⟨q, by omega⟩, if_pos q]
    · rw [if_neg (fun q2 => q q2.1), if_neg q])
  have HNK := Lib.hid (show ∀ k, k ≤ s.xs.length → Norm (lostY s y0 k) ∧ (lostY s y0 k).length ≤ y0.length + k from by
    intro k
    induction k with
    | zero => intro _; exact ⟨hny, Nat.le_refl _⟩
    | succ k ih =>
      intro hk
      obtain ⟨h1, h2⟩ := ih (by omega)
      obtain ⟨r, hr⟩ : ∃ r, s.xs[k]? = some r := ⟨_, List.getElem?_eq_getElem (by omega)⟩
      rw [lostY_succ hr]
      have := cut_le r.1 r.2 _ h1
      exact ⟨cut_norm _ _ _ h1, by omega⟩)
  have HLY := Lib.hid hly
  have HYS := Lib.hid hys
  have HNY := Lib.hid hny
  clear h hkn hy0 hny hly hys
  obtain ⟨hto1, hto2⟩ := hto
  go_enter Try.func43, Try.ntmps43
  go_wp2_with fail
  refine (oknown_q b s fp off n _ (by exact H.out) ho hn hn2).mono ?_
  rw [HKN.out]
  rintro e w1 ⟨rfl, q, rfl⟩
  have H1 := Lib.hid ((OM.refl H.out).drewN q)
  generalize w.drewN q = w1 at *
  obtain ⟨fp1, hoa, hw1⟩ := H1.out
  obtain ⟨vb, ob, c, oc, d, od, hO, hfp⟩ := hoa
  rw [hfp] at hw1
  have HO := Lib.hid hO
  have HW := Lib.hid hw1
  have c5 : w1.cell? ⟨b, 5, none⟩ = some (.pointer (some ⟨d, 0, none⟩)) := (cell_at hO.blk 5).trans rfl
  clear hO hfp hw1 H1
  go_wp2_with fail
  refine (add_any d many od s.ys from_ to_ _ (by exact HO.out.sy) (by decide) (by decide) (by have := HO.out.ok.ly; omega)).mono ?_
  rw [HZS.out]
  rintro e w2 ⟨rfl, ht⟩
  have H2 := Lib.hid (om_turnD HO.out HW.out ht HNY.out (by have := HLY.out; omega))
  clear ht HO HW c5
  obtain ⟨fp2, hoa, hw2⟩ := H2.out
  have HOA := Lib.hid hoa
  obtain ⟨vb, ob, c, oc, d, od, hO, hfp⟩ := hoa
  have HO := Lib.hid hO
  have HW := Lib.hid hw2
  have c4 : w2.cell? ⟨b, 4, none⟩ = some (.pointer (some ⟨c, 0, none⟩)) := (cell_at hO.blk 4).trans rfl
  clear hO hfp hw2 H2
  go_wp2_with fail
  refine (all_any c many oc s.xs _ (by exact HO.out.sx) (by have h9 : s.xs.length ≤ 100000 := HO.out.ok.lx; omega)).mono ?_
  rintro e w3 ⟨v, og, rfl, hs, hnew, hb3⟩
  obtain ⟨oa, cap, rfl, hc1, hc2⟩ := hs.shape
  have HR0 := Lib.hid (show LostR w w3 fp b { s with ys := lostY s y0 0 } (.slice oa s.xs.length cap) og s.xs from ⟨fp2, HOA.out.below hb3, HW.out.later hb3, hs, fun g e q => by have := hnew g e; have := HOA.out.lt.2 g q; omega⟩)
  clear hs hnew hb3 HO HW HOA c4
  obtain ⟨len, hln⟩ : ∃ len, s.xs.length = len := ⟨_, rfl⟩
  have HLN := Lib.hid hln
  rw [hln] at HR0 hc1 ⊢
  clear hln
  go_wp2_with fail
  go_loopw [32] (fun i wr => ∃ k : Nat, i = .int .i64 k ∧ k ≤ len ∧ LostR w wr fp b { s with ys := lostY s y0 k } (.slice oa len cap) og s.xs) (fun i _ => len - (intOf i).toNat)
  case atStart => exact ⟨0, rfl, by omega, HR0.out⟩
  case round =>
    obtain ⟨k, rfl, hk, hr⟩ := hrel
    have HR := Lib.hid hr
    clear hr HR0
    by_cases hlt : k < len
    · obtain ⟨r, hr⟩ : ∃ r, s.xs[k]? = some r := ⟨_, List.getElem?_eq_getElem (by rw [HLN.out]; exact hlt)⟩
      obtain ⟨fp', hoa, hw, hsl, hng⟩ := HR.out
      obtain ⟨vb, ob, c, oc, d, od, hO, hfp⟩ := hoa
      rw [hfp] at hw hng
      obtain ⟨g, hog, rfl, hgl, q0, q1⟩ := hsl.atS hr
      have hrb := HXN.out.at hr
      have ha : Below wr.heap.size wr (wr.alloc (.cells #[.int .u64 r.1, .int .u64 r.2] 92)).drew := ((Below.refl _ _).alloc (Nat.le_refl _) _).drew
      have HO5 := Lib.hid (hO.below ha)
      have HR5 := Lib.hid (show ∃ hb : Below wr.heap.size wr (wr.alloc (.cells #[.int .u64 r.1, .int .u64 r.2] 92)).drew, Went fp (OFp b c d ob oc od) w wr ∧ Sl wr (.slice (some ⟨g, 0, none⟩) len cap) og s.xs ∧ ∀ g, og = some g → ¬ OFp b c d ob oc od g from ⟨ha, hw, hsl, hng⟩)
      have HSC := Lib.hid (lostY_succ (y0 := y0) hr)
      have HN8 := Lib.hid (show Norm (lostY s y0 (k + 1)) ∧ (lostY s y0 (k + 1)).length ≤ 100000 from by
        obtain ⟨h1, h2⟩ := HNK.out (k + 1) (by rw [HLN.out]; omega)
        have := HLY.out
        rw [HLN.out] at this
        exact ⟨h1, by omega⟩)
      have x5 : (wr.alloc (.cells #[.int .u64 r.1, .int .u64 r.2] 92)).drew.cell? ⟨b, 5, none⟩ = some (.pointer (some ⟨d, 0, none⟩)) := (cell_at HO5.out.blk 5).trans rfl
      have hzz : (wr.alloc (.cells #[.int .u64 r.1, .int .u64 r.2] 92)).drew.heap[wr.heap.size]? = some (.cells #[.int .u64 r.1, .int .u64 r.2] 92 (0, 0)) := alloc_at wr _
      obtain ⟨z, hz⟩ : ∃ z, wr.heap.size = z := ⟨_, rfl⟩
      rw [hz] at hzz
      have z0 := (cell_at hzz 0).trans (by rfl : _ = some (Value.int .u64 r.1))
      have z1 := (cell_at hzz 1).trans (by rfl : _ = some (Value.int .u64 r.2))
      have hr1 : r.1 < 18446744073709551616 := by omega
      have hr2 : r.2 < 18446744073709551616 := by omega
      clear hr hO hfp hw hsl hng hog ha hzz HR
      go_wp2_with fail
      refine wp_region_till (S := fun w' => w'.cell? ⟨b, 5, none⟩ = some (.pointer (some ⟨d, 0, none⟩)) ∧ w'.cell? ⟨z, 0, none⟩ = some (.int .u64 r.1) ∧ w'.cell? ⟨z, 1, none⟩ = some (.int .u64 r.2)) [8] (by kernel_rfl) (by exact ⟨x5, z0, z1⟩) (fun hHeld => ?_)
      refine wpTill_take0 (i := 0) (oi := ⟨some 36, _, _, _, _, _⟩) (v := ?_) rfl (by kernel_rfl) (fun _ _ _ h => h) (Or.inl ⟨by rfl, ?_⟩) (fun _ => hHeld) ?_
      rotate_left
      · intro w hSw
        (try dsimp only at hSw)
        go_simp
        try with_reducible rfl
      try simp only [Act.put, List.setIfInBounds_toArray, List.set_cons_zero, List.set_cons_succ]
      refine wpTill_take0 (i := 1) (oi := ⟨some 37, _, _, _, _, _⟩) (v := ?_) rfl (by kernel_rfl) (fun _ _ _ h => h) (Or.inl ⟨by rfl, ?_⟩) (fun _ => hHeld) ?_
      rotate_left
      · intro w hSw
        (try dsimp only at hSw)
        go_simp
        try with_reducible rfl
      try simp only [Act.put, List.setIfInBounds_toArray, List.set_cons_zero, List.set_cons_succ]
      refine wpTill_take0 (i := 2) (oi := ⟨some 38, _, _, _, _, _⟩) (v := ?_) rfl (by kernel_rfl) (fun _ _ _ h => h) (Or.inl ⟨by rfl, ?_⟩) (fun _ => hHeld) ?_
      rotate_left
      · intro w hSw
        (try dsimp only at hSw)
        go_simp
        try with_reducible rfl
      try simp only [Act.put, List.setIfInBounds_toArray, List.set_cons_zero, List.set_cons_succ]
      refine wpTill_take (i := 3) (oi := ⟨some 39, _, _, _, _, _⟩) (v := ?_) rfl (by kernel_rfl) (fun _ _ _ h => h) (Or.inl ⟨by rfl, ?_⟩) (by exact hHeld) ?_
      rotate_left
      · intro w hSw
        (try dsimp only at hSw)
        go_simp
        try with_reducible rfl
      try simp only [Act.put, List.setIfInBounds_toArray, List.set_cons_zero, List.set_cons_succ]
      refine wpTill_take0 (i := 4) (oi := ⟨some 40, _, _, _, _, _⟩) (v := ?_) rfl (by kernel_rfl) (fun _ _ _ h => h) (Or.inl ⟨by rfl, ?_⟩) (fun _ => hHeld) ?_
      rotate_left
      · intro w hSw
        (try dsimp only at hSw)
        go_simp
        try with_reducible rfl
      try simp only [Act.put, List.setIfInBounds_toArray, List.set_cons_zero, List.set_cons_succ]
      refine wpTill_take (i := 5) (oi := ⟨some 41, _, _, _, _, _⟩) (v := ?_) rfl (by kernel_rfl) (fun _ _ _ h => h) (Or.inl ⟨by rfl, ?_⟩) (by exact hHeld) ?_
      rotate_left
      · intro w hSw
        (try dsimp only at hSw)
        go_simp
        try with_reducible rfl
      try simp only [Act.put, List.setIfInBounds_toArray, List.set_cons_zero, List.set_cons_succ]
      refine wpTill_take0 (i := 6) (oi := ⟨some 42, _, _, _, _, _⟩) (v := ?_) rfl (by kernel_rfl) (fun _ _ _ h => h) (Or.inl ⟨by rfl, ?_⟩) (fun _ => hHeld) ?_
      rotate_left
      · intro w hSw
        (try dsimp only at hSw)
        go_simp
        try with_reducible rfl
      try simp only [Act.put, List.setIfInBounds_toArray, List.set_cons_zero, List.set_cons_succ]
      refine wpTill_take (i := 7) (oi := ⟨some 43, _, _, _, _, _⟩) (v := ?_) rfl (by kernel_rfl) (fun _ _ _ h => h) (Or.inl ⟨by rfl, ?_⟩) (by exact hHeld) ?_
      rotate_left
      · intro w hSw
        (try dsimp only at hSw)
        go_simp
        try with_reducible rfl
      try simp only [Act.put, List.setIfInBounds_toArray, List.set_cons_zero, List.set_cons_succ]
      refine wpTill_ready (rs := [8]) (by kernel_rfl) (by simp) ?_
      refine AllTill.consD (o := ⟨some 44, _, _, _, _, _⟩) rfl (by kernel_rfl) (fun K hK => ?_) AllTill.nil
      go_simp
      go_at_call 61
      refine (cut_any d many od (lostY s y0 k) r.1 r.2 _ (by exact HO5.out.sy) (by decide) (by decide) (by omega) (by omega) HO5.out.ok.ny (by have h9 : (lostY s y0 k).length ≤ 100000 := HO5.out.ok.ly; omega)).mono ?_
      rintro e W8 ⟨rfl, ht⟩
      rw [← HSC.out] at ht
      have H8 := Lib.hid (lost_next HR5.out HO5.out ht HN8.out)
      clear ht
      go_wp2_with fail
      refine hK.out _ _ ?_
      clear hK K
      try simp only [Act.put, List.setIfInBounds_toArray, List.set_cons_zero, List.set_cons_succ]
      refine wpTill_done (by kernel_rfl) ?_ _
      go_wp2_with fail
      go_roundw
      case rel => exact ⟨k + 1, by go_num, by omega, H8.out⟩
      case measure => simp [intOf]; omega
    · obtain rfl : k = len := by omega
      have hyk : lostY s y0 k = ys := by rw [← HLN.out]; exact HYS.out
      rw [hyk] at HR
      obtain ⟨fp', hoa, hw, _, _⟩ := HR.out
      obtain ⟨vb, ob, c, oc, d, od, hO, hfp⟩ := hoa
      rw [hfp] at hw
      have e7 : wr.cell? ⟨b, 7, none⟩ = some (.bool s.es) := (cell_at hO.blk 7).trans rfl
      have e9 : wr.cell? ⟨b, 9, none⟩ = some (.bool s.el) := (cell_at hO.blk 9).trans rfl
      have q9 := free_at hO.blk 9
      have HM0 := Lib.hid (show OM w wr fp b { s with ys := ys } from ⟨_, ⟨vb, ob, c, oc, d, od, hO, rfl⟩, hw⟩)
      have HM1 := Lib.hid (show OM w (wr.setCell ⟨b, 9, none⟩ (.bool true)) fp b { s with ys := ys, el := true } from
        om_set (s' := { s with ys := ys, el := true }) hO hw (Upd.refl _ _) ((Upd.refl (fun j => j = b) wr).setCell ⟨b, 9, none⟩ (.inl rfl) _) (set_at hO.blk 9 _) hO.row (.inl rfl) rfl rfl ⟨hO.ok.len, hO.ok.base, hO.ok.sent, hO.ok.nx, hO.ok.ny, hO.ok.lx, hO.ok.ly, hO.ok.bys⟩)
      clear hO hfp hw hyk HR
      cases f
      · go_wp2_with fail
        go_end0
        refine ⟨rfl, ?_⟩
        simp only [Bool.false_and, Bool.or_false]
        exact HM0.out
      · have hes : s.es = true ∨ s.es = false := by cases s.es <;> simp
        rcases hes with hes | hes
        · rw [hes] at e7
          have HE := Lib.hid (show (s.el || (true && s.es)) = true by rw [hes]; simp)
          clear hes
          go_wp2_with fail
          go_end0
          refine ⟨rfl, ?_⟩
          rw [HE.out]
          exact HM1.out
        · rw [hes] at e7
          have HE := Lib.hid (show (s.el || (true && s.es)) = s.el by rw [hes]; simp)
          clear hes
          go_wp2_with fail
          go_end0
          refine ⟨rfl, ?_⟩
          rw [HE.out]
          exact HM0.out
end Go.Proofs.Ytncfbaabhceeoaa

/- DERIVED. Walk of outbuf's Waits. -/
namespace Go.Proofs.Ytncfbaabhceeoaa
open Go.RowKit

theorem opart_any (b : Nat) (s : OS) (fp : Nat → Prop) (limit : Nat) (w : World) (h : OAt w b s fp) (hlim : limit < 18446744073709551616) {f t : Nat} (hp : s.part limit = (f, t)) :
    Calls Try.prog 57 #[.pointer (some ⟨b, 0, none⟩), .int .u64 limit] w fun e w' => e = .returned (.tuple #[.int .u64 f, .int .u64 t]) ∧ Below w.heap.size w w' := by
  cases hys : s.ys with
  | nil =>
    unfold OS.part at hp
    rw [hys] at hp
    simp only [Prod.mk.injEq] at hp
    rw [← hp.1]
    exact opart_nil b s fp limit t w h hlim hys hp.2
  | cons r rest =>
    unfold OS.part at hp
    rw [hys] at hp
    simp only at hp
    have := opart_cons b s fp limit r rest w h hys
    rw [hp] at this
    exact this
theorem oend_e (b : Nat) (s : OS) (fp : Nat → Prop) (w : World) (h : OAt w b s fp) {en : Bool} (he : s.ende = en) : Calls Try.prog 59 #[.pointer (some ⟨b, 0, none⟩)] w fun e w' => e = .returned (.bool en) ∧ ∃ n, w' = w.drewN n := by
  rw [← he]
  exact oend_q b s fp w h
/-- Is something to be sent? -/
def OS.waits (s : OS) (limit : Nat) : Bool := decide ((s.part limit).1 < (s.part limit).2) || (decide (s.sent = s.B.length) && s.ende)
end Go.Proofs.Ytncfbaabhceeoaa

/- DERIVED. Walk of outbuf's Next, where a piece goes. -/
namespace Go.Proofs.Ytncfbaabhceeoaa
open Go.RowKit

/-- A piece goes. -/
def OS.went (s : OS) (f t : Nat) : OS := { s with sent := max s.sent t, ys := cutRaw f t s.ys, es := s.es || (decide (t = s.B.length) && s.ende), el := s.el && !(decide (t = s.B.length) && s.ende) }
theorem went_no (s : OS) (f t z : Nat) (hz : max s.sent t = z) (h : (decide (t = s.B.length) && s.ende) = false) : { s with ys := cutRaw f t s.ys, sent := z } = s.went f t := by
  unfold OS.went
  rw [h, hz]
  simp
theorem went_yes (s : OS) (f t z : Nat) (hz : max s.sent t = z) (h : (decide (t = s.B.length) && s.ende) = true) : { s with ys := cutRaw f t s.ys, sent := z, es := true, el := false } = s.went f t := by
  unfold OS.went
  rw [h, hz]
  simp
theorem ons_mk (w : World) (fp : Nat → Prop) (b : Nat) (s : OS) (sent t : Nat) (v : Value) (og : Option Nat) (en X : Bool) (w5 : World) (he : X = en) (hm : OM w w5 fp b (s.went sent t)) (hv : SlG encB 5 w5 v og ((s.B.drop sent).take (t - sent))) (hg : ∀ g, og = some g → w.heap.size ≤ g) :
    ∃ v' og', (Ending.returned (.tuple #[.int .u64 sent, v, .bool en, .bool true])) = .returned (.tuple #[.int .u64 sent, v', .bool X, .bool true]) ∧ OM w w5 fp b (s.went sent t) ∧ SlG encB 5 w5 v' og' ((s.B.drop sent).take (t - sent)) ∧ (∀ g, og' = some g → w.heap.size ≤ g) :=
  ⟨v, og, by rw [he], hm, hv, hg⟩
set_option maxRecDepth 100000 in
set_option maxHeartbeats 2000000 in
theorem onext_go (b : Nat) (s : OS) (fp : Nat → Prop) (most : Int) (limit sent t0 t : Nat) (w : World) (h : OAt w b s fp) (hlim : limit < 18446744073709551616) (hpt : s.part limit = (sent, t0)) (hbs : s.base ≤ sent) (hlt : sent < t) (ht : min t0 (sent + most.toNat) = t) (htl : t ≤ s.B.length) (hB : s.B.length ≤ 1000000000) (ht0 : t0 ≤ 1099511627776) (hcl : (cutRaw sent t s.ys).length ≤ 100000) (hm1 : -9223372036854775808 ≤ most) (hm : most ≤ 9223372036854775807) :
    Calls Try.prog 39 #[.pointer (some ⟨b, 0, none⟩), .int .i64 most, .int .u64 limit] w
      fun e w' => ∃ v og, e = .returned (.tuple #[.int .u64 sent, v, .bool (decide (t = s.B.length) && s.ende), .bool true]) ∧ OM w w' fp b (s.went sent t) ∧ SlG encB 5 w' v og ((s.B.drop sent).take (t - sent)) ∧ (∀ g, og = some g → w.heap.size ≤ g) := by
  obtain ⟨i0, hi0, hz0, hz1, hz2'⟩ := info_parts infoB
  have hlen := h.ok.len
  have hbl := h.ok.base
  have H := Lib.hid h
  have HPT := Lib.hid hpt
  obtain ⟨len, hln⟩ : ∃ len, s.B.length = len := ⟨_, rfl⟩
  obtain ⟨base, hbase⟩ : ∃ base, s.base = base := ⟨_, rfl⟩
  obtain ⟨en, hen⟩ : ∃ en, s.ende = en := ⟨_, rfl⟩
  obtain ⟨mo, hmo⟩ : ∃ mo, most.toNat = mo := ⟨_, rfl⟩
  have HLE := Lib.hid hln
  have HBA := Lib.hid hbase
  have HE := Lib.hid hen
  have HCL := Lib.hid hcl
  rw [hln] at hB
  rw [hln] at hlen hbl htl ⊢
  rw [hbase] at hbs hbl
  rw [hen]
  rw [hmo] at ht
  have hmos : (most : Int) = (mo : Int) ∧ 0 < most := by omega
  obtain ⟨hmo1, hmp⟩ := hmos
  subst hmo1
  have hmb : mo ≤ 9223372036854775807 := by omega
  clear h hpt hln hbase hen hcl hmo hm hm1
  have HTL := Lib.hid htl
  go_enter Try.func39, Try.ntmps39
  go_wp2_with fail
  refine (opart_any b s fp limit _ (by exact H.out) hlim HPT.out).mono ?_
  rintro e w1 ⟨rfl, hb⟩
  have HB := Lib.hid hb
  clear hb
  go_upto_region 2 with fail
  go_cut [11] (fun v wx => v = .int .u64 t ∧ wx = w1)
  case first =>
    have q2 : (0 : Int) < (mo : Int) := by omega
    have hwm : IntKind.u64.wrap (mo : Int) = mo := IntWalk.u64_in _ (by omega)
    obtain ⟨z, hz, hzt⟩ : ∃ z : Nat, (sent : Int) + (mo : Int) = (z : Int) ∧ sent + mo = z := ⟨sent + mo, by omega, rfl⟩
    have hzb : (z : Int) < 18446744073709551616 := by omega
    have hwz : IntKind.u64.wrap (z : Int) = z := IntWalk.u64_in _ (by omega)
    rw [hzt] at ht
    rcases (by omega : (z < t0 ∧ t = z) ∨ (t0 < z ∧ t = t0) ∨ (t0 = z ∧ t = t0)) with ⟨q1, q3⟩ | ⟨q1, q3⟩ | ⟨q1, q3⟩
    · subst q3
      clear ht hzt
      go_wp2_with fail
      go_meet
      case rel => exact ⟨rfl, rfl⟩
    · subst q3
      clear ht hzt
      go_wp2_with fail
      go_meet
      case rel => exact ⟨rfl, rfl⟩
    · subst q3
      subst q1
      clear ht hzt
      go_wp2_with fail
      go_meet
      case rel => exact ⟨rfl, rfl⟩
  case rest =>
    obtain ⟨rfl, rfl⟩ := hcut
    generalize wc = w1 at *
    have H1 := Lib.hid (H.out.below HB.out)
    obtain ⟨vb, ob, c, oc, d, od, hO, hfp⟩ := H1.out
    obtain ⟨oB, cB, e0, hcB, hcB2⟩ := hO.row.shape
    rw [List.length_drop, HLE.out, HBA.out] at e0 hcB
    obtain ⟨n0, hn0⟩ : ∃ n0, len - base = n0 := ⟨_, rfl⟩
    rw [hn0] at e0 hcB
    subst e0
    have HO := Lib.hid hO
    have HFP := Lib.hid hfp
    have hrv := (hO.row.vw encB_len).below (Below.refl _ _).drew
    obtain ⟨l, hl, hl2⟩ : ∃ l : Nat, (sent : Int) - (base : Int) = (l : Int) ∧ sent - base = l := ⟨sent - base, by omega, rfl⟩
    obtain ⟨hh, hhh, hhh2⟩ : ∃ hh : Nat, (t : Int) - (base : Int) = (hh : Int) ∧ t - base = hh := ⟨t - base, by omega, rfl⟩
    have hlh : l ≤ hh := by omega
    have hhc : hh ≤ cB := by omega
    have hlb : (l : Int) ≤ 1099511627776 := by omega
    have hsb : sent ≤ 1099511627776 := by omega
    have hsti : (sent : Int) < (t : Int) := by omega
    have htb : t ≤ 1099511627776 := by omega
    have hhb : (hh : Int) ≤ 1099511627776 := by omega
    have hwl : IntKind.u64.wrap (l : Int) = l := IntWalk.u64_in _ (by omega)
    have hwh : IntKind.u64.wrap (hh : Int) = hh := IntWalk.u64_in _ (by omega)
    have HP0 := hrv.mid encB_len hlh (show hh ≤ n0 by omega)
    have hpc : ((s.B.drop s.base).drop l).take (hh - l) = (s.B.drop sent).take (t - sent) := by
      rw [List.drop_drop, HBA.out, show base + l = sent by omega, show hh - l = t - sent by omega]
    rw [hpc] at HP0
    have HP := Lib.hid HP0
    have HPL := Lib.hid (show ((s.B.drop sent).take (t - sent)).length ≤ 1000000000 by rw [List.length_take]; omega)
    have hst : ¬ sent = t := by omega
    have HSof := Lib.hid (show ∀ W, Below w1.drew.heap.size w1.drew W → W.cell? ⟨b, 0, none⟩ = some (.slice oB n0 cB) ∧ W.cell? ⟨b, 1, none⟩ = some (.int .u64 base) from fun W h => by
      have hk := below_keeps h (show w1.drew.heap[b]? = _ from HO.out.blk) (heap_lt HO.out.blk)
      refine ⟨(cell_at hk 0).trans rfl, ?_⟩
      rw [cell_at hk, ← HBA.out]
      rfl)
    clear hO hfp hrv HP0 hpc hl2 hhh2 hn0 ht htl hlt
    go_upto_region 8 with fail
    go_cut [12] (fun v wx => ∃ og, Below w1.drew.heap.size w1.drew wx ∧ SlG encB 5 wx v og ((s.B.drop sent).take (t - sent)) ∧ ∀ g, og = some g → w1.drew.heap.size ≤ g)
    case first =>
      go_wp2_with fail
      have hb : Below w1.drew.heap.size w1.drew w1.drew := Below.refl _ _
      refine wp_region_till (S := fun w' => w'.cell? ⟨b, 0, none⟩ = some (.slice oB n0 cB) ∧ w'.cell? ⟨b, 1, none⟩ = some (.int .u64 base)) [] (by kernel_rfl) (by exact HSof.out _ hb) (fun hHeld => ?_)
      refine wpTill_take0 (i := 0) (oi := ⟨some 62, _, _, _, _, _⟩) (v := ?_) rfl (by kernel_rfl) (fun _ _ _ h => h) (Or.inl ⟨by rfl, ?_⟩) (fun _ => hHeld) ?_
      rotate_left
      · intro w hSw
        (try dsimp only at hSw)
        go_simp
        try with_reducible rfl
      try simp only [Act.put, List.setIfInBounds_toArray, List.set_cons_zero, List.set_cons_succ]
      refine wpTill_take0 (i := 1) (oi := ⟨some 63, _, _, _, _, _⟩) (v := ?_) rfl (by kernel_rfl) (fun _ _ _ h => h) (Or.inl ⟨by rfl, ?_⟩) (fun _ => hHeld) ?_
      rotate_left
      · intro w hSw
        (try dsimp only at hSw)
        go_simp
        try with_reducible rfl
      try simp only [Act.put, List.setIfInBounds_toArray, List.set_cons_zero, List.set_cons_succ]
      refine wpTill_take0 (i := 2) (oi := ⟨some 64, _, _, _, _, _⟩) (v := ?_) rfl (by kernel_rfl) (fun _ _ _ h => h) (Or.inl ⟨by rfl, ?_⟩) (fun _ => hHeld) ?_
      rotate_left
      · intro w hSw
        (try dsimp only at hSw)
        go_simp
        try with_reducible rfl
      try simp only [Act.put, List.setIfInBounds_toArray, List.set_cons_zero, List.set_cons_succ]
      refine wpTill_take (i := 3) (oi := ⟨some 65, _, _, _, _, _⟩) (v := ?_) rfl (by kernel_rfl) (fun _ _ _ h => h) (Or.inl ⟨by rfl, ?_⟩) (by exact hHeld) ?_
      rotate_left
      · intro w hSw
        (try dsimp only at hSw)
        go_simp
        try with_reducible rfl
      try simp only [Act.put, List.setIfInBounds_toArray, List.set_cons_zero, List.set_cons_succ]
      refine wpTill_take0 (i := 4) (oi := ⟨some 66, _, _, _, _, _⟩) (v := ?_) rfl (by kernel_rfl) (fun _ _ _ h => h) (Or.inl ⟨by rfl, ?_⟩) (fun _ => hHeld) ?_
      rotate_left
      · intro w hSw
        (try dsimp only at hSw)
        go_simp
        try with_reducible rfl
      try simp only [Act.put, List.setIfInBounds_toArray, List.set_cons_zero, List.set_cons_succ]
      refine wpTill_take0 (i := 5) (oi := ⟨some 67, _, _, _, _, _⟩) (v := ?_) rfl (by kernel_rfl) (fun _ _ _ h => h) (Or.inl ⟨by rfl, ?_⟩) (fun _ => hHeld) ?_
      rotate_left
      · intro w hSw
        (try dsimp only at hSw)
        go_simp
        try with_reducible rfl
      try simp only [Act.put, List.setIfInBounds_toArray, List.set_cons_zero, List.set_cons_succ]
      refine wpTill_take0 (i := 6) (oi := ⟨some 68, _, _, _, _, _⟩) (v := ?_) rfl (by kernel_rfl) (fun _ _ _ h => h) (Or.inl ⟨by rfl, ?_⟩) (fun _ => hHeld) ?_
      rotate_left
      · intro w hSw
        (try dsimp only at hSw)
        go_simp
        try with_reducible rfl
      try simp only [Act.put, List.setIfInBounds_toArray, List.set_cons_zero, List.set_cons_succ]
      refine wpTill_take0 (i := 7) (oi := ⟨some 69, _, _, _, _, _⟩) (v := ?_) rfl (by kernel_rfl) (fun _ _ _ h => h) (Or.inl ⟨by rfl, ?_⟩) (fun _ => hHeld) ?_
      rotate_left
      · intro w hSw
        (try dsimp only at hSw)
        go_simp
        try with_reducible rfl
      try simp only [Act.put, List.setIfInBounds_toArray, List.set_cons_zero, List.set_cons_succ]
      refine wpTill_take (i := 8) (oi := ⟨some 70, _, _, _, _, _⟩) (v := ?_) rfl (by kernel_rfl) (fun _ _ _ h => h) (Or.inl ⟨by rfl, ?_⟩) (by exact hHeld) ?_
      rotate_left
      · intro w hSw
        (try dsimp only at hSw)
        go_simp
        try with_reducible rfl
      try simp only [Act.put, List.setIfInBounds_toArray, List.set_cons_zero, List.set_cons_succ]
      refine wpTill_take0 (i := 9) (oi := ⟨some 71, _, _, _, _, _⟩) (v := ?_) rfl (by kernel_rfl) (fun _ _ _ h => h) (Or.inl ⟨by rfl, ?_⟩) (fun _ => hHeld) ?_
      rotate_left
      · intro w hSw
        (try dsimp only at hSw)
        go_simp
        try with_reducible rfl
      try simp only [Act.put, List.setIfInBounds_toArray, List.set_cons_zero, List.set_cons_succ]
      refine wpTill_take0 (i := 10) (oi := ⟨some 72, _, _, _, _, _⟩) (v := ?_) rfl (by kernel_rfl) (fun _ _ _ h => h) (Or.inl ⟨by rfl, ?_⟩) (fun _ => hHeld) ?_
      rotate_left
      · intro w hSw
        (try dsimp only at hSw)
        go_simp
        try with_reducible rfl
      try simp only [Act.put, List.setIfInBounds_toArray, List.set_cons_zero, List.set_cons_succ]
      refine wpTill_take0 (i := 11) (oi := ⟨some 73, _, _, _, _, _⟩) (v := ?_) rfl (by kernel_rfl) (fun _ _ _ h => h) (Or.inl ⟨by rfl, ?_⟩) (fun _ => hHeld) ?_
      rotate_left
      · intro w hSw
        (try dsimp only at hSw)
        go_simp
        try with_reducible rfl
      try simp only [Act.put, List.setIfInBounds_toArray, List.set_cons_zero, List.set_cons_succ]
      refine wpTill_take0 (i := 12) (oi := ⟨some 74, _, _, _, _, _⟩) (v := ?_) rfl (by kernel_rfl) (fun _ _ _ h => h) (Or.inl ⟨by rfl, ?_⟩) (fun _ => hHeld) ?_
      rotate_left
      · intro w hSw
        (try dsimp only at hSw)
        go_simp
        try with_reducible rfl
      try simp only [Act.put, List.setIfInBounds_toArray, List.set_cons_zero, List.set_cons_succ]
      refine wpTill_take0 (i := 13) (oi := ⟨some 75, _, _, _, _, _⟩) (v := ?_) rfl (by kernel_rfl) (fun _ _ _ h => h) (Or.inl ⟨by rfl, ?_⟩) (fun _ => hHeld) ?_
      rotate_left
      · intro w hSw
        (try dsimp only at hSw)
        go_simp
        try with_reducible rfl
      try simp only [Act.put, List.setIfInBounds_toArray, List.set_cons_zero, List.set_cons_succ]
      refine wpTill_take (i := 14) (oi := ⟨some 76, _, _, _, _, _⟩) (v := ?_) rfl (by kernel_rfl) (fun _ _ _ h => h) (Or.inl ⟨by rfl, ?_⟩) (by exact hHeld) ?_
      rotate_left
      · intro w hSw
        (try dsimp only at hSw)
        go_simp
        try with_reducible rfl
      try simp only [Act.put, List.setIfInBounds_toArray, List.set_cons_zero, List.set_cons_succ]
      refine wpTill_take0 (i := 15) (oi := ⟨some 77, _, _, _, _, _⟩) (v := ?_) rfl (by kernel_rfl) (fun _ _ _ h => h) (Or.inl ⟨by rfl, ?_⟩) (fun _ => hHeld) ?_
      rotate_left
      · intro w hSw
        (try dsimp only at hSw)
        go_simp
        try with_reducible rfl
      try simp only [Act.put, List.setIfInBounds_toArray, List.set_cons_zero, List.set_cons_succ]
      refine wpTill_take0 (i := 16) (oi := ⟨some 78, _, _, _, _, _⟩) (v := partV oB 1 cB l hh) rfl (by kernel_rfl) (fun _ _ _ h => h) (Or.inl ⟨by rfl, ?_⟩) (fun _ => hHeld) ?_
      · intro w hSw
        refine Eq.trans (exec_part Try.underlying36 hi0 rfl rfl rfl rfl hlh hhc) ?_
        rw [hz1]
      try simp only [Act.put, List.setIfInBounds_toArray, List.set_cons_zero, List.set_cons_succ]
      refine wpTill_ready (rs := [17]) (by kernel_rfl) (by simp) ?_
      refine AllTill.cons (o := ⟨some 79, _, _, _, _, _⟩) rfl (fun K hK => ?_) AllTill.nil
      go_simp
      go_at_call 60
      refine (cloneB_any _ _ _ (by exact HP.out.below hb) (by exact hb.size) HPL.out).mono ?_
      rintro e W17 ⟨v12, og12, rfl, hs12, hg12, hx12⟩
      have hb := below_call hb hb.size hx12
      go_wp2_with fail
      refine hK.out _ _ (by exact HSof.out _ hb) (fun hHeld => ?_)
      clear hK K
      try simp only [Act.put, List.setIfInBounds_toArray, List.set_cons_zero, List.set_cons_succ]
      refine wpTill_ready (rs := [18]) (by kernel_rfl) (by simp) ?_
      refine AllTill.cons (o := ⟨some 12, _, _, _, _, _⟩) rfl (fun K hK => ?_) AllTill.nil
      go_simp
      refine hK.out _ _ (by exact HSof.out _ hb) (fun hHeld => ?_)
      clear hK K
      try simp only [Act.put, List.setIfInBounds_toArray, List.set_cons_zero, List.set_cons_succ]
      refine wpTill_done (by kernel_rfl) ?_ _
      go_wp2_with fail
      go_meet
      case rel => exact ⟨og12, hb, hs12, og_le hg12 (Nat.le_refl _)⟩
    case rest =>
      obtain ⟨og, hb2, hsv, hgv⟩ := hcut
      have HSV := Lib.hid hsv
      have HGV := Lib.hid (og_le hgv HB.out.size)
      have HB2 := Lib.hid (show Below w1.heap.size w1 wc from below_call (Below.refl _ _).drew (Nat.le_refl _) hb2)
      generalize wc = w2 at *
      have HO2 := Lib.hid (HO.out.below HB2.out)
      have HW2 := Lib.hid (show Went fp (OFp b c d ob oc od) w w2 from by
        rw [← HFP.out]
        exact (Went.first HB.out (Went.refl fp w1)).later HB2.out)
      have HGV2 := Lib.hid (show ∀ g, og = some g → w1.heap.size ≤ g from hgv)
      have HOL := Lib.hid HO.out.lt
      have c5 : w2.cell? ⟨b, 5, none⟩ = some (.pointer (some ⟨d, 0, none⟩)) := (cell_at HO2.out.blk 5).trans rfl
      clear hb2 hsv hgv HO HB2 HSof HP hl hhh
      go_wp2_with fail
      refine (cut_any d many od s.ys sent t _ (by exact HO2.out.sy) (by decide) (by decide) (by omega) (by omega) HO2.out.ok.ny (by have := HO2.out.ok.ly; omega)).mono ?_
      rintro e w3 ⟨rfl, ht3⟩
      have hu3 : Upd (OFp b c d ob oc od) w2 w3 := by
        obtain ⟨_, _, _, hu⟩ := ht3
        exact hu.mono (fun j _ q => by
          rcases q with rfl | q
          · exact .inr (.inr (.inl rfl))
          · exact .inr (.inr (.inr (.inr (.inr q)))))
      have HSV3 := Lib.hid (HSV.out.keeps hu3 (fun g hg q => by have := HGV2.out g hg; have := HOL.out g q; omega))
      rw [trim_all (by have := HCL.out; unfold many; omega)] at ht3
      have hm3 := om_turnD HO2.out HW2.out ht3 (cut_norm _ _ _ HO2.out.ok.ny) HCL.out
      obtain ⟨fp3, hoa3, hw3⟩ := hm3
      obtain ⟨vb3, ob3, c3', oc3, d3, od3, hO3, hfp3⟩ := hoa3
      rw [hfp3] at hw3
      have e2 : w3.cell? ⟨b, 2, none⟩ = some (.int .u64 len) := by rw [cell_at hO3.blk, ← HLE.out]; rfl
      obtain ⟨se, hse⟩ : ∃ se, s.sent = se := ⟨_, rfl⟩
      have hses : se ≤ 1099511627776 := by have h1 : s.sent ≤ s.B.length := hO3.ok.sent; have := HLE.out; omega
      have e3 : w3.cell? ⟨b, 3, none⟩ = some (.int .u64 se) := by rw [cell_at hO3.blk, ← hse]; rfl
      have f3 := free_at hO3.blk 3
      have hok3 := hO3.ok
      obtain ⟨z, hz⟩ : ∃ z, max se t = z := ⟨_, rfl⟩
      have hm4 : OM w (w3.setCell ⟨b, 3, none⟩ (.int .u64 z)) fp b { s with ys := cutRaw sent t s.ys, sent := z } := om_set (s' := { s with ys := cutRaw sent t s.ys, sent := z }) hO3 hw3 (Upd.refl _ _) ((Upd.refl (fun j => j = b) w3).setCell ⟨b, 3, none⟩ (.inl rfl) _) (set_at hO3.blk 3 _) hO3.row (.inl rfl) rfl rfl
        ⟨hok3.len, hok3.base, by show z ≤ s.B.length; have h1 : s.sent ≤ s.B.length := hok3.sent; have := HTL.out; have := HLE.out; omega, hok3.nx, hok3.ny, hok3.lx, hok3.ly, hok3.bys⟩
      have hbn : og ≠ some b := fun q => by have := HGV2.out b q; have := HOL.out b (.inl rfl); omega
      have HSV4 := Lib.hid (HSV3.out.keeps ((Upd.refl (fun j => j = b) w3).setCell ⟨b, 3, none⟩ (.inl rfl) (.int .u64 z)) (fun g hg q => hbn (by rw [hg, q])))
      have HM4 := Lib.hid hm4
      have HBN := Lib.hid hbn
      have HZ := Lib.hid (show max s.sent t = z by rw [hse]; exact hz)
      clear ht3 hu3 hw3 hO3 hfp3 hok3 hm4 HSV HSV3 HO2 HW2 hbn c5 hse
      have hzs : (se < t ∧ z = t) ∨ (t < se ∧ z = se) ∨ (se = t ∧ z = t) := by omega
      clear hz
      by_cases htl2 : t = len
      · subst htl2
        have HFI := Lib.hid (fun v w5 (hm : OM w w5 fp b (s.went sent t)) (hv : SlG encB 5 w5 v og ((s.B.drop sent).take (t - sent))) => ons_mk w fp b s sent t v og en (decide (t = t) && en) w5 (by simp) hm hv HGV.out)
        have HWN := Lib.hid (fun (hq : en = false) => went_no s sent t z HZ.out (by rw [HE.out, hq]; simp))
        have HWY := Lib.hid (fun (hq : en = true) => went_yes s sent t z HZ.out (by rw [HE.out, hq, HLE.out]; simp))
        rcases hzs with ⟨q1, rfl⟩ | ⟨q1, rfl⟩ | ⟨q1, rfl⟩
        all_goals try subst q1
        all_goals go_wp2_with fail
        all_goals (obtain ⟨fp4, hoa4, hwe4⟩ := HM4.out)
        all_goals (refine (oend_e b _ fp4 _ (by exact hoa4) (en := en) (by exact HE.out)).mono ?_)
        all_goals (rintro e w5 ⟨rfl, q, rfl⟩)
        all_goals (have HM5 := Lib.hid (HM4.out.drewN q))
        all_goals (have HSV5 := Lib.hid (HSV4.out.drewN q))
        all_goals clear hoa4 hwe4 HM4 HSV4
        all_goals generalize World.drewN _ q = w5 at *
        all_goals (obtain ⟨fp5, hoa5, hw5⟩ := HM5.out)
        all_goals (obtain ⟨vb5, ob5, c5', oc5, d5, od5, hO5, hfp5⟩ := hoa5)
        all_goals rw [hfp5] at hw5
        all_goals have f7 := free_at hO5.blk 7
        all_goals have f9 := free_at hO5.blk 9
        all_goals have e7 := cell_at hO5.blk 7
        all_goals have e9 := cell_at hO5.blk 9
        all_goals have e79 := cell_at (set_at hO5.blk 7 (.bool true)) 9
        all_goals simp only [List.getElem?_toArray, List.getElem?_cons_succ, List.getElem?_cons_zero, Array.setIfInBounds] at e7 e9 e79
        all_goals have f79 := free_at (set_at hO5.blk 7 (.bool true)) 9
        all_goals have HMY := Lib.hid (fun (hq : en = true) => show OM w ((w5.setCell ⟨b, 7, none⟩ (.bool true)).setCell ⟨b, 9, none⟩ (.bool false)) fp b (s.went sent _) from by
          rw [← HWY.out hq]
          exact om_set hO5 hw5 (Upd.refl _ _) (((Upd.refl (fun j => j = b) w5).setCell ⟨b, 7, none⟩ (.inl rfl) _).setCell ⟨b, 9, none⟩ (.inl rfl) _) (set_at (set_at hO5.blk 7 _) 9 _) hO5.row (.inl rfl) rfl rfl
            ⟨hO5.ok.len, hO5.ok.base, hO5.ok.sent, hO5.ok.nx, hO5.ok.ny, hO5.ok.lx, hO5.ok.ly, hO5.ok.bys⟩)
        all_goals have HSVY := Lib.hid (HSV5.out.keeps (((Upd.refl (fun j => j = b) w5).setCell ⟨b, 7, none⟩ (.inl rfl) (.bool true)).setCell ⟨b, 9, none⟩ (.inl rfl) (.bool false)) (fun g hg q => HBN.out (by rw [hg, q])))
        all_goals clear hO5 hw5 hfp5
        all_goals cases en
        all_goals go_wp2_with fail
        all_goals (try simp only [Exit.inBlock, Exit.then])
        all_goals (try simp only [Exit.inBlock, Exit.then])
        all_goals (refine bodyPost_ret (results_tmp4 rfl _ _ _) rfl ?_)
        all_goals first
          | exact ⟨_, rfl, (by rw [← HWN.out trivial]; exact HM5.out), og, HSV5.out, HGV.out⟩
          | exact ⟨_, rfl, HMY.out trivial, og, HSVY.out, HGV.out⟩
      · have htl3 : ¬ (t : Int) = len := by omega
        have htl4 : ((t : Int) == (len : Int)) = false := by rw [eqN]; simp [htl2]
        have HFI := Lib.hid (fun v w5 (hm : OM w w5 fp b (s.went sent t)) (hv : SlG encB 5 w5 v og ((s.B.drop sent).take (t - sent))) => ons_mk w fp b s sent t v og false (decide (t = len) && en) w5 (by simp [htl2]) hm hv HGV.out)
        have HWN := Lib.hid (went_no s sent t z HZ.out (by rw [HLE.out]; simp [htl2]))
        rcases hzs with ⟨q1, rfl⟩ | ⟨q1, rfl⟩ | ⟨q1, rfl⟩
        all_goals try subst q1
        all_goals go_wp2_with fail
        all_goals (try simp only [Exit.inBlock, Exit.then])
        all_goals refine bodyPost_ret (results_tmp4 rfl _ _ _) rfl ?_
        all_goals exact HFI.out _ _ (by rw [← HWN.out]; exact HM4.out) HSV4.out
end Go.Proofs.Ytncfbaabhceeoaa
