/- DERIVED. Walk of the document's buffer: Add. -/
import Derived.Test.YtojklmbbepgciaaRfbTake
namespace Go.Proofs.Ytojklmbbepgciaa
open Go.RowKit

set_option maxRecDepth 100000 in
set_option maxHeartbeats 1000000 in
theorem radd_err (b : Nat) (s : IB) (fp : Nat → Prop) (off : Nat) (vd : Value) (d : List Nat) (f : Bool) (w : World) (h : RbAt w b s fp) (hd : VwA encB fp w vd d) (hoff : off < 18446744073709551616) (he : s.err off d.length f ≠ 0) :
    Calls Try.prog 26 #[.pointer (some ⟨b, 0, none⟩), .int .u64 off, vd, .bool f] w fun e w' => e = .returned (.int .i64 (s.err off d.length f : Nat)) ∧ w' = w := by
  obtain ⟨c0, c1, c2, c3⟩ := h.cells
  obtain ⟨hb1, hb3, hb4, hb2⟩ := h.bd
  obtain ⟨oa, cap, rfl, hcap1, hcap2⟩ := hd.shape
  clear h hd
  generalize d.length = len at *
  by_cases h1 : (1099511627776 : Int) < off
  · have e := IB.err_one (s := s) (f := f) (n := len) (off := off) (.inl (by omega))
    rw [e]
    clear he e
    go_enter Try.func26, Try.ntmps26
    go_wp2_with fail
    go_ret
    exact ⟨rfl, rfl⟩
  by_cases h2 : (512 : Int) < len
  · have e := IB.err_one (s := s) (f := f) (n := len) (off := off) (.inr (by omega))
    rw [e]
    clear he e
    go_enter Try.func26, Try.ntmps26
    go_wp2_with fail
    go_ret
    exact ⟨rfl, rfl⟩
  have h12 : ¬ (1099511627776 < off ∨ 512 < len) := by omega
  obtain ⟨E, hE, hE2⟩ : ∃ E : Nat, (off : Int) + (len : Int) = (E : Int) ∧ off + len = E := ⟨off + len, by omega, rfl⟩
  have HE := Lib.hid hE2
  have hE4 : E ≤ 1099511628288 := by omega
  clear hE2
  cases hfe : s.finErr E f
  · by_cases h3 : s.rd + 2048 < E
    · have e := IB.err_over (s := s) (f := f) h12 (by rw [HE.out]; exact hfe) (by rw [HE.out]; exact h3)
      rw [e]
      clear he e h12
      go_enter Try.func26, Try.ntmps26
      unfold IB.finErr at hfe
      generalize s.kn = kn at *
      have h3' : (s.rd : Int) + 2048 < E := by omega
      cases kn
      · cases f
        · go_wp2_with fail
          go_ret
          exact ⟨rfl, rfl⟩
        · have q1 : ¬ E < s.hi := by simpa using hfe
          go_wp2_with fail
          go_ret
          exact ⟨rfl, rfl⟩
      · cases f
        · have q1 : ¬ s.fin < E := by simpa using hfe
          go_wp2_with fail
          go_ret
          exact ⟨rfl, rfl⟩
        · have q1 : E = s.fin ∧ ¬ E < s.hi := by
            simp at hfe
            omega
          obtain ⟨q1, q2⟩ := q1
          have q3 : ¬ s.fin < E := by omega
          have q5 : ((E : Int) != (s.fin : Int)) = false := by rw [q1]; simp
          clear q1
          go_wp2_with fail
          go_ret
          exact ⟨rfl, rfl⟩
    · exact absurd (IB.err_no h12 (by rw [HE.out]; exact hfe) (by rw [HE.out]; exact h3)) he
  · have e := IB.err_fin (s := s) (f := f) h12 (by rw [HE.out]; exact hfe)
    rw [e]
    clear he e h12
    unfold IB.finErr at hfe
    generalize s.kn = kn at *
    cases kn
    · cases f
      · simp at hfe
      · have q1 : E < s.hi := by simpa using hfe
        go_enter Try.func26, Try.ntmps26
        go_wp2_with fail
        go_ret
        exact ⟨rfl, rfl⟩
    · cases f
      · have q1 : s.fin < E := by simpa using hfe
        go_enter Try.func26, Try.ntmps26
        go_wp2_with fail
        go_ret
        exact ⟨rfl, rfl⟩
      · by_cases q1 : s.fin < E
        · go_enter Try.func26, Try.ntmps26
          go_wp2_with fail
          go_ret
          exact ⟨rfl, rfl⟩
        · by_cases q2 : E = s.fin
          · have q3 : E < s.hi := by
              simp at hfe
              omega
            have q5 : ((E : Int) != (s.fin : Int)) = false := by rw [q2]; simp
            clear q2
            go_enter Try.func26, Try.ntmps26
            go_wp2_with fail
            go_ret
            exact ⟨rfl, rfl⟩
          · have q5 : ((E : Int) != (s.fin : Int)) = true := by simp; omega
            go_enter Try.func26, Try.ntmps26
            go_wp2_with fail
            go_ret
            exact ⟨rfl, rfl⟩

/-- A row's block is of the old ones, or new. -/
def Own (fp : Nat → Prop) (w : World) (og : Option Nat) : Prop := ∀ g, og = some g → fp g ∨ w.heap.size ≤ g
theorem own_new {fp : Nat → Prop} {w : World} {n : Nat} {og og' : Option Nat} (h : Own fp w og) (hn : w.heap.size ≤ n) (ho : og' = og ∨ ∃ g, og' = some g ∧ n ≤ g) : Own fp w og' := by
  rcases ho with rfl | ⟨g, rfl, h2⟩
  · exact h
  · intro j e
    cases e
    right
    omega
theorem slg_apart {α : Type} {enc : α → List Value} {E T : TypeId} {w : World} {v : Value} {og : Option Nat} {xs : List α} (h : SlG enc E w v og xs) {b : Nat} {cs : Array Value} {z : Nat × Nat} (hb : w.heap[b]? = some (.cells cs T z)) (hT : E ≠ T) : og ≠ some b := by
  rintro rfl
  rcases h with ⟨_, _, h1⟩ | ⟨g, zs, h1, _, hr, _⟩
  · cases h1
  · cases h1
    unfold Row at hr
    rw [hb] at hr
    simp at hr
    exact hT hr.2.1.symm
/-- In the middle of Add. -/
def AddR (fp : Nat → Prop) (w wr : World) (b : Nat) (s : IB) (L : List (Option Nat)) : Prop := ∃ vB vC ob oc, RefM wr b s L vB vC ob oc ∧ Upd fp w wr ∧ Own fp w ob ∧ Own fp w oc
theorem AddR.of {fp : Nat → Prop} {w : World} {b : Nat} {s : IB} (h : RbAt w b s fp) : AddR fp w w b s s.L := by
  obtain ⟨vB, vC, ob, oc, h, rfl⟩ := h
  exact ⟨vB, vC, ob, oc, ⟨h.blk, h.b, h.c⟩, Upd.refl _ _, fun g e => .inl (.inr (.inl e)), fun g e => .inl (.inr (.inr e))⟩
theorem own_upd {fp : Nat → Prop} {w Wb W : World} {ob oc : Option Nat} (hu0 : Upd fp w Wb) (h1 : Own fp w ob) (h2 : Own fp w oc) (hu : Upd (fun j => ob = some j ∨ oc = some j) Wb W) : Upd fp w W :=
  hu0.trans hu (fun _ _ q => q) (fun j hj q => by
    rcases q with q | q
    · rcases h1 j q with q | q
      · exact q
      · omega
    · rcases h2 j q with q | q
      · exact q
      · omega)
theorem rb_grow {fp : Nat → Prop} {w Wb W : World} {b : Nat} {s : IB} {L : List (Option Nat)} {vB vC v7 v13 : Value} {ob oc o7 o13 : Option Nat} (h : RefM Wb b s L vB vC ob oc) (hu0 : Upd fp w Wb) (h1 : Own fp w ob) (h2 : Own fp w oc) (hb : fp b)
    (hu : Upd (fun j => ob = some j ∨ oc = some j) Wb W) (f13 : SlG encB 5 W v13 o13 (bytesOf L ++ [0])) (f7 : SlG encL 4 W v7 o7 (L.map Option.isSome ++ [false])) (w13 : Own fp w o13) (w7 : Own fp w o7) :
    AddR fp w ((W.setCell ⟨b, 5, none⟩ v7).setCell ⟨b, 4, none⟩ v13) b s (L ++ [none]) := by
  have hk := hu.keeps h.blk (by rintro (q | q); exact h.apart.1 q; exact h.apart.2 q)
  have hu2 : Upd (fun j => j = b) W ((W.setCell ⟨b, 5, none⟩ v7).setCell ⟨b, 4, none⟩ v13) := ((Upd.refl (fun j => j = b) W).setCell ⟨b, 5, none⟩ (.inl rfl) v7).setCell ⟨b, 4, none⟩ (.inl rfl) v13
  have a7 := slg_apart f7 hk (by decide)
  have a13 := slg_apart f13 hk (by decide)
  refine ⟨v13, v7, o13, o7, ⟨set_at (set_at hk 5 v7) 4 v13, ?_, ?_⟩, (own_upd hu0 h1 h2 hu).trans hu2 (fun _ _ q => q) (fun j _ q => by rw [q]; exact hb), w13, w7⟩
  · rw [bytesOf_more]
    exact f13.keeps hu2 (fun g e q => a13 (by rw [e, q]))
  · rw [isSome_more]
    exact f7.keeps hu2 (fun g e q => a7 (by rw [e, q]))
theorem rb_put {fp : Nat → Prop} {w wr : World} {b : Nat} {s : IB} {L : List (Option Nat)} {oB oC : Option Addr} {nB nC cB cC : Nat} {ob oc : Option Nat} (h : RefM wr b s L (.slice oB nB cB) (.slice oC nC cC) ob oc) (hu0 : Upd fp w wr) (h1 : Own fp w ob) (h2 : Own fp w oc)
    {k x : Nat} (hB : k < nB) (hC : k < nC) : ∃ gB gC, oB = some ⟨gB, 0, none⟩ ∧ oC = some ⟨gC, 0, none⟩ ∧ gB ≠ gC ∧ AddR fp w ((wr.setCell ⟨gC, k, none⟩ (.bool true)).setCell ⟨gB, k, none⟩ (.int .u8 x)) b s (L.set k (some x)) := by
  obtain ⟨gC, e1, e2, p1⟩ := h.c.put (f := Value.bool) (fun _ => rfl) hC true
  have a1 := h.apart
  have ne : ob ≠ some gC := fun q => row_types h.b h.c (by decide) q e1
  have u1 : Upd (fun j => j = gC) wr (wr.setCell ⟨gC, k, none⟩ (.bool true)) := (Upd.refl (fun j => j = gC) wr).setCell ⟨gC, k, none⟩ (.inl rfl) _
  have hb1 := h.b.keeps u1 (fun g e q => ne (by rw [e, q]))
  obtain ⟨gB, e3, e4, p2⟩ := hb1.put (f := fun (n : Nat) => Value.int .u8 n) (fun _ => rfl) hB x
  have u2 : Upd (fun j => j = gB) (wr.setCell ⟨gC, k, none⟩ (.bool true)) ((wr.setCell ⟨gC, k, none⟩ (.bool true)).setCell ⟨gB, k, none⟩ (.int .u8 x)) := (Upd.refl (fun j => j = gB) _).setCell ⟨gB, k, none⟩ (.inl rfl) _
  have hne : gB ≠ gC := fun q => ne (by rw [e3, q])
  refine ⟨gB, gC, e4, e2, hne, _, _, ob, oc, ⟨u2.keeps (u1.keeps h.blk ?_) ?_, ?_, ?_⟩, ?_, h1, h2⟩
  · rintro rfl
    exact a1.2 e1
  · rintro rfl
    exact a1.1 e3
  · rw [bytesOf_set]
    exact p2
  · rw [isSome_set]
    exact p1.keeps u2 (fun g e q => hne (by rw [e1] at e; cases e; exact q.symm))
  · refine hu0.trans (u1.trans u2 (H := fun j => ob = some j ∨ oc = some j) (fun j _ q => .inr (by rw [q]; exact e1)) (fun j _ q => .inl (by rw [q]; exact e3))) (fun _ _ q => q) ?_
    intro j hj q
    rcases q with q | q
    · rcases h1 j q with q | q
      · exact q
      · omega
    · rcases h2 j q with q | q
      · exact q
      · omega
theorem SlG.getL {w : World} {oa : Option Addr} {n cap : Nat} {og : Option Nat} {L : List (Option Nat)} (h : SlG encL 4 w (.slice oa n cap) og (L.map Option.isSome)) {k : Nat} (hk : k < L.length) :
    ∃ g, og = some g ∧ oa = some ⟨g, 0, none⟩ ∧ g < w.heap.size ∧ w.cell? ⟨g, k, none⟩ = some (.bool (gt L k).isSome) ∧ w.frozen? ⟨g, k, none⟩ = false := by
  refine h.el1 (f := Value.bool) (fun _ => rfl) ?_
  unfold gt
  rw [List.getElem?_map, List.getElem?_eq_getElem hk]
  simp
def lenAt (w : World) (b : Nat) : Nat := match w.cell? ⟨b, 5, none⟩ with | some (.slice _ n _) => n | _ => 0
theorem lenAt_of {w : World} {b n c : Nat} {o : Option Addr} (h : w.cell? ⟨b, 5, none⟩ = some (.slice o n c)) : lenAt w b = n := by unfold lenAt; rw [h]
theorem lenAt_two {w : World} {b n c : Nat} {o : Option Addr} {v : Value} {cs : Array Value} {T : TypeId} {z : Nat × Nat} (h : w.heap[b]? = some (.cells cs T z)) (hs : cs.size = 6) : lenAt ((w.setCell ⟨b, 5, none⟩ (.slice o n c)).setCell ⟨b, 4, none⟩ v) b = n := by
  apply lenAt_of (o := o) (c := c)
  rw [cell_at (set_at (set_at h 5 _) 4 _)]
  rw [Array.getElem?_setIfInBounds, if_neg (by omega), Array.getElem?_setIfInBounds, if_pos rfl, if_pos (by rw [hs]; omega)]
theorem pad_ext {L : List (Option Nat)} {j K : Nat} (h1 : (pad L j).length ≤ max L.length (K + 1)) (h2 : K < (pad L j).length) (h3 : j = 0 ∨ L.length < K + 1) : pad L j = ext L K := by
  rw [ext_pad]
  rw [pad_len] at h1 h2
  congr 1
  omega
theorem rb_fin {fp : Nat → Prop} {w wr W : World} {b : Nat} {s s' : IB} {L : List (Option Nat)} (h : AddR fp w wr b s L) (hb : fp b) (hL : s'.L = L) (ho : s'.Ok) (hu : Upd (fun j => j = b) wr W)
    (hk : ∀ vB vC, wr.heap[b]? = some (.cells #[.int .u64 s.rd, .int .u64 s.hi, .int .u64 s.fin, .bool s.kn, vB, vC] 41 (0, 0)) → W.heap[b]? = some (.cells #[.int .u64 s'.rd, .int .u64 s'.hi, .int .u64 s'.fin, .bool s'.kn, vB, vC] 41 (0, 0))) :
    ∃ fp', RbAt W b s' fp' ∧ Went fp fp' w W := by
  obtain ⟨vB, vC, ob, oc, hm, hup, h1, h2⟩ := h
  have a := hm.apart
  refine ⟨fun j => j = b ∨ ob = some j ∨ oc = some j, ⟨vB, vC, ob, oc, ⟨hk _ _ hm.blk, ?_, ?_, ho⟩, rfl⟩, hup.trans hu (fun _ _ q => q) (fun j _ q => by rw [q]; exact hb), ?_⟩
  · rw [hL]
    exact hm.b.keeps hu (fun g e q => a.1 (by rw [e, q]))
  · rw [hL]
    exact hm.c.keeps hu (fun g e q => a.2 (by rw [e, q]))
  · rintro g (rfl | q | q)
    · exact .inl hb
    · exact h1 g q
    · exact h2 g q
theorem rb_fin0 {fp : Nat → Prop} {w wr : World} {b off E m : Nat} {s : IB} {d : List Nat} (h : AddR fp w wr b s (putN s.rd off s.L d)) (hb : fp b) (ho : (s.put off d false).Ok) (hE : off + d.length = E) (hm : max s.hi E = m) :
    ∃ fp', RbAt (wr.setCell ⟨b, 1, none⟩ (.int .u64 (m : Nat))) b (s.put off d false) fp' ∧ Went fp fp' w (wr.setCell ⟨b, 1, none⟩ (.int .u64 (m : Nat))) := by
  refine rb_fin h hb rfl ho ((Upd.refl (fun j => j = b) wr).setCell ⟨b, 1, none⟩ (.inl rfl) _) (fun vB vC hk => ?_)
  have := set_at hk 1 (.int .u64 (m : Nat))
  rw [this]
  simp [IB.put, hE, hm]
theorem rb_fin1 {fp : Nat → Prop} {w wr : World} {b off E m : Nat} {s : IB} {d : List Nat} (h : AddR fp w wr b s (putN s.rd off s.L d)) (hb : fp b) (ho : (s.put off d true).Ok) (hE : off + d.length = E) (hm : max s.hi E = m) :
    ∃ fp', RbAt (((wr.setCell ⟨b, 1, none⟩ (.int .u64 (m : Nat))).setCell ⟨b, 2, none⟩ (.int .u64 (E : Nat))).setCell ⟨b, 3, none⟩ (.bool true)) b (s.put off d true) fp' ∧
      Went fp fp' w (((wr.setCell ⟨b, 1, none⟩ (.int .u64 (m : Nat))).setCell ⟨b, 2, none⟩ (.int .u64 (E : Nat))).setCell ⟨b, 3, none⟩ (.bool true)) := by
  refine rb_fin h hb rfl ho ((((Upd.refl (fun j => j = b) wr).setCell ⟨b, 1, none⟩ (.inl rfl) _).setCell ⟨b, 2, none⟩ (.inl rfl) _).setCell ⟨b, 3, none⟩ (.inl rfl) _) (fun vB vC hk => ?_)
  have := set_at (set_at (set_at hk 1 (.int .u64 (m : Nat))) 2 (.int .u64 (E : Nat))) 3 (.bool true)
  rw [this]
  simp [IB.put, hE, hm]
theorem RefM.drew {w : World} {m : Nat} {s : IB} {L : List (Option Nat)} {vB vC : Value} {ob oc : Option Nat} (h : RefM w m s L vB vC ob oc) : RefM w.drew m s L vB vC ob oc := ⟨h.blk, h.b.drew, h.c.drew⟩
theorem AddR.drew {fp : Nat → Prop} {w wr : World} {b : Nat} {s : IB} {L : List (Option Nat)} (h : AddR fp w wr b s L) : AddR fp w wr.drew b s L := by
  obtain ⟨vB, vC, ob, oc, h1, h2, h3, h4⟩ := h
  exact ⟨vB, vC, ob, oc, h1.drew, h2.drew, h3, h4⟩

set_option maxRecDepth 100000 in
set_option maxHeartbeats 4000000 in
theorem radd_ok (b : Nat) (s : IB) (fp : Nat → Prop) (off : Nat) (vd : Value) (d : List Nat) (f : Bool) (w : World) (h : RbAt w b s fp) (hd : VwA encB fp w vd d) (hb : Bys d) (hoff : off < 18446744073709551616) (he : s.err off d.length f = 0) :
    Calls Try.prog 26 #[.pointer (some ⟨b, 0, none⟩), .int .u64 off, vd, .bool f] w fun e w' => e = .returned (.int .i64 0) ∧ ∃ fp', RbAt w' b (s.put off d f) fp' ∧ Went fp fp' w w' := by
  obtain ⟨i0, hi0, hz0, hz1, hz2'⟩ := info_parts infoB
  obtain ⟨i1, hi1, hy0, hy1, hy2'⟩ := info_parts infoL
  obtain ⟨⟨he1, he2⟩, he3, he4⟩ := IB.err_zero he
  obtain ⟨c0, c1, c2, c3⟩ := h.cells
  obtain ⟨hb1, hb3, hb4, hb2⟩ := h.bd
  obtain ⟨oa, cap, rfl, hcap1, hcap2⟩ := hd.shape
  have H := Lib.hid h
  have HD := Lib.hid hd
  have HB := Lib.hid hb
  have HPO := Lib.hid (IB.put_ok h.ok (f := f) he hb)
  have HFB := Lib.hid h.lt.1
  have hLL := h.ok.len
  clear h hd hb he
  generalize hn : d.length = len at *
  have HN := Lib.hid hn
  clear hn
  obtain ⟨E, hE, hE2⟩ : ∃ E : Nat, (off : Int) + (len : Int) = (E : Int) ∧ off + len = E := ⟨off + len, by omega, rfl⟩
  have HE := Lib.hid hE2
  have hE3 : E ≤ s.rd + 2048 := by omega
  rw [hE2] at he3 he4
  clear hE2
  go_enter Try.func26, Try.ntmps26
  go_upto_region 4 with fail
  go_cut [58] (fun v wx => v = .bool false ∧ wx = w)
  case first =>
    unfold IB.finErr at he3
    generalize s.kn = kn at *
    cases kn
    · cases f
      · go_wp2_with fail
        go_meet
        case rel => exact ⟨rfl, rfl⟩
      · have q1 : ¬ E < s.hi := by simpa using he3
        go_wp2_with fail
        go_meet
        case rel => exact ⟨rfl, rfl⟩
    · cases f
      · have q1 : ¬ s.fin < E := by simpa using he3
        go_wp2_with fail
        go_meet
        case rel => exact ⟨rfl, rfl⟩
      · have q1 : E = s.fin ∧ ¬ E < s.hi := by
          simp at he3
          omega
        obtain ⟨q1, q2⟩ := q1
        have q3 : ¬ s.fin < E := by omega
        have q4 : ((E : Int) == (s.fin : Int)) = true := by rw [q1]; simp
        have q5 : ((E : Int) != (s.fin : Int)) = false := by rw [q1]; simp
        clear q1
        go_wp2_with fail
        go_meet
        case rel => exact ⟨rfl, rfl⟩
  case rest =>
    obtain ⟨rfl, hcut⟩ := hcut
    subst hcut
    have HM0 := Lib.hid (show AddR fp wc wc b s (putN s.rd off s.L (d.take 0)) from AddR.of H.out)
    clear c1 c2 c3
    go_wp2_with fail
    go_loopw [10] (fun i wr => ∃ k : Nat, i = .int .i64 k ∧ k ≤ len ∧ AddR fp wc wr b s (putN s.rd off s.L (d.take k))) (fun i _ => len - (intOf i).toNat)
    case atStart => exact ⟨0, rfl, by omega, HM0.out⟩
    case round =>
      obtain ⟨k, rfl, hk, hm⟩ := hrel
      have HM := Lib.hid hm
      clear hm HM0
      by_cases hlt : k < len
      · obtain ⟨x, hx⟩ : ∃ x, d[k]? = some x := ⟨_, List.getElem?_eq_getElem (by rw [HN.out]; exact hlt)⟩
        have HX := Lib.hid hx
        have HSN := Lib.hid (take_snoc hx)
        have hx256 : x < 256 := HB.out x (List.mem_of_getElem? hx)
        clear hx
        obtain ⟨at_, hat, hat2⟩ : ∃ z : Nat, (off : Int) + (k : Int) = (z : Int) ∧ off + k = z := ⟨off + k, by omega, rfl⟩
        have HAT := Lib.hid hat2
        have hat3 : at_ < s.rd + 2048 := by omega
        have hat4 : at_ ≤ 1099511628288 := by omega
        clear hat2
        have c0 : wr.cell? ⟨b, 0, none⟩ = some (.int .u64 s.rd) := by
          obtain ⟨vB, vC, ob, oc, hm, _⟩ := HM.out
          rw [cell_at hm.blk]
          rfl
        by_cases h1 : s.rd ≤ at_
        · have h1n : ¬ at_ < s.rd := by omega
          have h1i : ¬ (at_ : Int) < (s.rd : Int) := by omega
          obtain ⟨Kk, hK, hK2, hK3⟩ : ∃ Kk : Nat, (at_ : Int) - (s.rd : Int) = (Kk : Int) ∧ at_ - s.rd = Kk ∧ Kk < 2048 := ⟨at_ - s.rd, by omega, rfl, by omega⟩
          have HNX := Lib.hid (show putN s.rd off s.L (d.take (k + 1)) = put1 (putN s.rd off s.L (d.take k)) Kk x by
            rw [HSN.out.1, putN_snoc, HSN.out.2, HAT.out, if_neg (by omega), hK2])
          have HLN := Lib.hid (show (putN s.rd off s.L (d.take k)).length ≤ 2048 by
            rw [putN_len]
            split
            · omega
            · rw [HSN.out.2]
              omega)
          clear hK2
          generalize putN s.rd off s.L (d.take k) = L at *
          have hll := HLN.out
          go_wp2_with fail
          go_loopw [94] (fun _ wr => ∃ j, (pad L j).length ≤ max L.length (Kk + 1) ∧ (j = 0 ∨ L.length < Kk + 1) ∧ AddR fp wc wr b s (pad L j)) (fun _ wr => Kk + 1 - lenAt wr b)
          case atStart => exact ⟨0, by rw [pad_zero]; omega, .inl rfl, by rw [pad_zero]; exact HM.out⟩
          case round =>
            obtain ⟨j, hj, hj0, hm⟩ := hrel
            clear HM
            obtain ⟨vB, vC, ob, oc, hm, hup, hob, hoc⟩ := hm
            obtain ⟨oB, cB, rfl, hB1, hB2⟩ := hm.b.shape
            obtain ⟨oC, cC, rfl, hC1, hC2⟩ := hm.c.shape
            have HLB := Lib.hid (show (bytesOf (pad L j)).length = (pad L j).length by simp [bytesOf])
            have HLC := Lib.hid (show ((pad L j).map Option.isSome).length = (pad L j).length by simp)
            have hpl := pad_len L j
            have HPX := Lib.hid (fun h => pad_ext (L := L) (j := j) (K := Kk) hj h hj0)
            rw [HLB.out] at hm hB1
            rw [HLC.out] at hm hC1
            generalize hlen2 : (pad L j).length = len2 at *
            have hlen3 : len2 ≤ 2048 := by omega
            have HJ := Lib.hid hpl
            clear hpl
            have HM := Lib.hid hm
            have HUP := Lib.hid hup
            have HOB := Lib.hid hob
            have HOC := Lib.hid hoc
            have HBLK := Lib.hid hm.blk
            have c5 : wr.cell? ⟨b, 5, none⟩ = some (.slice oC len2 cC) := by rw [cell_at hm.blk]; rfl
            clear hm hup hob hoc
            by_cases hlk : len2 ≤ Kk
            · have HNF := Lib.hid (show ¬ (ob = some b ∨ oc = some b) from by rintro (q | q); exact HM.out.apart.1 q; exact HM.out.apart.2 q)
              have HSof := Lib.hid (show ∀ W, Upd (fun j => ob = some j ∨ oc = some j) wr W → W.cell? ⟨b, 4, none⟩ = some (.slice oB len2 cB) ∧ W.cell? ⟨b, 5, none⟩ = some (.slice oC len2 cC) from fun W h => by
                have hk := h.keeps HBLK.out HNF.out
                exact ⟨by rw [cell_at hk]; rfl, by rw [cell_at hk]; rfl⟩)
              have HLM := Lib.hid (lenAt_of c5)
              have HL7 := Lib.hid (show ((pad L j).map Option.isSome ++ [false]).length = len2 + 1 by rw [List.length_append, HLC.out]; rfl)
              have HL13 := Lib.hid (show (bytesOf (pad L j) ++ [0]).length = len2 + 1 by rw [List.length_append, HLB.out]; rfl)
              go_wp2_with fail
              have hu : Upd (fun j => ob = some j ∨ oc = some j) wr wr.drew := (Upd.refl _ _).drew
              have fB := HM.out.b.drew
              have fC := HM.out.c.drew
              refine wp_region_till (S := fun w' => w'.cell? ⟨b, 4, none⟩ = some (.slice oB len2 cB) ∧ w'.cell? ⟨b, 5, none⟩ = some (.slice oC len2 cC)) [16, 19] (by kernel_rfl) (by exact HSof.out _ hu) (fun hHeld => ?_)
              refine wpTill_take0 (i := 0) (oi := ⟨some 96, _, _, _, _, _⟩) (v := ?_) rfl (by kernel_rfl) (fun _ _ _ h => h) (Or.inl ⟨by rfl, ?_⟩) (fun _ => hHeld) ?_
              rotate_left
              · intro w hSw
                (try dsimp only at hSw)
                go_simp
                try with_reducible rfl
              try simp only [Act.put, List.setIfInBounds_toArray, List.set_cons_zero, List.set_cons_succ]
              refine wpTill_take0 (i := 1) (oi := ⟨some 97, _, _, _, _, _⟩) (v := ?_) rfl (by kernel_rfl) (fun _ _ _ h => h) (Or.inl ⟨by rfl, ?_⟩) (fun _ => hHeld) ?_
              rotate_left
              · intro w hSw
                (try dsimp only at hSw)
                go_simp
                try with_reducible rfl
              try simp only [Act.put, List.setIfInBounds_toArray, List.set_cons_zero, List.set_cons_succ]
              refine wpTill_take0 (i := 2) (oi := ⟨some 98, _, _, _, _, _⟩) (v := ?_) rfl (by kernel_rfl) (fun _ _ _ h => h) (Or.inl ⟨by rfl, ?_⟩) (fun _ => hHeld) ?_
              rotate_left
              · intro w hSw
                (try dsimp only at hSw)
                go_simp
                try with_reducible rfl
              try simp only [Act.put, List.setIfInBounds_toArray, List.set_cons_zero, List.set_cons_succ]
              refine wpTill_take0 (i := 3) (oi := ⟨some 99, _, _, _, _, _⟩) (v := ?_) rfl (by kernel_rfl) (fun _ _ _ h => h) (Or.inl ⟨by rfl, ?_⟩) (fun _ => hHeld) ?_
              rotate_left
              · intro w hSw
                (try dsimp only at hSw)
                go_simp
                try with_reducible rfl
              try simp only [Act.put, List.setIfInBounds_toArray, List.set_cons_zero, List.set_cons_succ]
              refine wpTill_take0 (i := 4) (oi := ⟨some 100, _, _, _, _, _⟩) (v := ?_) rfl (by kernel_rfl) (fun _ _ _ h => h) (Or.inl ⟨by rfl, ?_⟩) (fun _ => hHeld) ?_
              rotate_left
              · intro w hSw
                (try dsimp only at hSw)
                go_simp
                try with_reducible rfl
              try simp only [Act.put, List.setIfInBounds_toArray, List.set_cons_zero, List.set_cons_succ]
              refine wpTill_take (i := 5) (oi := ⟨some 101, _, _, _, _, _⟩) (v := ?_) rfl (by kernel_rfl) (fun _ _ _ h => h) (Or.inl ⟨by rfl, ?_⟩) (by exact hHeld) ?_
              rotate_left
              · intro w hSw
                (try dsimp only at hSw)
                go_simp
                try with_reducible rfl
              try simp only [Act.put, List.setIfInBounds_toArray, List.set_cons_zero, List.set_cons_succ]
              refine wpTill_take0 (i := 8) (oi := ⟨some 104, _, _, _, _, _⟩) (v := ?_) rfl (by kernel_rfl) (fun _ _ _ h => h) (Or.inl ⟨by rfl, ?_⟩) (fun _ => hHeld) ?_
              rotate_left
              · intro w hSw
                (try dsimp only at hSw)
                go_simp
                try with_reducible rfl
              try simp only [Act.put, List.setIfInBounds_toArray, List.set_cons_zero, List.set_cons_succ]
              refine wpTill_take0 (i := 9) (oi := ⟨some 105, _, _, _, _, _⟩) (v := ?_) rfl (by kernel_rfl) (fun _ _ _ h => h) (Or.inl ⟨by rfl, ?_⟩) (fun _ => hHeld) ?_
              rotate_left
              · intro w hSw
                (try dsimp only at hSw)
                go_simp
                try with_reducible rfl
              try simp only [Act.put, List.setIfInBounds_toArray, List.set_cons_zero, List.set_cons_succ]
              refine wpTill_take0 (i := 10) (oi := ⟨some 106, _, _, _, _, _⟩) (v := ?_) rfl (by kernel_rfl) (fun _ _ _ h => h) (Or.inl ⟨by rfl, ?_⟩) (fun _ => hHeld) ?_
              rotate_left
              · intro w hSw
                (try dsimp only at hSw)
                go_simp
                try with_reducible rfl
              try simp only [Act.put, List.setIfInBounds_toArray, List.set_cons_zero, List.set_cons_succ]
              refine wpTill_take (i := 11) (oi := ⟨some 107, _, _, _, _, _⟩) (v := ?_) rfl (by kernel_rfl) (fun _ _ _ h => h) (Or.inl ⟨by rfl, ?_⟩) (by exact hHeld) ?_
              rotate_left
              · intro w hSw
                (try dsimp only at hSw)
                go_simp
                try with_reducible rfl
              try simp only [Act.put, List.setIfInBounds_toArray, List.set_cons_zero, List.set_cons_succ]
              refine wpTill_ready (rs := [6, 12]) (by kernel_rfl) (by simp) ?_
              refine AllTill.cons (o := ⟨some 102, _, _, _, _, _⟩) rfl (fun K hK => ?_) ?_
              ·
                refine step_fresh (enc := encL) (E := 4) rfl [false] #[.bool false] rfl (by decide) (by go_simp) ?_
                intro W6 v6 g6 f6 hg6 hx6
                have fC := fC.below hx6
                have fB := fB.below hx6
                have hu := hu.trans (Upd.below hx6) (fun _ _ q => q) (fun j hj q => by have := hu.size; omega)
                refine hK.out _ _ (by exact HSof.out _ hu) (fun hHeld => ?_)
                clear hK K
                try simp only [Act.put, List.setIfInBounds_toArray, List.set_cons_zero, List.set_cons_succ]
                refine wpTill_ready (rs := [7, 12]) (by kernel_rfl) (by simp) ?_
                refine AllTill.cons (o := ⟨some 103, _, _, _, _, _⟩) rfl (fun K hK => ?_) ?_
                ·
                  refine step_pushV (v := .slice oC len2 cC) encL_len encL_one Try.underlying39 hi1 hy1 hy0 zeroL rfl (.tmp 101) (.tmp 102) rfl (by exact fC) (by exact f6.vw) rfl rfl (by rw [HLC.out, hy2']; simp; omega) (by rw [HLC.out]; simp; omega) ?_
                  intro W7 v7 o7 f7 ho7 hu7
                  have hw7 := own_new HOC.out (Nat.le_trans HUP.out.size hu.size) ho7
                  have fB := fB.keeps hu7 (fun j e1 e2 => row_types fB fC (by decide) e1 e2)
                  have hu := hu.trans hu7 (fun _ _ q => q) (fun j hj q => .inr q)
                  refine hK.out _ _ (by exact HSof.out _ hu) (fun hHeld => ?_)
                  clear hK K
                  try simp only [Act.put, List.setIfInBounds_toArray, List.set_cons_zero, List.set_cons_succ]
                  refine wpTill_ready (rs := [12]) (by kernel_rfl) (by simp) ?_
                  refine AllTill.cons (o := ⟨some 108, _, _, _, _, _⟩) rfl (fun K hK => ?_) AllTill.nil
                  refine step_fresh (enc := encB) (E := 5) rfl [0] #[.int .u8 0] rfl (by decide) (by go_simp) ?_
                  intro W12 v12 g12 f12 hg12 hx12
                  have fB := fB.below hx12
                  have f7 := f7.below hx12
                  have hu := hu.trans (Upd.below hx12) (fun _ _ q => q) (fun j hj q => by have := hu.size; omega)
                  refine hK.out _ _ (by exact HSof.out _ hu) (fun hHeld => ?_)
                  clear hK K
                  try simp only [Act.put, List.setIfInBounds_toArray, List.set_cons_zero, List.set_cons_succ]
                  refine wpTill_ready (rs := [13]) (by kernel_rfl) (by simp) ?_
                  refine AllTill.cons (o := ⟨some 109, _, _, _, _, _⟩) rfl (fun K hK => ?_) AllTill.nil
                  refine step_pushV (v := .slice oB len2 cB) encB_len encB_one Try.underlying22 hi0 hz1 hz0 zeroB rfl (.tmp 107) (.tmp 108) rfl (by exact fB) (by exact f12.vw) rfl rfl (by rw [HLB.out, hz2']; simp; omega) (by rw [HLB.out]; simp; omega) ?_
                  intro W13 v13 o13 f13 ho13 hu13
                  have hw13 := own_new HOB.out (Nat.le_trans HUP.out.size hu.size) ho13
                  have f7 := f7.keeps hu13 (fun j e1 e2 => row_types f7 fB (by decide) e1 e2)
                  have hu := hu.trans hu13 (fun _ _ q => q) (fun j hj q => .inl q)
                  refine hK.out _ _ (by exact HSof.out _ hu) (fun hHeld => ?_)
                  clear hK K
                  try simp only [Act.put, List.setIfInBounds_toArray, List.set_cons_zero, List.set_cons_succ]
                  refine wpTill_take0 (i := 14) (oi := ⟨some 110, _, _, _, _, _⟩) (v := ?_) rfl (by kernel_rfl) (fun _ _ _ h => h) (Or.inl ⟨by rfl, ?_⟩) (fun _ => hHeld) ?_
                  rotate_left
                  · intro w hSw
                    (try dsimp only at hSw)
                    go_simp
                    try with_reducible rfl
                  try simp only [Act.put, List.setIfInBounds_toArray, List.set_cons_zero, List.set_cons_succ]
                  refine wpTill_take0 (i := 15) (oi := ⟨some 111, _, _, _, _, _⟩) (v := ?_) rfl (by kernel_rfl) (fun _ _ _ h => h) (Or.inl ⟨by rfl, ?_⟩) (fun _ => hHeld) ?_
                  rotate_left
                  · intro w hSw
                    (try dsimp only at hSw)
                    go_simp
                    try with_reducible rfl
                  try simp only [Act.put, List.setIfInBounds_toArray, List.set_cons_zero, List.set_cons_succ]
                  refine wpTill_ready (rs := [16]) (by kernel_rfl) (by simp) ?_
                  refine AllTill.consD (o := ⟨none, _, _, _, _, _⟩) rfl (by kernel_rfl) (fun K hK => ?_) AllTill.nil
                  obtain ⟨a7, c7, e7, _, _⟩ := f7.shape
                  rw [HL7.out] at e7
                  subst e7
                  obtain ⟨a13, c13, e13, _, _⟩ := f13.shape
                  rw [HL13.out] at e13
                  subst e13
                  have hk := hu.keeps HBLK.out HNF.out
                  have e4 := cell_at hk 4
                  have e5 := cell_at hk 5
                  have q4 := free_at hk 4
                  have q5 := free_at hk 5
                  go_simp
                  refine hK.out _ _ ?_
                  clear hK K
                  try simp only [Act.put, List.setIfInBounds_toArray, List.set_cons_zero, List.set_cons_succ]
                  refine wpTill_take0 (i := 17) (oi := ⟨some 112, _, _, _, _, _⟩) (v := ?_) rfl (by kernel_rfl) (fun _ _ _ h => h) (Or.inl ⟨by rfl, ?_⟩) (fun h => Bool.noConfusion (h.symm.trans (show _ = true by kernel_rfl))) ?_
                  rotate_left
                  · intro w hSw
                    (try dsimp only at hSw)
                    go_simp
                    try with_reducible rfl
                  try simp only [Act.put, List.setIfInBounds_toArray, List.set_cons_zero, List.set_cons_succ]
                  refine wpTill_take0 (i := 18) (oi := ⟨some 113, _, _, _, _, _⟩) (v := ?_) rfl (by kernel_rfl) (fun _ _ _ h => h) (Or.inl ⟨by rfl, ?_⟩) (fun h => Bool.noConfusion (h.symm.trans (show _ = true by kernel_rfl))) ?_
                  rotate_left
                  · intro w hSw
                    (try dsimp only at hSw)
                    go_simp
                    try with_reducible rfl
                  try simp only [Act.put, List.setIfInBounds_toArray, List.set_cons_zero, List.set_cons_succ]
                  refine wpTill_ready (rs := [19]) (by kernel_rfl) (by simp) ?_
                  refine AllTill.consD (o := ⟨none, _, _, _, _, _⟩) rfl (by kernel_rfl) (fun K hK => ?_) AllTill.nil
                  go_simp
                  refine hK.out _ _ ?_
                  clear hK K
                  try simp only [Act.put, List.setIfInBounds_toArray, List.set_cons_zero, List.set_cons_succ]
                  refine wpTill_done (by kernel_rfl) ?_ _
                  go_wp2_with fail
                  go_roundw
                  case rel => exact ⟨j + 1, by rw [pad_len]; have := HJ.out; omega, .inr (by have := HJ.out; omega), by rw [pad_succ]; exact rb_grow HM.out HUP.out HOB.out HOC.out HFB.out hu f13 f7 hw13 hw7⟩
                  case measure => rw [lenAt_two hk rfl, HLM.out]; omega
                refine AllTill.cons (o := ⟨some 108, _, _, _, _, _⟩) rfl (fun K hK => ?_) ?_
                ·
                  refine step_fresh (enc := encB) (E := 5) rfl [0] #[.int .u8 0] rfl (by decide) (by go_simp) ?_
                  intro W12 v12 g12 f12 hg12 hx12
                  have fC := fC.below hx12
                  have fB := fB.below hx12
                  have f6 := f6.below hx12
                  have hu := hu.trans (Upd.below hx12) (fun _ _ q => q) (fun j hj q => by have := hu.size; omega)
                  refine hK.out _ _ (by exact HSof.out _ hu) (fun hHeld => ?_)
                  clear hK K
                  try simp only [Act.put, List.setIfInBounds_toArray, List.set_cons_zero, List.set_cons_succ]
                  refine wpTill_ready (rs := [7]) (by kernel_rfl) (by simp) ?_
                  refine AllTill.cons (o := ⟨some 103, _, _, _, _, _⟩) rfl (fun K hK => ?_) AllTill.nil
                  refine step_pushV (v := .slice oC len2 cC) encL_len encL_one Try.underlying39 hi1 hy1 hy0 zeroL rfl (.tmp 101) (.tmp 102) rfl (by exact fC) (by exact f6.vw) rfl rfl (by rw [HLC.out, hy2']; simp; omega) (by rw [HLC.out]; simp; omega) ?_
                  intro W7 v7 o7 f7 ho7 hu7
                  have hw7 := own_new HOC.out (Nat.le_trans HUP.out.size hu.size) ho7
                  have fB := fB.keeps hu7 (fun j e1 e2 => row_types fB fC (by decide) e1 e2)
                  have f12 := f12.keeps hu7 (fun j e1 e2 => row_types f12 fC (by decide) e1 e2)
                  have hu := hu.trans hu7 (fun _ _ q => q) (fun j hj q => .inr q)
                  refine hK.out _ _ (by exact HSof.out _ hu) (fun hHeld => ?_)
                  clear hK K
                  try simp only [Act.put, List.setIfInBounds_toArray, List.set_cons_zero, List.set_cons_succ]
                  refine wpTill_ready (rs := [13]) (by kernel_rfl) (by simp) ?_
                  refine AllTill.cons (o := ⟨some 109, _, _, _, _, _⟩) rfl (fun K hK => ?_) AllTill.nil
                  refine step_pushV (v := .slice oB len2 cB) encB_len encB_one Try.underlying22 hi0 hz1 hz0 zeroB rfl (.tmp 107) (.tmp 108) rfl (by exact fB) (by exact f12.vw) rfl rfl (by rw [HLB.out, hz2']; simp; omega) (by rw [HLB.out]; simp; omega) ?_
                  intro W13 v13 o13 f13 ho13 hu13
                  have hw13 := own_new HOB.out (Nat.le_trans HUP.out.size hu.size) ho13
                  have f7 := f7.keeps hu13 (fun j e1 e2 => row_types f7 fB (by decide) e1 e2)
                  have hu := hu.trans hu13 (fun _ _ q => q) (fun j hj q => .inl q)
                  refine hK.out _ _ (by exact HSof.out _ hu) (fun hHeld => ?_)
                  clear hK K
                  try simp only [Act.put, List.setIfInBounds_toArray, List.set_cons_zero, List.set_cons_succ]
                  refine wpTill_take0 (i := 14) (oi := ⟨some 110, _, _, _, _, _⟩) (v := ?_) rfl (by kernel_rfl) (fun _ _ _ h => h) (Or.inl ⟨by rfl, ?_⟩) (fun _ => hHeld) ?_
                  rotate_left
                  · intro w hSw
                    (try dsimp only at hSw)
                    go_simp
                    try with_reducible rfl
                  try simp only [Act.put, List.setIfInBounds_toArray, List.set_cons_zero, List.set_cons_succ]
                  refine wpTill_take0 (i := 15) (oi := ⟨some 111, _, _, _, _, _⟩) (v := ?_) rfl (by kernel_rfl) (fun _ _ _ h => h) (Or.inl ⟨by rfl, ?_⟩) (fun _ => hHeld) ?_
                  rotate_left
                  · intro w hSw
                    (try dsimp only at hSw)
                    go_simp
                    try with_reducible rfl
                  try simp only [Act.put, List.setIfInBounds_toArray, List.set_cons_zero, List.set_cons_succ]
                  refine wpTill_ready (rs := [16]) (by kernel_rfl) (by simp) ?_
                  refine AllTill.consD (o := ⟨none, _, _, _, _, _⟩) rfl (by kernel_rfl) (fun K hK => ?_) AllTill.nil
                  obtain ⟨a7, c7, e7, _, _⟩ := f7.shape
                  rw [HL7.out] at e7
                  subst e7
                  obtain ⟨a13, c13, e13, _, _⟩ := f13.shape
                  rw [HL13.out] at e13
                  subst e13
                  have hk := hu.keeps HBLK.out HNF.out
                  have e4 := cell_at hk 4
                  have e5 := cell_at hk 5
                  have q4 := free_at hk 4
                  have q5 := free_at hk 5
                  go_simp
                  refine hK.out _ _ ?_
                  clear hK K
                  try simp only [Act.put, List.setIfInBounds_toArray, List.set_cons_zero, List.set_cons_succ]
                  refine wpTill_take0 (i := 17) (oi := ⟨some 112, _, _, _, _, _⟩) (v := ?_) rfl (by kernel_rfl) (fun _ _ _ h => h) (Or.inl ⟨by rfl, ?_⟩) (fun h => Bool.noConfusion (h.symm.trans (show _ = true by kernel_rfl))) ?_
                  rotate_left
                  · intro w hSw
                    (try dsimp only at hSw)
                    go_simp
                    try with_reducible rfl
                  try simp only [Act.put, List.setIfInBounds_toArray, List.set_cons_zero, List.set_cons_succ]
                  refine wpTill_take0 (i := 18) (oi := ⟨some 113, _, _, _, _, _⟩) (v := ?_) rfl (by kernel_rfl) (fun _ _ _ h => h) (Or.inl ⟨by rfl, ?_⟩) (fun h => Bool.noConfusion (h.symm.trans (show _ = true by kernel_rfl))) ?_
                  rotate_left
                  · intro w hSw
                    (try dsimp only at hSw)
                    go_simp
                    try with_reducible rfl
                  try simp only [Act.put, List.setIfInBounds_toArray, List.set_cons_zero, List.set_cons_succ]
                  refine wpTill_ready (rs := [19]) (by kernel_rfl) (by simp) ?_
                  refine AllTill.consD (o := ⟨none, _, _, _, _, _⟩) rfl (by kernel_rfl) (fun K hK => ?_) AllTill.nil
                  go_simp
                  refine hK.out _ _ ?_
                  clear hK K
                  try simp only [Act.put, List.setIfInBounds_toArray, List.set_cons_zero, List.set_cons_succ]
                  refine wpTill_done (by kernel_rfl) ?_ _
                  go_wp2_with fail
                  go_roundw
                  case rel => exact ⟨j + 1, by rw [pad_len]; have := HJ.out; omega, .inr (by have := HJ.out; omega), by rw [pad_succ]; exact rb_grow HM.out HUP.out HOB.out HOC.out HFB.out hu f13 f7 hw13 hw7⟩
                  case measure => rw [lenAt_two hk rfl, HLM.out]; omega
                exact AllTill.nil
              refine AllTill.cons (o := ⟨some 108, _, _, _, _, _⟩) rfl (fun K hK => ?_) ?_
              ·
                refine step_fresh (enc := encB) (E := 5) rfl [0] #[.int .u8 0] rfl (by decide) (by go_simp) ?_
                intro W12 v12 g12 f12 hg12 hx12
                have fC := fC.below hx12
                have fB := fB.below hx12
                have hu := hu.trans (Upd.below hx12) (fun _ _ q => q) (fun j hj q => by have := hu.size; omega)
                refine hK.out _ _ (by exact HSof.out _ hu) (fun hHeld => ?_)
                clear hK K
                try simp only [Act.put, List.setIfInBounds_toArray, List.set_cons_zero, List.set_cons_succ]
                refine wpTill_ready (rs := [6]) (by kernel_rfl) (by simp) ?_
                refine AllTill.cons (o := ⟨some 102, _, _, _, _, _⟩) rfl (fun K hK => ?_) AllTill.nil
                refine step_fresh (enc := encL) (E := 4) rfl [false] #[.bool false] rfl (by decide) (by go_simp) ?_
                intro W6 v6 g6 f6 hg6 hx6
                have fC := fC.below hx6
                have fB := fB.below hx6
                have f12 := f12.below hx6
                have hu := hu.trans (Upd.below hx6) (fun _ _ q => q) (fun j hj q => by have := hu.size; omega)
                refine hK.out _ _ (by exact HSof.out _ hu) (fun hHeld => ?_)
                clear hK K
                try simp only [Act.put, List.setIfInBounds_toArray, List.set_cons_zero, List.set_cons_succ]
                refine wpTill_ready (rs := [7]) (by kernel_rfl) (by simp) ?_
                refine AllTill.cons (o := ⟨some 103, _, _, _, _, _⟩) rfl (fun K hK => ?_) AllTill.nil
                refine step_pushV (v := .slice oC len2 cC) encL_len encL_one Try.underlying39 hi1 hy1 hy0 zeroL rfl (.tmp 101) (.tmp 102) rfl (by exact fC) (by exact f6.vw) rfl rfl (by rw [HLC.out, hy2']; simp; omega) (by rw [HLC.out]; simp; omega) ?_
                intro W7 v7 o7 f7 ho7 hu7
                have hw7 := own_new HOC.out (Nat.le_trans HUP.out.size hu.size) ho7
                have fB := fB.keeps hu7 (fun j e1 e2 => row_types fB fC (by decide) e1 e2)
                have f12 := f12.keeps hu7 (fun j e1 e2 => row_types f12 fC (by decide) e1 e2)
                have hu := hu.trans hu7 (fun _ _ q => q) (fun j hj q => .inr q)
                refine hK.out _ _ (by exact HSof.out _ hu) (fun hHeld => ?_)
                clear hK K
                try simp only [Act.put, List.setIfInBounds_toArray, List.set_cons_zero, List.set_cons_succ]
                refine wpTill_ready (rs := [13]) (by kernel_rfl) (by simp) ?_
                refine AllTill.cons (o := ⟨some 109, _, _, _, _, _⟩) rfl (fun K hK => ?_) AllTill.nil
                refine step_pushV (v := .slice oB len2 cB) encB_len encB_one Try.underlying22 hi0 hz1 hz0 zeroB rfl (.tmp 107) (.tmp 108) rfl (by exact fB) (by exact f12.vw) rfl rfl (by rw [HLB.out, hz2']; simp; omega) (by rw [HLB.out]; simp; omega) ?_
                intro W13 v13 o13 f13 ho13 hu13
                have hw13 := own_new HOB.out (Nat.le_trans HUP.out.size hu.size) ho13
                have f7 := f7.keeps hu13 (fun j e1 e2 => row_types f7 fB (by decide) e1 e2)
                have hu := hu.trans hu13 (fun _ _ q => q) (fun j hj q => .inl q)
                refine hK.out _ _ (by exact HSof.out _ hu) (fun hHeld => ?_)
                clear hK K
                try simp only [Act.put, List.setIfInBounds_toArray, List.set_cons_zero, List.set_cons_succ]
                refine wpTill_take0 (i := 14) (oi := ⟨some 110, _, _, _, _, _⟩) (v := ?_) rfl (by kernel_rfl) (fun _ _ _ h => h) (Or.inl ⟨by rfl, ?_⟩) (fun _ => hHeld) ?_
                rotate_left
                · intro w hSw
                  (try dsimp only at hSw)
                  go_simp
                  try with_reducible rfl
                try simp only [Act.put, List.setIfInBounds_toArray, List.set_cons_zero, List.set_cons_succ]
                refine wpTill_take0 (i := 15) (oi := ⟨some 111, _, _, _, _, _⟩) (v := ?_) rfl (by kernel_rfl) (fun _ _ _ h => h) (Or.inl ⟨by rfl, ?_⟩) (fun _ => hHeld) ?_
                rotate_left
                · intro w hSw
                  (try dsimp only at hSw)
                  go_simp
                  try with_reducible rfl
                try simp only [Act.put, List.setIfInBounds_toArray, List.set_cons_zero, List.set_cons_succ]
                refine wpTill_ready (rs := [16]) (by kernel_rfl) (by simp) ?_
                refine AllTill.consD (o := ⟨none, _, _, _, _, _⟩) rfl (by kernel_rfl) (fun K hK => ?_) AllTill.nil
                obtain ⟨a7, c7, e7, _, _⟩ := f7.shape
                rw [HL7.out] at e7
                subst e7
                obtain ⟨a13, c13, e13, _, _⟩ := f13.shape
                rw [HL13.out] at e13
                subst e13
                have hk := hu.keeps HBLK.out HNF.out
                have e4 := cell_at hk 4
                have e5 := cell_at hk 5
                have q4 := free_at hk 4
                have q5 := free_at hk 5
                go_simp
                refine hK.out _ _ ?_
                clear hK K
                try simp only [Act.put, List.setIfInBounds_toArray, List.set_cons_zero, List.set_cons_succ]
                refine wpTill_take0 (i := 17) (oi := ⟨some 112, _, _, _, _, _⟩) (v := ?_) rfl (by kernel_rfl) (fun _ _ _ h => h) (Or.inl ⟨by rfl, ?_⟩) (fun h => Bool.noConfusion (h.symm.trans (show _ = true by kernel_rfl))) ?_
                rotate_left
                · intro w hSw
                  (try dsimp only at hSw)
                  go_simp
                  try with_reducible rfl
                try simp only [Act.put, List.setIfInBounds_toArray, List.set_cons_zero, List.set_cons_succ]
                refine wpTill_take0 (i := 18) (oi := ⟨some 113, _, _, _, _, _⟩) (v := ?_) rfl (by kernel_rfl) (fun _ _ _ h => h) (Or.inl ⟨by rfl, ?_⟩) (fun h => Bool.noConfusion (h.symm.trans (show _ = true by kernel_rfl))) ?_
                rotate_left
                · intro w hSw
                  (try dsimp only at hSw)
                  go_simp
                  try with_reducible rfl
                try simp only [Act.put, List.setIfInBounds_toArray, List.set_cons_zero, List.set_cons_succ]
                refine wpTill_ready (rs := [19]) (by kernel_rfl) (by simp) ?_
                refine AllTill.consD (o := ⟨none, _, _, _, _, _⟩) rfl (by kernel_rfl) (fun K hK => ?_) AllTill.nil
                go_simp
                refine hK.out _ _ ?_
                clear hK K
                try simp only [Act.put, List.setIfInBounds_toArray, List.set_cons_zero, List.set_cons_succ]
                refine wpTill_done (by kernel_rfl) ?_ _
                go_wp2_with fail
                go_roundw
                case rel => exact ⟨j + 1, by rw [pad_len]; have := HJ.out; omega, .inr (by have := HJ.out; omega), by rw [pad_succ]; exact rb_grow HM.out HUP.out HOB.out HOC.out HFB.out hu f13 f7 hw13 hw7⟩
                case measure => rw [lenAt_two hk rfl, HLM.out]; omega
              exact AllTill.nil
            · have hext := HPX.out (by omega)
              rw [hext] at HM
              have hkl : Kk < len2 := by omega
              have HKL := Lib.hid (show Kk < (ext L Kk).length by rw [ext_len]; omega)
              obtain ⟨gC, hgC, rfl, hgl, d6, _⟩ := HM.out.c.getL HKL.out
              rw [gt_ext] at d6
              cases hg : (gt L Kk).isSome
              · obtain ⟨gB, gC2, rfl, e2, hne, hput⟩ := rb_put HM.out (x := x) HUP.out HOB.out HOC.out hkl hkl
                cases e2
                rw [hg] at d6
                have hput2 : AddR fp wc ((wr.setCell ⟨gC, Kk, none⟩ (.bool true)).setCell ⟨gB, Kk, none⟩ (.int .u8 x)) b s (putN s.rd off s.L (d.take (k + 1))) := by
                  rw [HNX.out]
                  unfold put1
                  rw [hg]
                  exact hput
                have HPUT := Lib.hid hput2.drew
                have d4 : wr.drew.cell? ⟨b, 4, none⟩ = some (.slice (some ⟨gB, 0, none⟩) len2 cB) := by
                  have := HM.out.drew.blk
                  rw [cell_at this]
                  rfl
                have d5 : wr.drew.cell? ⟨b, 5, none⟩ = some (.slice (some ⟨gC, 0, none⟩) len2 cC) := c5
                have hdw := (HD.out.upd HUP.out (fun j hj => hj)).upd ((Upd.refl (fun _ => False) _).drew) (fun _ q => q.elim)
                obtain ⟨bd, od, rfl, hcell⟩ := hdw.byte HX.out
                have f6 : wr.frozen? ⟨gC, Kk, none⟩ = false := by
                  obtain ⟨_, q, q1, _, _, q2⟩ := HM.out.c.getL HKL.out
                  cases q1
                  exact q2
                obtain ⟨vb6, g6, g7⟩ : ∃ u, wr.cell? ⟨gB, Kk, none⟩ = some (.int .u8 u) ∧ wr.frozen? ⟨gB, Kk, none⟩ = false := by
                  obtain ⟨y, hy⟩ : ∃ y, (bytesOf (ext L Kk))[Kk]? = some y := ⟨_, List.getElem?_eq_getElem (by simp [bytesOf]; exact HKL.out)⟩
                  obtain ⟨g, q1, q2, q3, q4, q5⟩ := HM.out.b.el1 (f := fun (n : Nat) => Value.int .u8 n) (fun _ => rfl) hy
                  cases q2
                  exact ⟨y, q4, q5⟩
                clear hput hput2 hdw hg hgC hext
                go_wp2_with fail
                refine wp_region_till (S := fun w' => w'.cell? ⟨b, 4, none⟩ = some (.slice (some ⟨gB, 0, none⟩) len2 cB) ∧ w'.cell? ⟨b, 5, none⟩ = some (.slice (some ⟨gC, 0, none⟩) len2 cC) ∧ w'.cell? ⟨bd, od + k, none⟩ = some (.int .u8 x)) [15, 17] (by kernel_rfl) (by exact ⟨d4, d5, hcell⟩) (fun hHeld => ?_)
                refine wpTill_take0 (i := 0) (oi := ⟨some 122, _, _, _, _, _⟩) (v := ?_) rfl (by kernel_rfl) (fun _ _ _ h => h) (Or.inl ⟨by rfl, ?_⟩) (fun _ => hHeld) ?_
                rotate_left
                · intro w hSw
                  (try dsimp only at hSw)
                  go_simp
                  try with_reducible rfl
                try simp only [Act.put, List.setIfInBounds_toArray, List.set_cons_zero, List.set_cons_succ]
                refine wpTill_take0 (i := 1) (oi := ⟨some 123, _, _, _, _, _⟩) (v := ?_) rfl (by kernel_rfl) (fun _ _ _ h => h) (Or.inl ⟨by rfl, ?_⟩) (fun _ => hHeld) ?_
                rotate_left
                · intro w hSw
                  (try dsimp only at hSw)
                  go_simp
                  try with_reducible rfl
                try simp only [Act.put, List.setIfInBounds_toArray, List.set_cons_zero, List.set_cons_succ]
                refine wpTill_take0 (i := 2) (oi := ⟨some 124, _, _, _, _, _⟩) (v := ?_) rfl (by kernel_rfl) (fun _ _ _ h => h) (Or.inl ⟨by rfl, ?_⟩) (fun _ => hHeld) ?_
                rotate_left
                · intro w hSw
                  (try dsimp only at hSw)
                  go_simp
                  try with_reducible rfl
                try simp only [Act.put, List.setIfInBounds_toArray, List.set_cons_zero, List.set_cons_succ]
                refine wpTill_take (i := 3) (oi := ⟨some 125, _, _, _, _, _⟩) (v := ?_) rfl (by kernel_rfl) (fun _ _ _ h => h) (Or.inl ⟨by rfl, ?_⟩) (by exact hHeld) ?_
                rotate_left
                · intro w hSw
                  (try dsimp only at hSw)
                  go_simp
                  try with_reducible rfl
                try simp only [Act.put, List.setIfInBounds_toArray, List.set_cons_zero, List.set_cons_succ]
                refine wpTill_take0 (i := 4) (oi := ⟨some 126, _, _, _, _, _⟩) (v := ?_) rfl (by kernel_rfl) (fun _ _ _ h => h) (Or.inl ⟨by rfl, ?_⟩) (fun _ => hHeld) ?_
                rotate_left
                · intro w hSw
                  (try dsimp only at hSw)
                  go_simp
                  try with_reducible rfl
                try simp only [Act.put, List.setIfInBounds_toArray, List.set_cons_zero, List.set_cons_succ]
                refine wpTill_take0 (i := 5) (oi := ⟨some 127, _, _, _, _, _⟩) (v := ?_) rfl (by kernel_rfl) (fun _ _ _ h => h) (Or.inl ⟨by rfl, ?_⟩) (fun _ => hHeld) ?_
                rotate_left
                · intro w hSw
                  (try dsimp only at hSw)
                  go_simp
                  try with_reducible rfl
                try simp only [Act.put, List.setIfInBounds_toArray, List.set_cons_zero, List.set_cons_succ]
                refine wpTill_take0 (i := 6) (oi := ⟨some 128, _, _, _, _, _⟩) (v := ?_) rfl (by kernel_rfl) (fun _ _ _ h => h) (Or.inl ⟨by rfl, ?_⟩) (fun _ => hHeld) ?_
                rotate_left
                · intro w hSw
                  (try dsimp only at hSw)
                  go_simp
                  try with_reducible rfl
                try simp only [Act.put, List.setIfInBounds_toArray, List.set_cons_zero, List.set_cons_succ]
                refine wpTill_take0 (i := 7) (oi := ⟨some 129, _, _, _, _, _⟩) (v := ?_) rfl (by kernel_rfl) (fun _ _ _ h => h) (Or.inl ⟨by rfl, ?_⟩) (fun _ => hHeld) ?_
                rotate_left
                · intro w hSw
                  (try dsimp only at hSw)
                  go_simp
                  try with_reducible rfl
                try simp only [Act.put, List.setIfInBounds_toArray, List.set_cons_zero, List.set_cons_succ]
                refine wpTill_take (i := 8) (oi := ⟨some 130, _, _, _, _, _⟩) (v := ?_) rfl (by kernel_rfl) (fun _ _ _ h => h) (Or.inl ⟨by rfl, ?_⟩) (by exact hHeld) ?_
                rotate_left
                · intro w hSw
                  (try dsimp only at hSw)
                  go_simp
                  try with_reducible rfl
                try simp only [Act.put, List.setIfInBounds_toArray, List.set_cons_zero, List.set_cons_succ]
                refine wpTill_take0 (i := 9) (oi := ⟨some 131, _, _, _, _, _⟩) (v := ?_) rfl (by kernel_rfl) (fun _ _ _ h => h) (Or.inl ⟨by rfl, ?_⟩) (fun _ => hHeld) ?_
                rotate_left
                · intro w hSw
                  (try dsimp only at hSw)
                  go_simp
                  try with_reducible rfl
                try simp only [Act.put, List.setIfInBounds_toArray, List.set_cons_zero, List.set_cons_succ]
                refine wpTill_take0 (i := 10) (oi := ⟨some 132, _, _, _, _, _⟩) (v := ?_) rfl (by kernel_rfl) (fun _ _ _ h => h) (Or.inl ⟨by rfl, ?_⟩) (fun _ => hHeld) ?_
                rotate_left
                · intro w hSw
                  (try dsimp only at hSw)
                  go_simp
                  try with_reducible rfl
                try simp only [Act.put, List.setIfInBounds_toArray, List.set_cons_zero, List.set_cons_succ]
                refine wpTill_take0 (i := 11) (oi := ⟨some 133, _, _, _, _, _⟩) (v := ?_) rfl (by kernel_rfl) (fun _ _ _ h => h) (Or.inl ⟨by rfl, ?_⟩) (fun _ => hHeld) ?_
                rotate_left
                · intro w hSw
                  (try dsimp only at hSw)
                  go_simp
                  try with_reducible rfl
                try simp only [Act.put, List.setIfInBounds_toArray, List.set_cons_zero, List.set_cons_succ]
                refine wpTill_take0 (i := 12) (oi := ⟨some 134, _, _, _, _, _⟩) (v := ?_) rfl (by kernel_rfl) (fun _ _ _ h => h) (Or.inl ⟨by rfl, ?_⟩) (fun _ => hHeld) ?_
                rotate_left
                · intro w hSw
                  (try dsimp only at hSw)
                  go_simp
                  try with_reducible rfl
                try simp only [Act.put, List.setIfInBounds_toArray, List.set_cons_zero, List.set_cons_succ]
                refine wpTill_take (i := 13) (oi := ⟨some 135, _, _, _, _, _⟩) (v := ?_) rfl (by kernel_rfl) (fun _ _ _ h => h) (Or.inl ⟨by rfl, ?_⟩) (by exact hHeld) ?_
                rotate_left
                · intro w hSw
                  (try dsimp only at hSw)
                  go_simp
                  try with_reducible rfl
                try simp only [Act.put, List.setIfInBounds_toArray, List.set_cons_zero, List.set_cons_succ]
                refine wpTill_take0 (i := 14) (oi := ⟨some 136, _, _, _, _, _⟩) (v := ?_) rfl (by kernel_rfl) (fun _ _ _ h => h) (Or.inl ⟨by rfl, ?_⟩) (fun _ => hHeld) ?_
                rotate_left
                · intro w hSw
                  (try dsimp only at hSw)
                  go_simp
                  try with_reducible rfl
                try simp only [Act.put, List.setIfInBounds_toArray, List.set_cons_zero, List.set_cons_succ]
                refine wpTill_ready (rs := [15]) (by kernel_rfl) (by simp) ?_
                refine AllTill.consD (o := ⟨none, _, _, _, _, _⟩) rfl (by kernel_rfl) (fun K hK => ?_) AllTill.nil
                go_simp
                refine hK.out _ _ ?_
                clear hK K
                try simp only [Act.put, List.setIfInBounds_toArray, List.set_cons_zero, List.set_cons_succ]
                refine wpTill_take0 (i := 16) (oi := ⟨some 137, _, _, _, _, _⟩) (v := ?_) rfl (by kernel_rfl) (fun _ _ _ h => h) (Or.inl ⟨by rfl, ?_⟩) (fun h => Bool.noConfusion (h.symm.trans (show _ = true by kernel_rfl))) ?_
                rotate_left
                · intro w hSw
                  (try dsimp only at hSw)
                  go_simp
                  try with_reducible rfl
                try simp only [Act.put, List.setIfInBounds_toArray, List.set_cons_zero, List.set_cons_succ]
                refine wpTill_ready (rs := [17]) (by kernel_rfl) (by simp) ?_
                refine AllTill.consD (o := ⟨none, _, _, _, _, _⟩) rfl (by kernel_rfl) (fun K hK => ?_) AllTill.nil
                go_simp
                refine hK.out _ _ ?_
                clear hK K
                try simp only [Act.put, List.setIfInBounds_toArray, List.set_cons_zero, List.set_cons_succ]
                refine wpTill_done (by kernel_rfl) ?_ _
                go_wp2_with fail
                go_roundw
                case rel => exact ⟨k + 1, by go_num, by omega, HPUT.out⟩
                case measure => simp [intOf]; omega
              · rw [hg] at d6
                have HPUT := Lib.hid (show AddR fp wc wr b s (putN s.rd off s.L (d.take (k + 1))) by
                  rw [HNX.out]
                  unfold put1
                  rw [hg]
                  exact ⟨_, _, _, _, HM.out, HUP.out, HOB.out, HOC.out⟩)
                clear hg hgC hext
                go_wp2_with fail
                go_roundw
                case rel => exact ⟨k + 1, by go_num, by omega, HPUT.out⟩
                case measure => simp [intOf]; omega
        · have HPUT := Lib.hid (show AddR fp wc wr b s (putN s.rd off s.L (d.take (k + 1))) by
            rw [HSN.out.1, putN_snoc, HSN.out.2, HAT.out, if_pos (by omega)]
            exact HM.out)
          go_wp2_with fail
          go_roundw
          case rel => exact ⟨k + 1, by go_num, by omega, HPUT.out⟩
          case measure => simp [intOf]; omega
      · obtain rfl : k = len := by omega
        have hdt : d.take k = d := by rw [← HN.out, List.take_length]
        rw [hdt] at HM
        clear hdt
        obtain ⟨vB, vC, ob, oc, hm, _⟩ := HM.out
        have e1 : wr.cell? ⟨b, 1, none⟩ = some (.int .u64 s.hi) := by rw [cell_at hm.blk]; rfl
        have e2 : wr.cell? ⟨b, 2, none⟩ = some (.int .u64 s.fin) := by rw [cell_at hm.blk]; rfl
        have e3 : wr.cell? ⟨b, 3, none⟩ = some (.bool s.kn) := by rw [cell_at hm.blk]; rfl
        have f1 := free_at hm.blk 1
        have f2 := free_at hm.blk 2
        have f3 := free_at hm.blk 3
        clear hm
        cases f
        · by_cases hmx : s.hi < E
          · go_wp2_with fail
            go_ret
            exact ⟨rfl, rb_fin0 (E := E) (m := E) HM.out HFB.out HPO.out (by rw [HN.out]; exact HE.out) (by omega)⟩
          · go_wp2_with fail
            go_ret
            exact ⟨rfl, rb_fin0 (E := E) (m := s.hi) HM.out HFB.out HPO.out (by rw [HN.out]; exact HE.out) (by omega)⟩
        · by_cases hmx : s.hi < E
          · go_wp2_with fail
            go_ret
            exact ⟨rfl, rb_fin1 (E := E) (m := E) HM.out HFB.out HPO.out (by rw [HN.out]; exact HE.out) (by omega)⟩
          · go_wp2_with fail
            go_ret
            exact ⟨rfl, rb_fin1 (E := E) (m := s.hi) HM.out HFB.out HPO.out (by rw [HN.out]; exact HE.out) (by omega)⟩
end Go.Proofs.Ytojklmbbepgciaa
