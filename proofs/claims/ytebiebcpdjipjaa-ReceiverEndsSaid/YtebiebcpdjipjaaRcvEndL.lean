/- DERIVED. Plain: a receiver that is told all pieces of one row. -/
import Derived.Test.YtebiebcpdjipjaaRcvOn
namespace Go.Proofs.Ytebiebcpdjipjaa

def stOf (b : IB) : Nat := if b.kn = true then (if b.whole = true then 3 else 2) else 1
structure EndSt (P : List Nat) (rs : Bool) (c n i : Nat) (s : RS) : Prop where
  id : s.id = 6
  lim : s.lim = 500
  go : (s.st = 5 ∧ rs = true ∧ s.code = c ∧ s.fnl = P.length) ∨ (s.st = stOf s.ib ∧ Piece P s.ib ∧ s.ib.rd = 0 ∧ (∀ j, j + 10 * n < 10 * i → j < P.length → (gt s.ib.L j).isSome = true) ∧ (i = 2 * n → 0 < n → s.ib.kn = true))
structure EndAll (P : List Nat) (s : RS) : Prop where
  st : s.st = 3
  pc : Piece P s.ib
  rd : s.ib.rd = 0
  kn : s.ib.kn = true
  all : rdy s.ib.L = P.length
def EndDone (P : List Nat) (rs : Bool) (c : Nat) (s : RS) : Prop := (s.st = 5 ∧ rs = true ∧ s.code = c) ∨ EndAll P s
theorem rdy_le_of {P : List Nat} {b : IB} (h : Piece P b) (h0 : b.rd = 0) : rdy b.L ≤ P.length := by
  have := (h.take (Nat.le_refl (rdy b.L))).2.2
  omega
theorem whole_iff {P : List Nat} {b : IB} (h : Piece P b) (h0 : b.rd = 0) (hk : b.kn = true) : b.whole = true ↔ rdy b.L = P.length := by
  unfold IB.whole
  rw [hk, h.fin hk, h0]
  simp
theorem rdy_put {b : IB} {off : Nat} {d : List Nat} {f : Bool} : rdy b.L ≤ rdy (b.put off d f).L := by
  rcases Nat.lt_or_ge (rdy (b.put off d f).L) (rdy b.L) with h | h
  · obtain ⟨v, hv⟩ := rdy_lt h
    have h2 := rdy_end (b.put off d f).L
    have h3 : gt (b.put off d f).L (rdy (b.put off d f).L) = gt b.L (rdy (b.put off d f).L) := by
      show gt (putN b.rd off b.L d) _ = _
      rw [gt_putN]
      rw [if_pos (by rw [hv]; rfl)]
    rw [h2, hv] at h3
    cases h3
  · exact h
theorem nextSt_of {P : List Nat} {b : IB} {off : Nat} {d : List Nat} {f : Bool} (h : Piece P b) (h0 : b.rd = 0) (hp : Piece P (b.put off d f)) : nextSt (stOf b) (b.put off d f) = stOf (b.put off d f) := by
  have hk : b.kn = true → (b.put off d f).kn = true := by
    intro h
    simp only [IB.put]
    split
    · rfl
    · exact h
  have h1 := fun k => whole_iff h h0 k
  have h2 := fun k => whole_iff hp (show (b.put off d f).rd = 0 from h0) k
  have h3 := rdy_put (b := b) (off := off) (d := d) (f := f)
  have h4 := rdy_le_of hp (show (b.put off d f).rd = 0 from h0)
  have hw : b.kn = true → b.whole = true → (b.put off d f).whole = true := by
    intro k e
    rw [h2 (hk k)]
    rw [h1 k] at e
    omega
  clear h1 h2 h3 h4 h hp
  generalize (b.put off d f) = b2 at *
  unfold nextSt stOf
  cases h5 : b.kn
  · cases h6 : b2.kn
    · simp
    · cases h7 : b2.whole <;> simp
  · have h6 := hk h5
    cases h8 : b.whole
    · cases h7 : b2.whole <;> simp [h6]
    · have h7 := hw h5 h8
      simp [h6, h7]
theorem on_piece {P : List Nat} {rs : Bool} {c n i k e : Nat} {s : RS} {f : Fr} (h : EndSt P rs c n i s) (hP : P.length ≤ 120) (hn : (P.length + 9) / 10 = n) (hi : i < 2 * n) (hk : k < n) (hik : n ≤ i → k = i - n) (he : min (10 * k + 10) P.length = e)
    (f1 : f.kd = 8) (f2 : f.sid = 6) (f3 : f.off = 10 * k) (f4 : f.fin = decide (e = P.length)) :
    s.onErr f ((P.drop (10 * k)).take (e - 10 * k)).length = 0 ∧ EndSt P rs c n (i + 1) (s.on f ((P.drop (10 * k)).take (e - 10 * k))) := by
  have hk2 : 10 * k < P.length := by omega
  have hm : ((P.drop (10 * k)).take (e - 10 * k)).length = e - 10 * k := by rw [List.length_take, List.length_drop]; omega
  have hend : endOf f (e - 10 * k) = e := by
    unfold endOf
    rw [if_neg (by rw [f1]; omega), f3]
    omega
  have hlast : lastOf f = decide (e = P.length) := by
    unfold lastOf
    rw [f1, f4]
    simp
  have may_of : (s.szd = true → s.szn = P.length) → (e = P.length → s.high ≤ P.length) → s.may f (e - 10 * k) = 0 := by
    intro q1 q2
    unfold RS.may
    rw [if_neg (by rw [f1, f2, h.id]; simp), hend, if_neg (by rw [h.lim]; omega), if_neg (by omega), hlast, if_neg]
    rintro (⟨x, y | ⟨y, z⟩⟩ | ⟨y, z⟩)
    · rw [q1 x] at y; omega
    · rw [q1 x] at z
      exact z (by simpa using y)
    · have := q2 (by simpa using y)
      simp at y
      omega
  unfold RS.onErr RS.on
  rw [hm]
  rcases h.go with ⟨g1, g2, g3, g4⟩ | ⟨g1, g2, g3, g4, g5⟩
  · have hmay := may_of (fun _ => by unfold RS.szn; rw [if_pos (by omega), g4]) (fun _ => by unfold RS.high; rw [if_pos (by omega), g4]; omega)
    rw [hmay, if_neg (by simp), if_pos (by omega), if_neg (by simp), if_pos (by omega)]
    exact ⟨rfl, h.id, h.lim, .inl ⟨g1, g2, g3, g4⟩⟩
  · have hst : s.st ≤ 3 := by
      rw [g1]
      unfold stOf
      split
      · split <;> omega
      · omega
    have hmay := may_of (fun x => by
      unfold RS.szd at x
      rw [if_neg (by omega)] at x
      unfold RS.szn
      rw [if_neg (by omega)]
      exact g2.fin x) (fun _ => by
      unfold RS.high
      rw [if_neg (by omega)]
      exact g2.hi)
    obtain ⟨p1, p2, p3⟩ := g2.add (off := 10 * k) (n := e - 10 * k) (f := f.fin) (by omega) (by omega) (by rw [f4]; simp; omega)
    have hadd : s.ib.add (10 * k) ((P.drop (10 * k)).take (e - 10 * k)) f.fin = s.ib.put (10 * k) ((P.drop (10 * k)).take (e - 10 * k)) f.fin := by
      unfold IB.add
      rw [p3, if_pos p1]
    rw [hmay, if_neg (by simp), if_neg (by omega), if_neg (by rw [f1]; omega), if_neg (by simp), if_neg (by omega), if_neg (by rw [f1]; omega), f3, p1, if_neg (by simp), hadd]
    refine ⟨rfl, h.id, h.lim, .inr ⟨?_, p2, g3, ?_, ?_⟩⟩
    · show nextSt s.st _ = _
      rw [g1]
      exact nextSt_of g2 g3 p2
    · intro j hj1 hj2
      show (gt (putN s.ib.rd (10 * k) s.ib.L _) j).isSome = true
      rw [gt_putN]
      split
      · assumption
      · rename_i hno
        have h10 : ¬ (j + 10 * n < 10 * i) := fun x => hno (g4 j x hj2)
        have hke := hik (by omega)
        rw [if_pos (by omega), g3, List.getElem?_eq_getElem (by rw [hm]; omega)]
        rfl
    · intro hi2 _
      show (if f.fin = true then true else s.ib.kn) = true
      rw [f4]
      have : e = P.length := by
        have := hik (by omega)
        omega
      simp [this]
theorem on_reset {P : List Nat} {rs : Bool} {c n i : Nat} {s : RS} {f : Fr} (h : EndSt P rs c n i s) (hP : P.length ≤ 120) (hr : rs = true) (f1 : f.kd = 4) (f2 : f.sid = 6) (f3 : f.code = c) (f4 : f.fnl = P.length) :
    s.onErr f 0 = 0 ∧ EndSt P rs c n i (s.on f []) := by
  have hend : endOf f 0 = P.length := by
    unfold endOf
    rw [if_pos f1, f4]
  have may_of : (s.szd = true → s.szn = P.length) → (s.high ≤ P.length) → s.may f 0 = 0 := by
    intro q1 q2
    unfold RS.may
    rw [if_neg (by rw [f1, f2, h.id]; simp), hend, if_neg (by rw [h.lim]; omega), if_neg (by omega), if_neg]
    rintro (⟨x, y | ⟨y, z⟩⟩ | ⟨y, z⟩)
    · rw [q1 x] at y; omega
    · rw [q1 x] at z
      exact z rfl
    · omega
  unfold RS.onErr RS.on
  rw [List.length_nil]
  rcases h.go with ⟨g1, g2, g3, g4⟩ | ⟨g1, g2, g3, g4, g5⟩
  · have hmay := may_of (fun _ => by unfold RS.szn; rw [if_pos (by omega), g4]) (by unfold RS.high; rw [if_pos (by omega), g4]; omega)
    rw [hmay, if_neg (by simp), if_pos (by omega), if_neg (by simp), if_pos (by omega)]
    exact ⟨rfl, h.id, h.lim, .inl ⟨g1, g2, g3, g4⟩⟩
  · have hst : s.st ≤ 3 := by
      rw [g1]
      unfold stOf
      split
      · split <;> omega
      · omega
    have hmay := may_of (fun x => by
      unfold RS.szd at x
      rw [if_neg (by omega)] at x
      unfold RS.szn
      rw [if_neg (by omega)]
      exact g2.fin x) (by
      unfold RS.high
      rw [if_neg (by omega)]
      exact g2.hi)
    rw [hmay, if_neg (by simp), if_neg (by omega), if_pos f1, if_neg (by simp), if_neg (by omega), if_pos f1]
    refine ⟨rfl, ?_⟩
    split
    · exact ⟨h.id, h.lim, .inl ⟨rfl, hr, f3, f4⟩⟩
    · exact h
theorem EndSt.new (P : List Nat) (rs : Bool) (c n : Nat) : EndSt P rs c n 0 (RS.new 6 500) :=
  ⟨rfl, rfl, .inr ⟨rfl, Piece.zero P, rfl, fun j hj => by omega, fun h1 h2 => by omega⟩⟩
theorem EndSt.done {P : List Nat} {rs : Bool} {c n : Nat} {s : RS} (h : EndSt P rs c n (2 * n) s) (hn : (P.length + 9) / 10 = n) (h0 : 0 < n) : EndDone P rs c s := by
  rcases h.go with ⟨g1, g2, g3, g4⟩ | ⟨g1, g2, g3, g4, g5⟩
  · exact .inl ⟨g1, g2, g3⟩
  · have hk := g5 rfl h0
    have ha : rdy s.ib.L = P.length := by
      have h1 := rdy_le_of g2 g3
      rcases Nat.lt_or_ge (rdy s.ib.L) P.length with h2 | h2
      · have h3 := g4 (rdy s.ib.L) (by omega) h2
        rw [rdy_end] at h3
        cases h3
      · omega
    refine .inr ⟨?_, g2, g3, hk, ha⟩
    rw [g1]
    unfold stOf
    rw [if_pos hk, if_pos ((whole_iff g2 g3 hk).2 ha)]
theorem on_empty {P : List Nat} {rs : Bool} {c : Nat} {s : RS} {f : Fr} (hP : P = []) (h : EndSt P rs c 0 0 s) (f1 : f.kd = 8) (f2 : f.sid = 6) (f3 : f.off = 0) (f4 : f.fin = true) : s.onErr f 0 = 0 ∧ EndDone P rs c (s.on f []) := by
  subst hP
  have hend : endOf f 0 = 0 := by
    unfold endOf
    rw [if_neg (by rw [f1]; omega), f3]
    omega
  have may_of : (s.szd = true → s.szn = 0) → (s.high ≤ 0) → s.may f 0 = 0 := by
    intro q1 q2
    unfold RS.may
    rw [if_neg (by rw [f1, f2, h.id]; simp), hend, if_neg (by rw [h.lim]; omega), if_neg (by omega), if_neg]
    rintro (⟨x, y | ⟨y, z⟩⟩ | ⟨y, z⟩)
    · rw [q1 x] at y; omega
    · rw [q1 x] at z
      exact z rfl
    · omega
  unfold RS.onErr RS.on
  rw [List.length_nil]
  rcases h.go with ⟨g1, g2, g3, g4⟩ | ⟨g1, g2, g3, g4, g5⟩
  · have hmay := may_of (fun _ => by unfold RS.szn; rw [if_pos (by omega), g4]; rfl) (by unfold RS.high; rw [if_pos (by omega), g4]; simp)
    rw [hmay, if_neg (by simp), if_pos (by omega), if_neg (by simp), if_pos (by omega)]
    exact ⟨rfl, .inl ⟨g1, g2, g3⟩⟩
  · have hst : s.st ≤ 3 := by
      rw [g1]
      unfold stOf
      split
      · split <;> omega
      · omega
    have hmay := may_of (fun x => by
      unfold RS.szd at x
      rw [if_neg (by omega)] at x
      unfold RS.szn
      rw [if_neg (by omega)]
      exact g2.fin x) (by
      unfold RS.high
      rw [if_neg (by omega)]
      exact g2.hi)
    obtain ⟨p1, p2, p3⟩ := g2.add (off := 0) (n := 0) (f := true) (by simp) (by simp) (by simp)
    rw [List.drop_nil, List.take_nil] at p2
    have hadd : s.ib.add 0 [] true = s.ib.put 0 [] true := by
      unfold IB.add
      rw [List.length_nil, if_pos p1]
    rw [hmay, if_neg (by simp), if_neg (by omega), if_neg (by rw [f1]; omega), if_neg (by simp), if_neg (by omega), if_neg (by rw [f1]; omega), f3, f4, p1, if_neg (by simp), hadd]
    have ha : rdy (s.ib.put 0 [] true).L = 0 := by
      have := rdy_le_of p2 g3
      simpa using this
    refine ⟨rfl, .inr ⟨?_, p2, g3, rfl, ha⟩⟩
    show nextSt s.st _ = _
    rw [g1, nextSt_of g2 g3 p2]
    unfold stOf
    rw [if_pos (show (s.ib.put 0 [] true).kn = true from rfl), if_pos ((whole_iff p2 g3 rfl).2 ha)]
theorem EndAll.read {P : List Nat} {s : RS} (h : EndAll P s) (hP : P.length ≤ 120) : s.ib.num 1000 = P.length ∧ s.ib.out P.length = P ∧ (s.ib.take P.length).last = true := by
  have h1 := h.all
  refine ⟨?_, ?_, ?_⟩
  · unfold IB.num
    rw [h1, show (1000 : Int).toNat = 1000 from rfl]
    omega
  · rw [(h.pc.take (n := P.length) (by omega)).2.1, h.rd]
    simp
  · unfold IB.last IB.take
    simp only
    rw [h.kn, h.rd, h.pc.fin h.kn]
    simp
end Go.Proofs.Ytebiebcpdjipjaa
