/- DERIVED. The quick evaluator's memory and slots, against the plain one's. -/
import Derived.Test.YtijnjnncgkhabaaEvK
import Derived.Test.YtijnjnncgkhabaaEvR
set_option linter.unusedVariables false
namespace Go.Proofs.Ytijnjnncgkhabaa
namespace Ev
namespace Kq

theorem gt_up {α : Type} (d : Dg) (f : α → α) (t : N8 α) : gt d (up d f t) = f (gt d t) := by
  cases d <;> cases t <;> rfl
theorem gt_up_ne {α : Type} {d d' : Dg} (f : α → α) (t : N8 α) (h : d' ≠ d) : gt d' (up d f t) = gt d' t := by
  cases d <;> cases d' <;> first | exact absurd rfl h | (cases t; rfl)
theorem gt_all {α : Type} (d : Dg) (x : α) : gt d (N8.all x) = x := by cases d <;> rfl

theorem look_lay (id : Id) (b : Option Bk) (h : H6) : look id (lay id b h) = b := by
  simp only [look, lay, gt_up]
theorem look_lay_ne {id j : Id} (b : Option Bk) (h : H6) (hn : j ≠ id) : look j (lay id b h) = look j h := by
  obtain ⟨a1, b1, c1, g1, e1, f1⟩ := id
  obtain ⟨a2, b2, c2, g2, e2, f2⟩ := j
  simp only [look, lay]
  by_cases ha : a2 = a1
  · subst ha
    rw [gt_up]
    by_cases hb : b2 = b1
    · subst hb
      rw [gt_up]
      by_cases hc : c2 = c1
      · subst hc
        rw [gt_up]
        by_cases hd : g2 = g1
        · subst hd
          rw [gt_up]
          by_cases he : e2 = e1
          · subst he
            rw [gt_up]
            by_cases hf : f2 = f1
            · subst hf
              exact absurd rfl hn
            · rw [gt_up_ne _ _ hf]
          · rw [gt_up_ne _ _ he]
        · rw [gt_up_ne _ _ hd]
      · rw [gt_up_ne _ _ hc]
    · rw [gt_up_ne _ _ hb]
  · rw [gt_up_ne _ _ ha]
theorem look_h6 (id : Id) : look id h6 = none := by
  simp only [look, h6, h5, h4, h3, h2, h1, gt_all]

/-- the plain block -/
def Bk.pl (b : Bk) : Blk := ⟨b.z, b.c⟩
/-- memory agrees -/
structure RH (t : H6) (h : Heap) : Prop where
  at_ : ∀ id, (look id t).map Bk.pl = h id
  len : ∀ id b, look id t = some b → b.n = b.c.length
theorem RH.none {t : H6} {h : Heap} (hr : RH t h) {id : Id} (hl : look id t = none) : h id = none := by
  rw [← hr.at_, hl]; rfl
theorem RH.some {t : H6} {h : Heap} (hr : RH t h) {id : Id} {b : Bk} (hl : look id t = some b) : h id = some b.pl := by
  rw [← hr.at_, hl]; rfl
theorem RH.put {t : H6} {h : Heap} (hr : RH t h) (id : Id) (b : Option Bk) (hb : ∀ k, b = Option.some k → k.n = k.c.length) : RH (lay id b t) (Heap.put h id (b.map Bk.pl)) := by
  refine ⟨fun j => ?_, fun j k hk => ?_⟩
  · unfold Heap.put
    by_cases hj : j = id
    · subst hj
      rw [look_lay, if_pos rfl]
    · rw [look_lay_ne _ _ hj, if_neg (fun e => hj (Id.num_inj e)), hr.at_]
  · by_cases hj : j = id
    · subst hj
      rw [look_lay] at hk
      exact hb k hk
    · rw [look_lay_ne _ _ hj] at hk
      exact hr.len j k hk
structure RS (t : St) (s : S) : Prop where
  tr : t.tr = s.tr
  h : RH t.h s.h
  n : t.n = s.n
  r : t.r = s.r
  w : t.w = s.w
/-- WHAT THE QUICK ONE FINDS TRUE, THE PLAIN ONE GIVES. -/
def Ref {α β : Type} (R : α → β → Prop) (q : M α) (m : Ev.M β) : Prop := ∀ t s k, RS t s → q t k = true → ∃ a b t' s', m s = some (b, s') ∧ R a b ∧ RS t' s' ∧ k a t' = true

section
variable {α β γ δ : Type} {R : α → β → Prop} {Q : γ → δ → Prop}
theorem Ref.pure {a : α} {b : β} (h : R a b) : Ref R (M.pure a) (Ev.M.pure b) := fun t s k hs hk => ⟨a, b, t, s, rfl, h, hs, hk⟩
theorem Ref.no {m : Ev.M β} : Ref R (M.no : M α) m := fun t s k hs hk => by simp [M.no] at hk
theorem Ref.bind {q : M α} {m : Ev.M β} {f : α → M γ} {g : β → Ev.M δ} (h : Ref R q m) (hf : ∀ a b, R a b → Ref Q (f a) (g b)) : Ref Q (M.bind q f) (Ev.M.bind m g) := by
  intro t s k hs hk
  obtain ⟨a, b, t1, s1, h1, h2, h3, h4⟩ := h t s _ hs hk
  obtain ⟨c, d, t2, s2, g1, g2, g3, g4⟩ := hf a b h2 t1 s1 k h3 h4
  exact ⟨c, d, t2, s2, by simp only [Ev.M.bind, h1, g1], g2, g3, g4⟩
theorem Ref.ofO {o : Option α} {f : α → M γ} {g : α → Ev.M δ} (hf : ∀ a, o = some a → Ref Q (f a) (g a)) : Ref Q (M.ofO o f) (Ev.M.ofO o g) := by
  cases o with
  | none => exact Ref.no
  | some a => exact hf a rfl
theorem Ref.ifB {b : Bool} {q : M γ} {m : Ev.M δ} (h : Ref Q q m) : Ref Q (M.ifB b q) (Ev.M.ifB b m) := by
  cases b with
  | false => exact Ref.no
  | true => exact h
end

theorem RS.logR {t : St} {s : S} (h : RS t s) (id : Id) (lo m : Nat) : RS (M.logR t id lo m) (Ev.M.logR s id lo m) := by
  obtain ⟨tr, hh, n, r, w⟩ := t
  obtain ⟨tr', hh', n', r', w'⟩ := s
  obtain ⟨h1, h2, h3, h4, h5⟩ := h
  simp only at h1 h3 h4 h5
  subst h1 h3 h4 h5
  cases tr
  · exact ⟨rfl, h2, rfl, rfl, rfl⟩
  · exact ⟨rfl, h2, rfl, rfl, rfl⟩
theorem RS.logW {t : St} {s : S} (h : RS t s) (id : Id) (lo m : Nat) : RS (M.logW t id lo m) (Ev.M.logW s id lo m) := by
  obtain ⟨tr, hh, n, r, w⟩ := t
  obtain ⟨tr', hh', n', r', w'⟩ := s
  obtain ⟨h1, h2, h3, h4, h5⟩ := h
  simp only at h1 h3 h4 h5
  subst h1 h3 h4 h5
  cases tr
  · exact ⟨rfl, h2, rfl, rfl, rfl⟩
  · exact ⟨rfl, h2, rfl, rfl, rfl⟩
theorem RS.heap {t : St} {s : S} (h : RS t s) {n n' : Id} {t' : H6} {h' : Heap} (hn : n = n') (hr : RH t' h') : RS ⟨t.tr, t', n, t.r, t.w⟩ ⟨s.tr, h', n', s.r, s.w⟩ := ⟨h.tr, hr, hn, h.r, h.w⟩

theorem Ref.rd (id : Id) (lo m : Nat) : Ref Eq (M.rd id lo m) (Ev.M.rd id lo m) := by
  unfold M.rd Ev.M.rd
  cases Nat.beq m 0 with
  | true => exact Ref.pure rfl
  | false =>
    intro t s k hs hk
    dsimp only at hk ⊢
    cases hl : look id t.h with
    | none => rw [hl] at hk; simp at hk
    | some b =>
      rw [hl] at hk
      rw [hs.h.some hl]
      simp only [hs.h.len id b hl] at hk
      simp only [Bk.pl]
      cases hb : Nat.ble (lo + m) b.c.length with
      | false => rw [hb] at hk; simp at hk
      | true =>
        rw [hb] at hk
        exact ⟨_, _, _, _, rfl, rfl, hs.logR id lo m, hk⟩
theorem Ref.wr (id : Id) (lo : Nat) (l : List AV) : Ref Eq (M.wr id lo l) (Ev.M.wr id lo l) := by
  unfold M.wr Ev.M.wr
  cases l.isEmpty with
  | true => exact Ref.pure rfl
  | false =>
    intro t s k hs hk
    dsimp only at hk ⊢
    cases hl : look id t.h with
    | none => rw [hl] at hk; simp at hk
    | some b =>
      rw [hl] at hk
      rw [hs.h.some hl]
      simp only [hs.h.len id b hl] at hk
      simp only [Bk.pl]
      cases hb : Nat.ble (lo + l.length) b.c.length with
      | false => rw [hb] at hk; simp at hk
      | true =>
        rw [hb] at hk
        refine ⟨(), (), _, _, rfl, trivial, (hs.heap hs.n (hs.h.put id (some _) ?_)).logW id lo l.length, hk⟩
        intro k' e
        cases e
        have := Nat.le_of_ble_eq_true hb
        simp
        omega
theorem Ref.new (z : Zf) (l : List AV) : Ref Eq (M.new z l) (Ev.M.new z l) := by
  intro t s k hs hk
  unfold M.new at hk
  unfold Ev.M.new
  rw [hs.n] at hk
  cases hn : s.n.inc with
  | none => rw [hn] at hk; simp at hk
  | some n =>
    rw [hn] at hk
    refine ⟨_, _, _, _, rfl, rfl, (hs.heap rfl (hs.h.put s.n (some _) ?_)).logW _ _ _, hk⟩
    intro k' e
    cases e
    rfl
theorem Ref.over (id : Id) (lo m : Nat) (l : List AV) : Ref Eq (M.over id lo m l) (Ev.M.over id lo m l) := by
  intro t s k hs hk
  unfold M.over at hk
  unfold Ev.M.over
  cases hl : look id t.h with
  | none => rw [hl] at hk; simp at hk
  | some b =>
    rw [hl] at hk
    rw [hs.h.some hl]
    simp only [hs.h.len id b hl] at hk
    simp only [Bk.pl]
    cases hb : Nat.ble (lo + m) b.c.length with
    | false => rw [hb] at hk; simp at hk
    | true =>
      rw [hb] at hk
      rw [hs.n] at hk
      cases hn : s.n.inc with
      | none => rw [hn] at hk; simp at hk
      | some n =>
        rw [hn] at hk
        refine ⟨_, _, _, _, rfl, rfl, (((hs.heap rfl ((hs.h.put id none ?_).put s.n (some _) ?_)).logR _ _ _).logW _ _ _).logW _ _ _, hk⟩
        · intro k' e
          cases e
        · intro k' e
          cases e
          have := Nat.le_of_ble_eq_true hb
          simp
          omega
theorem Ref.shared (id : Id) : Ref Eq (M.shared id) (Ev.M.shared id) := by
  intro t s k hs hk
  unfold M.shared at hk
  unfold Ev.M.shared
  cases hl : look id t.h with
  | none => rw [hl] at hk; simp at hk
  | some b =>
    rw [hl] at hk
    rw [hs.h.some hl]
    simp only [hs.h.len id b hl] at hk
    exact ⟨_, _, _, _, rfl, rfl, hs.logR _ _ _, hk⟩
theorem Ref.ends (id : Id) : Ref Eq (M.ends id) (Ev.M.ends id) := by
  intro t s k hs hk
  unfold M.ends at hk
  unfold Ev.M.ends
  cases hl : look id t.h with
  | none => rw [hl] at hk; simp at hk
  | some b =>
    rw [hl] at hk
    rw [hs.h.some hl]
    simp only [hs.h.len id b hl] at hk
    exact ⟨_, _, _, _, rfl, rfl, hs.logR _ _ _, hk⟩
theorem Ref.apart {α β : Type} {R : α → β → Prop} {q : M α} {m : Ev.M β} (h : Ref R q m) : Ref (fun x y => R x.1 y.1 ∧ x.2 = y.2) (M.apart q) (Ev.M.apart m) := by
  intro t s k hs hk
  unfold M.apart at hk
  obtain ⟨a, b, t1, s1, h1, h2, h3, h4⟩ := h ⟨true, t.h, t.n, [], []⟩ ⟨true, s.h, s.n, [], []⟩ _ ⟨rfl, hs.h, hs.n, rfl, rfl⟩ hk
  obtain ⟨tr, hh, n, r, w⟩ := t
  obtain ⟨tr', hh', n', r', w'⟩ := s
  obtain ⟨e1, e2, e3, e4, e5⟩ := hs
  simp only at e1 e3 e4 e5
  subst e1 e3 e4 e5
  unfold Ev.M.apart
  simp only [h1]
  cases tr
  · exact ⟨(a, t1.r, t1.w), _, ⟨false, t1.h, t1.n, r, w⟩, _, rfl, ⟨h2, by rw [h3.r, h3.w]⟩, ⟨rfl, h3.h, h3.n, rfl, rfl⟩, h4⟩
  · exact ⟨(a, t1.r, t1.w), _, ⟨true, t1.h, t1.n, t1.r ++ r, t1.w ++ w⟩, _, rfl, ⟨h2, by rw [h3.r, h3.w]⟩, ⟨rfl, h3.h, h3.n, by rw [h3.r], by rw [h3.w]⟩, h4⟩
end Kq
end Ev
end Go.Proofs.Ytijnjnncgkhabaa
