/- DERIVED. A region that draws its order, whose last operations store into cells that it loads: the held condition is asked for only till one of those stores has come. -/
import Derived.OrdersHeld
import Derived.Deep.RegionHeld
namespace Go.Proofs.Ytebiebcpdjipjaa

/-- One of the tail's operations has come. -/
def dead (tail : List Nat) (listed : Array Bool) : Bool := tail.any fun j => listed.getD j false
/-- Each of the tail's operations waits for number i. -/
def waits (md : Region.Mode) (ops : Array Oper) (tail : List Nat) (i : Nat) : Bool :=
  tail.all fun j => (ops[j]?).elim true fun o => o.after.any fun e => Region.binds md e && e.on == i

section
variable {P : Program} {ops : Array Oper} {Q : Exit → Act → World → Prop} {md : Region.Mode} {S : World → Prop} {tail : List Nat}

def wpTill (P : Program) (md : Region.Mode) (ops : Array Oper) (Q : Exit → Act → World → Prop) (S : World → Prop) (tail : List Nat) : Nat → Array Bool → Act → World → Prop
  | 0, l, a, w => Region.ready md ops l = [] ∧ Q .normal a w
  | n + 1, l, a, w => (Region.ready md ops l = [] → Q .normal a w) ∧
      ∀ i ∈ Region.ready md ops l, wpOp P ops Q i (fun a' w' => (dead tail (l.setIfInBounds i true) = false → S w') ∧ wpTill P md ops Q S tail n (l.setIfInBounds i true) a' w') a w

theorem wpAny_of_till : ∀ (n : Nat) (l : Array Bool) (a : Act) (w : World), wpTill P md ops Q S tail n l a w → wpAny P md ops Q n l a w
  | 0, _, _, _, h => h
  | n + 1, _, _, _, h => ⟨h.1, fun i hi => wpOp_mono (fun _ _ h' => wpAny_of_till n _ _ _ h'.2) (h.2 i hi)⟩

theorem dead_set {l : Array Bool} {j : Nat} (h : dead tail l = false) (hj : j ∉ tail) : dead tail (l.setIfInBounds j true) = false := by
  unfold dead at *
  rw [List.any_eq_false] at *
  intro k hk
  have h1 := h k hk
  rw [getD_set_ne false (fun e => hj (by rw [e]; exact hk))]
  exact h1
/-- Who waits for a number that has not come cannot come. -/
theorem ready_waits {l : Array Bool} {i j : Nat} {o : Oper} (hj : j ∈ Region.ready md ops l) (ho : ops[j]? = some o) (hi : l.getD i true = false) : ∀ e ∈ o.after, Region.binds md e = true → e.on ≠ i := by
  intro e he hb heq
  obtain ⟨_, o', ho', hall⟩ := mem_ready.1 hj
  rw [ho] at ho'
  cases ho'
  have h1 := hall e he hb
  rw [heq] at h1
  rcases Nat.lt_or_ge i l.size with h' | h'
  · simp [h'] at hi h1
    rw [hi] at h1
    cases h1
  · simp [Array.getElem?_eq_none h'] at h1

theorem wpTill_first {i : Nat} {oi : Oper} {v : Value} (hi : ops[i]? = some oi) (hsel : ∀ (j : Nat) (o : Oper) cs b, ops[j]? = some o → o.op ≠ .select cs b)
    (hQ : ∀ c a w, Q (.panic c) (a.put oi.dst v) w → Q (.panic c) a w) (hw : waits md ops tail i = true) (hit : i ∉ tail) :
    ∀ (n : Nat) (l : Array Bool) (a : Act) (w : World), dead tail l = false →
      (∀ j oj, ops[j]? = some oj → j ≠ i → l.getD j true = false → (∀ e ∈ oj.after, Region.binds md e = true → e.on ≠ i) → oi.apart ops oj = true) →
      i ∈ Region.ready md ops l → YieldsIf P ops S oi v a → S w →
      wpTill P md ops Q S tail n (l.setIfInBounds i true) (a.put oi.dst v) w → wpTill P md ops Q S tail (n + 1) l a w := by
  intro n
  induction n with
  | zero =>
    intro l a w _ _ hr hy hS H
    refine ⟨fun h => (by rw [h] at hr; cases hr), fun j hj => ?_⟩
    by_cases e : j = i
    · subst e
      exact hy.wpOp hi hS ⟨fun _ => hS, H⟩
    · have := ready_mono hj e
      rw [H.1] at this
      cases this
  | succ n ih =>
    intro l a w hd hfree hr hy hS H
    refine ⟨fun h => (by rw [h] at hr; cases hr), fun j hj => ?_⟩
    by_cases e : j = i
    · subst e
      exact hy.wpOp hi hS ⟨fun _ => hS, H⟩
    · have hiu := (mem_ready.1 hr).1
      obtain ⟨hju, oj, hoj, _⟩ := mem_ready.1 hj
      have hno := ready_waits hj hoj hiu
      have hjt : j ∉ tail := by
        intro hjt
        have h1 := List.all_eq_true.1 hw j hjt
        rw [hoj] at h1
        obtain ⟨e, he, hb⟩ := Array.any_eq_true'.1 h1
        simp only [Bool.and_eq_true, beq_iff_eq] at hb
        exact hno e he hb.1 hb.2
      have hd1 := dead_set hd hjt
      have hd2 := dead_set hd1 hit
      have h2 := wpOp_putIf hoj (hfree j oj hoj e hju hno) (fun cs b => hsel i oi cs b hi) (fun cs b => hsel j oj cs b hoj) hQ hy (H.2 j (ready_mono hj e))
      refine wpOp_mono (fun a' w' h3 => ?_) h2
      obtain ⟨h4, h5, h6⟩ := h3
      rw [Array.setIfInBounds_comm _ _ (Ne.symm e)] at h5 h6
      refine ⟨fun _ => h5 hd2, ih (l.setIfInBounds j true) a' w' hd1 (fun k ok hk hki hun hnk => hfree k ok hk hki ?_ hnk) (ready_mono hr (Ne.symm e)) h4 (h5 hd2) h6⟩
      by_cases hjk : j = k
      · subst hjk
        exact hju
      · rw [getD_set_ne true hjk] at hun
        exact hun

theorem dead_out {l : Array Bool} {i : Nat} (hi : i ∉ tail) : dead tail (l.setIfInBounds i true) = dead tail l := by
  unfold dead
  rw [Bool.eq_iff_iff, List.any_eq_true, List.any_eq_true]
  constructor
  · rintro ⟨k, hk, h⟩
    rw [getD_set_ne false (fun e => hi (by rw [e]; exact hk))] at h
    exact ⟨k, hk, h⟩
  · rintro ⟨k, hk, h⟩
    refine ⟨k, hk, ?_⟩
    rw [getD_set_ne false (fun e => hi (by rw [e]; exact hk))]
    exact h
/-- What asks no world may be taken at any time. -/
theorem wpTill_first0 {i : Nat} {oi : Oper} {v : Value} (hi : ops[i]? = some oi) (hsel : ∀ (j : Nat) (o : Oper) cs b, ops[j]? = some o → o.op ≠ .select cs b)
    (hQ : ∀ c a w, Q (.panic c) (a.put oi.dst v) w → Q (.panic c) a w) (hit : i ∉ tail) :
    ∀ (n : Nat) (l : Array Bool) (a : Act) (w : World), (dead tail l = false → S w) →
      (∀ j oj, ops[j]? = some oj → j ≠ i → l.getD j true = false → (∀ e ∈ oj.after, Region.binds md e = true → e.on ≠ i) → oi.apart ops oj = true) →
      i ∈ Region.ready md ops l → YieldsIf P ops (fun _ => True) oi v a →
      wpTill P md ops Q S tail n (l.setIfInBounds i true) (a.put oi.dst v) w → wpTill P md ops Q S tail (n + 1) l a w := by
  intro n
  induction n with
  | zero =>
    intro l a w hS _ hr hy H
    refine ⟨fun h => (by rw [h] at hr; cases hr), fun j hj => ?_⟩
    by_cases e : j = i
    · subst e
      exact hy.wpOp hi trivial ⟨fun h => hS (by rw [← h, dead_out hit]), H⟩
    · have := ready_mono hj e
      rw [H.1] at this
      cases this
  | succ n ih =>
    intro l a w hS hfree hr hy H
    refine ⟨fun h => (by rw [h] at hr; cases hr), fun j hj => ?_⟩
    by_cases e : j = i
    · subst e
      exact hy.wpOp hi trivial ⟨fun h => hS (by rw [← h, dead_out hit]), H⟩
    · have hiu := (mem_ready.1 hr).1
      obtain ⟨hju, oj, hoj, _⟩ := mem_ready.1 hj
      have hno := ready_waits hj hoj hiu
      have h2 := wpOp_putIf hoj (hfree j oj hoj e hju hno) (fun cs b => hsel i oi cs b hi) (fun cs b => hsel j oj cs b hoj) hQ hy (H.2 j (ready_mono hj e))
      refine wpOp_mono (fun a' w' h3 => ?_) h2
      obtain ⟨h4, h5, h6⟩ := h3
      rw [Array.setIfInBounds_comm _ _ (Ne.symm e)] at h5 h6
      rw [dead_out hit] at h5
      refine ⟨h5, ih (l.setIfInBounds j true) a' w' h5 (fun k ok hk hki hun hnk => hfree k ok hk hki ?_ hnk) (ready_mono hr (Ne.symm e)) h4 h6⟩
      by_cases hjk : j = k
      · subst hjk
        exact hju
      · rw [getD_set_ne true hjk] at hun
        exact hun

/-! The moves of a walk. -/
theorem wpTill_take {i : Nat} {oi : Oper} {v : Value} {n : Nat} {l : Array Bool} {a : Act} {w : World} (hi : ops[i]? = some oi)
    (hs : (Region.noSelect ops && (Region.free md ops l i && ((Region.ready md ops l).contains i && (waits md ops tail i && (!tail.contains i && !dead tail l))))) = true)
    (hQ : ∀ c a w, Q (.panic c) (a.put oi.dst v) w → Q (.panic c) a w) (hy : YieldsIf P ops S oi v a) (hS : S w)
    (h : wpTill P md ops Q S tail n (l.setIfInBounds i true) (a.put oi.dst v) w) : wpTill P md ops Q S tail (n + 1) l a w := by
  simp only [Bool.and_eq_true, Bool.not_eq_true', List.contains_eq_mem, decide_eq_true_eq, decide_eq_false_iff_not] at hs
  exact wpTill_first hi (Region.noSelect_spec hs.1) hQ hs.2.2.2.1 hs.2.2.2.2.1 n l a w hs.2.2.2.2.2 (Region.free_spec hi hs.2.1) hs.2.2.1 hy hS h

theorem wpTill_take0 {i : Nat} {oi : Oper} {v : Value} {n : Nat} {l : Array Bool} {a : Act} {w : World} (hi : ops[i]? = some oi)
    (hs : (Region.noSelect ops && (Region.free md ops l i && ((Region.ready md ops l).contains i && !tail.contains i))) = true)
    (hQ : ∀ c a w, Q (.panic c) (a.put oi.dst v) w → Q (.panic c) a w) (hy : YieldsIf P ops (fun _ => True) oi v a) (hS : dead tail l = false → S w)
    (h : wpTill P md ops Q S tail n (l.setIfInBounds i true) (a.put oi.dst v) w) : wpTill P md ops Q S tail (n + 1) l a w := by
  simp only [Bool.and_eq_true, Bool.not_eq_true', List.contains_eq_mem, decide_eq_true_eq, decide_eq_false_iff_not] at hs
  exact wpTill_first0 hi (Region.noSelect_spec hs.1) hQ hs.2.2.2 n l a w hS (Region.free_spec hi hs.2.1) hs.2.2.1 hy h

/-- Each of the operations 'rs' comes next. -/
def AllTill (P : Program) (md : Region.Mode) (ops : Array Oper) (Q : Exit → Act → World → Prop) (S : World → Prop) (tail : List Nat) (n : Nat) (l : Array Bool) (a : Act) (w : World) (rs : List Nat) : Prop :=
  ∀ i ∈ rs, wpOp P ops Q i (fun a' w' => (dead tail (l.setIfInBounds i true) = false → S w') ∧ wpTill P md ops Q S tail n (l.setIfInBounds i true) a' w') a w
theorem AllTill.nil {n : Nat} {l : Array Bool} {a : Act} {w : World} : AllTill P md ops Q S tail n l a w [] := fun _ h => by cases h
/-- One before the tail: behind it S is shown anew. -/
theorem AllTill.cons {n : Nat} {l : Array Bool} {a : Act} {w : World} {i : Nat} {o : Oper} {rs : List Nat} (ho : ops[i]? = some o)
    (h : ∀ K' : Act → World → Prop, Shut (∀ a w, S w → (S w → wpTill P md ops Q S tail n (l.setIfInBounds i true) a w) → K' a w) → if Region.wanted o (yielded ops a.tmps) = true then Oper.wp P o a w K' Q else K' (a.put o.dst undef) w)
    (hs : AllTill P md ops Q S tail n l a w rs) : AllTill P md ops Q S tail n l a w (i :: rs) := fun j hj => by
  rcases List.mem_cons.1 hj with rfl | hj
  · exact wpOp_step ho (fun K' hK => h K' (fun a w hS hW => hK a w ⟨fun _ => hS, hW hS⟩))
  · exact hs j hj
/-- One of the tail, or behind it. -/
theorem AllTill.consD {n : Nat} {l : Array Bool} {a : Act} {w : World} {i : Nat} {o : Oper} {rs : List Nat} (ho : ops[i]? = some o) (hd : dead tail (l.setIfInBounds i true) = true)
    (h : ∀ K' : Act → World → Prop, Shut (∀ a w, wpTill P md ops Q S tail n (l.setIfInBounds i true) a w → K' a w) → if Region.wanted o (yielded ops a.tmps) = true then Oper.wp P o a w K' Q else K' (a.put o.dst undef) w)
    (hs : AllTill P md ops Q S tail n l a w rs) : AllTill P md ops Q S tail n l a w (i :: rs) := fun j hj => by
  rcases List.mem_cons.1 hj with rfl | hj
  · exact wpOp_step ho (fun K' hK => h K' (fun a w hW => hK a w ⟨fun e => absurd (hd.symm.trans e) (by decide), hW⟩))
  · exact hs j hj
theorem wpTill_ready {rs : List Nat} {n : Nat} {l : Array Bool} {a : Act} {w : World} (hr : Region.ready md ops l = rs) (hne : rs ≠ [])
    (h : AllTill P md ops Q S tail n l a w rs) : wpTill P md ops Q S tail (n + 1) l a w := ⟨fun h0 => absurd (hr ▸ h0) hne, hr ▸ h⟩
theorem wpTill_done {l : Array Bool} {a : Act} {w : World} (hr : Region.ready md ops l = []) (h : Q .normal a w) : ∀ n, wpTill P md ops Q S tail n l a w
  | 0 => ⟨hr, h⟩
  | _ + 1 => ⟨fun _ => h, by rw [hr]; simp⟩
theorem wp_region_till (tail : List Nat) {id : Nat} {a : Act} {w : World} (hm : P.follows .mixedOrders = true) (hS : S w.drew)
    (h : S w.drew → wpTill P .any ops Q S tail ops.size (Array.replicate ops.size false) a w.drew) : (Code.region id ops true).wp P Q a w :=
  wp_region_any hm (wpAny_of_till _ _ _ _ (h hS))
end
end Go.Proofs.Ytebiebcpdjipjaa
