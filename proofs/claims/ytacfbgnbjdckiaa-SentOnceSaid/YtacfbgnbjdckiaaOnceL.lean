/- DERIVED. Plain: what SentOnce asks: flags of what was put in, and of what came out; the numbers that are still in. -/
import Derived.Test.YtacfbgnbjdckiaaSentPart0
namespace Go.Proofs.Ytacfbgnbjdckiaa
open Go.RowKit

structure PI (pt ot : List Bool) (M : List Nat) : Prop where
  pl : pt.length = 60
  ol : ot.length = 60
  nd : M.Nodup
  lp : ∀ n : Nat, n ∈ M → pt[n]? = some true ∧ ot[n]? = some false
  cov : ∀ j : Nat, pt[j]? = some true → ot[j]? = some true ∨ j ∈ M
  op : ∀ j : Nat, ot[j]? = some true → pt[j]? = some true
theorem PI.lt {pt ot : List Bool} {M : List Nat} (h : PI pt ot M) {n : Nat} (hn : n ∈ M) : n < 60 := by
  have := (List.getElem?_eq_some_iff.1 (h.lp n hn).1).1
  rw [h.pl] at this
  exact this
theorem PI.take {pt ot : List Bool} {n : Nat} {M : List Nat} (h : PI pt ot (n :: M)) : PI pt (ot.set n true) M := by
  have hn := h.lt (List.mem_cons_self ..)
  have hol := h.ol
  obtain ⟨hnm, hnd⟩ := List.nodup_cons.1 h.nd
  refine ⟨h.pl, by rw [List.length_set]; exact hol, hnd, fun m hm => ?_, fun j hj => ?_, fun j hj => ?_⟩
  · obtain ⟨h1, h2⟩ := h.lp m (List.mem_cons_of_mem _ hm)
    refine ⟨h1, ?_⟩
    rw [List.getElem?_set_ne (show n ≠ m from fun e => hnm (by rw [e]; exact hm))]
    exact h2
  · by_cases e : n = j
    · subst e
      left
      rw [List.getElem?_set_self (by omega)]
    · rw [List.getElem?_set_ne e]
      rcases h.cov j hj with h1 | h1
      · exact .inl h1
      · rcases List.mem_cons.1 h1 with h2 | h2
        · exact absurd h2.symm e
        · exact .inr h2
  · by_cases e : n = j
    · subst e
      exact (h.lp n (List.mem_cons_self ..)).1
    · rw [List.getElem?_set_ne e] at hj
      exact h.op j hj
theorem PI.perm {pt ot : List Bool} {M N : List Nat} (h : PI pt ot M) (hp : N.Perm M) : PI pt ot N :=
  ⟨h.pl, h.ol, hp.nodup_iff.2 h.nd, fun n hn => h.lp n (hp.mem_iff.1 hn), fun j hj => (h.cov j hj).imp id hp.mem_iff.2, h.op⟩
theorem PI.add {pt ot : List Bool} {M : List Nat} (h : PI pt ot M) {i : Nat} (hi : pt[i]? = some false) : PI (pt.set i true) ot (M ++ [i]) := by
  have hil := (List.getElem?_eq_some_iff.1 hi).1
  have hpl := h.pl
  have hoi : ot[i]? = some false := by
    have : i < ot.length := by rw [h.ol]; omega
    cases hq : ot[i] with
    | false => rw [List.getElem?_eq_getElem this, hq]
    | true =>
      have := h.op i (by rw [List.getElem?_eq_getElem this, hq])
      rw [hi] at this
      cases this
  have him : ¬ i ∈ M := fun hm => by
    have := (h.lp i hm).1
    rw [hi] at this
    cases this
  refine ⟨by rw [List.length_set]; exact hpl, h.ol, ?_, fun n hn => ?_, fun j hj => ?_, fun j hj => ?_⟩
  · rw [List.nodup_append]
    refine ⟨h.nd, by simp, fun a ha b hb e => ?_⟩
    simp only [List.mem_singleton] at hb
    subst hb e
    exact him ha
  · rcases List.mem_append.1 hn with h1 | h1
    · obtain ⟨h2, h3⟩ := h.lp n h1
      refine ⟨?_, h3⟩
      rw [List.getElem?_set_ne (show i ≠ n from fun e => him (by rw [e]; exact h1))]
      exact h2
    · simp only [List.mem_singleton] at h1
      subst h1
      exact ⟨List.getElem?_set_self (by omega), hoi⟩
  · by_cases e : i = j
    · subst e
      right
      simp
    · rw [List.getElem?_set_ne e] at hj
      rcases h.cov j hj with h1 | h1
      · exact .inl h1
      · exact .inr (List.mem_append_left _ h1)
  · by_cases e : i = j
    · subst e
      exact List.getElem?_set_self (by omega)
    · rw [List.getElem?_set_ne e]
      exact h.op j hj
theorem set_same {pt : List Bool} {i : Nat} {x : Bool} (hi : pt[i]? = some x) : pt.set i x = pt := by
  apply List.ext_getElem?
  intro j
  by_cases e : i = j
  · subst e
    rw [hi, List.getElem?_set_self (List.getElem?_eq_some_iff.1 hi).1]
  · rw [List.getElem?_set_ne e]
theorem PI.done {pt ot : List Bool} (h : PI pt ot []) : pt = ot := by
  have hpl := h.pl
  have hol := h.ol
  apply List.ext_getElem?
  intro j
  by_cases hj : j < 60
  · have h1 : j < pt.length := by omega
    have h2 : j < ot.length := by omega
    have h3 := h.cov j
    have h4 := h.op j
    rw [List.getElem?_eq_getElem h1, List.getElem?_eq_getElem h2] at *
    cases hp : pt[j] <;> cases ho : ot[j] <;> simp_all
  · rw [List.getElem?_eq_none (by omega), List.getElem?_eq_none (by omega)]
theorem PI.start : PI (List.replicate 60 false) (List.replicate 60 false) [] := by
  refine ⟨by simp, by simp, by simp, by simp, fun j hj => ?_, fun j hj => ?_⟩
  · rw [List.getElem?_replicate] at hj
    split at hj <;> simp at hj
  · rw [List.getElem?_replicate] at hj
    split at hj <;> simp at hj
/-- What Ack tells, and what it leaves, is all that was there. -/
theorem acks_perm (s : LS) (rs : List Rg) (top : Nat) : ((s.got rs ++ s.lost rs top).map (·.n) ++ (s.acks rs top).L.map (·.n)).Perm (s.L.map (·.n)) := by
  rw [← List.map_append]
  refine List.Perm.map _ ?_
  unfold LS.got LS.lost LS.acks
  rw [List.append_assoc]
  refine (List.Perm.append_left _ ?_).trans (List.filter_append_perm (fun p : Pk => rs.any (hasP p.n)) s.L)
  exact List.filter_append_perm (fun p : Pk => decide (p.n + 3 ≤ max s.ak (top - 1))) _
/-- Behind i calls of Add. -/
structure OI (s : LS) (i : Nat) (pt ot : List Bool) : Prop where
  ok : s.Ok
  nx : s.nx = i
  pf : ∀ j : Nat, i ≤ j → j < 60 → pt[j]? = some false
  z : ∀ p ∈ s.L, p.z = 0
  pi : PI pt ot (s.L.map (·.n))
  len : s.L.length ≤ i
theorem OI.start : OI LS.zero 0 (List.replicate 60 false) (List.replicate 60 false) :=
  ⟨LS.zero_ok, rfl, fun j _ hj => by rw [List.getElem?_replicate, if_pos hj], by simp [LS.zero], PI.start, by simp [LS.zero]⟩
theorem OI.add {s : LS} {i : Nat} {pt ot : List Bool} (h : OI s i pt ot) (hi : i < 60) : OI (s.puts ⟨i, 0, 0, true, .slice none 0 0⟩) (i + 1) (pt.set i true) ot := by
  have hp := h.pf i (Nat.le_refl _) hi
  have ok := h.ok
  have hnx := h.nx
  have hln := h.len
  refine ⟨⟨?_, ?_, ok.ak, fun p hp => ?_, fun p hp => ?_, fun p hp => ?_⟩, rfl, fun j h1 h2 => ?_, fun p hp => ?_, ?_, ?_⟩
  · show (s.L ++ _).length ≤ 64
    simp
    omega
  · show i + 1 ≤ _
    omega
  · show p.n < i + 1
    rcases List.mem_append.1 hp with q | q
    · have := ok.num p q
      omega
    · simp only [List.mem_singleton] at q
      subst q
      show i < i + 1
      omega
  · rcases List.mem_append.1 hp with q | q
    · exact ok.z p q
    · simp only [List.mem_singleton] at q
      subst q
      exact ⟨by show (0 : Int) ≤ 0; omega, by show (0 : Int) ≤ 512; omega⟩
  · rcases List.mem_append.1 hp with q | q
    · exact ok.t p q
    · simp only [List.mem_singleton] at q
      subst q
      exact ⟨by show -9223372036854775808 ≤ (0 : Int); omega, by show (0 : Int) ≤ 9223372036854775807; omega⟩
  · rw [List.getElem?_set_ne (by omega)]
    exact h.pf j (by omega) h2
  · rcases List.mem_append.1 hp with q | q
    · exact h.z p q
    · simp only [List.mem_singleton] at q
      subst q
      rfl
  · have := h.pi.add hp
    simpa [LS.puts] using this
  · show (s.L ++ _).length ≤ i + 1
    simp
    omega
theorem OI.skip {s : LS} {i : Nat} {pt ot : List Bool} (h : OI s i pt ot) (hi : i < 60) : OI (s.skips i) (i + 1) (pt.set i false) ot := by
  have hp := h.pf i (Nat.le_refl _) hi
  have ok := h.ok
  have hnx := h.nx
  rw [set_same hp]
  exact ⟨⟨ok.len, by show i + 1 ≤ _; omega, ok.ak, fun p hp => by show p.n < i + 1; have := ok.num p hp; omega, ok.z, ok.t⟩, rfl, fun j h1 h2 => h.pf j (by omega) h2, h.z, h.pi, by show s.L.length ≤ i + 1; have := h.len; omega⟩
/-- Behind Ack: what was told is still to be looked at. -/
structure OM (s : LS) (i : Nat) (pt ot : List Bool) (Q : List Pk) : Prop where
  ok : s.Ok
  nx : s.nx = i
  pf : ∀ j : Nat, i ≤ j → j < 60 → pt[j]? = some false
  z : ∀ p ∈ s.L, p.z = 0
  pi : PI pt ot (Q.map (·.n) ++ s.L.map (·.n))
  len : s.L.length ≤ i
  qn : ∀ p ∈ Q, p.n < i
theorem OI.told {s : LS} {i : Nat} {pt ot : List Bool} (h : OI s i pt ot) (rs : List Rg) (top : Nat) (ht : top ≤ s.nx) : OM (s.acks rs top) i pt ot (s.got rs ++ s.lost rs top) := by
  have ok := h.ok
  have hsub : ∀ p ∈ (s.acks rs top).L, p ∈ s.L := fun p hp => (List.mem_filter.1 (List.mem_filter.1 hp).1).1
  have hln : (s.acks rs top).L.length ≤ s.L.length := Nat.le_trans (List.length_filter_le _ _) (List.length_filter_le _ _)
  have hnx := ok.nx
  have hak := ok.ak
  refine ⟨⟨Nat.le_trans hln ok.len, ok.nx, ?_, fun p hp => ok.num p (hsub p hp), fun p hp => ok.z p (hsub p hp), fun p hp => ok.t p (hsub p hp)⟩, h.nx, h.pf, fun p hp => h.z p (hsub p hp), h.pi.perm (acks_perm s rs top), Nat.le_trans hln h.len, fun p hp => ?_⟩
  · show max s.ak (top - 1) ≤ _
    omega
  · have hm : p ∈ s.L := by
      rcases List.mem_append.1 hp with q | q
      · exact (List.mem_filter.1 q).1
      · exact (List.mem_filter.1 (List.mem_filter.1 q).1).1
    have := ok.num p hm
    have := h.nx
    omega
theorem OI.none {s : LS} {i : Nat} {pt ot : List Bool} (h : OI s i pt ot) : OM s i pt ot [] := ⟨h.ok, h.nx, h.pf, h.z, by simpa using h.pi, h.len, by simp⟩
theorem OM.all {s : LS} {i : Nat} {pt ot : List Bool} (h : OM s i pt ot []) : OI s i pt ot := ⟨h.ok, h.nx, h.pf, h.z, by simpa using h.pi, h.len⟩
theorem OM.take {s : LS} {i : Nat} {pt ot : List Bool} {p : Pk} {Q : List Pk} (h : OM s i pt ot (p :: Q)) : OM s i pt (ot.set p.n true) Q ∧ pt[p.n]? = some true ∧ ot[p.n]? = some false ∧ p.n < i ∧ p.n < 60 := by
  have hpi : PI pt ot (p.n :: (Q.map (·.n) ++ s.L.map (·.n))) := by simpa using h.pi
  refine ⟨⟨h.ok, h.nx, h.pf, h.z, hpi.take, h.len, fun q hq => h.qn q (List.mem_cons_of_mem _ hq)⟩, (hpi.lp _ (List.mem_cons_self ..)).1, (hpi.lp _ (List.mem_cons_self ..)).2, h.qn p (List.mem_cons_self ..), hpi.lt (List.mem_cons_self ..)⟩
/-- At the end all is taken out. -/
theorem OI.clear {s : LS} {i : Nat} {pt ot : List Bool} (h : OI s i pt ot) : OM { s with L := [] } i pt ot s.L := by
  have ok := h.ok
  refine ⟨⟨by simp, ok.nx, ok.ak, by simp, by simp, by simp⟩, h.nx, h.pf, by simp, by simpa using h.pi, by simp, fun p hp => by have := ok.num p hp; have := h.nx; omega⟩
end Go.Proofs.Ytacfbgnbjdckiaa
