/- DERIVED. Walk of narthexlaw18's StreamsHeld (printed by mkhdw.py). -/
import Derived.Test.YtnneoeimgbemfaaGreatQH10
import Derived.Test.YtnneoeimgbemfaaGreatQH17
import Derived.Test.YtnneoeimgbemfaaGreatQH25
import Derived.Test.YtnneoeimgbemfaaGreatQH26
import Derived.Test.YtnneoeimgbemfaaGreatQH27
import Derived.Test.YtnneoeimgbemfaaGreatQH28
set_option linter.all false
namespace Go.Proofs.YtnneoeimgbemfaaGreat
open Go.RowKit

def encW (v : Value) : List Value := [v]
theorem encW_len (v : Value) : (encW v).length = 1 := rfl
def encJ (n : Int) : List Value := [.int .i64 n]
theorem encJ_len (n : Int) : (encJ n).length = 1 := rfl
theorem hd_next (p : Nat) (L d : List Nat) (lab : Nat → Lab) (a b : Nat) (w : World) (h : StAt w p (hA (L ++ d) L.length L.length) lab a b) (hL : L.length ≤ 2000) (hd : d.length ≤ 60) (hby : Bys (L ++ d)) :
    Calls Tryz.prog 8 #[.pointer (some ⟨p, 0, none⟩), .int .i64 100] w fun e w' =>
      (d.length = 0 ∧ e = .returned (.tuple #[.agg (encF zeroF).toArray, .bool false]) ∧ ∃ lab', StAt w' p (hA (L ++ d) L.length L.length) lab' a b ∧ Went (fun k => lab k ≠ .out) (fun k => lab' k ≠ .out) w w') ∨
      (0 < d.length ∧ ∃ (oa : Option Addr) (cv : Nat), e = .returned (.tuple #[.agg (encF (strF 0 L.length (.slice oa d.length cv) false)).toArray, .bool true]) ∧
        (∃ og, SlG encB 5 w' (.slice oa d.length cv) og d ∧ ∀ g, og = some g → w.heap.size ≤ g) ∧ ∃ lab', StAt w' p (hA (L ++ d) L.length (L.length + d.length)) lab' a b ∧ Went (fun k => lab k ≠ .out) (fun k => lab' k ≠ .out) w w') := by
  have hall := hA_all (L ++ d) L.length L.length
  have hnx := hS_nx L d hL hd
  refine (tnext_any p _ lab a b 100 w h (by show rT0.mine.md ≤ _; rw [rT0_facts.1]; omega) (by show rT0.limit ≤ _; rw [rT0_facts.2.1]; omega) (by omega) (by omega) ?_ ?_).mono ?_
  · intro x hx
    rw [hall, List.mem_singleton] at hx
    subst hx
    intro r fp w1 hr
    exact rnext_max r _ fp 100 w1 hr (fun q => by have := q.1; cases this) (by omega) (by omega)
  · intro x hx
    rw [hall, List.mem_singleton] at hx
    subst hx
    exact ⟨hS_gj L d hL hd hby, fun _ q => by cases q⟩
  · intro e w' hp
    unfold NxPost at hp
    rw [hA_cred, hall] at hp
    rcases hp with hp | hp | hp
    · exact absurd hp.1 (by simp)
    · obtain ⟨_, j, x, hx, hr, _⟩ := hp
      exfalso
      have hj : j = 0 := by
        have q := (List.getElem?_eq_some_iff.1 hx).1
        simp at q
        exact q
      subst hj
      cases hx
      rw [hA_rcv] at hr
      cases hr
    · obtain ⟨_, _, hp⟩ := hp
      rw [hA_more] at hp
      have h0 : ∀ k : Nat, ([(true, 0, hH (L ++ d) L.length L.length)] : List (Bool × Nat × H1))[(firstOf (hA (L ++ d) L.length L.length) [(true, 0, hH (L ++ d) L.length L.length)].length + k) % [(true, 0, hH (L ++ d) L.length L.length)].length]? = some (true, 0, hH (L ++ d) L.length L.length) := fun k => by
        rw [show ([(true, 0, hH (L ++ d) L.length L.length)] : List (Bool × Nat × H1)).length = 1 from rfl, Nat.mod_one]
        rfl
      rcases hp with ⟨m, x, v, hml, hx, hxo, hno, he, ⟨og, hsl, hog⟩, lab', hs, hw⟩ | ⟨hno, he, lab', hs, hw⟩
      · rw [h0] at hx
        cases hx
        simp only at he hs hsl hxo
        have e1 : (hH (L ++ d) L.length L.length).s = hS (L ++ d) L.length L.length := rfl
        rw [e1, hnx] at he hs hsl hxo
        by_cases hz : d.length = 0
        · rw [if_pos hz] at hxo
          cases hxo
        · rw [if_neg hz] at he hs hsl hxo
          right
          have hdat : (NF.piece L.length d.length false).data (hS (L ++ d) L.length L.length).os.B = d := by
            show ((L ++ d).drop L.length).take d.length = d
            rw [List.drop_left, List.take_length]
          rw [hdat] at hsl
          obtain ⟨oa, cv, rfl, _, _⟩ := hsl.shape
          refine ⟨by omega, oa, cv, he, ⟨og, hsl, hog⟩, lab', ?_, hw⟩
          have e2 : hA (L ++ d) L.length (L.length + d.length) = { (hA (L ++ d) L.length L.length).put true 0 ⟨0, hS (L ++ d) L.length (L.length + d.length), RS.new 0 rT0.mine.msd⟩ with last := 0, told := true } := by
            unfold hA ST.put
            rw [decide_eq_true (show 0 < L.length + d.length by omega)]
            rfl
          rw [e2]
          exact hs
      · left
        have hz : d.length = 0 := by
          have q := hno 0 _ (by simp) (h0 0)
          simp only at q
          have e1 : (hH (L ++ d) L.length L.length).s = hS (L ++ d) L.length L.length := rfl
          rw [e1, hnx] at q
          by_cases hz : d.length = 0
          · exact hz
          · rw [if_neg hz] at q
            cases q
        exact ⟨hz, he, lab', hs, hw⟩
/-- Both sets, a frame in a box. -/
def PG (W w : World) (za zb p q : Nat) (csa csb : Array Value) (t u : ST) (z : Nat) (F : Fr) (D : Option (List Nat)) : Prop := ∃ lab a b lab2 a2 b2, StAt w p t lab a b ∧ StAt w q u lab2 a2 b2 ∧ (∀ k, lab k ≠ .out → lab2 k = .out) ∧ (∀ k, lab k ≠ .out → W.heap.size ≤ k) ∧ (∀ k, lab2 k ≠ .out → W.heap.size ≤ k) ∧ Below W.heap.size W w ∧
  (w.heap[za]? = some (.cells csa 37 (0, 0)) ∧ w.heap[zb]? = some (.cells csb 37 (0, 0)) ∧ lab za = .out ∧ lab2 za = .out ∧ lab zb = .out ∧ lab2 zb = .out ∧ W.heap.size ≤ za ∧ W.heap.size ≤ zb) ∧
  (w.heap[z]? = some (.cells (encF F).toArray 46 (0, 0)) ∧ lab z = .out ∧ lab2 z = .out) ∧ (∀ d, D = some d → VwA encB (fun k => lab2 k ≠ .out) w F.vd d)
theorem PG.pb {W w : World} {za zb p q : Nat} {csa csb : Array Value} {t u : ST} {z : Nat} {F : Fr} {D : Option (List Nat)} (h : PG W w za zb p q csa csb t u z F D) : PB W w za zb p q csa csb t u := by
  obtain ⟨lab, a, b, lab2, a2, b2, h1, h2, h3, h4, h5, h6, ⟨h7, h8, h9, h10, h11, h12, h13, h14⟩, _⟩ := h
  exact ⟨lab, a, b, lab2, a2, b2, h1, h2, h3, h4, h5, h6, h7, h8, h9, h10, h11, h12, h13, h14⟩
theorem PG.box {W w : World} {za zb p q : Nat} {csa csb : Array Value} {t u : ST} {z : Nat} {F : Fr} {D : Option (List Nat)} (h : PG W w za zb p q csa csb t u z F D) : w.heap[z]? = some (.cells (encF F).toArray 46 (0, 0)) := by
  obtain ⟨lab, a, b, lab2, a2, b2, _, _, _, _, _, _, _, h, _⟩ := h
  exact h.1
theorem PG.later {W w w' : World} {za zb p q : Nat} {csa csb : Array Value} {t u : ST} {z : Nat} {F : Fr} {D : Option (List Nat)} (h : PG W w za zb p q csa csb t u z F D) (hb : Below w.heap.size w w') : PG W w' za zb p q csa csb t u z F D := by
  obtain ⟨lab, a, b, lab2, a2, b2, h1, h2, h3, h4, h5, h6, ⟨h7, h8, h9⟩, ⟨h10, h11⟩, h12⟩ := h
  exact ⟨lab, a, b, lab2, a2, b2, h1.below hb, h2.below hb, h3, h4, h5, below_call h6 h6.size hb, ⟨below_keeps hb h7 (heap_lt h7), below_keeps hb h8 (heap_lt h8), h9⟩, ⟨below_keeps hb h10 (heap_lt h10), h11⟩, fun d hd => (h12 d hd).below hb⟩
/-- The other one takes the frame. -/
theorem PG.openB {W w : World} {za zb p q : Nat} {csa csb : Array Value} {t u : ST} {z : Nat} {F : Fr} {D : Option (List Nat)} (h : PG W w za zb p q csa csb t u z F D) : ∃ lab2 a2 b2, StAt w q u lab2 a2 b2 ∧ (∀ d, D = some d → VwA encB (fun k => lab2 k ≠ .out) w F.vd d) ∧
    ∀ w' u', (∃ lab', StAt w' q u' lab' a2 b2 ∧ Went (fun k => lab2 k ≠ .out) (fun k => lab' k ≠ .out) w w') → PG W w' za zb p q csa csb t u' z F none := by
  obtain ⟨lab, a, b, lab2, a2, b2, h1, h2, h3, h4, h5, h6, ⟨h7, h8, h9, h10, h11, h12, h13, h14⟩, ⟨h15, h16, h17⟩, h18⟩ := h
  refine ⟨lab2, a2, b2, h2, h18, fun w' u' ⟨lab', q1, q2⟩ => ?_⟩
  obtain ⟨r1, r2⟩ := went_mine h5 h6 q2
  refine ⟨lab, a, b, lab', a2, b2, h1.keeps q2.upd (fun k hk => ?_), q1, fun k hk => ?_, h4, r1, r2, ⟨q2.upd.keeps h7 (fun q => q h10), q2.upd.keeps h8 (fun q => q h12), h9, out_went q2 h10 (heap_lt h7), h11, out_went q2 h12 (heap_lt h8), h13, h14⟩, ⟨q2.upd.keeps h15 (fun q => q h17), h16, out_went q2 h17 (heap_lt h15)⟩, fun d hd => by cases hd⟩
  · cases hq : lab k with
    | out => rfl
    | _ => exact absurd (h3 k (by rw [hq]; simp)) hk
  · exact out_went q2 (h3 k hk) (h1.lt k hk)
/-- The first one hears of it. -/
theorem PG.openA {W w : World} {za zb p q : Nat} {csa csb : Array Value} {t u : ST} {z : Nat} {F : Fr} (h : PG W w za zb p q csa csb t u z F none) : ∃ lab a b, StAt w p t lab a b ∧
    ∀ w' t', (∃ lab', StAt w' p t' lab' a b ∧ Went (fun k => lab k ≠ .out) (fun k => lab' k ≠ .out) w w') → PG W w' za zb p q csa csb t' u z F none := by
  obtain ⟨lab, a, b, lab2, a2, b2, h1, h2, h3, h4, h5, h6, ⟨h7, h8, h9, h10, h11, h12, h13, h14⟩, ⟨h15, h16, h17⟩, h18⟩ := h
  refine ⟨lab, a, b, h1, fun w' t' ⟨lab', q1, q2⟩ => ?_⟩
  obtain ⟨r1, r2⟩ := went_mine h4 h6 q2
  refine ⟨lab', a, b, lab2, a2, b2, q1, h2.keeps q2.upd (fun k hk => h3 k hk), fun k hk => ?_, r1, h5, r2, ⟨q2.upd.keeps h7 (fun q => q h9), q2.upd.keeps h8 (fun q => q h11), out_went q2 h9 (heap_lt h7), h10, out_went q2 h11 (heap_lt h8), h12, h13, h14⟩, ⟨q2.upd.keeps h15 (fun q => q h16), out_went q2 h16 (heap_lt h15), h17⟩, fun d hd => by cases hd⟩
  cases hq : lab2 k with
  | out => rfl
  | _ =>
    rcases q2.new k hk with e | e
    · rw [h3 k e] at hq
      cases hq
    · have := h2.lt k (by rw [hq]; simp)
      omega
/-- What Next told lies in a box. -/
theorem PB.goF {W w : World} {za zb p q : Nat} {csa csb : Array Value} {t u : ST} (h : PB W w za zb p q csa csb t u) : ∃ lab a b, StAt w p t lab a b ∧
    (∀ w' t', (∃ lab', StAt w' p t' lab' a b ∧ Went (fun k => lab k ≠ .out) (fun k => lab' k ≠ .out) w w') → PB W w' za zb p q csa csb t' u) ∧
    ∀ w' t' F d, (∃ lab', StAt w' p t' lab' a b ∧ Went (fun k => lab k ≠ .out) (fun k => lab' k ≠ .out) w w') → (∃ og, SlG encB 5 w' F.vd og d ∧ ∀ g, og = some g → w.heap.size ≤ g) →
      PG W ((w'.alloc (.cells (encF zeroF).toArray 46)).setRow w'.heap.size (encF F).toArray) za zb p q csa csb t' u w'.heap.size F (some d) := by
  obtain ⟨lab, a, b, lab2, a2, b2, h1, h2, h3, h4, h5, h6, h7, h8, h9, h10, h11, h12, h13, h14⟩ := h
  refine ⟨lab, a, b, h1, fun w' t' ⟨lab', q1, q2⟩ => ?_, fun w' t' F d ⟨lab', q1, q2⟩ ⟨og, hsl, hog⟩ => ?_⟩
  · obtain ⟨r1, r2⟩ := went_mine h4 h6 q2
    refine ⟨lab', a, b, lab2, a2, b2, q1, h2.keeps q2.upd (fun k hk => h3 k hk), fun k hk => ?_, r1, h5, r2, q2.upd.keeps h7 (fun q => q h9), q2.upd.keeps h8 (fun q => q h11), out_went q2 h9 (heap_lt h7), h10, out_went q2 h11 (heap_lt h8), h12, h13, h14⟩
    rcases q2.new k hk with e | e
    · exact h3 k e
    · cases hq : lab2 k with
      | out => rfl
      | _ =>
        have := h2.lt k (by rw [hq]; simp)
        have e : w.heap.size ≤ k := e
        omega
  obtain ⟨r1, r2⟩ := went_mine h4 h6 q2
  have hb : Below w'.heap.size w' ((w'.alloc (.cells (encF zeroF).toArray 46)).setRow w'.heap.size (encF F).toArray) := setRow_belowC ((Below.refl _ _).alloc (Nat.le_refl _) _) (Nat.le_refl _)
  have k2 := h2.keeps q2.upd (fun k hk => h3 k hk)
  have hz : ∀ (l : Nat → Lab), (∀ k, l k ≠ .out → k < w'.heap.size) → l w'.heap.size = .out := fun l hl => by
    cases hq : l w'.heap.size with
    | out => rfl
    | _ => have := hl w'.heap.size (by rw [hq]; simp); omega
  have k7 := q2.upd.keeps h7 (fun q => q h9)
  have k8 := q2.upd.keeps h8 (fun q => q h11)
  refine ⟨lab', a, b, lab2, a2, b2, q1.below hb, k2.below hb, fun k hk => ?_, r1, h5, below_call r2 r2.size hb, ⟨below_keeps hb k7 (heap_lt k7), below_keeps hb k8 (heap_lt k8), out_went q2 h9 (heap_lt h7), h10, out_went q2 h11 (heap_lt h8), h12, h13, h14⟩, ⟨setRow_heap _ _ _ _ _ _ (alloc_at w' _), hz lab' q1.lt, hz lab2 k2.lt⟩, fun d' hd' => ?_⟩
  · cases hq : lab2 k with
    | out => rfl
    | _ =>
      rcases q2.new k hk with e | e
      · rw [h3 k e] at hq
        cases hq
      · have := h2.lt k (by rw [hq]; simp)
        omega
  · cases hd'
    refine VwA.below ?_ hb
    obtain ⟨oa, cap, e1, e2, e3, e4⟩ := hsl.vw
    refine ⟨oa, cap, e1, e2, e3, ?_⟩
    rcases hsl with ⟨_, _, e5⟩ | ⟨g, zs, e5, e6, _⟩
    · exact .inl (by first | exact e5 | assumption)
    · rcases e4 with e4 | ⟨b9, off, e7, e8, e9⟩
      · exact .inl e4
      · refine .inr ⟨b9, off, e7, e8, fun hk => ?_, e9⟩
        have hg := hog g e5
        have := h2.lt b9 hk
        rw [e1] at e6
        cases e6
        cases e7
        omega
theorem PG.a0 {W w : World} {za zb p q : Nat} {csa csb : Array Value} {t u : ST} {z : Nat} {F : Fr} {D : Option (List Nat)} (h : PG W w za zb p q csa csb t u z F D) (ha : csa[0]? = some (.pointer (some ⟨p, 0, none⟩))) : w.cell? ⟨za, 0, none⟩ = some (.pointer (some ⟨p, 0, none⟩)) := by
  obtain ⟨_, _, _, _, _, _, _, _, _, _, _, _, ⟨h, _⟩, _⟩ := h
  exact (cell_at h 0).trans ha
theorem PG.b0 {W w : World} {za zb p q : Nat} {csa csb : Array Value} {t u : ST} {z : Nat} {F : Fr} {D : Option (List Nat)} (h : PG W w za zb p q csa csb t u z F D) (hb : csb[0]? = some (.pointer (some ⟨q, 0, none⟩))) : w.cell? ⟨zb, 0, none⟩ = some (.pointer (some ⟨q, 0, none⟩)) := by
  obtain ⟨_, _, _, _, _, _, _, _, _, _, _, _, ⟨_, h, _⟩, _⟩ := h
  exact (cell_at h 0).trans hb
theorem hd_read (q : Nat) (u : ST) (lab : Nat → Lab) (a b N T : Nat) (m : Int) (w : World) (h : StAt w q u lab a b) (hu : HU u N T) (hm : -9223372036854775808 ≤ m) (hm2 : m ≤ 9223372036854775807) :
    Calls Tryz.prog 11 #[.pointer (some ⟨q, 0, none⟩), .int .u64 (0 : Nat), .int .i64 m] w fun e w' => ∃ (oa : Option Addr) (cap n : Nat) (la : Bool) (er : Int), e = .returned (.tuple #[.slice oa n cap, .bool la, .int .u64 0, .int .i64 er]) ∧ n ≤ N - T ∧
      ∃ u', HU u' N (T + n) ∧ ∃ lab', StAt w' q u' lab' a b ∧ Went (fun k => lab k ≠ .out) (fun k => lab' k ≠ .out) w w' := by
  rcases hu with ⟨h1, h2, rfl⟩ | ⟨h1, r, h2, rfl⟩
  · refine (tread_none q rU0 lab a b 0 m w h (by omega) rU0_find).mono ?_
    rintro e w' ⟨rfl, n, rfl⟩
    exact ⟨none, 0, 0, false, 22, rfl, by omega, rU0, .inl ⟨h1, by omega, rfl⟩, lab, h.drewN n, (Went.refl _ _).drewN n⟩
  · have hle : r.ib.num m ≤ N - T := by
      unfold IB.num
      rw [h2.rdy]
      omega
    refine (tread_some q (rUr r) lab a b 0 m (false, 0, ⟨0, hN, r⟩) (r.ib.num m) w h (by omega) (rUr_find r) (by show r.st ≤ 3; rw [h2.st]; omega) hm hm2 rfl).mono ?_
    rintro e w' ⟨oa, cap, rfl, _, lab', q1, q2⟩
    exact ⟨oa, cap, _, _, _, rfl, hle, rUr (r.tk (r.ib.num m)), .inr ⟨h1, _, h2.read _ hle, rfl⟩, lab', q1, q2⟩
theorem hd_heldA (p : Nat) (L : List Nat) (lab : Nat → Lab) (a b : Nat) (w : World) (h : StAt w p (hA L L.length L.length) lab a b) (hl : L.length ≤ 100000) :
    Calls Tryz.prog 13 #[.pointer (some ⟨p, 0, none⟩)] w fun e w' => e = .returned (.int .i64 0) ∧ Below w.heap.size w w' := by
  have hc : cntL (if L.length = 0 then [] else [(0, L.length)]) = L.length := cnt_one (one_norm _ (by omega)) (fun k => one_mem _ k)
  refine (theld_any p _ lab a b w (fun _ => 0) h ?_).mono ?_
  · intro x hx
    rw [hA_all, List.mem_singleton] at hx
    subst hx
    refine ⟨by show cntL (if L.length = 0 then [] else [(0, L.length)]) ≤ L.length; rw [hc]; exact Nat.le_refl _, .inr ⟨by show 1 < 5; omega, by omega, fun xs hx => ?_⟩⟩
    exact cnt_one (n := 0) hx.1 (fun k => (hx.2 k).trans (by show IB.came IB.zero k = _; simp [IB.came, IB.zero, gt]))
  · rintro e w' ⟨rfl, hb⟩
    refine ⟨?_, hb⟩
    rw [hA_all]
    have e : (hH L L.length L.length).s.held = 0 := by
      unfold SS.held
      have hst : ¬ 5 ≤ (hH L L.length L.length).s.st := by
        show ¬ 5 ≤ (if L.length = 0 then 1 else 2)
        split <;> omega
      rw [if_neg hst]
      show L.length - cntL (if L.length = 0 then [] else [(0, L.length)]) = 0
      rw [hc]
      omega
    show Ending.returned (.int .i64 ((((hH L L.length L.length).s.held + 0) + 0 : Nat) : Int)) = _
    rw [e]
    rfl
theorem hd_heldB (q : Nat) (u : ST) (lab : Nat → Lab) (a b N T : Nat) (w : World) (h : StAt w q u lab a b) (hu : HU u N T) (hn : N ≤ 100000) :
    Calls Tryz.prog 13 #[.pointer (some ⟨q, 0, none⟩)] w fun e w' => e = .returned (.int .i64 (N - T : Nat)) ∧ Below w.heap.size w w' := by
  rcases hu with ⟨h1, h2, rfl⟩ | ⟨h1, r, h2, rfl⟩
  · refine (theld_any q _ lab a b w (fun _ => 0) h (fun x hx => by rw [rU0_all] at hx; cases hx)).mono ?_
    rintro e w' ⟨rfl, hb⟩
    refine ⟨?_, hb⟩
    rw [rU0_all, h1]
    show Ending.returned (.int .i64 ((0 : Nat) : Int)) = _
    rw [Nat.zero_sub]
  · refine (theld_any q (rUr r) lab a b w (fun _ => N - T) h ?_).mono ?_
    · intro x hx
      rw [rUr_all, List.mem_singleton] at hx
      subst hx
      refine ⟨Nat.le_refl _, .inr ⟨by show r.st < 5; rw [h2.st]; omega, by omega, fun xs hx => ?_⟩⟩
      have := h2.held hx
      have := h2.le
      show cntL xs = r.ib.rd + (N - T)
      rw [h2.rd]
      omega
    · rintro e w' ⟨rfl, hb⟩
      refine ⟨?_, hb⟩
      rw [rUr_all]
      show Ending.returned (.int .i64 (((0 + (N - T)) + 0 : Nat) : Int)) = _
      rw [Nat.zero_add, Nat.add_zero]
theorem hA_sent (L : List Nat) (n sn : Nat) : (hA L n sn).sentN = sn := by
  unfold ST.sentN
  rw [hA_all]
  show sn + 0 = sn
  omega
/-- Between two rounds. -/
def HSt (W w : World) (za zb p q : Nat) (csa csb : Array Value) (N T : Nat) : Prop := ∃ L u, L.length = N ∧ Bys L ∧ PB W w za zb p q csa csb (hA L N N) u ∧ HU u N T
theorem strF_ok (N : Nat) (v : Value) (hN : N < 18446744073709551616) : FrOk (strF 0 N v false) := ⟨⟨by show (-9223372036854775808 : Int) ≤ 8; omega, by show (8 : Int) ≤ 9223372036854775807; omega⟩, by show 0 < _; omega, by show N < _; exact hN, by show 0 < _; omega, by show 0 < _; omega, by show 0 < _; omega⟩
set_option maxRecDepth 100000 in
set_option maxHeartbeats 8000000 in
theorem held_walk (vw vr : Value) (LL : List Value) (R : List Int) (w : World) (hw : Vw encW w w.heap.size vw LL) (hL : ∀ v ∈ LL, ∃ d, Vw encB w w.heap.size v d ∧ Bys d) (hr : Vw encN w w.heap.size vr R) (hR : ∀ x ∈ R, -9223372036854775808 ≤ x ∧ x ≤ 9223372036854775807) :
    Calls Tryz.prog 3 #[vw, vr] w fun e w' => e = .returned (.bool true) ∧ Below w.heap.size w w' := by
  obtain ⟨ow, capw, rfl, hcw1, hcw2⟩ := hw.shape
  obtain ⟨or_, capr, rfl, hcr1, hcr2⟩ := hr.shape
  have HVW := Lib.hid hw
  have HVR := Lib.hid hr
  have HLL := Lib.hid hL
  have HRR := Lib.hid hR
  generalize hnw : LL.length = nw at *
  generalize hnr : R.length = nr at *
  have HNW := Lib.hid hnw
  have HNR := Lib.hid hnr
  clear hw hr hL hR hnw hnr
  go_enter Tryz.func3, Tryz.ntmps3
  go_wp2_with fail
  refine (pair_any _).mono ?_
  rintro e w1 ⟨za, zb, p, q, csa, csb, rfl, ha0, hb0, hpb⟩
  have HP1 := Lib.hid hpb
  have a1 := hpb.a0 ha0
  clear hpb
  go_wp2_with fail
  obtain ⟨lab, a, b, hs, hgo⟩ := HP1.out.open
  have HG := Lib.hid hgo
  refine (tOpen_any p _ lab a b _ hs (by rw [rT0_facts.2.2.2.2.2.2.1]; show 0 < 1000; omega)).mono ?_
  rw [hA_open.2, hA_open.1]
  rintro e w2 ⟨rfl, hr⟩
  have HP2 := Lib.hid (show HSt w w2 za zb p q csa csb 0 0 from ⟨[], rU0, rfl, by unfold Bys; simp, HG.out _ _ hr, .inl ⟨rfl, rfl, rfl⟩⟩)
  clear hs hgo hr HG HP1 lab a b a1
  go_wp2_with fail
  go_loopw [9, 10, 11, 12] (fun v9 v10 v11 i wr => ∃ c N T : Nat, i = .int .i64 c ∧ v9 = .int .i64 N ∧ v10 = .int .i64 N ∧ v11 = .int .i64 T ∧ c ≤ 20 ∧ N ≤ 60 * c ∧ HSt w wr za zb p q csa csb N T) (fun _ _ _ i _ => 20 - (intOf i).toNat)
  case atStart => exact ⟨0, 0, 0, rfl, rfl, rfl, rfl, by omega, by omega, HP2.out⟩
  case round =>
    obtain ⟨c, N, T, rfl, rfl, rfl, rfl, hc, hN, hst⟩ := hrel
    have HP := Lib.hid hst
    clear hst HP2
    by_cases hgo : c < nw ∧ c < 20
    · as_aux_lemma =>
        obtain ⟨hlt, hlt2⟩ := hgo
        obtain ⟨L, u, hLN, hLb, hpb, hhu⟩ := HP.out
        obtain ⟨v, hv⟩ : ∃ v, LL[c]? = some v := ⟨_, List.getElem?_eq_getElem (by rw [HNW.out]; exact hlt)⟩
        obtain ⟨bw, ofw, rfl, hbw, hcw⟩ := HVW.out.el encW_len hv
        obtain ⟨dd, hd, hdb⟩ := HLL.out v (List.mem_of_getElem? hv)
        have hv0 : w.cell? ⟨bw, ofw + c * 1 + 0, none⟩ = some v := (hcw 0 (by omega)).trans rfl
        rw [Nat.mul_one, Nat.add_zero] at hv0
        have hv1 := cell_keep hpb.bd hbw hv0
        obtain ⟨od, nd, cd, rfl, hnd, hcd, hcd2, hfront⟩ := kcut_v hd 60 (by omega)
        obtain ⟨dn, hdn, hdn2, hdn3⟩ : ∃ dn, min nd 60 = dn ∧ dn ≤ 60 ∧ dn ≤ cd := ⟨_, rfl, by omega, by omega⟩
        obtain ⟨d, hD⟩ : ∃ d, dd.take 60 = d := ⟨_, rfl⟩
        have hdl : d.length = dn := by rw [← hD, List.length_take]; omega
        have hdB : Bys d := fun x hx => hdb x (by rw [← hD] at hx; exact List.mem_of_mem_take hx)
        rw [hdn, hD] at hfront
        have HDF := Lib.hid (hfront.below hpb.bd)
        have HDN := Lib.hid hdn
        have HDL := Lib.hid hdl
        have HDB := Lib.hid hdB
        have HLN := Lib.hid hLN
        have HLB := Lib.hid (show Bys (L ++ d) from fun x hx => (List.mem_append.1 hx).elim (hLb x) (hdB x))
        have HPB := Lib.hid hpb
        have HHU := Lib.hid hhu
        have a1 := hpb.a0 ha0
        have hsz := hpb.bd.size
        clear hv hcw hd hdb hfront hdn hD hdl hdB hnd hLN hLb hpb hhu hv0 HP
        go_wp2_with fail
        refine (kcut_q od nd cd 60 _ hcd hcd2 (by omega)).mono ?_
        rw [HDN.out]
        rintro e w' ⟨rfl, hw⟩
        obtain rfl := hw
        go_wp2_with fail
        obtain ⟨lab, a, b, hs, hgo⟩ := HPB.out.open
        have HG := Lib.hid hgo
        rw [← HLN.out] at hs
        have hcall := twrite_any p _ lab a b 0 (.slice od dn cd) d _ hs (by omega) (by exact HDF.out) hsz HDB.out (by rw [HDL.out]; omega) (fun x hx => by
          rw [hA_find] at hx
          cases hx
          have e : (hH L L.length L.length).s.os.B.length = L.length := rfl
          have e2 : (hH L L.length L.length).s.os.base = L.length := rfl
          rw [e, e2]
          have := HLN.out
          omega)
        rw [hA_wrR L _ (by rw [HDL.out]; omega), hA_wr L d (by rw [HDL.out]; omega), HDL.out, HLN.out] at hcall
        refine hcall.mono ?_
        clear hcall
        rintro e w3 ⟨rfl, hr⟩
        have HP3 := Lib.hid (show PB w w3 za zb p q csa csb (hA (L ++ d) N N) u from HG.out _ _ hr)
        have a3 := HP3.out.a0 ha0
        clear hs hgo hr HG HPB HDF lab a b a1 hv1
        obtain ⟨N2, hN2⟩ : ∃ N2, N + dn = N2 := ⟨_, rfl⟩
        have hadd : IntKind.i64.wrap ((N : Int) + (dn : Int)) = (N2 : Nat) := by rw [IntWalk.i64_in _ (by omega)]; omega
        have HN2 := Lib.hid hN2
        have hN2b : N2 ≤ 60 * (c + 1) := by omega
        have hLd : (L ++ d).length = N2 := by rw [List.length_append, HLN.out, HDL.out, hN2]
        have HLD := Lib.hid hLd
        clear hLd hN2
        go_upto_region 16 with fail
        go_cut [16, 17] (fun v16 v17 wx => ∃ (z : Nat) (okb : Bool), v16 = .pointer (some ⟨z, 0, none⟩) ∧ v17 = .bool okb ∧ ((dn = 0 ∧ okb = false ∧ PB w wx za zb p q csa csb (hA (L ++ d) N2 N2) u ∧ HU u N2 T) ∨
          (0 < dn ∧ okb = true ∧ ∃ (oa : Option Addr) (cv : Nat), PG w wx za zb p q csa csb (hA (L ++ d) N N2) u z (strF 0 N (.slice oa dn cv) false) (some d))))
        case first =>
          go_wp2_with fail
          obtain ⟨lab, a, b, hs, hgp, hgo⟩ := HP3.out.goF
          have HG := Lib.hid hgo
          have HGP := Lib.hid hgp
          have hcall := hd_next p L d lab a b _ (by rw [HLN.out]; exact hs) (by rw [HLN.out]; omega) (by rw [HDL.out]; omega) HLB.out
          rw [HLN.out, HDL.out, HN2.out] at hcall
          refine hcall.mono ?_
          clear hcall
          rintro e w4 (⟨h0, rfl, hr⟩ | ⟨h0, oa, cv, rfl, hsl, hr⟩)
          · have H0 := Lib.hid h0
            have HP4 := Lib.hid (show PB w w4 za zb p q csa csb (hA (L ++ d) N2 N2) u ∧ HU u N2 T from by
              have e2 : N2 = N := by have := HN2.out; omega
              rw [e2]
              exact ⟨HGP.out _ _ hr, HHU.out⟩)
            clear hs hgo hgp hr HG HGP h0
            go_wp2_with (refine wpList_store_row rfl 46 (.tmp 16) (.tmp 79) rfl _ _ rfl rfl 46 (encF zeroF).toArray (by exact alloc_at w4 _) (by rw [sizeF]; rfl) rfl (by simp [Value.oneCell', encF, zeroF]) ?_)
            go_meet
            case rel => exact ⟨_, false, rfl, rfl, .inl ⟨H0.out, rfl, HP4.out.1.later (setRow_belowC ((Below.refl _ _).alloc (Nat.le_refl _) _) (Nat.le_refl _)), HP4.out.2⟩⟩
          · have HG4 := Lib.hid (HG.out w4 _ (strF 0 N (.slice oa dn cv) false) d hr hsl)
            clear hs hgo hgp hr HG HGP hsl
            go_wp2_with (refine wpList_store_row rfl 46 (.tmp 16) (.tmp 79) rfl _ _ rfl rfl 46 (encF zeroF).toArray (by exact alloc_at w4 _) (by rw [sizeF]; rfl) rfl (by simp [Value.oneCell', encF, strF]) ?_)
            go_meet
            case rel => exact ⟨_, true, rfl, rfl, .inr ⟨h0, rfl, oa, cv, HG4.out⟩⟩
        case rest =>
          obtain ⟨z, okb, rfl, rfl, hor⟩ := hcut
          generalize wc = w5 at *
          have HOR := Lib.hid hor
          clear hor HP3 a3
          go_upto_if 81 with fail
          go_cut [10] (fun v10 wx => v10 = .int .i64 N2 ∧ ∃ u2, PB w wx za zb p q csa csb (hA (L ++ d) N2 N2) u2 ∧ HU u2 N2 T)
          case first =>
            rcases HOR.out with ⟨h0, rfl, hpb, hhu⟩ | ⟨h0, rfl, oa, cv, hpg⟩
            · have HNN : N2 = N := by have := HN2.out; omega
              have HF := Lib.hid (And.intro hpb hhu)
              have HN3 := Lib.hid HNN
              have hvn : (Value.int .i64 (N : Int)) = .int .i64 (N2 : Int) := by rw [HNN]
              have HVN := Lib.hid hvn
              clear hpb hhu h0 HNN hvn
              go_wp2_with fail
              go_meet
              case rel => exact ⟨HVN.out, u, HF.out.1, HF.out.2⟩
            · have HG5 := Lib.hid hpg
              have b5 := hpg.b0 hb0
              have hbox := hpg.box
              obtain ⟨hm1, hm2⟩ := HHU.out.on d (.slice oa dn cv) (by rw [HDL.out]; omega) (by rw [HDL.out]; omega) (by rw [HDL.out]; omega)
              rw [HDL.out] at hm1
              rw [HDL.out, HN2.out] at hm2
              have HON := Lib.hid (And.intro hm1 hm2)
              have HBOX := Lib.hid hbox
              clear hpg hm1 hm2 HOR hbox
              as_aux_lemma =>
                go_upto_region 18 with fail
                go_cut [88] (fun v wx => v = .bool false ∧ PG w wx za zb p q csa csb (hA (L ++ d) N N2) (u.onS (strF 0 N (.slice oa dn cv) false) d) z (strF 0 N (.slice oa dn cv) false) none)
                case first =>
                  have hbox := HBOX.out
                  refine wp_region_till (S := fun w' => w'.cell? ⟨zb, 0, none⟩ = some (.pointer (some ⟨q, 0, none⟩)) ∧ w'.heap[z]? = some (.cells (encF (strF 0 N (.slice oa dn cv) false)).toArray 46 (0, 0))) [5] (by kernel_rfl) (by exact ⟨b5, hbox⟩) (fun hHeld => ?_)
                  refine wpTill_take0 (i := 0) (oi := ⟨some 82, _, _, _, _, _⟩) (v := ?_) rfl (by kernel_rfl) (fun _ _ _ h => h) (Or.inl ⟨by rfl, ?_⟩) (fun _ => hHeld) ?_
                  rotate_left
                  · intro w hSw
                    (try dsimp only at hSw)
                    go_simp
                    try with_reducible rfl
                  try simp only [Act.put, List.setIfInBounds_toArray, List.set_cons_zero, List.set_cons_succ]
                  refine wpTill_take0 (i := 1) (oi := ⟨some 83, _, _, _, _, _⟩) (v := ?_) rfl (by kernel_rfl) (fun _ _ _ h => h) (Or.inl ⟨by rfl, ?_⟩) (fun _ => hHeld) ?_
                  rotate_left
                  · intro w hSw
                    (try dsimp only at hSw)
                    go_simp
                    try with_reducible rfl
                  try simp only [Act.put, List.setIfInBounds_toArray, List.set_cons_zero, List.set_cons_succ]
                  refine wpTill_take0 (i := 2) (oi := ⟨some 84, _, _, _, _, _⟩) (v := ?_) rfl (by kernel_rfl) (fun _ _ _ h => h) (Or.inl ⟨by rfl, ?_⟩) (fun _ => hHeld) ?_
                  rotate_left
                  · intro w hSw
                    (try dsimp only at hSw)
                    go_simp
                    try with_reducible rfl
                  try simp only [Act.put, List.setIfInBounds_toArray, List.set_cons_zero, List.set_cons_succ]
                  refine wpTill_take (i := 3) (oi := ⟨some 85, _, _, _, _, _⟩) (v := ?_) rfl (by kernel_rfl) (fun _ _ _ h => h) (Or.inl ⟨by rfl, ?_⟩) (by exact hHeld) ?_
                  rotate_left
                  · intro w hSw
                    (try dsimp only at hSw)
                    go_simp
                    try with_reducible rfl
                  try simp only [Act.put, List.setIfInBounds_toArray, List.set_cons_zero, List.set_cons_succ]
                  refine wpTill_take (i := 4) (oi := ⟨some 86, _, _, _, _, _⟩) (v := (.agg (encF (strF 0 N (.slice oa dn cv) false)).toArray)) rfl (by kernel_rfl) (fun _ _ _ h => h) (Or.inl ⟨by rfl, ?_⟩) (by exact hHeld) ?_
                  · intro w hSw
                    exact exec_load_row 46 (.tmp 16) rfl z rfl 46 _ (0, 0) _ hSw.2 Tryz.underlying46 rfl (by rw [sizeF]; rfl)
                  try simp only [Act.put, List.setIfInBounds_toArray, List.set_cons_zero, List.set_cons_succ]
                  refine wpTill_ready (rs := [5]) (by kernel_rfl) (by simp) ?_
                  refine AllTill.consD (o := ⟨some 87, _, _, _, _, _⟩) rfl (by kernel_rfl) (fun K hK => ?_) AllTill.nil
                  rw [if_pos (show Region.wanted _ _ = true from rfl)]
                  go_simp
                  go_at_call 9
                  obtain ⟨lab2, a2, b2, hs, hv, hgo⟩ := (HG5.out.later ((Below.refl _ _).drew : Below w5.heap.size w5 w5.drew)).openB
                  have HGO := Lib.hid hgo
                  have hcall := ton_str q u lab2 a2 b2 (strF 0 N (.slice oa dn cv) false) oa dn cv d _ hs (strF_ok N _ (by omega)) rfl (.inl rfl) (hv d rfl) HDB.out HDL.out (by omega) (by rw [HHU.out.ms]; omega) HHU.out.ol
                  rw [HON.out.1] at hcall
                  refine hcall.mono ?_
                  clear hcall
                  rintro e w6 ⟨rfl, hr⟩
                  have HG6 := Lib.hid (HGO.out _ _ hr)
                  clear hs hv hgo hr HGO
                  go_simp
                  refine hK.out _ _ ?_
                  clear hK K
                  try simp only [Act.put, List.setIfInBounds_toArray, List.set_cons_zero, List.set_cons_succ]
                  refine wpTill_take0 (i := 6) (oi := ⟨some 88, _, _, _, _, _⟩) (v := ?_) rfl (by kernel_rfl) (fun _ _ _ h => h) (Or.inl ⟨by rfl, ?_⟩) (fun h => Bool.noConfusion (h.symm.trans (show _ = true by kernel_rfl))) ?_
                  rotate_left
                  · intro w hSw
                    (try dsimp only at hSw)
                    go_simp
                    try with_reducible rfl
                  try simp only [Act.put, List.setIfInBounds_toArray, List.set_cons_zero, List.set_cons_succ]
                  refine wpTill_done (by kernel_rfl) ?_ _
                  go_wp2_with fail
                  go_meet
                  case rel => exact ⟨rfl, HG6.out⟩

                case rest =>
                  obtain ⟨rfl, hpg⟩ := hcut
                  generalize wc = w7 at *
                  have HG7 := Lib.hid hpg
                  have a7 := hpg.a0 ha0
                  have HBOX7 := Lib.hid hpg.box
                  clear hpg HG5 b5 HBOX
                  go_upto_region 20 with fail
                  go_cut [] (fun wx => PG w wx za zb p q csa csb (hA (L ++ d) N2 N2) (u.onS (strF 0 N (.slice oa dn cv) false) d) z (strF 0 N (.slice oa dn cv) false) none)
                  case first =>
                    have hbox := HBOX7.out
                    refine wp_region_till (S := fun w' => w'.cell? ⟨za, 0, none⟩ = some (.pointer (some ⟨p, 0, none⟩)) ∧ w'.heap[z]? = some (.cells (encF (strF 0 N (.slice oa dn cv) false)).toArray 46 (0, 0))) [5] (by kernel_rfl) (by exact ⟨a7, hbox⟩) (fun hHeld => ?_)
                    refine wpTill_take0 (i := 0) (oi := ⟨some 89, _, _, _, _, _⟩) (v := ?_) rfl (by kernel_rfl) (fun _ _ _ h => h) (Or.inl ⟨by rfl, ?_⟩) (fun _ => hHeld) ?_
                    rotate_left
                    · intro w hSw
                      (try dsimp only at hSw)
                      go_simp
                      try with_reducible rfl
                    try simp only [Act.put, List.setIfInBounds_toArray, List.set_cons_zero, List.set_cons_succ]
                    refine wpTill_take0 (i := 1) (oi := ⟨some 90, _, _, _, _, _⟩) (v := ?_) rfl (by kernel_rfl) (fun _ _ _ h => h) (Or.inl ⟨by rfl, ?_⟩) (fun _ => hHeld) ?_
                    rotate_left
                    · intro w hSw
                      (try dsimp only at hSw)
                      go_simp
                      try with_reducible rfl
                    try simp only [Act.put, List.setIfInBounds_toArray, List.set_cons_zero, List.set_cons_succ]
                    refine wpTill_take0 (i := 2) (oi := ⟨some 91, _, _, _, _, _⟩) (v := ?_) rfl (by kernel_rfl) (fun _ _ _ h => h) (Or.inl ⟨by rfl, ?_⟩) (fun _ => hHeld) ?_
                    rotate_left
                    · intro w hSw
                      (try dsimp only at hSw)
                      go_simp
                      try with_reducible rfl
                    try simp only [Act.put, List.setIfInBounds_toArray, List.set_cons_zero, List.set_cons_succ]
                    refine wpTill_take (i := 3) (oi := ⟨some 92, _, _, _, _, _⟩) (v := ?_) rfl (by kernel_rfl) (fun _ _ _ h => h) (Or.inl ⟨by rfl, ?_⟩) (by exact hHeld) ?_
                    rotate_left
                    · intro w hSw
                      (try dsimp only at hSw)
                      go_simp
                      try with_reducible rfl
                    try simp only [Act.put, List.setIfInBounds_toArray, List.set_cons_zero, List.set_cons_succ]
                    refine wpTill_take (i := 4) (oi := ⟨some 93, _, _, _, _, _⟩) (v := (.agg (encF (strF 0 N (.slice oa dn cv) false)).toArray)) rfl (by kernel_rfl) (fun _ _ _ h => h) (Or.inl ⟨by rfl, ?_⟩) (by exact hHeld) ?_
                    · intro w hSw
                      exact exec_load_row 46 (.tmp 16) rfl z rfl 46 _ (0, 0) _ hSw.2 Tryz.underlying46 rfl (by rw [sizeF]; rfl)
                    try simp only [Act.put, List.setIfInBounds_toArray, List.set_cons_zero, List.set_cons_succ]
                    refine wpTill_ready (rs := [5]) (by kernel_rfl) (by simp) ?_
                    refine AllTill.consD (o := ⟨some 94, _, _, _, _, _⟩) rfl (by kernel_rfl) (fun K hK => ?_) AllTill.nil
                    rw [if_pos (show Region.wanted _ _ = true from rfl)]
                    go_simp
                    go_at_call 10
                    obtain ⟨lab, a, b, hs, hgo⟩ := (HG7.out.later ((Below.refl _ _).drew : Below w7.heap.size w7 w7.drew)).openA
                    have HGO := Lib.hid hgo
                    obtain ⟨k1, k2, k3⟩ := hO_ack L d (by rw [HDL.out]; omega) (by rw [HDL.out, HLN.out]; omega)
                    have k4 := hS_ack L d (by rw [HDL.out]; omega)
                    rw [HLN.out, HDL.out, HN2.out] at k1 k2 k3 k4
                    refine (tacked_str p (hA (L ++ d) N N2) lab a b (strF 0 N (.slice oa dn cv) false) oa dn cv (true, 0, hH (L ++ d) N N2) [(0, N2)] [] N2 _ hs (strF_ok N _ (by omega)) rfl rfl (by omega) (hA_find _ _ _) rfl (by rfl) (by simp) (by show (hO (L ++ d) N N2).ackX ((hO (L ++ d) N N2).kn N dn) = _; rw [k1]; exact k2) (by have := one_norm N2 (by omega); rw [if_neg (by have := HN2.out; omega)] at this; exact this) (by simp) k3 (by show N ≤ N2; have := HN2.out; omega) (by show N2 ≤ (L ++ d).length; rw [HLD.out]; omega)).mono ?_
                    rintro e w8 ⟨rfl, hr⟩
                    rw [hA_put (L ++ d) (L ++ d) N N2 N2 _ (by show (⟨0, (hS (L ++ d) N N2).ackd ((hO (L ++ d) N N2).ackG [(0, N2)] [] N2 false), RS.new 0 rT0.mine.msd⟩ : H1) = _; rw [k4]; rfl)] at hr
                    have HG8 := Lib.hid (HGO.out _ _ hr)
                    clear hs hgo hr HGO k1 k2 k3 k4
                    go_simp
                    refine hK.out _ _ ?_
                    clear hK K
                    try simp only [Act.put, List.setIfInBounds_toArray, List.set_cons_zero, List.set_cons_succ]
                    refine wpTill_done (by kernel_rfl) ?_ _
                    go_wp2_with fail
                    go_meet
                    case rel => exact HG8.out

                  case rest =>
                    generalize wc = w9 at *
                    have HG9 := Lib.hid hcut
                    have z3 : w9.cell? ⟨z, 3, none⟩ = some (.slice oa dn cv) := (cell_at hcut.box 3).trans rfl
                    clear hcut HG7 a7 HBOX7
                    go_wp2_with fail
                    go_meet
                    case rel => exact ⟨rfl, _, HG9.out.pb, HON.out.2⟩
          case rest =>
            obtain ⟨rfl, u2, hpb, hhu⟩ := hcut
            generalize wc = w10 at *
            have HPA := Lib.hid hpb
            have HHA := Lib.hid hhu
            have b10 := (hpb.swap).a0 hb0
            clear hpb hhu HOR HHU
            go_upto_if 103 with fail
            go_cut [11] (fun v11 wx => ∃ (T2 : Nat) (u3 : ST), v11 = .int .i64 T2 ∧ PB w wx za zb p q csa csb (hA (L ++ d) N2 N2) u3 ∧ HU u3 N2 T2)
            case first =>
              by_cases hrd : c < nr
              · obtain ⟨x, hx⟩ : ∃ x, R[c]? = some x := ⟨_, List.getElem?_eq_getElem (by rw [HNR.out]; exact hrd)⟩
                obtain ⟨br, ofr, rfl, hbr, hcr⟩ := HVR.out.num hx
                have c10 := cell_keep HPA.out.bd hbr hcr
                have HCR := Lib.hid hcr
                obtain ⟨hx1, hx2⟩ := HRR.out x (List.mem_of_getElem? hx)
                obtain ⟨mm, hmm, hmm1, hmm2⟩ : ∃ mm : Int, withinS x 0 50 = mm ∧ 0 ≤ mm ∧ mm ≤ 50 := ⟨_, rfl, (withinS_bd x 0 50 (by omega)).1, (withinS_bd x 0 50 (by omega)).2⟩
                have HMM := Lib.hid hmm
                clear hx hcr hmm
                as_aux_lemma =>
                  go_upto_region 23 with fail
                  go_cut [18] (fun v wx => ∃ (oa : Option Addr) (cap n : Nat) (u3 : ST), v = .slice oa n cap ∧ n ≤ N2 - T ∧ PB w wx za zb p q csa csb (hA (L ++ d) N2 N2) u3 ∧ HU u3 N2 (T + n))
                  case first =>
                    refine wp_region_till (S := fun w' => w'.cell? ⟨zb, 0, none⟩ = some (.pointer (some ⟨q, 0, none⟩)) ∧ w'.cell? ⟨br, ofr + c, none⟩ = some (.int .i64 x)) [] (by kernel_rfl) (by exact ⟨b10, c10⟩) (fun hHeld => ?_)
                    refine wpTill_take0 (i := 0) (oi := ⟨some 105, _, _, _, _, _⟩) (v := ?_) rfl (by kernel_rfl) (fun _ _ _ h => h) (Or.inl ⟨by rfl, ?_⟩) (fun _ => hHeld) ?_
                    rotate_left
                    · intro w hSw
                      (try dsimp only at hSw)
                      go_simp
                      try with_reducible rfl
                    try simp only [Act.put, List.setIfInBounds_toArray, List.set_cons_zero, List.set_cons_succ]
                    refine wpTill_take0 (i := 1) (oi := ⟨some 106, _, _, _, _, _⟩) (v := ?_) rfl (by kernel_rfl) (fun _ _ _ h => h) (Or.inl ⟨by rfl, ?_⟩) (fun _ => hHeld) ?_
                    rotate_left
                    · intro w hSw
                      (try dsimp only at hSw)
                      go_simp
                      try with_reducible rfl
                    try simp only [Act.put, List.setIfInBounds_toArray, List.set_cons_zero, List.set_cons_succ]
                    refine wpTill_take0 (i := 2) (oi := ⟨some 107, _, _, _, _, _⟩) (v := ?_) rfl (by kernel_rfl) (fun _ _ _ h => h) (Or.inl ⟨by rfl, ?_⟩) (fun _ => hHeld) ?_
                    rotate_left
                    · intro w hSw
                      (try dsimp only at hSw)
                      go_simp
                      try with_reducible rfl
                    try simp only [Act.put, List.setIfInBounds_toArray, List.set_cons_zero, List.set_cons_succ]
                    refine wpTill_take (i := 3) (oi := ⟨some 108, _, _, _, _, _⟩) (v := ?_) rfl (by kernel_rfl) (fun _ _ _ h => h) (Or.inl ⟨by rfl, ?_⟩) (by exact hHeld) ?_
                    rotate_left
                    · intro w hSw
                      (try dsimp only at hSw)
                      go_simp
                      try with_reducible rfl
                    try simp only [Act.put, List.setIfInBounds_toArray, List.set_cons_zero, List.set_cons_succ]
                    refine wpTill_take0 (i := 4) (oi := ⟨some 109, _, _, _, _, _⟩) (v := ?_) rfl (by kernel_rfl) (fun _ _ _ h => h) (Or.inl ⟨by rfl, ?_⟩) (fun _ => hHeld) ?_
                    rotate_left
                    · intro w hSw
                      (try dsimp only at hSw)
                      go_simp
                      try with_reducible rfl
                    try simp only [Act.put, List.setIfInBounds_toArray, List.set_cons_zero, List.set_cons_succ]
                    refine wpTill_take0 (i := 5) (oi := ⟨some 110, _, _, _, _, _⟩) (v := ?_) rfl (by kernel_rfl) (fun _ _ _ h => h) (Or.inl ⟨by rfl, ?_⟩) (fun _ => hHeld) ?_
                    rotate_left
                    · intro w hSw
                      (try dsimp only at hSw)
                      go_simp
                      try with_reducible rfl
                    try simp only [Act.put, List.setIfInBounds_toArray, List.set_cons_zero, List.set_cons_succ]
                    refine wpTill_take0 (i := 6) (oi := ⟨some 111, _, _, _, _, _⟩) (v := ?_) rfl (by kernel_rfl) (fun _ _ _ h => h) (Or.inl ⟨by rfl, ?_⟩) (fun _ => hHeld) ?_
                    rotate_left
                    · intro w hSw
                      (try dsimp only at hSw)
                      go_simp
                      try with_reducible rfl
                    try simp only [Act.put, List.setIfInBounds_toArray, List.set_cons_zero, List.set_cons_succ]
                    refine wpTill_take (i := 7) (oi := ⟨some 112, _, _, _, _, _⟩) (v := ?_) rfl (by kernel_rfl) (fun _ _ _ h => h) (Or.inl ⟨by rfl, ?_⟩) (by exact hHeld) ?_
                    rotate_left
                    · intro w hSw
                      (try dsimp only at hSw)
                      go_simp
                      try with_reducible rfl
                    try simp only [Act.put, List.setIfInBounds_toArray, List.set_cons_zero, List.set_cons_succ]
                    refine wpTill_ready (rs := [8]) (by kernel_rfl) (by simp) ?_
                    refine AllTill.cons (o := ⟨some 113, _, _, _, _, _⟩) rfl (fun K hK => ?_) AllTill.nil
                    rw [if_pos (show Region.wanted _ _ = true from rfl)]
                    go_simp
                    go_at_call 12
                    refine (within_any x 0 50 _ (by omega) (by omega) (by omega) hx1 hx2).mono ?_
                    rw [HMM.out]
                    rintro e w' ⟨rfl, hw⟩
                    obtain rfl := hw
                    go_simp
                    refine hK.out _ _ (by exact hHeld) (fun hHeld => ?_)
                    clear hK K
                    try simp only [Act.put, List.setIfInBounds_toArray, List.set_cons_zero, List.set_cons_succ]
                    refine wpTill_ready (rs := [9]) (by kernel_rfl) (by simp) ?_
                    refine AllTill.cons (o := ⟨some 114, _, _, _, _, _⟩) rfl (fun K hK => ?_) AllTill.nil
                    rw [if_pos (show Region.wanted _ _ = true from rfl)]
                    go_simp
                    go_at_call 11
                    obtain ⟨lab, a, b, hs, hgo⟩ := (HPA.out.later ((Below.refl _ _).drew : Below w10.heap.size w10 w10.drew)).swap.open
                    have HGO := Lib.hid hgo
                    refine (hd_read q u2 lab a b N2 T mm _ hs HHA.out (by omega) (by omega)).mono ?_
                    rintro e w11 ⟨oa, cap, n, la, er, rfl, hnb, u3, hhu, hr⟩
                    have HF := Lib.hid (And.intro (HGO.out _ _ hr).swap hhu)
                    have S11 := Lib.hid (And.intro ((HF.out.1.swap).a0 hb0) (cell_keep HF.out.1.bd hbr HCR.out))
                    clear hs hgo hr HGO hhu
                    go_simp
                    refine hK.out _ _ (by exact S11.out) (fun hHeld => ?_)
                    clear hK K
                    try simp only [Act.put, List.setIfInBounds_toArray, List.set_cons_zero, List.set_cons_succ]
                    refine wpTill_take0 (i := 10) (oi := ⟨some 104, _, _, _, _, _⟩) (v := ?_) rfl (by kernel_rfl) (fun _ _ _ h => h) (Or.inl ⟨by rfl, ?_⟩) (fun _ => hHeld) ?_
                    rotate_left
                    · intro w hSw
                      (try dsimp only at hSw)
                      go_simp
                      try with_reducible rfl
                    try simp only [Act.put, List.setIfInBounds_toArray, List.set_cons_zero, List.set_cons_succ]
                    refine wpTill_take0 (i := 11) (oi := ⟨some 115, _, _, _, _, _⟩) (v := ?_) rfl (by kernel_rfl) (fun _ _ _ h => h) (Or.inl ⟨by rfl, ?_⟩) (fun _ => hHeld) ?_
                    rotate_left
                    · intro w hSw
                      (try dsimp only at hSw)
                      go_simp
                      try with_reducible rfl
                    try simp only [Act.put, List.setIfInBounds_toArray, List.set_cons_zero, List.set_cons_succ]
                    refine wpTill_take0 (i := 12) (oi := ⟨some 116, _, _, _, _, _⟩) (v := ?_) rfl (by kernel_rfl) (fun _ _ _ h => h) (Or.inl ⟨by rfl, ?_⟩) (fun _ => hHeld) ?_
                    rotate_left
                    · intro w hSw
                      (try dsimp only at hSw)
                      go_simp
                      try with_reducible rfl
                    try simp only [Act.put, List.setIfInBounds_toArray, List.set_cons_zero, List.set_cons_succ]
                    refine wpTill_take0 (i := 13) (oi := ⟨some 117, _, _, _, _, _⟩) (v := ?_) rfl (by kernel_rfl) (fun _ _ _ h => h) (Or.inl ⟨by rfl, ?_⟩) (fun _ => hHeld) ?_
                    rotate_left
                    · intro w hSw
                      (try dsimp only at hSw)
                      go_simp
                      try with_reducible rfl
                    try simp only [Act.put, List.setIfInBounds_toArray, List.set_cons_zero, List.set_cons_succ]
                    refine wpTill_take0 (i := 14) (oi := ⟨some 118, _, _, _, _, _⟩) (v := ?_) rfl (by kernel_rfl) (fun _ _ _ h => h) (Or.inl ⟨by rfl, ?_⟩) (fun _ => hHeld) ?_
                    rotate_left
                    · intro w hSw
                      (try dsimp only at hSw)
                      go_simp
                      try with_reducible rfl
                    try simp only [Act.put, List.setIfInBounds_toArray, List.set_cons_zero, List.set_cons_succ]
                    refine wpTill_take0 (i := 15) (oi := ⟨some 18, _, _, _, _, _⟩) (v := ?_) rfl (by kernel_rfl) (fun _ _ _ h => h) (Or.inl ⟨by rfl, ?_⟩) (fun _ => hHeld) ?_
                    rotate_left
                    · intro w hSw
                      (try dsimp only at hSw)
                      go_simp
                      try with_reducible rfl
                    try simp only [Act.put, List.setIfInBounds_toArray, List.set_cons_zero, List.set_cons_succ]
                    refine wpTill_take0 (i := 16) (oi := ⟨some 19, _, _, _, _, _⟩) (v := ?_) rfl (by kernel_rfl) (fun _ _ _ h => h) (Or.inl ⟨by rfl, ?_⟩) (fun _ => hHeld) ?_
                    rotate_left
                    · intro w hSw
                      (try dsimp only at hSw)
                      go_simp
                      try with_reducible rfl
                    try simp only [Act.put, List.setIfInBounds_toArray, List.set_cons_zero, List.set_cons_succ]
                    refine wpTill_take0 (i := 17) (oi := ⟨some 20, _, _, _, _, _⟩) (v := ?_) rfl (by kernel_rfl) (fun _ _ _ h => h) (Or.inl ⟨by rfl, ?_⟩) (fun _ => hHeld) ?_
                    rotate_left
                    · intro w hSw
                      (try dsimp only at hSw)
                      go_simp
                      try with_reducible rfl
                    try simp only [Act.put, List.setIfInBounds_toArray, List.set_cons_zero, List.set_cons_succ]
                    refine wpTill_take0 (i := 18) (oi := ⟨some 21, _, _, _, _, _⟩) (v := ?_) rfl (by kernel_rfl) (fun _ _ _ h => h) (Or.inl ⟨by rfl, ?_⟩) (fun _ => hHeld) ?_
                    rotate_left
                    · intro w hSw
                      (try dsimp only at hSw)
                      go_simp
                      try with_reducible rfl
                    try simp only [Act.put, List.setIfInBounds_toArray, List.set_cons_zero, List.set_cons_succ]
                    refine wpTill_done (by kernel_rfl) ?_ _
                    go_wp2_with fail
                    go_meet
                    case rel => exact ⟨oa, cap, n, u3, rfl, hnb, HF.out.1, HF.out.2⟩

                  case rest =>
                    obtain ⟨oa, cap, n, u3, rfl, hnb, hpb, hhu⟩ := hcut
                    generalize wc = w12 at *
                    have HF := Lib.hid (And.intro hpb hhu)
                    have hTN := HHA.out.hR
                    obtain ⟨T2, hT2⟩ : ∃ T2, T + n = T2 := ⟨_, rfl⟩
                    rw [hT2] at HF
                    have hw3 : IntKind.i64.wrap ((T : Int) + (n : Int)) = (T2 : Nat) := by rw [IntWalk.i64_in _ (by omega)]; omega
                    clear hpb hhu HPA b10 c10
                    go_wp2_with fail
                    go_meet
                    case rel => exact ⟨T2, u3, rfl, HF.out.1, HF.out.2⟩
              · go_wp2_with fail
                go_meet
                case rel => exact ⟨T, u2, rfl, HPA.out, HHA.out⟩
            case rest =>
              obtain ⟨T2, u3, rfl, hpb, hhu⟩ := hcut
              generalize wc = w13 at *
              have HPC := Lib.hid hpb
              have HHC := Lib.hid hhu
              have a13 := hpb.a0 ha0
              have hT2 := hhu.hR
              have hs0 : IntKind.i64.wrap ((N2 : Int) - (N2 : Int)) = 0 := by rw [IntWalk.i64_in _ (by omega)]; omega
              obtain ⟨df, hdf⟩ : ∃ df, N2 - T2 = df := ⟨_, rfl⟩
              have HDFF := Lib.hid hdf
              have hs1 : IntKind.i64.wrap ((N2 : Int) - (T2 : Int)) = (df : Nat) := by rw [IntWalk.i64_in _ (by omega)]; omega
              have hcv : IntKind.u64.wrap (N2 : Int) = N2 := IntWalk.u64_in _ (by omega)
              clear hpb hhu HPA HHA b10 hdf
              go_wp2_with fail
              obtain ⟨lab, a, b, hs, hgo⟩ := HPC.out.open
              have hcall := hd_heldA p (L ++ d) lab a b _ (by rw [HLD.out]; exact hs) (by rw [HLD.out]; omega)
              refine hcall.mono ?_
              clear hcall
              rintro e w14 ⟨rfl, hb⟩
              have HPD := Lib.hid (HPC.out.later hb)
              have b14 := (HPD.out.swap).a0 hb0
              clear hs hgo hb a13 HPC lab a b
              go_wp2_with fail
              obtain ⟨lab, a, b, hs, hgo⟩ := HPD.out.swap.open
              refine (hd_heldB q u3 lab a b N2 T2 _ hs HHC.out (by omega)).mono ?_
              rw [HDFF.out]
              rintro e w15 ⟨rfl, hb⟩
              have HPE := Lib.hid (HPD.out.later hb)
              have a15 := HPE.out.a0 ha0
              clear hs hgo hb b14 HPD lab a b
              go_wp2_with fail
              obtain ⟨lab, a, b, hs, hgo⟩ := HPE.out.open
              refine (tsent_any p _ lab a b _ hs).mono ?_
              rw [hA_sent]
              rintro e w16 ⟨rfl, _, hb⟩
              have HPF := Lib.hid (HPE.out.later hb)
              have b16 := (HPF.out.swap).a0 hb0
              clear hs hgo hb a15 HPE lab a b
              go_wp2_with fail
              obtain ⟨lab, a, b, hs, hgo⟩ := HPF.out.swap.open
              refine (tgot_any q _ lab a b _ hs).mono ?_
              rw [HHC.out.got]
              rintro e w17 ⟨rfl, _, hb⟩
              have HPH := Lib.hid (show HSt w w17 za zb p q csa csb N2 T2 from ⟨L ++ d, u3, HLD.out, HLB.out, HPF.out.later hb, HHC.out⟩)
              clear hs hgo hb b16 HPF lab a b
              go_wp2_with fail
              go_roundw
              case rel => exact ⟨c + 1, N2, T2, by go_num, rfl, rfl, rfl, by omega, hN2b, HPH.out⟩
              case measure => simp [intOf]; omega
    · have HB := Lib.hid (show Below w.heap.size w wr from by
        obtain ⟨_, _, _, _, h, _⟩ := HP.out
        exact h.bd)
      clear HP
      by_cases hlt : c < nw
      · have hlt2 : ¬ c < 20 := fun q => hgo ⟨hlt, q⟩
        clear hgo
        go_wp2_with fail
        refine (stknown_any _).mono ?_
        rintro e w3 ⟨rfl, hb⟩
        have HF := Lib.hid (below_call HB.out HB.out.size hb)
        go_wp2_with fail
        go_ret
        exact ⟨rfl, HF.out⟩
      · clear hgo
        go_wp2_with fail
        refine (stknown_any _).mono ?_
        rintro e w3 ⟨rfl, hb⟩
        have HF := Lib.hid (below_call HB.out HB.out.size hb)
        go_wp2_with fail
        go_ret
        exact ⟨rfl, HF.out⟩
end Go.Proofs.YtnneoeimgbemfaaGreat
