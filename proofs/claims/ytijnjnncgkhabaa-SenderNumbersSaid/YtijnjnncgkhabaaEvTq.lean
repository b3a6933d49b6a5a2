/- DERIVED. The seat's types fit; ranges are compared by their two cells; the table of functions. -/
import Derived.Test.YtijnjnncgkhabaaEvTy
import Derived.Test.YtijnjnncgkhabaaEvAr
set_option linter.unusedVariables false
set_option maxRecDepth 100000
namespace Go.Proofs.Ytijnjnncgkhabaa
namespace Ev
open Go.RowKit

noncomputable def YT : Ty := ⟨fun t => tyT.get t, fun t => Nat.beq t 53 || Nat.beq t 56⟩
noncomputable def XT (f : Nat) : Option PF := match Nat.beq f 155 with
  | true => some (.own 0)
  | false => (fnT.get f).bind fun fn => cF YT fn

theorem range_eql (k k' : IntKind) (a b c d : Int) (x y : Operand) (w : World) (op : BinOp) (ng : Bool) (ho : op = .eql ∧ ng = false ∨ op = .neq ∧ ng = true) :
    (do eqGuard op 53 x y (.agg [Value.int k a, .int k' b].toArray) (.agg [Value.int k c, .int k' d].toArray); binOp op 53 (.agg [Value.int k a, .int k' b].toArray) (.agg [Value.int k c, .int k' d].toArray) : Sem Value).run Try.prog w = .ok (.bool (ng != ((a == c) && (b == d)))) w := by
  have hq : Try.prog.eqGuardType Try.prog.depth 53 = false := Try.eqGuardType53
  have he : (Op.equalIn 10000 53 (.agg [Value.int k a, .int k' b].toArray) (.agg [Value.int k c, .int k' d].toArray)).run Try.prog w = .ok ((a == c) && (b == d)) w := by
    rw [show (10000 : Nat) = 9998 + 1 + 1 from rfl, run_equalIn_agg w 9999 53 _ _ (by kernel_rfl) Try.stoodInHeld53]
    rw [show (Try.prog.fieldsOf 53).toList = [⟨ "Lo", 23, 0, false, "", "", 0⟩, ⟨ "Hi", 23, 1, false, "", "", 8⟩] from by kernel_rfl]
    have h23 : Try.prog.underlying 23 = some (.int .u64) := Try.underlying23
    have hp : ∀ (u v : Value) (w : World), (part 23 [u, v].toArray 0).run Try.prog w = .ok u w := fun u v w => by simp [part, isAgg, Sem.run_bind, run_underlying h23]
    have hp' : ∀ (u v : Value) (w : World), (part 23 [u, v].toArray 1).run Try.prog w = .ok v w := fun u v w => by simp [part, isAgg, Sem.run_bind, run_underlying h23]
    simp only [Op.eqFields, Sem.run_bind, Sem.run_ite, hp, hp', Result.andThen_ok, run_equalIn_int _ 9998 23 _ .u64 _ _ h23]
    cases h1 : (a == c) <;> cases h2 : (b == d) <;> simp [Sem.run_pure]
  rcases ho with ⟨rfl, rfl⟩ | ⟨rfl, rfl⟩
  · rw [Sem.run_bind, run_eqGuard_agg w _ _ x y _ _ hq]
    simp only [Result.andThen_ok]
    rw [run_eql_struct, he]
    simp
  · rw [Sem.run_bind, run_eqGuard_agg w _ _ x y _ _ hq]
    simp only [Result.andThen_ok]
    rw [run_neq_struct, he]
    simp
theorem sizeRange : sizeT YT 53 = some 2 := by kernel_rfl
theorem sizeCid : sizeT YT 56 = some 8 := by kernel_rfl
theorem tyOk : TyOk Try.prog YT where
  t := fun t i h => tyT_all.get h
  q := by
    intro t ht op ng ho β D xs ys X Y r hX hY hs hc x y w
    have ht' : (Nat.beq t 53 || Nat.beq t 56) = true := ht
    rw [Bool.or_eq_true] at ht'
    rcases ht' with ht' | ht'
    rotate_left
    · obtain rfl : t = 56 := Nat.eq_of_beq_eq_true ht'
      rw [sizeCid] at hs
      exact array_eql (n := 8) (e := 5) (k0 := .u8) Try.underlying56 Try.underlying5 Try.type5 (by kernel_rfl) Try.eqGuardType56 hX hY (by simpa using hs.symm) hc x y w ho
    obtain rfl : t = 53 := Nat.eq_of_beq_eq_true ht'
    rw [sizeRange] at hs
    match xs, hs, hX, hc with
    | [x1, x2], _, hX, hc =>
      simp only [VRs] at hX
      obtain ⟨X1, X', rfl, hX1, X2, X'', rfl, hX2, rfl⟩ := hX
      match ys, hY, hc with
      | [y1, y2], hY, hc =>
        simp only [VRs] at hY
        obtain ⟨Y1, Y', rfl, hY1, Y2, Y'', rfl, hY2, rfl⟩ := hY
        simp only [ceqs] at hc
        cases h1 : ceq x1 y1 with
        | none => rw [h1] at hc; simp at hc
        | some r1 =>
          rw [h1] at hc
          cases h2 : ceq x2 y2 with
          | none => rw [h2] at hc; simp at hc
          | some r2 =>
            rw [h2] at hc
            simp only [Option.some.injEq, Bool.and_true] at hc
            obtain ⟨k, a, c, rfl, rfl, rfl⟩ := ceq_int h1 hX1 hY1
            obtain ⟨k', b, d, rfl, rfl, rfl⟩ := ceq_int h2 hX2 hY2
            subst hc
            exact range_eql k k' a b c d x y w op ng ho
      | [], hY, hc => simp [ceqs] at hc
      | [y1], hY, hc =>
        simp only [ceqs] at hc
        cases h1 : ceq x1 y1 <;> rw [h1] at hc <;> simp at hc
      | y1 :: y2 :: y3 :: ys, hY, hc =>
        simp only [ceqs] at hc
        cases h1 : ceq x1 y1 <;> rw [h1] at hc <;> simp at hc
        cases h2 : ceq x2 y2 <;> rw [h2] at hc <;> simp at hc
/-- The table fits, when what is taken whole does. -/
theorem tabOk (own : Nat → List AV → M AV) (ho : OwnOk Try.prog own 0 155) : TabOk Try.prog YT own XT where
  call := by
    intro f pf h args w
    unfold XT at h
    cases hb : Nat.beq f 155 with
    | true =>
      obtain rfl : f = 155 := Nat.eq_of_beq_eq_true hb
      exact Try.call155 args w
    | false =>
      rw [hb] at h
      obtain ⟨fn, h1, h2⟩ := bi_some h
      exact (fnT_all.get h1).2 args w
  own := by
    intro f k h
    unfold XT at h
    cases hb : Nat.beq f 155 with
    | true =>
      obtain rfl : f = 155 := Nat.eq_of_beq_eq_true hb
      rw [hb] at h
      cases h
      exact ho
    | false =>
      rw [hb] at h
      obtain ⟨fn, h1, h2⟩ := bi_some h
      simp only [cF] at h2
      obtain ⟨_, _, h2⟩ := bi_some h2
      obtain ⟨_, _, h2⟩ := bi_some h2
      obtain ⟨_, _, h2⟩ := bi_some h2
      cases h2
  walk := by
    intro f b r h
    unfold XT at h
    cases hb : Nat.beq f 155 with
    | true => rw [hb] at h; cases h
    | false =>
      rw [hb] at h
      obtain ⟨fn, h1, h2⟩ := bi_some h
      exact ⟨fn, (fnT_all.get h1).1, h2⟩
theorem mixOk : Try.prog.follows .mixedOrders = true := by kernel_rfl
/-- A CLOSED CALL THAT THE KERNEL FINDS TRUE. -/
theorem closed {own : Nat → List AV → M AV} {oq : Nat → List AV → Kq.M AV} (hq : ∀ k l, Kq.Ref Eq (oq k l) (own k l)) (hl : ∀ k l, Loc (own k l)) (ho : OwnOk Try.prog own 0 155) {n f : Nat} (h : Kq.ask oq XT n f = true) (w : World) :
    Calls Try.prog f #[] w fun e w' => e = .returned (.bool true) ∧ Below w.heap.size w w' := by
  obtain ⟨s', hs⟩ := Kq.ask_ok hq h
  exact closed_ok tyOk mixOk hl (tabOk own ho) hs w
end Ev
end Go.Proofs.Ytijnjnncgkhabaa
