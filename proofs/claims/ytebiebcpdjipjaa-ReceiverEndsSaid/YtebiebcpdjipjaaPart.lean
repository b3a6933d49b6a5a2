/- DERIVED. A part of a slice, x[i:j]; four results. -/
import Derived.Test.YtebiebcpdjipjaaView
import Derived.Test.YtebiebcpdjipjaaHeld
import Derived.OwnWalk
namespace Go.Proofs.Ytebiebcpdjipjaa
open Go.RowKit

def partV (oa : Option Addr) (k cap l h : Nat) : Value := .slice (if cap = l then oa else oa.map (·.add (l * k))) (h - l) (cap - l)
theorem exec_part {P : Program} {o : Oper} {w : World} {t e : TypeId} (hu : P.underlying t = some (.slice e)) {i : TypeInfo} (hi : P.info? e = some i) {f : Operand → Value} {x l h : Operand} (ho : o.op = .slice t x (some l) (some h) none) {oa : Option Addr} {len cap : Nat} {n m : Nat} {kn km : IntKind}
    (hx : f x = .slice oa len cap) (hl : f l = .int kn n) (hh : f h = .int km m) (h1 : n ≤ m) (h2 : m ≤ cap) : (execOp f o).run P w = .ok (.value (partV oa i.size cap n m)) w := by
  simp [execOp, ho, hx, hl, hh, Instr.sliceAt, Instr.slice, run_underlying hu, Instr.sliceBounds, Instr.sliceBound, sizeOf, typeInfo, asIntOf, hi, h1, h2, partV]
theorem Vw.mid {α : Type} {enc : α → List Value} {k : Nat} {w : World} {B : Nat} {oa : Option Addr} {len cap l h : Nat} {xs : List α} (hv : Vw enc w B (.slice oa len cap) xs) (hk : ∀ a, (enc a).length = k) (h1 : l ≤ h) (h2 : h ≤ len) : Vw enc w B (partV oa k cap l h) ((xs.drop l).take (h - l)) := by
  have ht := hv.tail hk (Nat.le_trans h1 h2)
  obtain ⟨oa', cap', e1, e2, e3, _⟩ := hv
  cases e1
  obtain ⟨o2, c2, f1, f2, f3, f4⟩ := ht
  unfold tailV at f1
  have f5 : o2 = (if cap = l then oa else oa.map (·.add (l * k))) ∧ c2 = cap - l := by
    rw [Value.slice.injEq] at f1
    exact ⟨f1.1.symm, f1.2.2.symm⟩
  have hl : ((xs.drop l).take (h - l)).length = h - l := by rw [List.length_take, List.length_drop]; omega
  refine ⟨_, cap - l, by rw [hl]; rfl, by rw [hl]; omega, by omega, ?_⟩
  rcases f4 with f4 | ⟨b, off, f6, f7, f8⟩
  · left
    rw [f4, List.take_nil]
  · right
    rw [f5.1] at f6
    refine ⟨b, off, f6, f7, fun j u hj => f8 j u ?_⟩
    rw [← flat_take hk, List.getElem?_take] at hj
    split at hj
    · exact hj
    · cases hj
theorem results_tmp4 {fn : Func} {t u v x : Tmp} (h : fn.results = #[.tmp t, .tmp u, .tmp v, .tmp x]) (tmps : Array Value) (P : Program) (w : World) :
    (results fn tmps).run P w = .ok (.tuple #[tmps.getD t undef, tmps.getD u undef, tmps.getD v undef, tmps.getD x undef]) w := by
  simp [results, h]
theorem results_tmp5 {fn : Func} {t u v x y : Tmp} (h : fn.results = #[.tmp t, .tmp u, .tmp v, .tmp x, .tmp y]) (tmps : Array Value) (P : Program) (w : World) :
    (results fn tmps).run P w = .ok (.tuple #[tmps.getD t undef, tmps.getD u undef, tmps.getD v undef, tmps.getD x undef, tmps.getD y undef]) w := by
  simp [results, h]
end Go.Proofs.Ytebiebcpdjipjaa
