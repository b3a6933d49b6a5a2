/- DERIVED. What is known of the arguments that came in: numbers, slices of whatever elements; their weights. -/
import Derived.Test.YtebiebcpdjipjaaCame
namespace Go.Proofs.Ytebiebcpdjipjaa
open Go.ChangeShapes Go.WideShapes Go.ChangeAt Go.RowKit
section
variable {H : Type} {enc : TypeId × Value → H} {P : Program} {W : World}
theorem int_came {base : Nat} {t : TypeId} {k : IntKind} {v : Value} {d : DataW H} {ps : List MemPlace} (ht : P.underlying t = some (.int k)) (hval : Value.okWide P W .any base t v) (h : DataW.Trod enc P W 0 (fun _ => true) true t v d ps) :
    ∃ n, v = .int k n ∧ (Lit.int k n).wf = true := by
  obtain ⟨n, rfl⟩ := okWide_int ht hval
  obtain ⟨m, h1, _, h2⟩ := (Reads.of h).int ht
  simp [Value.cells] at h1
  subst h1
  exact ⟨_, rfl, h2⟩
theorem slice_came {base : Nat} {t e : TypeId} {v : Value} {d : DataW H} {ps : List MemPlace} (ht : P.underlying t = some (.slice e)) (hn : 0 < P.cellsOf e) (hval : Value.okWide P W .any base t v) (h : DataW.Trod enc P W 0 (fun _ => true) true t v d ps)
    (hw : (DataW.weights P t d).all (· ≤ reachBytes) = true) :
    ∃ oa len cap, v = .slice oa len cap ∧ len * P.bytesOf e ≤ 140737488351232 ∧
      ∀ i, i < len → ∃ b off cs D, oa = some ⟨b, off, none⟩ ∧ b < W.heap.size ∧ cs.length = P.cellsOf e ∧ (∀ j, j < P.cellsOf e → W.cell? ⟨b, off + i * P.cellsOf e + j, none⟩ = cs[j]?) ∧ Reads enc P W (fun _ => true) true e cs D := by
  obtain ⟨oa, len, cap, rfl⟩ := okWide_slice ht hval
  obtain ⟨oa', len', cap', D, spl, hcs, ⟨hl, hm, hc⟩, hd⟩ := (Reads.of h).slice ht hn
  simp only [Value.cells, List.cons.injEq, Value.slice.injEq, and_true] at hcs
  obtain ⟨rfl, rfl, rfl⟩ := hcs
  refine ⟨oa, len, cap, rfl, ?_, fun i hi => ?_⟩
  · rcases hd with ⟨_, h0, _⟩ | ⟨rfl, _⟩
    · subst h0; omega
    · simp only [DataW.weights, ht, List.all_cons, Bool.and_eq_true, List.length_map, List.length_range, reachBytes] at hw
      have hw1 := of_decide_eq_true hw.1
      have : len * P.bytesOf e ≤ (len + spl.length) * P.bytesOf e := Nat.mul_le_mul_right _ (by omega)
      omega
  · obtain ⟨b, off, cs, h1, h2, h3, h4, h5⟩ := hc i hi
    exact ⟨b, off, cs, D i, h1, h2, h3, h4, h5⟩
theorem weights_one {t : TypeId} {d : DataW H} (h : (DataW.weightsEach P [t] [d]).all (· ≤ reachBytes) = true) : (DataW.weights P t d).all (· ≤ reachBytes) = true := by
  simp only [DataW.weightsEach, List.all_append, Bool.and_eq_true] at h
  exact h.1
theorem weights_two {t t' : TypeId} {d d' : DataW H} (h : (DataW.weightsEach P [t, t'] [d, d']).all (· ≤ reachBytes) = true) : (DataW.weights P t d).all (· ≤ reachBytes) = true ∧ (DataW.weights P t' d').all (· ≤ reachBytes) = true := by
  simp only [DataW.weightsEach, List.all_append, Bool.and_eq_true] at h
  exact ⟨h.1, h.2.1⟩
theorem weights_three {t t' t'' : TypeId} {d d' d'' : DataW H} (h : (DataW.weightsEach P [t, t', t''] [d, d', d'']).all (· ≤ reachBytes) = true) :
    (DataW.weights P t d).all (· ≤ reachBytes) = true ∧ (DataW.weights P t' d').all (· ≤ reachBytes) = true ∧ (DataW.weights P t'' d'').all (· ≤ reachBytes) = true := by
  simp only [DataW.weightsEach, List.all_append, Bool.and_eq_true] at h
  exact ⟨h.1, h.2.1, h.2.2.1⟩
theorem weights_four {t t' t'' t3 : TypeId} {d d' d'' d3 : DataW H} (h : (DataW.weightsEach P [t, t', t'', t3] [d, d', d'', d3]).all (· ≤ reachBytes) = true) :
    (DataW.weights P t d).all (· ≤ reachBytes) = true ∧ (DataW.weights P t' d').all (· ≤ reachBytes) = true ∧ (DataW.weights P t'' d'').all (· ≤ reachBytes) = true ∧ (DataW.weights P t3 d3).all (· ≤ reachBytes) = true := by
  simp only [DataW.weightsEach, List.all_append, Bool.and_eq_true] at h
  exact ⟨h.1, h.2.1, h.2.2.1, h.2.2.2.1⟩
end
end Go.Proofs.Ytebiebcpdjipjaa
