/- DERIVED. Slices that came in, as views: elements of any kind; bytes. -/
import Derived.Test.YtebiebcpdjipjaaCame2
import Derived.Test.YtebiebcpdjipjaaView
namespace Go.Proofs.Ytebiebcpdjipjaa
open Go.ChangeShapes Go.WideShapes Go.ChangeAt Go.RowKit
section
variable {H : Type} {enc : TypeId × Value → H} {P : Program} {W : World} {sp : Nat → Bool} {held : Bool}
theorem sliceIs_vw {e : TypeId} {oa : Option Addr} {len cap : Nat} {D : Nat → DataW H} (h : SliceIs enc P W sp held e oa len cap D) {α : Type} (cod : α → List Value) (Ok : α → Prop) (a0 : α) (hk : ∀ a, (cod a).length = P.cellsOf e)
    (hel : ∀ cs d, cs.length = P.cellsOf e → Reads enc P W sp held e cs d → ∃ a, cs = cod a ∧ Ok a) :
    ∃ L : List α, L.length = len ∧ Vw cod W W.heap.size (.slice oa len cap) L ∧ ∀ a ∈ L, Ok a := by
  obtain ⟨hl, hm, hc⟩ := h
  have hx : ∀ i, ∃ a, i < len → Ok a ∧ ∃ b off, oa = some ⟨b, off, none⟩ ∧ b < W.heap.size ∧ ∀ j, j < P.cellsOf e → W.cell? ⟨b, off + i * P.cellsOf e + j, none⟩ = (cod a)[j]? := by
    intro i
    by_cases hi : i < len
    · obtain ⟨b, off, cs, h1, h2, h3, h4, h5⟩ := hc i hi
      obtain ⟨a, rfl, ha⟩ := hel cs _ h3 h5
      exact ⟨a, fun _ => ⟨ha, b, off, h1, h2, h4⟩⟩
    · exact ⟨a0, fun h => absurd h hi⟩
  obtain ⟨f, hf⟩ := Classical.axiomOfChoice hx
  have hlen : ((List.range len).map f).length = len := by simp
  refine ⟨(List.range len).map f, hlen, ⟨oa, cap, by rw [hlen], by rw [hlen]; exact hl, by unfold maxLen at hm; omega, ?_⟩, ?_⟩
  · rcases Nat.eq_zero_or_pos len with h0 | h0
    · subst h0
      exact .inl rfl
    · right
      obtain ⟨_, b, off, h1, h2, _⟩ := hf 0 h0
      refine ⟨b, off, h1, h2, ?_⟩
      intro j u hu
      have hkp : 0 < P.cellsOf e := by
        rcases Nat.eq_zero_or_pos (P.cellsOf e) with h' | h'
        · have := flat_length hk ((List.range len).map f)
          rw [h', Nat.mul_zero] at this
          have := List.eq_nil_of_length_eq_zero this
          rw [this] at hu
          simp at hu
        · exact h'
      have hjl : j < len * P.cellsOf e := by
        have := flat_length hk ((List.range len).map f)
        rw [hlen] at this
        rw [List.getElem?_eq_some_iff] at hu
        obtain ⟨h', _⟩ := hu
        omega
      have hd : j / P.cellsOf e < len := Nat.div_lt_of_lt_mul (by rw [Nat.mul_comm]; exact hjl)
      have hmd := Nat.mod_lt j hkp
      have e1 := Nat.div_add_mod j (P.cellsOf e)
      obtain ⟨_, b', off', h1', _, h3'⟩ := hf _ hd
      rw [h1] at h1'
      cases h1'
      have h4 := h3' _ hmd
      have h5 := flat_get hk ((List.range len).map f) (j / P.cellsOf e) (j % P.cellsOf e) hmd (a := f (j / P.cellsOf e)) (by rw [List.getElem?_map, List.getElem?_range hd]; rfl)
      rw [Nat.mul_comm] at e1
      rw [e1] at h5
      rw [Nat.add_assoc, e1] at h4
      rw [h4, ← h5, hu]
  · intro a ha
    obtain ⟨i, hi, rfl⟩ := List.mem_map.1 ha
    exact (hf i (List.mem_range.1 hi)).1
theorem vw_came {base : Nat} {t e : TypeId} {v : Value} {d : DataW H} {ps : List MemPlace} (ht : P.underlying t = some (.slice e)) (hn : 0 < P.cellsOf e) (hval : Value.okWide P W .any base t v) (h : DataW.Trod enc P W 0 (fun _ => true) true t v d ps)
    (hw : (DataW.weights P t d).all (· ≤ reachBytes) = true) {α : Type} (cod : α → List Value) (Ok : α → Prop) (a0 : α) (hk : ∀ a, (cod a).length = P.cellsOf e)
    (hel : ∀ cs d, cs.length = P.cellsOf e → Reads enc P W (fun _ => true) true e cs d → ∃ a, cs = cod a ∧ Ok a) :
    ∃ oa len cap, ∃ L : List α, v = .slice oa len cap ∧ L.length = len ∧ len * P.bytesOf e ≤ 140737488351232 ∧ len ≤ 9223372036854775807 ∧ Vw cod W W.heap.size v L ∧ ∀ a ∈ L, Ok a := by
  obtain ⟨oa, len, cap, rfl⟩ := okWide_slice ht hval
  obtain ⟨oa', len', cap', D, spl, hcs, hS, hd⟩ := (Reads.of h).slice ht hn
  simp only [Value.cells, List.cons.injEq, Value.slice.injEq, and_true] at hcs
  obtain ⟨rfl, rfl, rfl⟩ := hcs
  obtain ⟨L, h1, h2, h3⟩ := sliceIs_vw hS cod Ok a0 hk hel
  have hb : len * P.bytesOf e ≤ 140737488351232 := by
    rcases hd with ⟨_, h0, _⟩ | ⟨rfl, _⟩
    · subst h0; omega
    · simp only [DataW.weights, ht, List.all_cons, Bool.and_eq_true, List.length_map, List.length_range, reachBytes] at hw
      have hw1 := of_decide_eq_true hw.1
      have : len * P.bytesOf e ≤ (len + spl.length) * P.bytesOf e := Nat.mul_le_mul_right _ (by omega)
      omega
  refine ⟨oa, len, cap, L, rfl, h1, hb, ?_, h2, h3⟩
  have := hS.1
  have := hS.2.1
  unfold maxLen at this
  omega
/-- Bytes that came in. -/
theorem byte_el {e : TypeId} (he : P.underlying e = some (.int .u8)) (_hc : P.cellsOf e = 1) (cs : List Value) (d : DataW H) (_ : cs.length = P.cellsOf e) (h : Reads enc P W sp held e cs d) : ∃ a : Nat, cs = encB a ∧ a < 256 := by
  obtain ⟨n, rfl, _, h2⟩ := h.int he
  have := u8_bd h2
  exact ⟨n.toNat, by rw [encB, show ((n.toNat : Nat) : Int) = n by omega], by omega⟩
theorem bytes_read {t e : TypeId} (ht : P.underlying t = some (.slice e)) (he : P.underlying e = some (.int .u8)) (hc : P.cellsOf e = 1) {cs : List Value} {d : DataW H} (h : Reads enc P W sp held t cs d) :
    ∃ v, ∃ L : List Nat, cs = [v] ∧ Vw encB W W.heap.size v L ∧ Bys L := by
  obtain ⟨oa, len, cap, D, spl, rfl, hS, _⟩ := h.slice ht (by omega)
  obtain ⟨L, h1, h2, h3⟩ := sliceIs_vw hS encB (· < 256) 0 (fun a => by rw [encB_len, hc]) (byte_el he hc)
  exact ⟨_, L, rfl, h2, h3⟩
end
end Go.Proofs.Ytebiebcpdjipjaa
