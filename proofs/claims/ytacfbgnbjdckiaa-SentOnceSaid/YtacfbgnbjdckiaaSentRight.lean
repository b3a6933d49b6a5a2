/- DERIVED. Walk of sent's right, on rising ranges. -/
import Derived.Test.YtacfbgnbjdckiaaSentAdd
import Derived.Test.YtacfbgnbjdckiaaRngLaw5
namespace Go.Proofs.Ytacfbgnbjdckiaa
open Go.RowKit

theorem Vw.rng {w : World} {B : Nat} {oa : Option Addr} {n cap : Nat} {L : List Rg} (h : Vw encR w B (.slice oa n cap) L) {i : Nat} {r : Rg} (ha : L[i]? = some r) :
    ∃ b off, oa = some ⟨b, off, none⟩ ∧ b < B ∧ w.cell? ⟨b, off + i * 2, none⟩ = some (.int .u64 r.1) ∧ w.cell? ⟨b, off + i * 2 + 1, none⟩ = some (.int .u64 r.2) := by
  obtain ⟨b, off, h1, h2, h3⟩ := h.el encR_len ha
  refine ⟨b, off, h1, h2, ?_, h3 1 (by omega)⟩
  have := h3 0 (by omega)
  simpa [encR] using this
theorem Norm.next {rs : List Rg} (h : Norm rs) {i : Nat} {a b : Rg} (ha : rs[i]? = some a) (hb : rs[i + 1]? = some b) : a.2 < b.1 := by
  have h2 := List.pairwise_iff_getElem.1 h.2
  obtain ⟨h3, rfl⟩ := List.getElem?_eq_some_iff.1 ha
  obtain ⟨h4, rfl⟩ := List.getElem?_eq_some_iff.1 hb
  exact h2 i (i + 1) h3 h4 (by omega)
set_option maxRecDepth 100000 in
set_option maxHeartbeats 2000000 in
theorem right_norm (v : Value) (rs : List Rg) (w : World) {B : Nat} (h : Vw encR w B v rs) (hB : B ≤ w.heap.size) (hn : Norm rs) (hl : rs.length ≤ 1000) (hp : 0 < rs.length) :
    Calls Try.prog 20 #[v] w fun e w' => e = .returned (.bool true) ∧ Below w.heap.size w w' := by
  obtain ⟨oa, cap, rfl, hc1, hc2⟩ := h.shape
  have H := Lib.hid h
  have HN := Lib.hid hn
  clear h hn
  generalize hlen : rs.length = len at *
  have HL := Lib.hid hlen
  clear hlen
  go_enter Try.func20, Try.ntmps20
  go_wp2_with fail
  have HB0 := Lib.hid (Below.refl w.heap.size w)
  go_loopw [7] (fun i wr => ∃ k : Nat, i = .int .i64 k ∧ k ≤ len ∧ Below w.heap.size w wr) (fun i _ => len - (intOf i).toNat)
  case atStart => exact ⟨0, rfl, by omega, HB0.out⟩
  case round =>
    obtain ⟨k, rfl, hk, hb⟩ := hrel
    have HB := Lib.hid hb
    clear hb HB0
    by_cases hlt : k < len
    · obtain ⟨r, hr⟩ : ∃ r, rs[k]? = some r := ⟨_, List.getElem?_eq_getElem (by rw [HL.out]; exact hlt)⟩
      obtain ⟨c, ofc, rfl, hc, q0, q1⟩ := H.out.rng hr
      have hcB : c < w.heap.size := by omega
      have q0 := cell_keep HB.out hcB q0
      have q1 := cell_keep HB.out hcB q1
      have hrr := (HN.out.at hr).1
      have hrr2 := (HN.out.at hr).2
      have h1 : ¬ r.2 ≤ r.1 := by omega
      have h1i : ¬ (r.2 : Int) ≤ (r.1 : Int) := by omega
      have ha := (Below.refl wr.heap.size wr).alloc (Nat.le_refl _) (.cells #[.int .u64 r.1, .int .u64 r.2] 37)
      have HA := Lib.hid (below_call HB.out HB.out.size ha)
      rcases Nat.eq_zero_or_pos k with h0 | h0
      · subst h0
        simp only [Nat.zero_mul, Nat.add_zero] at q0 q1
        go_wp2_with fail
        go_quiet (fail)
        go_wp2_with fail
        go_roundw
        case rel => exact ⟨1, rfl, by omega, below_drewN HA.out _⟩
        case measure => simp [intOf]; omega
      · obtain ⟨j, rfl⟩ : ∃ j, k = j + 1 := ⟨k - 1, by omega⟩
        obtain ⟨r', hr'⟩ : ∃ r', rs[j]? = some r' := ⟨_, List.getElem?_eq_getElem (by rw [HL.out]; omega)⟩
        obtain ⟨c', ofc', e', hc', p0, p1⟩ := H.out.rng hr'
        cases e'
        have p1 := cell_keep HB.out hcB p1
        have hnx := HN.out.next hr' hr
        have h2 : ¬ r.1 ≤ r'.2 := by omega
        have p1a : (wr.alloc (.cells #[.int .u64 r.1, .int .u64 r.2] 37)).cell? ⟨c, ofc + j * 2 + 1, none⟩ = some (.int .u64 r'.2) := by rw [World.cell?_alloc_lt _ _ _ (by have := HB.out.size; exact Nat.lt_of_lt_of_le hcB this)]; exact p1
        clear hr hr' hnx hrr hrr2 ha p0 p1
        go_wp2_with fail
        go_quiet (fail)
        go_wp2_with fail
        go_roundw
        case rel => exact ⟨j + 1 + 1, by go_num, by omega, below_drewN HA.out _⟩
        case measure => simp [intOf]; omega
    · have hp' : (0 : Int) < len := by omega
      go_wp2_with fail
      go_ret
      exact ⟨rfl, HB.out⟩
end Go.Proofs.Ytacfbgnbjdckiaa
