/- DERIVED. Walk of inbuf's Add, where it refuses. -/
import Derived.Test.YtebiebcpdjipjaaInbAdd
namespace Go.Proofs.Ytebiebcpdjipjaa
open Go.RowKit

theorem IB.err_one {s : IB} {off n : Nat} {f : Bool} (h : 1099511627776 < off ∨ 512 < n) : s.err off n f = 1 := by unfold IB.err; rw [if_pos h]
theorem IB.err_fin {s : IB} {off n : Nat} {f : Bool} (h : ¬ (1099511627776 < off ∨ 512 < n)) (h2 : s.finErr (off + n) f = true) : s.err off n f = 30 := by unfold IB.err; rw [if_neg h, if_pos h2]
theorem IB.err_over {s : IB} {off n : Nat} {f : Bool} (h : ¬ (1099511627776 < off ∨ 512 < n)) (h2 : s.finErr (off + n) f = false) (h3 : s.rd + 2048 < off + n) : s.err off n f = 23 := by
  unfold IB.err; rw [if_neg h, if_neg (by rw [h2]; simp), if_pos h3]
theorem IB.err_no {s : IB} {off n : Nat} {f : Bool} (h : ¬ (1099511627776 < off ∨ 512 < n)) (h2 : s.finErr (off + n) f = false) (h3 : ¬ s.rd + 2048 < off + n) : s.err off n f = 0 := by
  unfold IB.err; rw [if_neg h, if_neg (by rw [h2]; simp), if_neg h3]

set_option maxRecDepth 100000 in
set_option maxHeartbeats 1000000 in
theorem badd_err (b : Nat) (s : IB) (fp : Nat → Prop) (off : Nat) (vd : Value) (d : List Nat) (f : Bool) (w : World) (h : IbAt w b s fp) (hd : VwA encB fp w vd d) (hoff : off < 18446744073709551616) (he : s.err off d.length f ≠ 0) :
    Calls Try.prog 23 #[.pointer (some ⟨b, 0, none⟩), .int .u64 off, vd, .bool f] w fun e w' => e = .returned (.int .i64 (s.err off d.length f : Nat)) ∧ w' = w := by
  obtain ⟨c0, c1, c2, c3⟩ := h.cells
  obtain ⟨hb1, hb3, hb4, hb2⟩ := h.bd
  obtain ⟨oa, cap, rfl, hcap1, hcap2⟩ := hd.shape
  clear h hd
  generalize d.length = len at *
  by_cases h1 : (1099511627776 : Int) < off
  · have e := IB.err_one (s := s) (f := f) (n := len) (off := off) (.inl (by omega))
    rw [e]
    clear he e
    go_enter Try.func23, Try.ntmps23
    go_wp2_with fail
    go_ret
    exact ⟨rfl, rfl⟩
  by_cases h2 : (512 : Int) < len
  · have e := IB.err_one (s := s) (f := f) (n := len) (off := off) (.inr (by omega))
    rw [e]
    clear he e
    go_enter Try.func23, Try.ntmps23
    go_wp2_with fail
    go_ret
    exact ⟨rfl, rfl⟩
  have h12 : ¬ (1099511627776 < off ∨ 512 < len) := by omega
  obtain ⟨E, hE, hE2⟩ : ∃ E : Nat, (off : Int) + (len : Int) = (E : Int) ∧ off + len = E := ⟨off + len, by omega, rfl⟩
  have HE := Lib.hid hE2
  have hE4 : E ≤ 1099511628288 := by omega
  clear hE2
  cases hfe : s.finErr E f
  · by_cases h3 : s.rd + 2048 < E
    · have e := IB.err_over (s := s) (f := f) h12 (by rw [HE.out]; exact hfe) (by rw [HE.out]; exact h3)
      rw [e]
      clear he e h12
      go_enter Try.func23, Try.ntmps23
      unfold IB.finErr at hfe
      generalize s.kn = kn at *
      have h3' : (s.rd : Int) + 2048 < E := by omega
      cases kn
      · cases f
        · go_wp2_with fail
          go_ret
          exact ⟨rfl, rfl⟩
        · have q1 : ¬ E < s.hi := by simpa using hfe
          go_wp2_with fail
          go_ret
          exact ⟨rfl, rfl⟩
      · cases f
        · have q1 : ¬ s.fin < E := by simpa using hfe
          go_wp2_with fail
          go_ret
          exact ⟨rfl, rfl⟩
        · have q1 : E = s.fin ∧ ¬ E < s.hi := by
            simp at hfe
            omega
          obtain ⟨q1, q2⟩ := q1
          have q3 : ¬ s.fin < E := by omega
          have q5 : ((E : Int) != (s.fin : Int)) = false := by rw [q1]; simp
          clear q1
          go_wp2_with fail
          go_ret
          exact ⟨rfl, rfl⟩
    · exact absurd (IB.err_no h12 (by rw [HE.out]; exact hfe) (by rw [HE.out]; exact h3)) he
  · have e := IB.err_fin (s := s) (f := f) h12 (by rw [HE.out]; exact hfe)
    rw [e]
    clear he e h12
    unfold IB.finErr at hfe
    generalize s.kn = kn at *
    cases kn
    · cases f
      · simp at hfe
      · have q1 : E < s.hi := by simpa using hfe
        go_enter Try.func23, Try.ntmps23
        go_wp2_with fail
        go_ret
        exact ⟨rfl, rfl⟩
    · cases f
      · have q1 : s.fin < E := by simpa using hfe
        go_enter Try.func23, Try.ntmps23
        go_wp2_with fail
        go_ret
        exact ⟨rfl, rfl⟩
      · by_cases q1 : s.fin < E
        · go_enter Try.func23, Try.ntmps23
          go_wp2_with fail
          go_ret
          exact ⟨rfl, rfl⟩
        · by_cases q2 : E = s.fin
          · have q3 : E < s.hi := by
              simp at hfe
              omega
            have q5 : ((E : Int) != (s.fin : Int)) = false := by rw [q2]; simp
            clear q2
            go_enter Try.func23, Try.ntmps23
            go_wp2_with fail
            go_ret
            exact ⟨rfl, rfl⟩
          · have q5 : ((E : Int) != (s.fin : Int)) = true := by simp; omega
            go_enter Try.func23, Try.ntmps23
            go_wp2_with fail
            go_ret
            exact ⟨rfl, rfl⟩
end Go.Proofs.Ytebiebcpdjipjaa
