/- DERIVED. Walks of cong's and its reference's functions: what each call does. -/
import Derived.Test.YtefanlmknoepdaaRows
import Derived.Test.YtefanlmknoepdaaBase
namespace Go.Proofs.Ytefanlmknoepdaa
open Go.RowKit

/-- A window's block: size, threshold, since. -/
def Win (T : TypeId) (w : World) (b : Nat) (s t c : Int) : Prop := w.heap[b]? = some (.cells #[.int .i64 s, .int .i64 t, .int .i64 c] T (0, 0))

def clampD (z : Int) : Int := if z ≤ 0 then 0 else if z ≤ 512 then z else 512
theorem clampD_bd (z : Int) : 0 ≤ clampD z ∧ clampD z ≤ 512 := by unfold clampD; split; omega; split <;> omega
def ackS (s t c z m : Int) : Int := if m ≤ c then s else if 1073741824 < s + (if s < t then clampD z else 512 * clampD z / s) then 1073741824 else s + (if s < t then clampD z else 512 * clampD z / s)

set_option maxHeartbeats 400000 in
theorem size_q (b : Nat) (s t c : Int) (w : World) (h : Win 36 w b s t c) :
    Calls Try.prog 10 #[.pointer (some ⟨b, 0, none⟩)] w fun e w' => e = .returned (.int .i64 s) ∧ ∃ n, w' = w.drewN n := by
  have h0 := cell_at h 0
  simp at h0
  clear h
  go_enter Try.func10, Try.ntmps10
  go_wp2
  go_ret
  exact ⟨rfl, 0, rfl⟩

set_option maxHeartbeats 400000 in
theorem slow_q (b : Nat) (s t c : Int) (w : World) (h : Win 36 w b s t c) :
    Calls Try.prog 12 #[.pointer (some ⟨b, 0, none⟩)] w fun e w' => e = .returned (.bool (decide (s < t))) ∧ ∃ n, w' = w.drewN n := by
  have h0 := cell_at h 0
  have h1 := cell_at h 1
  simp at h0 h1
  clear h
  go_enter Try.func12, Try.ntmps12
  go_wp2
  go_quiet (fail)
  go_wp2
  go_ret
  exact ⟨rfl, _, rfl⟩

def mayB (s f z : Int) : Bool := decide (0 ≤ f) && (decide (0 ≤ z) && (decide (f ≤ s) && decide (z ≤ s - f)))

theorem may_end {a b : Bool} (h : a = b) : Ending.returned (.bool a) = .returned (.bool b) := by rw [h]

set_option maxHeartbeats 400000 in
theorem may_q (b : Nat) (s t c f z : Int) (w : World) (h : Win 36 w b s t c) (hs : 1024 ≤ s) (hs2 : s ≤ 1073741824) :
    Calls Try.prog 16 #[.pointer (some ⟨b, 0, none⟩), .int .i64 f, .int .i64 z] w fun e w' => e = .returned (.bool (mayB s f z)) ∧ ∃ n, w' = w.drewN n := by
  have h0 := cell_at h 0
  simp at h0
  clear h
  go_enter Try.func16, Try.ntmps16
  go_wp2
  all_goals (go_ret; refine ⟨may_end ?_, 0, rfl⟩; rw [mayB, Bool.eq_iff_iff]; first | (simp; done) | (simp; omega))

set_option maxHeartbeats 400000 in
theorem rmay_q (b : Nat) (s t c f z : Int) (w : World) (h : Win 41 w b s t c) (hs : 1024 ≤ s) (hs2 : s ≤ 1073741824) :
    Calls Try.prog 21 #[.pointer (some ⟨b, 0, none⟩), .int .i64 f, .int .i64 z] w fun e w' => e = .returned (.bool (mayB s f z)) ∧ ∃ n, w' = w.drewN n := by
  have h0 := cell_at h 0
  simp at h0
  clear h
  go_enter Try.func21, Try.ntmps21
  go_wp2
  all_goals (go_ret; refine ⟨may_end ?_, 0, rfl⟩; rw [mayB, Bool.eq_iff_iff]; first | (simp; done) | (simp; omega))

theorem div_bd (x s : Int) (hx : 0 ≤ x) (hx2 : x ≤ 512) (hs : 1024 ≤ s) : 0 ≤ 512 * x / s ∧ 512 * x / s ≤ 256 := by
  constructor
  · exact Int.ediv_nonneg (by omega) (by omega)
  · have : 512 * x / s ≤ 262144 / s := Int.ediv_le_ediv (by omega) (by omega)
    have h2 : (262144 : Int) / s < 257 := Int.ediv_lt_of_lt_mul (by omega) (by omega)
    omega

theorem ack_end {T : TypeId} {w w2 : World} {b : Nat} {s t c v : Int} (h : Win T w b s t c) (n : Nat) (hv : w2 = (w.drewN n).setCell ⟨b, 0, none⟩ (.int .i64 v)) (u : Int) (huv : u = v) :
    Win T w2 b u t c ∧ Upd (fun k => k = b) w w2 := by
  subst hv huv
  refine ⟨?_, ?_⟩
  · unfold Win at *
    rw [set_at (w := w.drewN n) (by simpa using h)]
    rfl
  · exact Upd.setCell ((Upd.refl (fun k => k = b) w).drewN n) ⟨b, 0, none⟩ (.inl rfl) _

set_option maxHeartbeats 1000000 in
theorem acked_any (b : Nat) (s t c z m : Int) (w : World) (h : Win 36 w b s t c) (hs : 1024 ≤ s) (hs2 : s ≤ 1073741824) :
    Calls Try.prog 9 #[.pointer (some ⟨b, 0, none⟩), .int .i64 z, .int .i64 m] w fun e w' =>
      e = .returned (.tuple #[]) ∧ Win 36 w' b (ackS s t c z m) t c ∧ Upd (fun k => k = b) w w' := by
  have h0 := cell_at h 0
  have h1 := cell_at h 1
  have h2 := cell_at h 2
  have f0 := free_at h 0
  simp at h0 h1 h2
  have H := Lib.hid h
  by_cases hm : m ≤ c
  · clear h
    go_enter Try.func9, Try.ntmps9
    go_wp2
    refine bodyPost_ret (results_none rfl _ _ _) rfl ?_
    exact ⟨rfl, by rw [ackS, if_pos hm]; exact H.out, Upd.refl _ _⟩
  · clear h
    obtain ⟨d3, d4⟩ := div_bd 512 s (by omega) (by omega) hs
    simp only [Int.reduceMul] at d3 d4
    by_cases z0 : z ≤ 0
    · clear d3 d4
      by_cases hst : s < t
      all_goals
        go_enter Try.func9, Try.ntmps9
        go_wp2_with (go_at_call 12; refine (slow_q b s t c _ H.out).mono ?_; rintro e w' ⟨rfl, n, rfl⟩)
        all_goals (first | (exfalso; omega) | (exfalso; simp_all; omega) | skip)
        all_goals (refine bodyPost_end (results_none rfl _ _ _) rfl ?_)
        all_goals refine ⟨rfl, ack_end H.out _ rfl _ ?_⟩
        all_goals unfold ackS clampD
        all_goals have q0 : (512 * 0 : Int) / s = 0 := by simp
        all_goals (repeat' split)
        all_goals omega
    · by_cases z1 : z ≤ 512
      · obtain ⟨d1, d2⟩ := div_bd z s (by omega) (by omega) hs
        clear d3 d4
        by_cases hst : s < t
        all_goals
          go_enter Try.func9, Try.ntmps9
          go_wp2_with (go_at_call 12; refine (slow_q b s t c _ H.out).mono ?_; rintro e w' ⟨rfl, n, rfl⟩)
          all_goals (first | (exfalso; omega) | (exfalso; simp_all; omega) | skip)
          all_goals (refine bodyPost_end (results_none rfl _ _ _) rfl ?_)
          all_goals refine ⟨rfl, ack_end H.out _ rfl _ ?_⟩
          all_goals unfold ackS clampD
          all_goals (repeat' split)
          all_goals omega
      · by_cases hst : s < t
        all_goals
          go_enter Try.func9, Try.ntmps9
          go_wp2_with (go_at_call 12; refine (slow_q b s t c _ H.out).mono ?_; rintro e w' ⟨rfl, n, rfl⟩)
          all_goals (first | (exfalso; omega) | (exfalso; simp_all; omega) | skip)
          all_goals (refine bodyPost_end (results_none rfl _ _ _) rfl ?_)
          all_goals refine ⟨rfl, ack_end H.out _ rfl _ ?_⟩
          all_goals unfold ackS clampD
          all_goals have q1 : (512 * 512 : Int) / s = 262144 / s := by simp
          all_goals (repeat' split)
          all_goals omega

set_option maxHeartbeats 1000000 in
theorem racked_any (b : Nat) (s t c z m : Int) (w : World) (h : Win 41 w b s t c) (hs : 1024 ≤ s) (hs2 : s ≤ 1073741824) :
    Calls Try.prog 20 #[.pointer (some ⟨b, 0, none⟩), .int .i64 z, .int .i64 m] w fun e w' =>
      e = .returned (.tuple #[]) ∧ Win 41 w' b (ackS s t c z m) t c ∧ Upd (fun k => k = b) w w' := by
  have h0 := cell_at h 0
  have h1 := cell_at h 1
  have h2 := cell_at h 2
  have f0 := free_at h 0
  simp at h0 h1 h2
  have H := Lib.hid h
  by_cases hm : m ≤ c
  · clear h
    go_enter Try.func20, Try.ntmps20
    go_wp2
    refine bodyPost_ret (results_none rfl _ _ _) rfl ?_
    exact ⟨rfl, by rw [ackS, if_pos hm]; exact H.out, Upd.refl _ _⟩
  · clear h
    obtain ⟨d3, d4⟩ := div_bd 512 s (by omega) (by omega) hs
    simp only [Int.reduceMul] at d3 d4
    by_cases z0 : z ≤ 0
    · clear d3 d4
      rcases (by omega : z = 0 ∨ z < 0) with rfl | hz
      all_goals by_cases hst : s < t
      all_goals
        go_enter Try.func20, Try.ntmps20
        go_wp2
        all_goals go_quiet (fail)
        go_wp2
        all_goals (first | (exfalso; omega) | (exfalso; simp_all; omega) | skip)
        all_goals (refine bodyPost_end (results_none rfl _ _ _) rfl ?_)
        all_goals refine ⟨rfl, ack_end H.out _ rfl _ ?_⟩
        all_goals unfold ackS clampD
        all_goals have q0 : (512 * 0 : Int) / s = 0 := by simp
        all_goals (repeat' split)
        all_goals omega
    · by_cases z1 : z ≤ 512
      · obtain ⟨d1, d2⟩ := div_bd z s (by omega) (by omega) hs
        clear d3 d4
        by_cases hst : s < t
        all_goals
          go_enter Try.func20, Try.ntmps20
          go_wp2
          all_goals go_quiet (fail)
          go_wp2
          all_goals (first | (exfalso; omega) | (exfalso; simp_all; omega) | skip)
          all_goals (refine bodyPost_end (results_none rfl _ _ _) rfl ?_)
          all_goals refine ⟨rfl, ack_end H.out _ rfl _ ?_⟩
          all_goals have W := IntWalk.wrap64_in (s + 512 * z / s) ⟨by omega, by omega⟩
          all_goals try rw [W] at *
          all_goals unfold ackS clampD
          all_goals (repeat' split)
          all_goals omega
      · by_cases hst : s < t
        all_goals
          go_enter Try.func20, Try.ntmps20
          go_wp2
          all_goals go_quiet (fail)
          go_wp2
          all_goals (first | (exfalso; omega) | (exfalso; simp_all; omega) | skip)
          all_goals (refine bodyPost_end (results_none rfl _ _ _) rfl ?_)
          all_goals refine ⟨rfl, ack_end H.out _ rfl _ ?_⟩
          all_goals unfold ackS clampD
          all_goals have q1 : (512 * 512 : Int) / s = 262144 / s := by simp
          all_goals (repeat' split)
          all_goals omega

def lostS (s c m : Int) : Int := if m ≤ c then s else if s / 2 < 1024 then 1024 else s / 2

set_option maxHeartbeats 400000 in
theorem new_any (w : World) : Calls Try.prog 7 #[] w fun e w' =>
    e = .returned (.pointer (some ⟨w.heap.size, 0, none⟩)) ∧ w' = w.alloc (.cells #[.int .i64 5120, .int .i64 1073741824, .int .i64 (-1)] 36 (0, 0)) := by
  go_enter Try.func7, Try.ntmps7
  go_wp2
  go_ret
  exact ⟨rfl, rfl⟩

set_option maxHeartbeats 400000 in
theorem rnew_any (w : World) : Calls Try.prog 17 #[] w fun e w' =>
    e = .returned (.pointer (some ⟨w.heap.size, 0, none⟩)) ∧ w' = w.alloc (.cells #[.int .i64 5120, .int .i64 1073741824, .int .i64 (-1)] 41 (0, 0)) := by
  go_enter Try.func17, Try.ntmps17
  go_wp2
  go_ret
  exact ⟨rfl, rfl⟩

theorem lost_end {T : TypeId} {w w2 : World} {b : Nat} {s t c v q : Int} (h : Win T w b s t c)
    (hv : w2 = ((w.setCell ⟨b, 2, none⟩ (.int .i64 q)).setCell ⟨b, 0, none⟩ (.int .i64 v)).setCell ⟨b, 1, none⟩ (.int .i64 v)) {u : Int} (huv : u = v) :
    Win T w2 b u u q ∧ Upd (fun k => k = b) w w2 := by
  subst hv huv
  refine ⟨?_, ?_⟩
  · unfold Win at *
    rw [set_at (set_at (set_at h 2 _) 0 _) 1 _]
    rfl
  · exact Upd.setCell (Upd.setCell (Upd.setCell (Upd.refl (fun k => k = b) w) ⟨b, 2, none⟩ (.inl rfl) _) ⟨b, 0, none⟩ (.inl rfl) _) ⟨b, 1, none⟩ (.inl rfl) _
theorem persist_end {T : TypeId} {w w2 : World} {b : Nat} {s t c : Int} (h : Win T w b s t c)
    (hv : w2 = ((w.setCell ⟨b, 0, none⟩ (.int .i64 1024)).setCell ⟨b, 2, none⟩ (.int .i64 (-1)))) :
    Win T w2 b 1024 t (-1) ∧ Upd (fun k => k = b) w w2 := by
  subst hv
  refine ⟨?_, ?_⟩
  · unfold Win at *
    rw [set_at (set_at h 0 _) 2 _]
    rfl
  · exact Upd.setCell (Upd.setCell (Upd.refl (fun k => k = b) w) ⟨b, 0, none⟩ (.inl rfl) _) ⟨b, 2, none⟩ (.inl rfl) _

set_option maxHeartbeats 1000000 in
theorem lost_any (b : Nat) (s t c m q : Int) (w : World) (h : Win 36 w b s t c) (hs : 1024 ≤ s) (hs2 : s ≤ 1073741824) :
    Calls Try.prog 11 #[.pointer (some ⟨b, 0, none⟩), .int .i64 m, .int .i64 q] w fun e w' =>
      e = .returned (.tuple #[]) ∧ Win 36 w' b (lostS s c m) (if m ≤ c then t else lostS s c m) (if m ≤ c then c else q) ∧ Upd (fun k => k = b) w w' := by
  have h0 := cell_at h 0
  have h1 := cell_at h 1
  have h2 := cell_at h 2
  have f0 := free_at h 0
  have f1 := free_at h 1
  have f2 := free_at h 2
  simp at h0 h1 h2
  have H := Lib.hid h
  clear h
  by_cases hm : m ≤ c
  · go_enter Try.func11, Try.ntmps11
    go_wp2
    refine bodyPost_ret (results_none rfl _ _ _) rfl ?_
    exact ⟨rfl, by simpa only [lostS, hm, if_true] using H.out, Upd.refl _ _⟩
  · go_enter Try.func11, Try.ntmps11
    go_wp2
    all_goals refine bodyPost_end (results_none rfl _ _ _) rfl ?_
    all_goals refine ⟨rfl, lost_end H.out rfl (by unfold lostS; repeat' split; all_goals omega)⟩

set_option maxHeartbeats 1000000 in
theorem rlost_any (b : Nat) (s t c m q : Int) (w : World) (h : Win 41 w b s t c) (hs : 1024 ≤ s) (hs2 : s ≤ 1073741824) :
    Calls Try.prog 18 #[.pointer (some ⟨b, 0, none⟩), .int .i64 m, .int .i64 q] w fun e w' =>
      e = .returned (.tuple #[]) ∧ Win 41 w' b (lostS s c m) (if m ≤ c then t else lostS s c m) (if m ≤ c then c else q) ∧ Upd (fun k => k = b) w w' := by
  have h0 := cell_at h 0
  have h1 := cell_at h 1
  have h2 := cell_at h 2
  have f0 := free_at h 0
  have f1 := free_at h 1
  have f2 := free_at h 2
  simp at h0 h1 h2
  have H := Lib.hid h
  clear h
  by_cases hm : m ≤ c
  · go_enter Try.func18, Try.ntmps18
    go_wp2
    refine bodyPost_ret (results_none rfl _ _ _) rfl ?_
    exact ⟨rfl, by simpa only [lostS, hm, if_true] using H.out, Upd.refl _ _⟩
  · go_enter Try.func18, Try.ntmps18
    go_wp2
    all_goals refine bodyPost_end (results_none rfl _ _ _) rfl ?_
    all_goals refine ⟨rfl, lost_end H.out rfl (by unfold lostS; repeat' split; all_goals omega)⟩


set_option maxHeartbeats 1000000 in
theorem persist_any (b : Nat) (s t c : Int) (w : World) (h : Win 36 w b s t c) :
    Calls Try.prog 15 #[.pointer (some ⟨b, 0, none⟩)] w fun e w' =>
      e = .returned (.tuple #[]) ∧ Win 36 w' b 1024 t (-1) ∧ Upd (fun k => k = b) w w' := by
  have h0 := cell_at h 0
  have h2 := cell_at h 2
  have f0 := free_at h 0
  have f2 := free_at h 2
  simp at h0 h2
  have H := Lib.hid h
  clear h
  go_enter Try.func15, Try.ntmps15
  go_wp2
  refine bodyPost_end (results_none rfl _ _ _) rfl ?_
  exact ⟨rfl, persist_end H.out rfl⟩

set_option maxHeartbeats 1000000 in
theorem rpersist_any (b : Nat) (s t c : Int) (w : World) (h : Win 41 w b s t c) :
    Calls Try.prog 19 #[.pointer (some ⟨b, 0, none⟩)] w fun e w' =>
      e = .returned (.tuple #[]) ∧ Win 41 w' b 1024 t (-1) ∧ Upd (fun k => k = b) w w' := by
  have h0 := cell_at h 0
  have h2 := cell_at h 2
  have f0 := free_at h 0
  have f2 := free_at h 2
  simp at h0 h2
  have H := Lib.hid h
  clear h
  go_enter Try.func19, Try.ntmps19
  go_wp2
  refine bodyPost_end (results_none rfl _ _ _) rfl ?_
  exact ⟨rfl, persist_end H.out rfl⟩


end Go.Proofs.Ytefanlmknoepdaa
