/- DERIVED. Walks of outbuf's readers and its New. -/
import Derived.Test.YtkebjfaphmamjaaOutS
import Derived.Test.YtkebjfaphmamjaaSLen
import Derived.Deep.DeepCutAuto
namespace Go.Proofs.Ytkebjfaphmamjaa
open Go.RowKit

theorem SetAt.drew {w : World} {b : Nat} {m : Int} {og : Option Nat} {xs : List Rg} (h : SetAt w b m og xs) : SetAt w.drew b m og xs := h.below (Below.refl _ _).drew
theorem OAt.bd {w : World} {b : Nat} {s : OS} {fp : Nat → Prop} (h : OAt w b s fp) : s.B.length ≤ 1099511627776 ∧ s.base ≤ s.B.length ∧ s.sent ≤ s.B.length := ⟨h.ok.len, h.ok.base, h.ok.sent⟩
theorem OAt.drewN {w : World} {b : Nat} {s : OS} {fp : Nat → Prop} (h : OAt w b s fp) (n : Nat) : OAt (w.drewN n) b s fp := h.below (below_drewN (Below.refl _ _) n)

set_option maxRecDepth 100000 in
set_option maxHeartbeats 1000000 in
theorem onew_any (w : World) : Calls Try.prog 6 #[] w fun e w' => ∃ b fp, e = .returned (.pointer (some ⟨b, 0, none⟩)) ∧ OAt w' b OS.zero fp ∧ (∀ k, fp k → w.heap.size ≤ k) ∧ Below w.heap.size w w' := by
  go_enter Try.func6, Try.ntmps6
  go_wp2_with fail
  refine (snew_any 1048576 _).mono ?_
  rintro e w1 ⟨c, rfl, hc, h1, hb1⟩
  have H1 := Lib.hid h1
  have HB1 := Lib.hid hb1
  clear h1 hb1
  go_wp2_with fail
  refine (snew_any 1048576 _).mono ?_
  rintro e w2 ⟨d, rfl, hd, h2, hb2⟩
  have H2 := Lib.hid h2
  have HB2 := Lib.hid hb2
  clear h2 hb2
  go_wp2_with fail
  go_ret
  have s1 := H1.out.lt
  have s2 := H2.out.lt
  have z1 := HB1.out.size
  have z2 := HB2.out.size
  have hA := (Below.refl w2.heap.size w2).alloc (Nat.le_refl _) (.cells #[.slice none 0 0, .int .u64 0, .int .u64 0, .int .u64 0, .pointer (some ⟨c, 0, none⟩), .pointer (some ⟨d, 0, none⟩), .bool false, .bool false, .bool false, .bool false] 51)
  have c1 := s1.1
  have c2 := s2.1
  refine ⟨w2.heap.size, _, rfl, ⟨.slice none 0 0, none, c, none, d, none, ⟨alloc_at _ _, SlO.nil _ _ _, (H1.out.below HB2.out).below hA, H2.out.below hA, OS.zero_ok, ⟨by omega, by simp, by simp, by simp⟩, ⟨by omega, by omega, by simp, by simp⟩, ⟨by simp, by simp, by simp, by simp⟩⟩, rfl⟩, ?_, below_call HB1.out z1 (below_call HB2.out z2 hA)⟩
  rintro k (rfl | rfl | rfl | q | q | q)
  · omega
  · exact hc
  · omega
  · cases q
  · cases q
  · cases q

set_option maxHeartbeats 1000000 in
theorem osent_q (b : Nat) (s : OS) (fp : Nat → Prop) (w : World) (h : OAt w b s fp) : Calls Try.prog 11 #[.pointer (some ⟨b, 0, none⟩)] w fun e w' => e = .returned (.int .u64 s.sent) ∧ ∃ n, w' = w.drewN n := by
  obtain ⟨_, _, c, _⟩ := h.cells
  go_enter Try.func11, Try.ntmps11
  go_wp2_with fail
  go_ret
  exact ⟨rfl, 0, rfl⟩
set_option maxHeartbeats 1000000 in
theorem olen_q (b : Nat) (s : OS) (fp : Nat → Prop) (w : World) (h : OAt w b s fp) : Calls Try.prog 13 #[.pointer (some ⟨b, 0, none⟩)] w fun e w' => e = .returned (.int .u64 s.B.length) ∧ ∃ n, w' = w.drewN n := by
  obtain ⟨_, c, _⟩ := h.cells
  go_enter Try.func13, Try.ntmps13
  go_wp2_with fail
  go_ret
  exact ⟨rfl, 0, rfl⟩
set_option maxRecDepth 100000 in
set_option maxHeartbeats 1000000 in
theorem oend_q (b : Nat) (s : OS) (fp : Nat → Prop) (w : World) (h : OAt w b s fp) : Calls Try.prog 24 #[.pointer (some ⟨b, 0, none⟩)] w fun e w' => e = .returned (.bool s.ende) ∧ ∃ n, w' = w.drewN n := by
  obtain ⟨_, _, _, c6, c7, c8, c9⟩ := h.cells
  unfold OS.ende
  generalize s.fi = fi at *
  generalize s.es = es at *
  generalize s.ea = ea at *
  generalize s.el = el at *
  clear h
  cases fi
  all_goals cases ea
  all_goals cases es
  all_goals cases el
  all_goals go_enter Try.func24, Try.ntmps24
  all_goals go_wp2_with fail
  all_goals go_ret
  all_goals exact ⟨rfl, 0, rfl⟩
set_option maxRecDepth 100000 in
set_option maxHeartbeats 1000000 in
theorem oroom_q (b : Nat) (s : OS) (fp : Nat → Prop) (w : World) (h : OAt w b s fp) (hr : s.B.length ≤ s.base + 2048) : Calls Try.prog 8 #[.pointer (some ⟨b, 0, none⟩)] w fun e w' => e = .returned (.int .i64 s.room) ∧ ∃ n, w' = w.drewN n := by
  obtain ⟨c1, c2, _, c6, _⟩ := h.cells
  obtain ⟨h1, h2, _⟩ := h.bd
  unfold OS.room
  generalize s.fi = fi at *
  generalize s.B.length = len at *
  generalize s.base = base at *
  clear h
  obtain ⟨g, hg, hg2⟩ : ∃ g : Nat, (len : Int) - base = (g : Int) ∧ len - base = g := ⟨len - base, by omega, rfl⟩
  obtain ⟨r, hr2, hr3⟩ : ∃ r : Nat, (2048 : Int) - (g : Int) = (r : Int) ∧ 2048 - g = r := ⟨2048 - g, by omega, rfl⟩
  rw [hg2, hr3]
  clear hg2 hr3
  have hgb : g ≤ 2048 := by omega
  cases fi
  · go_enter Try.func8, Try.ntmps8
    go_wp2_with fail
    go_quiet (fail)
    go_wp2_with fail
    go_ret
    exact ⟨rfl, _, rfl⟩
  · go_enter Try.func8, Try.ntmps8
    go_wp2_with fail
    go_ret
    exact ⟨rfl, 0, rfl⟩
set_option maxRecDepth 100000 in
set_option maxHeartbeats 1000000 in
theorem oknown_q (b : Nat) (s : OS) (fp : Nat → Prop) (off : Nat) (n : Int) (w : World) (h : OAt w b s fp) (ho : off < 18446744073709551616) (hn : -9223372036854775808 ≤ n) (hn2 : n ≤ 9223372036854775807) :
    Calls Try.prog 27 #[.pointer (some ⟨b, 0, none⟩), .int .u64 off, .int .i64 n] w fun e w' => e = .returned (.tuple #[.int .u64 (s.kn off n).1, .int .u64 (s.kn off n).2]) ∧ ∃ q, w' = w.drewN q := by
  obtain ⟨_, _, c3, _⟩ := h.cells
  obtain ⟨h1, _, h2⟩ := h.bd
  unfold OS.kn
  generalize s.sent = sent at *
  generalize s.B.length = len at *
  clear h
  obtain ⟨f, hf⟩ : ∃ f, min off sent = f := ⟨_, rfl⟩
  have hf2 : f ≤ sent := by omega
  rw [hf]
  obtain ⟨m, hm, hm2⟩ : ∃ m : Nat, (if 0 < n then n else 0) = (m : Int) ∧ n.toNat = m := ⟨n.toNat, by split <;> omega, rfl⟩
  obtain ⟨t, ht⟩ : ∃ t, min sent (f + m) = t := ⟨_, rfl⟩
  rw [hm2, ht]
  have hmb : m ≤ 9223372036854775807 := by omega
  go_enter Try.func27, Try.ntmps27
  go_upto_region 1 with fail
  go_cut [1] (fun v wx => v = .int .u64 f ∧ wx = w)
  case first =>
    by_cases hlt : off < sent
    · obtain rfl : f = off := by omega
      go_wp2_with fail
      go_meet
      case rel => first | exact ⟨rfl, rfl⟩ | (refine ⟨?_, rfl⟩; congr 1; omega)
    · obtain rfl : f = sent := by omega
      by_cases he : off = f
      · subst he
        go_wp2_with fail
        go_meet
        case rel => first | exact ⟨rfl, rfl⟩ | (refine ⟨?_, rfl⟩; congr 1; omega)
      · go_wp2_with fail
        go_meet
        case rel => first | exact ⟨rfl, rfl⟩ | (refine ⟨?_, rfl⟩; congr 1; omega)
  case rest =>
    obtain ⟨rfl, rfl⟩ := hcut
    have hw1 : IntKind.u64.wrap (m : Int) = m := IntWalk.u64_in _ (by omega)
    have hw2 : IntKind.u64.wrap ((f : Int) + m) = (f : Int) + m := IntWalk.u64_in _ (by omega)
    clear hf ho
    rcases (by omega : (0 < n ∧ n = m) ∨ (¬ 0 < n ∧ m = 0)) with ⟨q1, q2⟩ | ⟨q1, q2⟩
    · subst q2
      by_cases hlt : (sent : Int) < (f : Int) + m
      · obtain rfl : t = sent := by omega
        go_wp2_with fail
        go_quiet (fail)
        go_wp2_with fail
        go_ret2
        exact ⟨rfl, _, rfl⟩
      · obtain rfl : t = f + m := by omega
        by_cases hlt2 : (f : Int) + m < sent
        · go_wp2_with fail
          go_quiet (fail)
          go_wp2_with fail
          go_ret2
          exact ⟨by simp, _, rfl⟩
        · have hlt3 : (f : Int) + m = sent := by omega
          go_wp2_with fail
          go_quiet (fail)
          go_wp2_with fail
          go_ret2
          exact ⟨by simp; omega, _, rfl⟩
    · subst q2
      obtain rfl : t = f := by omega
      by_cases hlt : t < sent
      · go_wp2_with fail
        go_quiet (fail)
        go_wp2_with fail
        go_ret2
        exact ⟨rfl, _, rfl⟩
      · obtain rfl : t = sent := by omega
        go_wp2_with fail
        go_quiet (fail)
        go_wp2_with fail
        go_ret2
        exact ⟨rfl, _, rfl⟩
end Go.Proofs.Ytkebjfaphmamjaa
