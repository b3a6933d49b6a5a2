/- DERIVED. slices.Insert and slices.Replace at ranges: one element put in the place of some, or none. -/
import Derived.Test.YtijnjnncgkhabaaVReplace
import Derived.Test.YtijnjnncgkhabaaVReplace2
import Derived.Test.YtijnjnncgkhabaaVInsert
namespace Go.Proofs.Ytijnjnncgkhabaa
open Go.RowKit

/-- A slice value that is nil, or lies at the head of the row og, and reads as xs. -/
def Sl (E : TypeId) (w : World) (v : Value) (og : Option Nat) (xs : List Rg) : Prop :=
  (v = .slice none 0 0 ∧ xs = [] ∧ og = none) ∨
  ∃ g ys, og = some g ∧ v = .slice (some ⟨g, 0, none⟩) xs.length (xs.length + ys.length) ∧ RowR E w g (xs ++ ys) ∧ xs.length + ys.length ≤ 9223372036854775807
theorem Head.sl {E : TypeId} {w : World} {g cap n : Nat} {xs : List Rg} (h : Head E w g xs cap) (hc : cap ≤ 9223372036854775807) (hn : n = xs.length) : Sl E w (.slice (some ⟨g, 0, none⟩) n cap) (some g) xs := by
  obtain ⟨ys, h1, h2⟩ := h
  subst hn
  exact .inr ⟨g, ys, rfl, by rw [h2], h1, by omega⟩

/-- What a call that turns one slice leaves: a slice that reads as ys, in the old row or a new one. -/
def Repl (w : World) (og : Option Nat) (ys : List Rg) (e : Ending) (w' : World) : Prop :=
  ∃ v' og' E, e = .returned v' ∧ Sl E w' v' og' ys ∧ (og' = og ∨ ∃ g, og' = some g ∧ w.heap.size ≤ g) ∧ Upd (fun j => og = some j) w w'

theorem Repl.ofHead {w w' : World} {g n cap : Nat} {ys : List Rg} {e : Ending} (he : e = .returned (.slice (some ⟨g, 0, none⟩) n cap)) (hn : n = ys.length) {E : TypeId} (hh : Head E w' g ys cap) (hc : cap ≤ 9223372036854775807) (hu : Upd (fun k => k = g) w w') :
    Repl w (some g) ys e w' := ⟨_, some g, E, he, hh.sl hc hn, .inl rfl, hu.mono (fun _ _ x => by rw [x])⟩
theorem Repl.ofFresh {w w' : World} {og : Option Nat} {ys : List Rg} {e : Ending} (h : Fresh w w' ys e) : Repl w og ys e w' := by
  obtain ⟨cap, he, hh, hc, hb⟩ := h
  exact ⟨_, some w.heap.size, 53, he, hh.sl hc rfl, .inr ⟨_, rfl, Nat.le_refl _⟩, (Upd.below hb).mono (fun i hi h => by omega)⟩

theorem insert_any {E E' : TypeId} (v : Value) (og : Option Nat) (xs : List Rg) (i h : Nat) (r : Rg) (w : World) (hs : Sl E w v og xs) (ho : ∀ a ∈ xs, oneR a) (hr1 : oneR r) (hi : i ≤ xs.length) (hh : RowR E' w h [r]) (hne : og ≠ some h) (hm : (xs.length + 1) * 16 ≤ 140737488355328) :
    Calls Try.prog 175 #[v, .int .i64 i, .slice (some ⟨h, 0, none⟩) 1 1] w (Repl w og (xs.take i ++ r :: xs.drop i)) := by
  rcases hs with ⟨rfl, rfl, rfl⟩ | ⟨g, ys, rfl, rfl, hg, hl⟩
  · obtain rfl : i = 0 := by simpa using hi
    exact (insert_nil h r w hh).mono fun e w' hf => Repl.ofFresh hf
  · have hgh : g ≠ h := fun e => hne (by rw [e])
    have t1 : (xs ++ ys).take i = xs.take i := List.take_append_of_le_length hi
    have t2 : (xs ++ ys).take xs.length = xs := by rw [List.take_append_of_le_length (Nat.le_refl _), List.take_length]
    have hlen : xs.length + 1 = (xs.take i ++ r :: xs.drop i).length := by simp; omega
    by_cases hroom : 0 < ys.length
    · by_cases hin : i < xs.length
      · refine (insert_shift g h (xs ++ ys) r i xs.length (xs.length + ys.length) w hin (by omega) (by simp) hg hh (by simpa using ho) hr1 hgh hl).mono fun e w' ⟨he, hd, hu⟩ => ?_
        rw [t1, t2] at hd
        exact Repl.ofHead he hlen hd hl hu
      · obtain rfl : i = xs.length := by omega
        refine (insert_end g h (xs ++ ys) r xs.length (xs.length + ys.length) w (by omega) (by simp) hg hh hr1 hl).mono fun e w' ⟨he, hd, hu⟩ => ?_
        rw [t2] at hd
        have e1 : xs.take xs.length ++ r :: xs.drop xs.length = xs ++ [r] := by simp
        rw [e1]
        exact Repl.ofHead he (by simp) hd hl hu
    · obtain rfl : ys = [] := List.eq_nil_of_length_eq_zero (by omega)
      simp only [List.append_nil, List.length_nil, Nat.add_zero] at hg ⊢
      by_cases hin : i < xs.length
      · exact (insert_grow g h xs r i xs.length w hin rfl hg hh ho hr1 hm).mono fun e w' hf => Repl.ofFresh hf
      · obtain rfl : i = xs.length := by omega
        have e1 : xs.take xs.length ++ r :: xs.drop xs.length = xs ++ [r] := by simp
        rw [e1]
        exact (insert_end_grow g h xs r xs.length w rfl hg hh hm).mono fun e w' hf => Repl.ofFresh hf

set_option maxRecDepth 100000 in
set_option maxHeartbeats 400000 in
theorem replace_insert_nil (h : Nat) (w : World) (og : Option Nat) (ys : List Rg)
    (hi : Calls Try.prog 175 #[.slice none 0 0, .int .i64 0, .slice (some ⟨h, 0, none⟩) 1 1] w (Repl w og ys)) :
    Calls Try.prog 155 #[.slice none 0 0, .int .i64 0, .int .i64 0, .slice (some ⟨h, 0, none⟩) 1 1] w (Repl w og ys) := by
  have HI := Lib.hid hi
  clear hi
  go_enter Try.func155, Try.ntmps155
  go_wp2_with fail
  refine HI.out.mono ?_
  rintro e w' ⟨v, og', E0, rfl, h1, h2, h3⟩
  have HH := Lib.hid (show Repl w og ys (.returned v) w' from ⟨v, og', E0, rfl, h1, h2, h3⟩)
  clear h1 h2 h3 HI
  go_wp2
  go_ret
  exact HH.out

set_option maxRecDepth 100000 in
set_option maxHeartbeats 400000 in
theorem replace_insert (g n cap : Nat) (i h : Nat) (w : World) (og : Option Nat) (ys : List Rg) (hin : i ≤ n) (hnc : n ≤ cap) (_hcap : cap ≤ 9223372036854775807)
    (hi : Calls Try.prog 175 #[.slice (some ⟨g, 0, none⟩) n cap, .int .i64 i, .slice (some ⟨h, 0, none⟩) 1 1] w (Repl w og ys)) :
    Calls Try.prog 155 #[.slice (some ⟨g, 0, none⟩) n cap, .int .i64 i, .int .i64 i, .slice (some ⟨h, 0, none⟩) 1 1] w (Repl w og ys) := by
  by_cases hci : cap = i
  · subst hci
    have HI := Lib.hid hi
    clear hi
    go_enter Try.func155, Try.ntmps155
    go_wp2_with fail
    refine HI.out.mono ?_
    rintro e w' ⟨v, og', E0, rfl, h1, h2, h3⟩
    have HH := Lib.hid (show Repl w og ys (.returned v) w' from ⟨v, og', E0, rfl, h1, h2, h3⟩)
    clear h1 h2 h3 HI
    go_wp2
    go_ret
    exact HH.out
  · have HI := Lib.hid hi
    clear hi
    go_enter Try.func155, Try.ntmps155
    go_wp2_with fail
    refine HI.out.mono ?_
    rintro e w' ⟨v, og', E0, rfl, h1, h2, h3⟩
    have HH := Lib.hid (show Repl w og ys (.returned v) w' from ⟨v, og', E0, rfl, h1, h2, h3⟩)
    clear h1 h2 h3 HI
    go_wp2
    go_ret
    exact HH.out

theorem replace_any {E E' : TypeId} (v : Value) (og : Option Nat) (xs : List Rg) (i k h : Nat) (r : Rg) (w : World) (hs : Sl E w v og xs) (ho : ∀ a ∈ xs, oneR a) (hr1 : oneR r) (hi : i ≤ k) (hk : k ≤ xs.length) (hh : RowR E' w h [r]) (hne : og ≠ some h) (hm : (xs.length + 1) * 16 ≤ 140737488355328) :
    Calls Try.prog 155 #[v, .int .i64 i, .int .i64 k, .slice (some ⟨h, 0, none⟩) 1 1] w (Repl w og (xs.take i ++ r :: xs.drop k)) := by
  by_cases hik : i = k
  · subst hik
    have h1 := insert_any v og xs i h r w hs ho hr1 hk hh hne hm
    rcases hs with ⟨rfl, rfl, rfl⟩ | ⟨g, ys, rfl, rfl, hg, hl⟩
    · obtain rfl : i = 0 := by simpa using hk
      exact replace_insert_nil h w _ _ h1
    · exact replace_insert _ _ _ i h w _ _ hk (by omega) hl h1
  · rcases hs with ⟨rfl, rfl, rfl⟩ | ⟨g, ys, rfl, rfl, hg, hl⟩
    · simp at hk
      omega
    · have hgh : g ≠ h := fun e => hne (by rw [e])
      have t1 : (xs ++ ys).take i = xs.take i := List.take_append_of_le_length (by omega)
      have t2 : (xs ++ ys).take xs.length = xs := by rw [List.take_append_of_le_length (Nat.le_refl _), List.take_length]
      by_cases hkn : k < xs.length
      · refine (replace_mid g h (xs ++ ys) r i k xs.length (xs.length + ys.length) w (by omega) hkn (by omega) (by simp) hg hh (by simpa using ho) hr1 hgh hl).mono fun e w' ⟨he, hd, hu⟩ => ?_
        rw [t1, t2] at hd
        exact Repl.ofHead he (by simp; omega) hd hl hu
      · obtain rfl : k = xs.length := by omega
        refine (replace_end g h (xs ++ ys) r i xs.length (xs.length + ys.length) w (by omega) (by omega) (by simp) hg hh hr1 hgh hl).mono fun e w' ⟨he, hd, hu⟩ => ?_
        rw [t1] at hd
        have e1 : xs.take i ++ r :: xs.drop xs.length = xs.take i ++ [r] := by simp
        rw [e1]
        exact Repl.ofHead he (by simp; omega) hd hl hu
end Go.Proofs.Ytijnjnncgkhabaa
