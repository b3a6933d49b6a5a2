/- DERIVED. Walk of a set's All. -/
import Derived.Test.YtebiebcpdjipjaaSet
import Derived.Deep.RegionHeld3
namespace Go.Proofs.Ytebiebcpdjipjaa
open Go.RowKit
set_option maxHeartbeats 400000 in
theorem all_any (b : Nat) (most : Int) (og : Option Nat) (xs : List Rg) (w : World) (h : SetAt w b most og xs) (hl : xs.length * 16 ≤ 140737488355328) :
    Calls Try.prog 62 #[.pointer (some ⟨b, 0, none⟩)] w (Made w xs) := by
  obtain ⟨v, hb, hs, hne⟩ := h
  have c1 := cell_at hb 1
  simp at c1
  have HS := Lib.hid hs
  clear hb hs
  go_enter Try.func62, Try.ntmps62
  go_wp2_with fail
  refine (clone_any _ _ _ _ HS.out hl).mono ?_
  rintro e w' ⟨v', og', rfl, h1, h2, h3⟩
  have HM := Lib.hid (show Made w xs (.returned v') w' from ⟨v', og', rfl, h1, h2, h3⟩)
  clear h1 h2 h3
  go_wp2
  go_ret
  exact HM.out
end Go.Proofs.Ytebiebcpdjipjaa
