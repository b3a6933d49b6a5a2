/- DERIVED. Walk of narthexlaw13's CongTells. -/
import Derived.Test.YtefanlmknoepdaaCongPlay
import Derived.Test.YtefanlmknoepdaaCongKnown
import Derived.Test.YtefanlmknoepdaaBook
import Derived.Maps.AppendAt
import Derived.Deep.RegionWith
import Derived.Deep.DeepMust
namespace Go.Proofs.Ytefanlmknoepdaa
open Go.RowKit

theorem alloc_at2 (w : World) (A B : Obj) : ((w.alloc A).alloc B).heap[w.heap.size + 1]? = some B := by
  have := alloc_at (w.alloc A) B
  simpa using this
theorem Asks.mono {w : World} {B B' : Nat} {oa : Option Addr} {len : Nat} {f : Nat → Nat → Int} (h : Asks w B oa len f) (hb : B ≤ B') : Asks w B' oa len f := fun i hi => by
  obtain ⟨b, off, h1, h2, h3, h4⟩ := h i hi
  exact ⟨b, off, h1, by omega, h3, h4⟩

def flat4 (g : Nat → Nat → Int) : Nat → List Value
  | 0 => []
  | k + 1 => flat4 g k ++ [.int .i64 (g k 0), .int .i64 (g k 1), .int .i64 (g k 2), .int .i64 (g k 3)]
theorem flat4_length (g : Nat → Nat → Int) (k : Nat) : (flat4 g k).length = k * 4 := by
  induction k with
  | zero => rfl
  | succ k ih => simp [flat4, ih]; omega
theorem flat4_get (g : Nat → Nat → Int) (k i j : Nat) (hi : i < k) (hj : j < 4) : (flat4 g k)[i * 4 + j]? = some (.int .i64 (g i j)) := by
  induction k with
  | zero => omega
  | succ k ih =>
    rw [flat4]
    by_cases h : i < k
    · rw [List.getElem?_append_left (by rw [flat4_length]; omega)]
      exact ih h
    · obtain rfl : i = k := by omega
      rw [List.getElem?_append_right (by rw [flat4_length]; omega), flat4_length, show i * 4 + j - i * 4 = j by omega]
      rcases (by omega : j = 0 ∨ j = 1 ∨ j = 2 ∨ j = 3) with rfl | rfl | rfl | rfl <;> rfl
theorem asks_own {w : World} {base : Nat} {e : TypeId} {v : Value} {k : Nat} {g : Nat → Nat → Int} (h : w.ownsRow base e 4 v k (flat4 g k)) (hg : ∀ i, i < k → ∀ j, j < 4 → I64 (g i j)) :
    ∃ oa cap, v = .slice oa k cap ∧ Asks w w.heap.size oa k g := by
  obtain ⟨h1, h2⟩ := h
  rcases h2 with ⟨rfl, rfl⟩ | ⟨b, cap, cur, rfl, hb, hh, hk, hc, hs, ht⟩
  · exact ⟨none, 0, rfl, fun i hi => by omega⟩
  · refine ⟨_, cap, rfl, fun i hi => ⟨b, 0, rfl, heap_lt hh, fun j hj => ?_, hg i hi⟩⟩
    rw [cell_at hh]
    have := flat4_get g k i j hi hj
    rw [← ht, List.getElem?_take_of_lt (by omega)] at this
    simpa using this

theorem wf64 (n : Int) : I64 (wrap64 n) := by
  unfold I64 wrap64
  omega
def tellG (f : Nat → Nat → Int) (i j : Nat) : Int :=
  match j with
  | 0 => f i 0
  | 1 => withinS (f i 1) 0 600
  | 2 => wrap64 (i - (f i 2).tmod 3)
  | _ => i

theorem infoAsk : (Try.prog.info? 33).map (fun i => (i.zero, i.size, i.bytes)) = some (some (.agg #[.int .i64 0, .int .i64 0, .int .i64 0, .int .i64 0]), 4, 32) := by kernel_rfl

set_option maxRecDepth 100000 in
set_option maxHeartbeats 1000000 in
theorem tells_walk (oa : Option Addr) (len cap : Nat) (f : Nat → Nat → Int) (w : World) (hlen : len * 32 ≤ 140737488351232) (ha : Asks w w.heap.size oa len f) :
    Calls Try.prog 5 #[.slice oa len cap] w fun e w' => e = .returned (.bool true) ∧ Below w.heap.size w w' := by
  have HA := Lib.hid ha
  clear ha
  obtain ⟨i0, hi, hz0, hz1, hz2⟩ := info_parts infoAsk
  go_enter Try.func5, Try.ntmps5
  go_wp2_with fail
  go_loopw [3, 4] (fun v i wr => ∃ (k : Nat), i = .int .i64 k ∧ k ≤ len ∧ wr.ownsRow w.heap.size 33 4 v k (flat4 (tellG f) k) ∧ Below w.heap.size w wr) (fun _ i _ => len - (intOf i).toNat)
  case atStart => exact ⟨0, rfl, by omega, World.ownsRow_nil _ _ _ _, Below.refl _ _⟩
  case round =>
    obtain ⟨k, rfl, hk, hown, hb⟩ := hrel
    have HO := Lib.hid hown
    have HB := Lib.hid hb
    clear hown hb
    by_cases hlt : k < len
    · obtain ⟨a, off, rfl, hab, hcell, hbd⟩ := HA.out k hlt
      have c0 := cell_keep HB.out hab (hcell 0 (by omega))
      have c1 := cell_keep HB.out hab (hcell 1 (by omega))
      have c2 := cell_keep HB.out hab (hcell 2 (by omega))
      have c3 := cell_keep HB.out hab (hcell 3 (by omega))
      simp only [Nat.add_zero] at c0
      obtain ⟨b1, b2⟩ := hbd 1 (by omega)
      have Hbd := Lib.hid hbd
      clear hcell hbd HA
      go_upto_region 6 with fail
      go_cut [] (fun wx => wx = (wr.alloc (.cells #[.int .i64 (f k 0), .int .i64 (withinS (f k 1) 0 600), .int .i64 (wrap64 (k - (f k 2).tmod 3)), .int .i64 k] 33)).drew)
      case first =>
        go_region_with (go_at_call 8; refine (within_any _ _ _ _ (by omega) (by omega) (by omega) (by omega) (by omega)).mono ?_; rintro e w' ⟨rfl, rfl⟩)
        all_goals (go_wp2_with fail; go_meet; rw [IntWalk.i64_left])
      case rest =>
        subst hcut
        go_wp2_with (at_builtin; go_must (refine wpList_append_own_at _ rfl _ _ 31 rfl w.heap.size 33 i0 _ 4 32 Try.underlying31 hi hz0 hz1 hz2 rfl (by decide) _ _ _ rfl ((HO.out.alloc _).alloc _) ⟨wr.heap.size + 1, 0, none⟩ 1 1 [.int .i64 (tellG f k 0), .int .i64 (tellG f k 1), .int .i64 (tellG f k 2), .int .i64 (tellG f k 3)] rfl rfl ?c1 ?c2 ?c3 ?c4 ?c5 ?_))
        case c1 => exact cells_new (cs := #[.int .i64 (tellG f k 0), .int .i64 (tellG f k 1), .int .i64 (tellG f k 2), .int .i64 (tellG f k 3)]) (t := 33) (z := (0, 0)) (alloc_at2 wr _ _) rfl
        case c2 => intro u hu; simp at hu; rcases hu with rfl | rfl | rfl | rfl <;> rfl
        case c3 => unfold maxLen; omega
        case c4 => omega
        case c5 => have := HB.out.size; simp; omega
        intro v' w1 hown' hgrow _ _
        go_wp2
        go_roundw
        case rel =>
          refine ⟨k + 1, by go_num, by omega, hown', ?_⟩
          exact ((((HB.out.alloc HB.out.size _).drew).alloc (by have := HB.out.size; simp; omega) _)).grown hgrow (by have := HB.out.size; simp; omega) (fun j hj => (HO.out.lt j hj).1)
        case measure => simp [intOf]; omega
    · obtain ⟨oa2, cap2, rfl, ha2⟩ := asks_own HO.out (by
        intro i hi j hj
        obtain ⟨_, _, _, _, _, hbd⟩ := HA.out i (by omega)
        rcases (by omega : j = 0 ∨ j = 1 ∨ j = 2 ∨ j = 3) with rfl | rfl | rfl | rfl
        · exact hbd 0 (by omega)
        · have := withinS_bd (f i 1) 0 600 (by omega)
          constructor <;> (simp only [tellG]; omega)
        · exact wf64 _
        · constructor <;> (simp only [tellG]; omega))
      have HA2 := Lib.hid ha2
      clear ha2
      go_wp2_with fail
      refine (play_walk _ _ _ _ _ (by omega) (by exact (HA.out.below HB.out).mono HB.out.size)).mono ?_
      rintro e w2 ⟨rfl, hb2⟩
      have HB2 := Lib.hid (below_call HB.out HB.out.size hb2)
      have HA3 := Lib.hid ((HA2.out.below hb2).mono hb2.size)
      clear hb2 HA HA2 HB HO
      go_wp2_with fail
      refine (play_walk _ _ _ _ _ (by omega) (by exact HA3.out)).mono ?_
      rintro e w3 ⟨rfl, hb3⟩
      have HB3 := Lib.hid (below_call HB2.out HB2.out.size hb3)
      clear hb3 HA3 HB2
      go_wp2_with (go_at_call 13; refine (known_any _).mono ?_; rintro e w' ⟨rfl, hk⟩)
      go_ret
      exact ⟨rfl, below_call HB3.out HB3.out.size ‹_›⟩
end Go.Proofs.Ytefanlmknoepdaa
