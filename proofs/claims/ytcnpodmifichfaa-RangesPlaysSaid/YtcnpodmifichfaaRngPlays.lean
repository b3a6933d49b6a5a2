/- DERIVED. Walks of narthexlaw10's RangesPlays and RangesNumbers. -/
import Derived.Test.YtcnpodmifichfaaRngNear
import Derived.Test.YtcnpodmifichfaaBook
namespace Go.Proofs.Ytcnpodmifichfaa
open Go.RowKit

theorem nears_ok {m : Nat} {L : List Ak} (h : ∀ a ∈ L, AkOk a) (h1 : 0 < m) (h2 : m ≤ 1000) : ∀ a ∈ L.map (nearA m), AkOk a := by
  intro a ha
  obtain ⟨b, hb, rfl⟩ := List.mem_map.1 ha
  exact nearA_ok (h b hb) h1 h2

def NearX (W : World) (e : Ending) (w : World) : Prop := ∃ oa cap len, ∃ L : List Ak, e = .returned (.slice oa len cap) ∧ L.length = len ∧ len ≤ 9223372036854775807 ∧ Asks w w.heap.size oa L ∧ Below W.heap.size W w
theorem near_x (oa : Option Addr) (cap : Nat) (L : List Ak) (len : Nat) (m : Nat) (w : World) (hl : L.length = len) (hm : 0 < m) (hm2 : m ≤ 1000) (hlen : (len + 1) * 24 ≤ 140737488355328) (ha : Asks w w.heap.size oa L) (hL : ∀ a ∈ L, AkOk a) :
    Calls Try.prog 19 #[.slice oa len cap, .int .u64 m] w (NearX w) := by
  subst hl
  refine (near_any oa cap L m w hm hm2 hlen ha).mono ?_
  rintro e w1 ⟨v1, rfl, og1, hs1, ho1, hb1⟩
  obtain ⟨oa1, cap1, rfl, hl1, ha1⟩ := asks_own hs1 (nears_ok hL hm hm2)
  exact ⟨oa1, cap1, _, _, rfl, rfl, hl1, ha1, hb1⟩
theorem play_x (m : Int) (oa : Option Addr) (cap : Nat) (L : List Ak) (len at_ : Nat) (w : World) (hl : L.length = len) (hm : m ≤ 9223372036854775807) (hm2 : -9223372036854775808 ≤ m) (hat : at_ < 18446744073709551616) (hlen : len ≤ 9223372036854775807) (ha : Asks w w.heap.size oa L) :
    Calls Try.prog 17 #[.int .i64 m, .slice oa len cap, .int .u64 at_] w (Plays w) := by
  subst hl
  exact play_walk m oa cap L at_ w hm hm2 hat hlen ha

set_option maxRecDepth 100000 in
set_option maxHeartbeats 2000000 in
theorem plays_walk (m : Int) (oa : Option Addr) (cap : Nat) (L : List Ak) (at_ : Nat) (w : World) (hm : m ≤ 9223372036854775807) (hm2 : -9223372036854775808 ≤ m) (hat : at_ < 18446744073709551616) (hlen : L.length * 24 ≤ 140737488351232) (ha : Asks w w.heap.size oa L) (hL : ∀ a ∈ L, AkOk a) :
    Calls Try.prog 6 #[.int .i64 m, .slice oa L.length cap, .int .u64 at_] w fun e w' => e = .returned (.bool true) ∧ Below w.heap.size w w' := by
  have HA := Lib.hid ha
  have HL := Lib.hid hL
  clear ha hL
  obtain ⟨x, hx1, hx2⟩ : ∃ x : Nat, (at_ : Int).tmod 100 = x ∧ x < 100 := ⟨at_ % 100, by rw [Int.tmod_eq_emod_of_nonneg (by omega)]; omega, by omega⟩
  obtain ⟨y, hy1, hy2⟩ : ∃ y : Nat, (at_ : Int).tmod 20 = y ∧ y < 20 := ⟨at_ % 20, by rw [Int.tmod_eq_emod_of_nonneg (by omega)]; omega, by omega⟩
  have b1 := withinS_bd m 1 20 (by omega)
  have b2 := withinS_bd m 1 6 (by omega)
  generalize hp : withinS m 1 20 = p at *
  generalize hq : withinS m 1 6 = q at *
  have HP := Lib.hid hp
  have HQ := Lib.hid hq
  clear hp hq
  generalize hn : L.length = len at *
  have HN := Lib.hid hn
  clear hn
  go_enter Try.func6, Try.ntmps6
  go_wp2_with fail
  refine (within_any m 1 20 _ (by omega) (by omega) (by omega) (by omega) (by omega)).mono ?_
  rintro e w' ⟨rfl, rfl⟩
  rw [HP.out]
  go_wp2_with fail
  refine (near_x oa cap L len 100 _ HN.out (by omega) (by omega) (by omega) (by exact HA.out) HL.out).mono ?_
  rintro e w1 ⟨oa1, cap1, len1, L1, rfl, hn1, hl1, ha1, hb1⟩
  have HA1 := Lib.hid ha1
  have HB1 := Lib.hid hb1
  have HN1 := Lib.hid hn1
  clear ha1 hb1 hn1
  go_wp2_with fail
  refine (play_x p oa1 cap1 L1 len1 x _ HN1.out (by omega) (by omega) (by omega) hl1 (by exact HA1.out)).mono ?_
  rintro e w2 ⟨p2, v2, rfl, hb2⟩
  have HB2 := Lib.hid (below_call HB1.out HB1.out.size hb2)
  clear hb2 HA1 HB1 hl1
  go_wp2_with fail
  refine (within_any m 1 6 _ (by omega) (by omega) (by omega) (by omega) (by omega)).mono ?_
  rintro e w' ⟨rfl, rfl⟩
  rw [HQ.out]
  go_wp2_with fail
  refine (near_x oa cap L len 17 _ HN.out (by omega) (by omega) (by omega) (by exact (HA.out.below HB2.out).mono HB2.out.size) HL.out).mono ?_
  rintro e w3 ⟨oa3, cap3, len3, L3, rfl, hn3, hl3, ha3, hb3⟩
  have HA3 := Lib.hid ha3
  have HB3 := Lib.hid (below_call HB2.out HB2.out.size hb3)
  have HN3 := Lib.hid hn3
  clear ha3 hb3 hn3 HB2
  go_wp2_with fail
  refine (play_x q oa3 cap3 L3 len3 y _ HN3.out (by omega) (by omega) (by omega) hl3 (by exact HA3.out)).mono ?_
  rintro e w4 ⟨p4, v4, rfl, hb4⟩
  have HB4 := Lib.hid (below_call HB3.out HB3.out.size hb4)
  clear hb4 HA3 HB3 hl3
  go_wp2_with fail
  refine (play_x m oa cap L len at_ _ HN.out hm hm2 hat (by omega) (by exact (HA.out.below HB4.out).mono HB4.out.size)).mono ?_
  rintro e w5 ⟨p5, v5, rfl, hb5⟩
  have HB5 := Lib.hid (below_call HB4.out HB4.out.size hb5)
  clear hb5 HB4
  go_wp2_with fail
  refine (known_any _).mono ?_
  rintro e w6 ⟨rfl, hb6⟩
  have HB6 := Lib.hid (below_call HB5.out HB5.out.size hb6)
  clear hb6 HB5
  go_wp2_with fail
  go_ret
  exact ⟨rfl, HB6.out⟩

theorem near_push {W wa w1 : World} {v1 : Value} {og og1 : Option Nat} {M : List Ak} {n : Nat} (hb : Below W.heap.size W wa) (hn : W.heap.size ≤ n) (hg : ∀ g, og = some g → W.heap.size ≤ g) (hs : SlA w1 v1 og1 M)
    (ho : og1 = og ∨ ∃ g, og1 = some g ∧ n ≤ g) (hu : Upd (fun j => og = some j) wa w1) : NearSt W w1 v1 M := by
  refine ⟨og1, hs, ?_, Upd.belowOf hb hu ?_⟩
  · rcases ho with rfl | ⟨g, rfl, h⟩
    · exact hg
    · intro g' hg'
      cases hg'
      omega
  · intro j hj hx
    have := hg j hx
    omega
def numA (k : Nat) : Ak := (((k % 4 : Nat) : Int), k * 17 % 61, k * 17 % 61 + k % 5)
def numL (k : Nat) : List Ak := (List.range k).map numA
theorem numL_succ (k : Nat) : numL (k + 1) = numL k ++ [numA k] := by simp [numL, List.range_succ]
theorem numL_len (k : Nat) : (numL k).length = k := by simp [numL]
def lastL : List Ak := [(0, 4611686018427387903, 4611686018427387904), (0, 4611686018427387903, 4611686018427387905), (0, 9, 5), (1, 9, 5)]
theorem numL_ok : ∀ a ∈ numL 50 ++ lastL, AkOk a := by
  intro a ha
  rcases List.mem_append.1 ha with ha | ha
  · obtain ⟨k, hk, rfl⟩ := List.mem_map.1 ha
    refine ⟨?_, ?_, ?_⟩ <;> (simp only [numA]; omega)
  · simp [lastL] at ha
    rcases ha with rfl | rfl | rfl | rfl <;> exact ⟨by constructor <;> simp, by simp, by simp⟩
theorem numL_all : (numL 50 ++ lastL).length = 54 := by simp [numL_len, lastL]

set_option maxRecDepth 100000 in
set_option maxHeartbeats 2000000 in
theorem numbers_walk (w : World) : Calls Try.prog 5 #[] w fun e w' => e = .returned (.bool true) ∧ Below w.heap.size w w' := by
  obtain ⟨i0, hi0, hz0, hz1, hz2⟩ := info_parts infoA
  go_enter Try.func5, Try.ntmps5
  go_wp2_with fail
  go_loopw [1, 2] (fun v i wr => ∃ (k : Nat), i = .int .u64 k ∧ k ≤ 50 ∧ NearSt w wr v (numL k)) (fun _ i _ => 50 - (intOf i).toNat)
  case atStart => exact ⟨0, rfl, by omega, none, SlG.nil _, by simp, Below.refl _ _⟩
  case round =>
    obtain ⟨k, rfl, hk, og, hs, hog, hb⟩ := hrel
    have HS := Lib.hid hs
    have HG := Lib.hid hog
    have HB := Lib.hid hb
    clear hs hog hb
    by_cases hlt : k < 50
    · have HT := Lib.hid (numL_succ k)
      have hlk := numL_len k
      have HLK := Lib.hid hlk
      clear hlk
      go_wp2_with (refine wpList_pushN encA_len encA_one Try.underlying22 hi0 hz1 hz0 zeroA rfl (.tmp 11) (.tmp 25) rfl (by exact HS.out.alloc _) [numA k] (by exact Src.block (alloc_at _ _) rfl) rfl rfl rfl (by simp) (by rw [HLK.out, hz2]; simp; omega) (by rw [HLK.out]; simp; omega) ?_)
      intro W1 v1 og1 hs1 ho1 hu1
      have HN1 := Lib.hid (near_push (HB.out.alloc HB.out.size _) (by have := HB.out.size; omega) HG.out hs1 ho1 hu1)
      clear hs1 ho1 hu1
      go_wp2
      go_roundw
      case rel => exact ⟨k + 1, by go_num, by omega, by rw [HT.out]; exact HN1.out⟩
      case measure => simp [intOf]; omega
    · obtain rfl : k = 50 := by omega
      clear hlt hk
      have hlk := numL_len 50
      have HLK := Lib.hid hlk
      clear hlk
      go_wp2_with (refine wpList_pushN encA_len encA_one Try.underlying22 hi0 hz1 hz0 zeroA rfl (.tmp 27) (.tmp 32) rfl (by exact HS.out.alloc _) lastL (by exact Src.block (alloc_at _ _) rfl) rfl rfl rfl (by simp [lastL]) (by rw [HLK.out, hz2]; simp [lastL]) (by rw [HLK.out]; simp [lastL]) ?_)
      intro W1 v1 og1 hs1 ho1 hu1
      obtain ⟨og2, hs2, _, hb2⟩ := near_push (HB.out.alloc HB.out.size _) (by have := HB.out.size; omega) HG.out hs1 ho1 hu1
      obtain ⟨oa2, cap2, rfl, hl2, ha2⟩ := asks_own hs2 numL_ok
      have HA2 := Lib.hid ha2
      have HB2 := Lib.hid hb2
      have HNL := Lib.hid numL_all
      clear hs1 ho1 hu1 hs2 ha2 hb2 hl2 HS HG HB HLK
      rw [HNL.out]
      go_wp2_with fail
      go_loopw [3] (fun i wx => ∃ z : Int, i = .int .i64 z ∧ -1 ≤ z ∧ z ≤ 8 ∧ Below W1.heap.size W1 wx) (fun i _ => (8 - intOf i).toNat)
      case atStart => exact ⟨-1, rfl, by omega, by omega, Below.refl _ _⟩
      case round =>
        rename_i wx _
        obtain ⟨z, rfl, hz, hz2', hb3⟩ := hrel
        have HB3 := Lib.hid hb3
        clear hb3
        by_cases hlt : z < 8
        · go_wp2_with fail
          refine (play_x z oa2 cap2 _ 54 30 _ HNL.out (by omega) (by omega) (by omega) (by omega) (by exact (HA2.out.below HB3.out).mono HB3.out.size)).mono ?_
          rintro e w5 ⟨p5, v5, rfl, hb5⟩
          have HB5 := Lib.hid (below_call HB3.out HB3.out.size hb5)
          clear hb5 HB3
          go_wp2_with fail
          go_roundw
          case rel => exact ⟨z + 1, rfl, by omega, by omega, HB5.out⟩
          case measure => simp [intOf]; omega
        · go_wp2_with fail
          refine (known_any _).mono ?_
          rintro e w6 ⟨rfl, hb6⟩
          have HB6 := Lib.hid (below_call HB2.out HB2.out.size (below_call HB3.out HB3.out.size hb6))
          clear hb6 HB3
          go_wp2_with fail
          go_ret
          exact ⟨rfl, HB6.out⟩
end Go.Proofs.Ytcnpodmifichfaa
