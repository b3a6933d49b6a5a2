/- DERIVED. Walk of narthexlaw10's near: a row of Asks of one's own. -/
import Derived.Test.YtcnpodmifichfaaRngKnown
import Derived.Test.YtcnpodmifichfaaPush2
namespace Go.Proofs.Ytcnpodmifichfaa
open Go.RowKit

def encA (a : Ak) : List Value := [.int .i64 a.1, .int .u64 a.2.1, .int .u64 a.2.2]
theorem encA_len (a : Ak) : (encA a).length = 3 := rfl
theorem encA_one (a : Ak) : ∀ v ∈ encA a, v.oneCell' = true := by
  intro v hv
  simp [encA] at hv
  rcases hv with rfl | rfl | rfl <;> rfl
theorem infoA : (Try.prog.info? 28).map (fun i => (i.zero, i.size, i.bytes)) = some (some (.agg #[.int .i64 0, .int .u64 0, .int .u64 0]), 3, 24) := by kernel_rfl
theorem zeroA : (Value.agg #[.int .i64 0, .int .u64 0, .int .u64 0]).cells.toList = encA (0, 0, 0) := rfl
abbrev SlA (w : World) (v : Value) (og : Option Nat) (L : List Ak) : Prop := SlG encA 28 w v og L
theorem asks_own {w : World} {v : Value} {og : Option Nat} {L : List Ak} (h : SlA w v og L) (hL : ∀ a ∈ L, AkOk a) : ∃ oa cap, v = .slice oa L.length cap ∧ L.length ≤ 9223372036854775807 ∧ Asks w w.heap.size oa L := by
  rcases h with ⟨rfl, rfl, rfl⟩ | ⟨g, ys, rfl, rfl, hr, hl⟩
  · exact ⟨none, 0, rfl, by simp, fun i a h => by simp at h⟩
  · refine ⟨_, _, rfl, by omega, ?_⟩
    intro i a hi
    have hi' : (L ++ ys)[i]? = some a := by
      rw [List.getElem?_append_left (by rw [List.getElem?_eq_some_iff] at hi; exact hi.1)]
      exact hi
    refine ⟨g, 0, rfl, heap_lt hr, ?_, ?_, ?_, hL a (List.mem_of_getElem? hi)⟩
    · have := Row.el hr encA_len i 0 (by omega) hi'
      simpa [encA] using this
    · have := Row.el hr encA_len i 1 (by omega) hi'
      simpa [encA] using this
    · have := Row.el hr encA_len i 2 (by omega) hi'
      simpa [encA] using this

def nearA (m : Nat) (a : Ak) : Ak := (a.1, a.2.1 % m, a.2.1 % m + a.2.2 % (m / 8 + 2))
theorem nearA_ok {m : Nat} {a : Ak} (h : AkOk a) (h1 : 0 < m) (h2 : m ≤ 1000) : AkOk (nearA m a) := by
  have h3 := Nat.mod_lt a.2.1 h1
  have h4 := Nat.mod_lt a.2.2 (show 0 < m / 8 + 2 by omega)
  have h5 : m / 8 ≤ m := Nat.div_le_self _ _
  exact ⟨h.1, by simp only [nearA]; omega, by simp only [nearA]; omega⟩
theorem map_take {α β : Type} (f : α → β) {L : List α} {k : Nat} {a : α} (h : L[k]? = some a) : (L.take (k + 1)).map f = (L.take k).map f ++ [f a] := by
  rw [List.take_add_one, h]
  simp
def NearSt (W w : World) (v : Value) (M : List Ak) : Prop := ∃ og, SlA w v og M ∧ (∀ g, og = some g → W.heap.size ≤ g) ∧ Below W.heap.size W w
def NearPost (W : World) (M : List Ak) (e : Ending) (w : World) : Prop := ∃ v, e = .returned v ∧ NearSt W w v M

theorem near_next {W w w1 : World} {o : Obj} {v1 : Value} {og og1 : Option Nat} {M : List Ak} (hb : Below W.heap.size W w) (hg : ∀ g, og = some g → W.heap.size ≤ g) (hs : SlA w1 v1 og1 M)
    (ho : og1 = og ∨ ∃ g, og1 = some g ∧ (w.alloc o).drew.heap.size ≤ g) (hu : Upd (fun j => og = some j) (w.alloc o).drew w1) : NearSt W w1 v1 M := by
  refine ⟨og1, hs, ?_, Upd.belowOf ((hb.alloc hb.size _).drew) hu ?_⟩
  · rcases ho with rfl | ⟨g, rfl, h⟩
    · exact hg
    · intro g' hg'
      cases hg'
      have := hb.size
      have e : (w.alloc o).drew.heap.size = w.heap.size + 1 := by simp
      omega
  · intro j hj hx
    have := hg j hx
    omega

set_option maxRecDepth 100000 in
set_option maxHeartbeats 2000000 in
theorem near_any (oa : Option Addr) (cap : Nat) (L : List Ak) (m : Nat) (w : World) (hm : 0 < m) (hm2 : m ≤ 1000) (hlen : (L.length + 1) * 24 ≤ 140737488355328) (ha : Asks w w.heap.size oa L) :
    Calls Try.prog 19 #[.slice oa L.length cap, .int .u64 m] w (NearPost w (L.map (nearA m))) := by
  obtain ⟨i0, hi0, hz0, hz1, hz2⟩ := info_parts infoA
  have HA := Lib.hid ha
  clear ha
  generalize hn : L.length = len at *
  have HN := Lib.hid hn
  clear hn
  go_enter Try.func19, Try.ntmps19
  go_wp2_with fail
  go_loopw [5, 6] (fun v i wr => ∃ (k : Nat), i = .int .i64 k ∧ k ≤ len ∧ NearSt w wr v ((L.take k).map (nearA m))) (fun _ i _ => len - (intOf i).toNat)
  case atStart => exact ⟨0, rfl, by omega, none, SlG.nil _, by simp, Below.refl _ _⟩
  case round =>
    obtain ⟨k, rfl, hk, og, hs, hog, hb⟩ := hrel
    have HS := Lib.hid hs
    have HG := Lib.hid hog
    have HB := Lib.hid hb
    clear hs hog hb
    by_cases hlt : k < len
    · obtain ⟨a, hak⟩ : ∃ a, L[k]? = some a := ⟨_, List.getElem?_eq_getElem (by rw [HN.out]; exact hlt)⟩
      have HT := Lib.hid (map_take (nearA m) hak)
      obtain ⟨c, off, rfl, hc, q0, q1, q2, hok⟩ := HA.out k a hak
      have c0 := cell_keep HB.out hc q0
      have c1 := cell_keep HB.out hc q1
      have c2 := cell_keep HB.out hc q2
      obtain ⟨hok1, hok2, hok3⟩ := hok
      clear q0 q1 q2 hak
      obtain ⟨kd, lo, hi⟩ := a
      simp only at c0 c1 c2 hok1 hok2 hok3
      obtain ⟨x, hx, hx1, hx2⟩ : ∃ x : Nat, lo % m = x ∧ (lo : Int).tmod m = x ∧ x < 1000 := ⟨_, rfl, by rw [Int.tmod_eq_emod_of_nonneg (by omega)]; omega, by have := Nat.mod_lt lo hm; omega⟩
      obtain ⟨y, hy, hy1, hy2, hy3⟩ : ∃ y : Nat, m / 8 + 2 = y ∧ IntKind.u64.wrap (IntKind.u64.wrap ((m : Int) / 8) + 2) = y ∧ y < 1000 ∧ ¬ y = 0 := ⟨_, rfl, by have e1 : IntKind.u64.wrap ((m : Int) / 8) = (m : Int) / 8 := IntWalk.u64_in _ (by omega); rw [e1, IntWalk.u64_in _ (by omega)]; omega, by omega, by omega⟩
      obtain ⟨z, hz, hz1', hz2'⟩ : ∃ z : Nat, hi % y = z ∧ (hi : Int).tmod y = z ∧ z < 1000 := ⟨_, rfl, by rw [Int.tmod_eq_emod_of_nonneg (by omega)]; omega, by have := Nat.mod_lt hi (show 0 < y by omega); omega⟩
      have HNA := Lib.hid (show nearA m (kd, lo, hi) = (kd, x, x + z) by simp only [nearA, hx, hy, hz])
      have hxz : IntKind.u64.wrap ((x : Int) + z) = ((x + z : Nat) : Int) := by rw [IntWalk.u64_in _ (by omega)]; omega
      clear hx hy hz
      go_wp2_with fail
      go_region_law (refine step_pushN encA_len encA_one Try.underlying22 hi0 hz1 hz0 zeroA rfl (.tmp 21) (.tmp 40) rfl (by exact (HS.out.alloc _).drew) [(kd, x, x + z)] (by exact Src.block (alloc_at _ _) rfl) rfl rfl rfl (by simp) (by simp only [List.length_map, List.length_take, List.length_cons, List.length_nil, hz2]; omega) (by simp only [List.length_map, List.length_take, List.length_cons, List.length_nil]; omega) ?_; intro W1 v1 og1 hs1 ho1 hu1)
      all_goals have HN1 := Lib.hid (near_next HB.out HG.out hs1 ho1 hu1)
      all_goals clear hs1 ho1 hu1 hxz hy1 hz1' hx1
      all_goals go_wp2
      all_goals go_roundw
      all_goals first
        | (case rel => exact ⟨k + 1, by go_num, by omega, by rw [HT.out, HNA.out]; exact HN1.out⟩)
        | (case measure => simp [intOf]; omega)
    · go_wp2_with fail
      go_ret
      exact ⟨_, rfl, og, by have := HS.out; rw [List.take_of_length_le (by rw [HN.out]; omega)] at this; exact this, HG.out, HB.out⟩
end Go.Proofs.Ytcnpodmifichfaa
