/- DERIVED. Walk of the document's Ack (printed by mksqdack.py). -/
import Derived.OwnWalk
import Derived.Deep.RegionWith
import Derived.Deep.CutBlock
import Derived.Deep.DeepCutAuto
import Derived.Test.YtacfbgnbjdckiaaQ5
import Derived.Test.YtacfbgnbjdckiaaQ6
namespace Go.Proofs.Ytacfbgnbjdckiaa
open Go.RowKit

theorem lb1 {n : Nat} (h : n ≤ 64) (p : Pk) : (n + [p].length) * 56 ≤ 140737488355328 := by
  simp
  omega
theorem lb2 {n : Nat} (h : n ≤ 64) (p : Pk) : n + [p].length ≤ 9223372036854775807 := by
  simp
  omega
/-- May ranges be? -/
def okAt (rs : List Rg) (k : Nat) : Bool := match rs[k]?, rs[k - 1]? with
  | some x, some y => decide (x.1 < x.2) && (decide (k = 0) || decide (y.2 < x.1))
  | _, _ => true
def rightB (rs : List Rg) : Bool := decide (0 < rs.length) && (List.range rs.length).all (okAt rs)
def topOf (rs : List Rg) : Nat := match rs[rs.length - 1]? with
  | some x => x.2
  | none => 0
def LS.ackErr (s : LS) (rs : List Rg) : Int := if rightB rs = false then 1 else if s.nx < topOf rs then 14 else 0
def LS.top (s : LS) (rs : List Rg) : Nat := max s.ak (topOf rs - 1)
def LS.got (s : LS) (rs : List Rg) : List Pk := s.L.filter fun p => rs.any (hasP p.n)
def LS.lost (s : LS) (rs : List Rg) : List Pk := s.L.filter fun p => !rs.any (hasP p.n) && decide (p.n + 3 ≤ s.top rs)
def LS.left (s : LS) (rs : List Rg) : List Pk := s.L.filter fun p => !rs.any (hasP p.n) && !decide (p.n + 3 ≤ s.top rs)
def LS.acks (s : LS) (rs : List Rg) : LS := ⟨s.left rs, s.nx, s.top rs, true⟩
theorem LS.acks_ok {s : LS} (h : s.Ok) (rs : List Rg) (ht : topOf rs ≤ s.nx) : (s.acks rs).Ok := by
  have h1 := h.ak
  have h2 := h.nx
  refine ⟨Nat.le_trans (List.length_filter_le _ _) h.len, h.nx, ?_, fun p hp => h.num p (List.mem_filter.1 hp).1, fun p hp => h.z p (List.mem_filter.1 hp).1, fun p hp => h.t p (List.mem_filter.1 hp).1, fun p hp => h.ask p (List.mem_filter.1 hp).1, h.srt.filter _⟩
  show max s.ak (topOf rs - 1) ≤ _
  omega
theorem okAt_bad {rs : List Rg} {k : Nat} {x : Rg} (hx : rs[k]? = some x) (h : x.2 ≤ x.1) : okAt rs k = false := by
  unfold okAt
  have hk : k < rs.length := (List.getElem?_eq_some_iff.1 hx).1
  rw [hx, List.getElem?_eq_getElem (show k - 1 < rs.length by omega)]
  simp
  intro q
  omega
theorem okAt_bad2 {rs : List Rg} {k : Nat} {x y : Rg} (hx : rs[k + 1]? = some x) (hy : rs[k]? = some y) (h : x.1 ≤ y.2) : okAt rs (k + 1) = false := by
  unfold okAt
  rw [hx, show k + 1 - 1 = k from rfl, hy]
  simp
  intro q
  omega
theorem okAt_zero {rs : List Rg} {x : Rg} (hx : rs[0]? = some x) (h : x.1 < x.2) : okAt rs 0 = true := by
  unfold okAt
  rw [hx]
  simp [h]
theorem okAt_next {rs : List Rg} {k : Nat} {x y : Rg} (hx : rs[k + 1]? = some x) (hy : rs[k]? = some y) (h : x.1 < x.2) (h2 : y.2 < x.1) : okAt rs (k + 1) = true := by
  unfold okAt
  rw [hx, show k + 1 - 1 = k from rfl, hy]
  simp [h, h2]
theorem rightB_bad {rs : List Rg} {k : Nat} (hk : k < rs.length) (h : okAt rs k = false) : rightB rs = false := by
  unfold rightB
  rw [Bool.and_eq_false_iff]
  right
  rw [Bool.eq_false_iff]
  intro q
  have := List.all_eq_true.1 q k (List.mem_range.2 hk)
  rw [h] at this
  cases this
theorem rightB_nil {rs : List Rg} (h : rs.length = 0) : rightB rs = false := by
  unfold rightB
  rw [h]
  rfl
theorem rightB_all {rs : List Rg} (h : 0 < rs.length) (ha : ∀ k, k < rs.length → okAt rs k = true) : rightB rs = true := by
  unfold rightB
  rw [Bool.and_eq_true]
  exact ⟨by simpa using h, List.all_eq_true.2 fun k hk => ha k (List.mem_range.1 hk)⟩
theorem below_drewalloc (w : World) (n : Nat) (o : Obj) : Below w.heap.size w ((w.drewN n).alloc o) := (below_drewN (Below.refl _ _) n).alloc (Nat.le_refl _) o
theorem drewN_drewN (w : World) (a b : Nat) : (w.drewN a).drewN b = w.drewN (a + b) := by
  unfold World.drewN
  simp [Nat.add_assoc]
/-- In the middle of the document's Ack. -/
structure DMid (w wr : World) (s : LS) (rs : List Rg) (k : Nat) (v1 v2 v3 : Value) (o1 o2 o3 : Option Nat) : Prop where
  got : SlG encQ 32 wr v1 o1 ((s.L.take k).filter fun p => rs.any (hasP p.n))
  lost : SlG encQ 32 wr v2 o2 ((s.L.take k).filter fun p => !rs.any (hasP p.n) && decide (p.n + 3 ≤ s.top rs))
  left : SlG encQ 32 wr v3 o3 ((s.L.take k).filter fun p => !rs.any (hasP p.n) && !decide (p.n + 3 ≤ s.top rs))
  n1 : ∀ g, o1 = some g → w.heap.size ≤ g
  n2 : ∀ g, o2 = some g → w.heap.size ≤ g
  n3 : ∀ g, o3 = some g → w.heap.size ≤ g
  d12 : ∀ g, o1 = some g → o2 ≠ some g
  d13 : ∀ g, o1 = some g → o3 ≠ some g
  d23 : ∀ g, o2 = some g → o3 ≠ some g
  below : Below w.heap.size w wr
theorem DMid.later {w wr W : World} {s : LS} {rs : List Rg} {k : Nat} {v1 v2 v3 : Value} {o1 o2 o3 : Option Nat} (h : DMid w wr s rs k v1 v2 v3 o1 o2 o3) (hb : Below wr.heap.size wr W) : DMid w W s rs k v1 v2 v3 o1 o2 o3 :=
  ⟨h.got.below hb, h.lost.below hb, h.left.below hb, h.n1, h.n2, h.n3, h.d12, h.d13, h.d23, below_call h.below h.below.size hb⟩
theorem other_new {wr : World} {v : Value} {xs : List Pk} {o o' q : Option Nat} (hq : SlG encQ 32 wr v q xs) (hd : ∀ g, o = some g → q ≠ some g) (ho : o' = o ∨ ∃ g, o' = some g ∧ wr.heap.size ≤ g) : ∀ g, o' = some g → q ≠ some g := by
  intro g hg x
  rcases ho with rfl | ⟨g', rfl, h2⟩
  · exact hd g hg x
  · cases hg
    have := hq.lt g x
    omega
theorem filt_same {L : List Pk} {k : Nat} {p : Pk} (hp : L[k]? = some p) {f : Pk → Bool} (hf : f p = false) : (L.take (k + 1)).filter f = (L.take k).filter f := by
  rw [take_filter hp, hf]
  simp
theorem filt_more {L : List Pk} {k : Nat} {p : Pk} (hp : L[k]? = some p) {f : Pk → Bool} (hf : f p = true) : (L.take (k + 1)).filter f = (L.take k).filter f ++ [p] := by
  rw [take_filter hp, hf]
  rfl
theorem DMid.push1 {w wr W : World} {s : LS} {rs : List Rg} {k : Nat} {v1 v2 v3 v' : Value} {o1 o2 o3 o' : Option Nat} {p : Pk} (h : DMid w wr s rs k v1 v2 v3 o1 o2 o3) (hp : s.L[k]? = some p) (hf : rs.any (hasP p.n) = true)
    (hs : SlG encQ 32 W v' o' (((s.L.take k).filter fun p => rs.any (hasP p.n)) ++ [p])) (ho : o' = o1 ∨ ∃ g, o' = some g ∧ wr.heap.size ≤ g) (hu : Upd (fun j => o1 = some j) wr W) : DMid w W s rs (k + 1) v' v2 v3 o' o2 o3 := by
  refine ⟨by rw [filt_more hp hf]; exact hs, ?_, ?_, og_new h.n1 h.below.size ho, h.n2, h.n3, other_new h.lost h.d12 ho, other_new h.left h.d13 ho, h.d23, Upd.belowOf h.below hu (fun j hj e => by have := h.n1 j e; omega)⟩
  · rw [filt_same hp (by simp [hf])]
    exact h.lost.keeps hu (fun g e q => h.d12 g q e)
  · rw [filt_same hp (by simp [hf])]
    exact h.left.keeps hu (fun g e q => h.d13 g q e)
theorem DMid.push2 {w wr W : World} {s : LS} {rs : List Rg} {k : Nat} {v1 v2 v3 v' : Value} {o1 o2 o3 o' : Option Nat} {p : Pk} (h : DMid w wr s rs k v1 v2 v3 o1 o2 o3) (hp : s.L[k]? = some p) (hf : rs.any (hasP p.n) = false) (hl : p.n + 3 ≤ s.top rs)
    (hs : SlG encQ 32 W v' o' (((s.L.take k).filter fun p => !rs.any (hasP p.n) && decide (p.n + 3 ≤ s.top rs)) ++ [p])) (ho : o' = o2 ∨ ∃ g, o' = some g ∧ wr.heap.size ≤ g) (hu : Upd (fun j => o2 = some j) wr W) : DMid w W s rs (k + 1) v1 v' v3 o1 o' o3 := by
  refine ⟨?_, by rw [filt_more hp (by simp [hf, hl])]; exact hs, ?_, h.n1, og_new h.n2 h.below.size ho, h.n3, ?_, h.d13, other_new h.left h.d23 ho, Upd.belowOf h.below hu (fun j hj e => by have := h.n2 j e; omega)⟩
  · rw [filt_same hp hf]
    exact h.got.keeps hu (fun g e q => h.d12 g e q)
  · rw [filt_same hp (by simp [hl])]
    exact h.left.keeps hu (fun g e q => h.d23 g q e)
  · exact fun g e q => other_new h.got (fun g a b => h.d12 g b a) ho g q e
theorem DMid.push3 {w wr W : World} {s : LS} {rs : List Rg} {k : Nat} {v1 v2 v3 v' : Value} {o1 o2 o3 o' : Option Nat} {p : Pk} (h : DMid w wr s rs k v1 v2 v3 o1 o2 o3) (hp : s.L[k]? = some p) (hf : rs.any (hasP p.n) = false) (hl : ¬ p.n + 3 ≤ s.top rs)
    (hs : SlG encQ 32 W v' o' (((s.L.take k).filter fun p => !rs.any (hasP p.n) && !decide (p.n + 3 ≤ s.top rs)) ++ [p])) (ho : o' = o3 ∨ ∃ g, o' = some g ∧ wr.heap.size ≤ g) (hu : Upd (fun j => o3 = some j) wr W) : DMid w W s rs (k + 1) v1 v2 v' o1 o2 o' := by
  refine ⟨?_, ?_, by rw [filt_more hp (by simp [hf, hl])]; exact hs, h.n1, h.n2, og_new h.n3 h.below.size ho, h.d12, ?_, ?_, Upd.belowOf h.below hu (fun j hj e => by have := h.n3 j e; omega)⟩
  · rw [filt_same hp hf]
    exact h.got.keeps hu (fun g e q => h.d13 g e q)
  · rw [filt_same hp (by simp [hl])]
    exact h.lost.keeps hu (fun g e q => h.d23 g e q)
  · exact fun g e q => other_new h.got (fun g a b => h.d13 g b a) ho g q e
  · exact fun g e q => other_new h.lost (fun g a b => h.d23 g b a) ho g q e
def AckPost (K : TypeId × Bool) (b : Nat) (s : LS) (fp : Nat → Prop) (rs : List Rg) (w : World) (e : Ending) (w' : World) : Prop := ∃ v1 o1 v2 o2, e = .returned (.tuple #[v1, v2, .int .i64 (s.ackErr rs)]) ∧
  SlG encQ 32 w' v1 o1 (if s.ackErr rs = 0 then s.got rs else []) ∧ SlG encQ 32 w' v2 o2 (if s.ackErr rs = 0 then s.lost rs else []) ∧ (∀ g, o1 = some g → w.heap.size ≤ g) ∧ (∀ g, o2 = some g → w.heap.size ≤ g) ∧
  LM K w w' fp b (if s.ackErr rs = 0 then s.acks rs else s)
theorem ackpost_err {K : TypeId × Bool} {b : Nat} {s : LS} {fp : Nat → Prop} {rs : List Rg} {w w' : World} {x : Int} (h : LAt K w b s fp) (hx : s.ackErr rs = x) (h0 : x ≠ 0) (hb : Below w.heap.size w w') : AckPost K b s fp rs w (.returned (.tuple #[.slice none 0 0, .slice none 0 0, .int .i64 x])) w' := by
  subst hx
  refine ⟨_, none, _, none, rfl, ?_, ?_, by simp, by simp, ?_⟩
  · rw [if_neg h0]
    exact SlG.nil _
  · rw [if_neg h0]
    exact SlG.nil _
  · rw [if_neg h0]
    exact (LM.refl h).later hb
set_option maxRecDepth 100000 in
set_option maxHeartbeats 4000000 in
theorem dack_any (b : Nat) (s : LS) (fp : Nat → Prop) (vr : Value) (rs : List Rg) (w : World) (h : LAt kD w b s fp) (hv : ∀ w5, Upd (fun j => j = b) w w5 → Vw encR w5 w5.heap.size vr rs) (hl : rs.length ≤ 1000) (hrg : ∀ r ∈ rs, r.1 < 18446744073709551616 ∧ r.2 < 18446744073709551616) :
    Calls Try.prog 29 #[.pointer (some ⟨b, 0, none⟩), vr] w (AckPost kD b s fp rs w) := by
  obtain ⟨i0, hi0, hz0, hz1, hz2'⟩ := info_parts infoP
  obtain ⟨or_, capr, rfl, hcr1, hcr2⟩ := (hv w (Upd.refl _ _)).shape
  have H := Lib.hid h
  have HV := Lib.hid hv
  obtain ⟨len, hlen⟩ : ∃ len, rs.length = len := ⟨_, rfl⟩
  have HLEN := Lib.hid hlen
  have HRG := Lib.hid hrg
  rw [hlen] at hl hcr1 ⊢
  have HVA := Lib.hid (show ∀ w5, Upd (fun j => j = b) w w5 → Vw encR w5 w5.heap.size (.slice or_ len capr) rs from by rw [← hlen]; exact hv)
  have HV2 := Lib.hid (HVA.out w (Upd.refl _ _))
  have HI0 := Lib.hid (show ∀ j, j < 0 → okAt rs j = true from fun j hj => by omega)
  clear h hv hlen hrg HV
  go_enter Try.func29, Try.ntmps29
  go_wp2_with fail
  go_loopw [7] (fun i wr => ∃ k q : Nat, i = .int .i64 k ∧ k ≤ len ∧ wr = w.drewN q ∧ ∀ j, j < k → okAt rs j = true) (fun i _ => len - (intOf i).toNat)
  case atStart => exact ⟨0, 0, rfl, by omega, rfl, HI0.out⟩
  case round =>
    obtain ⟨k, q, rfl, hk, hwr, hok⟩ := hrel
    have HW := Lib.hid hwr
    have HOK := Lib.hid hok
    clear hok hwr HI0
    by_cases hlt : k < len
    · obtain ⟨r, hr⟩ : ∃ r, rs[k]? = some r := ⟨_, List.getElem?_eq_getElem (by rw [HLEN.out]; exact hlt)⟩
      obtain ⟨c, ofc, rfl, hc, q0, q1⟩ := HV2.out.rng hr
      have hrb := HRG.out r (List.mem_of_getElem? hr)
      have HR := Lib.hid hr
      have q0 : wr.cell? ⟨c, ofc + k * 2, none⟩ = some (.int .u64 r.1) := by rw [HW.out]; exact q0
      have q1 : wr.cell? ⟨c, ofc + k * 2 + 1, none⟩ = some (.int .u64 r.2) := by rw [HW.out]; exact q1
      clear hr
      by_cases h1 : r.2 ≤ r.1
      · have h1i : (r.2 : Int) ≤ (r.1 : Int) := by omega
        have HE := Lib.hid (show s.ackErr rs = 1 from if_pos (rightB_bad (by rw [HLEN.out]; exact hlt) (okAt_bad HR.out h1)))
        go_wp2_with fail
        go_quiet (fail)
        go_wp2_with fail
        go_ret3
        exact ackpost_err H.out HE.out (by decide) (by rw [HW.out]; exact below_drewN (below_drewN (Below.refl _ _) _) _)
      · have h1i : ¬ (r.2 : Int) ≤ (r.1 : Int) := by omega
        rcases Nat.eq_zero_or_pos k with h0 | h0
        · subst h0
          have HN := Lib.hid (show ∀ j, j < 1 → okAt rs j = true from fun j hj => by
            obtain rfl : j = 0 := by omega
            exact okAt_zero HR.out (by omega))
          simp only [Nat.zero_mul, Nat.add_zero] at q0 q1
          go_wp2_with fail
          go_quiet (fail)
          go_wp2_with fail
          go_roundw
          case rel => exact ⟨1, _, rfl, by omega, by rw [HW.out]; exact (drewN_drewN _ _ _), HN.out⟩
          case measure => simp [intOf]; omega
        · obtain ⟨j, rfl⟩ : ∃ j, k = j + 1 := ⟨k - 1, by omega⟩
          obtain ⟨r', hr'⟩ : ∃ r', rs[j]? = some r' := ⟨_, List.getElem?_eq_getElem (by rw [HLEN.out]; omega)⟩
          obtain ⟨c', ofc', e', hc', p0, p1⟩ := HV2.out.rng hr'
          cases e'
          have p1 : wr.cell? ⟨c, ofc + j * 2 + 1, none⟩ = some (.int .u64 r'.2) := by rw [HW.out]; exact p1
          have HR' := Lib.hid hr'
          have hj1 : ((j + 1 : Nat) : Int) - 1 = (j : Int) := by omega
          have hpos : (0 : Int) < ((j + 1 : Nat) : Int) := by omega
          clear hr' p0
          by_cases h2 : r.1 ≤ r'.2
          · have h2i : (r.1 : Int) ≤ (r'.2 : Int) := by omega
            have HE := Lib.hid (show s.ackErr rs = 1 from if_pos (rightB_bad (by rw [HLEN.out]; exact hlt) (okAt_bad2 HR.out HR'.out h2)))
            go_wp2_with fail
            go_quiet (fail)
            go_wp2_with fail
            go_ret3
            exact ackpost_err H.out HE.out (by decide) (by rw [HW.out]; exact below_drewN (below_drewN (Below.refl _ _) _) _)
          · have h2i : ¬ (r.1 : Int) ≤ (r'.2 : Int) := by omega
            have HN := Lib.hid (show ∀ i, i < j + 1 + 1 → okAt rs i = true from fun i hi => by
              by_cases e : i = j + 1
              · rw [e]
                exact okAt_next HR.out HR'.out (by omega) (by omega)
              · exact HOK.out i (by omega))
            go_wp2_with fail
            go_quiet (fail)
            go_wp2_with fail
            go_roundw
            case rel => exact ⟨j + 1 + 1, _, by go_num, by omega, by rw [HW.out]; exact (drewN_drewN _ _ _), HN.out⟩
            case measure => simp [intOf]; omega
    · obtain rfl : k = len := by omega
      have HBW := Lib.hid (show Below w.heap.size w wr from by rw [HW.out]; exact below_drewN (Below.refl _ _) _)
      have HVW := Lib.hid (show Vw encR wr wr.heap.size (.slice or_ k capr) rs from HVA.out wr (by rw [HW.out]; exact (Upd.refl _ _).drewN _))
      have HUW := Lib.hid (show Upd (fun j => j = b) w wr from by rw [HW.out]; exact (Upd.refl _ _).drewN _)
      have HLW := Lib.hid (show LAt kD wr b s fp from H.out.below HBW.out)
      clear HW
      by_cases hk0 : k = 0
      · subst hk0
        have HE := Lib.hid (show s.ackErr rs = 1 from if_pos (rightB_nil HLEN.out))
        go_wp2_with fail
        go_ret3
        exact ackpost_err H.out HE.out (by decide) HBW.out
      have hk0i : ¬ (k : Int) = 0 := by omega
      have HRT := Lib.hid (show rightB rs = true from rightB_all (by rw [HLEN.out]; omega) (by rw [HLEN.out]; exact HOK.out))
      obtain ⟨rl, hrl⟩ : ∃ rl, rs[k - 1]? = some rl := ⟨_, List.getElem?_eq_getElem (by rw [HLEN.out]; omega)⟩
      obtain ⟨top, htop⟩ : ∃ top, rl.2 = top := ⟨_, rfl⟩
      have HTOP := Lib.hid (show topOf rs = top from by unfold topOf; rw [HLEN.out, hrl, ← htop])
      obtain ⟨c, ofc, rfl, hc, q0, q1⟩ := HVW.out.rng hrl
      have hrb := HRG.out rl (List.mem_of_getElem? hrl)
      rw [htop] at q1 hrb
      obtain ⟨vL, og, hL, hfp⟩ := HLW.out
      obtain ⟨oa, cap, rfl, hc1, hc2⟩ := hL.row.shape
      obtain ⟨nx, hnx⟩ : ∃ nx, s.nx = nx := ⟨_, rfl⟩
      obtain ⟨ak, hak⟩ : ∃ ak, s.ak = ak := ⟨_, rfl⟩
      have hnxb := hL.ok.nx
      have hakb := hL.ok.ak
      have hl64 := hL.ok.len
      have b1 : wr.cell? ⟨b, 1, none⟩ = some (.int .u64 nx) := by rw [cell_at hL.blk, ← hnx]; rfl
      have HNX := Lib.hid hnx
      have HAK := Lib.hid hak
      have HLB := Lib.hid hL
      have HFP := Lib.hid hfp
      rw [hnx] at hnxb
      rw [hak] at hakb
      have hsub : (k : Int) - 1 = ((k - 1 : Nat) : Int) := by omega
      have hsb : k - 1 < k := by omega
      have hgt0 : 0 < rl.2 := by
        have hh := HOK.out (k - 1) (by omega)
        unfold okAt at hh
        rw [hrl, List.getElem?_eq_getElem (show k - 1 - 1 < rs.length by rw [HLEN.out]; omega)] at hh
        simp at hh
        omega
      rw [htop] at hgt0
      clear hrl htop hL hfp hnx hak q0
      by_cases hov : nx < top
      · have hovi : (nx : Int) < (top : Int) := by omega
        have HE := Lib.hid (show s.ackErr rs = 14 from by
          unfold LS.ackErr
          rw [if_neg (by rw [HRT.out]; decide), HTOP.out, HNX.out, if_pos hov])
        go_wp2_with fail
        go_ret3
        exact ackpost_err H.out HE.out (by decide) HBW.out
      · have hovi : ¬ (nx : Int) < (top : Int) := by omega
        have HE := Lib.hid (show s.ackErr rs = 0 from by
          unfold LS.ackErr
          rw [if_neg (by rw [HRT.out]; decide), HTOP.out, HNX.out, if_neg hov])
        obtain ⟨ll, hll⟩ : ∃ ll, s.L.length = ll := ⟨_, rfl⟩
        have HLL := Lib.hid hll
        rw [hll] at hc1 hl64
        have b2 : wr.cell? ⟨b, 2, none⟩ = some (.int .u64 ak) := by rw [cell_at HLB.out.blk, ← HAK.out]; rfl
        have b3 : wr.cell? ⟨b, 3, none⟩ = some (.bool s.has) := (cell_at HLB.out.blk 3).trans rfl
        have g2 := free_at HLB.out.blk 2
        have g3 := free_at HLB.out.blk 3
        obtain ⟨A, hA⟩ : ∃ A, max ak (top - 1) = A := ⟨_, rfl⟩
        have HA := Lib.hid (show s.top rs = A from by unfold LS.top; rw [HTOP.out, HAK.out, hA])
        obtain ⟨tp, htp1, htp2⟩ : ∃ tp : Nat, (top : Int) - 1 = (tp : Int) ∧ top - 1 = tp := ⟨top - 1, by omega, rfl⟩
        have hAc : (ak < tp ∧ A = tp) ∨ (tp < ak ∧ A = ak) ∨ (ak = tp ∧ A = ak) := by omega
        have htpb : (tp : Int) ≤ 4611686018427387904 := by omega
        have hAb : A ≤ 4611686018427387904 := by omega
        have hwt : IntKind.u64.wrap (tp : Int) = tp := IntWalk.u64_in _ (by omega)
        clear hA htp2 hll
        go_upto_region 11 with fail
        go_cut [] (fun wx => wx = ((wr.setCell ⟨b, 2, none⟩ (.int .u64 A)).setCell ⟨b, 3, none⟩ (.bool true)))
        case first =>
          rcases hAc with ⟨a1, a2⟩ | ⟨a1, a2⟩ | ⟨a1, a2⟩
          all_goals
            go_wp2_with fail
            go_meet
            case rel => first | rfl | (rw [a2]; done) | (rw [a2]; rfl) | (rw [a2, a1]; done) | (rw [a2, a1]; rfl)
        case rest =>
          have hu5 : Upd (fun j => j = b) wr wc := by
            rw [hcut]
            exact ((Upd.refl (fun j => j = b) wr).setCell ⟨b, 2, none⟩ (.inl rfl) (.int .u64 A)).setCell ⟨b, 3, none⟩ (.inl rfl) (.bool true)
          have hbl := heap_lt HLB.out.blk
          have hap := HLB.out.apart
          have hk5 : wc.heap[b]? = some (.cells #[.slice oa s.L.length cap, .int .u64 s.nx, .int .u64 A, .bool true] kD.1 (0, 0)) := by
            rw [hcut]
            exact set_at (set_at HLB.out.blk 2 (.int .u64 A)) 3 (.bool true)
          have HROW := Lib.hid (HLB.out.row.keeps hu5 (fun g e q => hap (by rw [e, q])))
          have HK5 := Lib.hid hk5
          have HU5 := Lib.hid hu5
          have HVC := Lib.hid (show Vw encR wc wc.heap.size (.slice (some ⟨c, ofc, none⟩) k capr) rs from HVA.out wc (HUW.out.then hu5))
          have HM0 := Lib.hid (show DMid wc wc s rs 0 (.slice none 0 0) (.slice none 0 0) (.slice none 0 0) none none none from ⟨SlG.nil _, SlG.nil _, SlG.nil _, by simp, by simp, by simp, by simp, by simp, by simp, Below.refl _ _⟩)
          clear hcut hu5 hk5 b1 b2 b3 g2 g3 hAc hwt htp1 htpb hnxb hakb q1 HVW HLW
          generalize wc = w5 at *
          go_wp2_with fail
          go_loopw [9, 10, 11, 12] (fun a1 a2 a3 i wr => ∃ j : Nat, i = .int .i64 j ∧ j ≤ ll ∧ ∃ o1 o2 o3, DMid w5 wr s rs j a1 a2 a3 o1 o2 o3) (fun _ _ _ i _ => ll - (intOf i).toNat)
          case atStart => exact ⟨0, rfl, by omega, _, _, _, HM0.out⟩
          case round =>
            obtain ⟨j, rfl, hj, o1, o2, o3, hm⟩ := hrel
            have HM := Lib.hid hm
            have hkr := below_keeps hm.below HK5.out (heap_lt HK5.out)
            have b0 : wr.cell? ⟨b, 0, none⟩ = some (.slice oa ll cap) := by rw [cell_at hkr, ← HLL.out]; rfl
            have b2 : wr.cell? ⟨b, 2, none⟩ = some (.int .u64 A) := (cell_at hkr 2).trans rfl
            have HKR := Lib.hid hkr
            clear hm HM0 hkr
            by_cases hjl : j < ll
            · obtain ⟨p, hp⟩ : ∃ p, s.L[j]? = some p := ⟨_, List.getElem?_eq_getElem (by rw [HLL.out]; exact hjl)⟩
              have HP := Lib.hid hp
              have hrow : SlG encQ 32 wr (.slice oa ll cap) og s.L := by rw [← HLL.out]; exact HROW.out.below HM.out.below
              obtain ⟨cc, ofcc, rfl, hcc, p0, p1, p2, p3, p4⟩ := hrow.vw.pkt hp
              have hpn := HLB.out.ok.num p (List.mem_of_getElem? hp)
              have hnx2 := HLB.out.ok.nx
              have hj64 : j ≤ 64 := by omega
              have HLN3 := Lib.hid (show ((s.L.take j).filter fun p => rs.any (hasP p.n)).length ≤ 64 ∧ ((s.L.take j).filter fun p => !rs.any (hasP p.n) && decide (p.n + 3 ≤ s.top rs)).length ≤ 64 ∧ ((s.L.take j).filter fun p => !rs.any (hasP p.n) && !decide (p.n + 3 ≤ s.top rs)).length ≤ 64 from by
                have ht : (s.L.take j).length ≤ 64 := by rw [List.length_take]; omega
                exact ⟨Nat.le_trans (List.length_filter_le _ _) ht, Nat.le_trans (List.length_filter_le _ _) ht, Nat.le_trans (List.length_filter_le _ _) ht⟩)
              clear hp hrow
              have HVR := Lib.hid (HVC.out.below HM.out.below)
              go_wp2_with fail
              refine (dhas_any _ rs p.n _ (by exact HVR.out) (by rw [HLEN.out]; exact hl)).mono ?_
              rintro e w6 ⟨rfl, hw6⟩
              obtain rfl := hw6.symm
              cases hha : rs.any (hasP p.n)
              · obtain ⟨n3, hn3, hn3b⟩ : ∃ n3 : Nat, (p.n : Int) + 3 = (n3 : Int) ∧ p.n + 3 = n3 := ⟨p.n + 3, by omega, rfl⟩
                have hw3 : IntKind.u64.wrap (n3 : Int) = n3 := IntWalk.u64_in _ (by omega)
                by_cases hle : n3 ≤ A
                · have hlei : (n3 : Int) ≤ (A : Int) := by omega
                  have HLE := Lib.hid (show p.n + 3 ≤ s.top rs from by rw [HA.out, hn3b]; exact hle)
                  clear hn3b
                  go_wp2_with fail
                  go_quiet (fail)
                  go_wp2_with (refine wpList_pushV encQ_len encQ_one Try.underlying38 hi0 hz1 hz0 zeroP rfl (.tmp 132) (.tmp 140) rfl (by exact SlG.alloc (HM.out.lost.drewN _) _) (by exact (SlG.vw (og := some wr.heap.size) (xs := [p]) (.inr ⟨wr.heap.size, [], rfl, rfl, alloc_at _ _, by simp⟩))) rfl rfl (by rw [hz2']; exact lb1 HLN3.out.2.1 p) (by exact lb2 HLN3.out.2.1 p) ?_)
                  intro W4 v4 o4 hs4 ho4 hu4
                  have H4 := Lib.hid ((HM.out.later (below_drewalloc _ _ _)).push2 HP.out hha HLE.out hs4 (by simpa using ho4) hu4)
                  clear hs4 ho4 hu4 HM p0 p1 p2 p3 p4 b0 b2 HKR
                  go_wp2_with fail
                  go_roundw
                  case rel => exact ⟨j + 1, by go_num, by omega, _, _, _, H4.out⟩
                  case measure => simp [intOf]; omega
                · have hlei : ¬ (n3 : Int) ≤ (A : Int) := by omega
                  have HLE := Lib.hid (show ¬ p.n + 3 ≤ s.top rs from by rw [HA.out, hn3b]; exact hle)
                  clear hn3b
                  go_wp2_with fail
                  go_quiet (fail)
                  go_wp2_with (refine wpList_pushV encQ_len encQ_one Try.underlying38 hi0 hz1 hz0 zeroP rfl (.tmp 86) (.tmp 94) rfl (by exact SlG.alloc (HM.out.left.drewN _) _) (by exact (SlG.vw (og := some wr.heap.size) (xs := [p]) (.inr ⟨wr.heap.size, [], rfl, rfl, alloc_at _ _, by simp⟩))) rfl rfl (by rw [hz2']; exact lb1 HLN3.out.2.2 p) (by exact lb2 HLN3.out.2.2 p) ?_)
                  intro W4 v4 o4 hs4 ho4 hu4
                  have H4 := Lib.hid ((HM.out.later (below_drewalloc _ _ _)).push3 HP.out hha HLE.out hs4 (by simpa using ho4) hu4)
                  clear hs4 ho4 hu4 HM p0 p1 p2 p3 p4 b0 b2 HKR
                  go_wp2_with fail
                  go_roundw
                  case rel => exact ⟨j + 1, by go_num, by omega, _, _, _, H4.out⟩
                  case measure => simp [intOf]; omega
              · go_wp2_with (refine wpList_pushV encQ_len encQ_one Try.underlying38 hi0 hz1 hz0 zeroP rfl (.tmp 107) (.tmp 115) rfl (by exact SlG.alloc (HM.out.got) _) (by exact (SlG.vw (og := some wr.heap.size) (xs := [p]) (.inr ⟨wr.heap.size, [], rfl, rfl, alloc_at _ _, by simp⟩))) rfl rfl (by rw [hz2']; exact lb1 HLN3.out.1 p) (by exact lb2 HLN3.out.1 p) ?_)
                intro W4 v4 o4 hs4 ho4 hu4
                have H4 := Lib.hid ((HM.out.later ((Below.refl _ _).alloc (Nat.le_refl _) _)).push1 HP.out hha hs4 (by simpa using ho4) hu4)
                clear hs4 ho4 hu4 HM p0 p1 p2 p3 p4 b0 b2 HKR
                go_wp2_with fail
                go_roundw
                case rel => exact ⟨j + 1, by go_num, by omega, _, _, _, H4.out⟩
                case measure => simp [intOf]; omega
            · obtain rfl : j = ll := by omega
              have htk : s.L.take j = s.L := by rw [← HLL.out, List.take_length]
              have h1 := HM.out.got
              have h2 := HM.out.lost
              have h3 := HM.out.left
              rw [htk] at h1 h2 h3
              obtain ⟨oB, cB, e3, hcB1, hcB2⟩ := h3.shape
              obtain ⟨nl, hnl⟩ : ∃ nl, (s.L.filter fun p => !rs.any (hasP p.n) && !decide (p.n + 3 ≤ s.top rs)).length = nl := ⟨_, rfl⟩
              rw [hnl] at e3
              subst e3
              have g0 := free_at HKR.out 0
              have hu : Upd (fun j => j = b) wr (wr.setCell ⟨b, 0, none⟩ (.slice oB nl cB)) := (Upd.refl (fun j => j = b) wr).setCell ⟨b, 0, none⟩ (.inl rfl) _
              have a1 := slg_apart h1 HKR.out (by decide)
              have a2 := slg_apart h2 HKR.out (by decide)
              have a3 := slg_apart h3 HKR.out (by decide)
              have HF1 := Lib.hid (h1.keeps hu (fun g e q => a1 (by rw [e, q])))
              have HF2 := Lib.hid (h2.keeps hu (fun g e q => a2 (by rw [e, q])))
              have hwb := H.out.lt.2 b H.out.lt.1
              have HFIN := Lib.hid (show LM kD w (wr.setCell ⟨b, 0, none⟩ (.slice oB nl cB)) fp b (s.acks rs) from by
                refine ⟨LFp kD b o3 (s.left rs), ⟨_, o3, ⟨(set_at HKR.out 0 _).trans (by unfold LS.acks; rw [HA.out]; rfl), h3.keeps hu (fun g e q => a3 (by rw [e, q])), fun k => (by cases k), .inr rfl, LS.acks_ok H.out.ok rs (by rw [HTOP.out, HNX.out]; omega)⟩, rfl⟩, ?_, fun g hg => ?_⟩
                · have e1 : Upd (fun j => j = b) w wr := (((Upd.below HBW.out).mono (fun j hj x => by omega) : Upd (fun j => j = b) w _).then HU5.out).trans (Upd.below HM.out.below) (fun _ _ x => x) (fun j hj x => by have := HBW.out.size; have := HU5.out.size; omega)
                  exact (e1.then hu).mono (fun j hj x => by rw [x]; exact H.out.lt.1)
                · rcases hg with hg | hg | ⟨q, _, hk, _⟩
                  · exact .inl (by rw [hg]; exact H.out.lt.1)
                  · right
                    have := HM.out.n3 g hg
                    have := HBW.out.size
                    have := HU5.out.size
                    omega
                  · cases hk)
              have HN1 := Lib.hid (show ∀ g, o1 = some g → w.heap.size ≤ g from fun g e => by have := HM.out.n1 g e; have := HBW.out.size; have := HU5.out.size; omega)
              have HN2 := Lib.hid (show ∀ g, o2 = some g → w.heap.size ≤ g from fun g e => by have := HM.out.n2 g e; have := HBW.out.size; have := HU5.out.size; omega)
              clear h1 h2 h3 hu a1 a2 a3 htk hnl hwb
              go_wp2_with fail
              go_ret3
              refine ⟨_, o1, _, o2, by rw [HE.out]; rfl, ?_, ?_, HN1.out, HN2.out, ?_⟩
              · rw [if_pos HE.out]
                exact HF1.out
              · rw [if_pos HE.out]
                exact HF2.out
              · rw [if_pos HE.out]
                exact HFIN.out
end Go.Proofs.Ytacfbgnbjdckiaa

/- DERIVED. Walks of sent's New, readers, closures. -/
namespace Go.Proofs.Ytacfbgnbjdckiaa
open Go.RowKit

set_option maxRecDepth 100000 in
set_option maxHeartbeats 1000000 in
theorem lnew_any (w : World) : Calls Try.prog 7 #[] w fun e w' => ∃ b, e = .returned (.pointer (some ⟨b, 0, none⟩)) ∧ LMine kP w w' b LS.zero := by
  go_enter Try.func7, Try.ntmps7
  go_wp2_with fail
  go_ret
  refine ⟨w.heap.size, rfl, _, ⟨.slice none 0 0, none, ⟨alloc_at _ _, SlG.nil _, fun _ p hp => (by cases hp), .inl rfl, LS.zero_ok⟩, rfl⟩, ?_, (Below.refl _ _).alloc (Nat.le_refl _) _⟩
  rintro k (rfl | q | ⟨p, hp, _⟩)
  · exact Nat.le_refl _
  · cases q
  · cases hp
set_option maxHeartbeats 1000000 in
theorem lnext_q (b : Nat) (s : LS) (fp : Nat → Prop) (w : World) (h : LAt kP w b s fp) : Calls Try.prog 28 #[.pointer (some ⟨b, 0, none⟩)] w fun e w' => e = .returned (.int .u64 s.nx) ∧ ∃ n, w' = w.drewN n := by
  obtain ⟨c, _⟩ := h.cells
  go_enter Try.func28, Try.ntmps28
  go_wp2_with fail
  go_ret
  exact ⟨rfl, 0, rfl⟩
set_option maxHeartbeats 1000000 in
theorem llen_q (b : Nat) (s : LS) (fp : Nat → Prop) (w : World) (h : LAt kP w b s fp) : Calls Try.prog 12 #[.pointer (some ⟨b, 0, none⟩)] w fun e w' => e = .returned (.int .i64 s.L.length) ∧ ∃ n, w' = w.drewN n := by
  obtain ⟨v, og, hL, _⟩ := h
  obtain ⟨oa, cap, rfl, hc1, hc2⟩ := hL.row.shape
  have c0 : w.cell? ⟨b, 0, none⟩ = some (.slice oa s.L.length cap) := (cell_at hL.blk 0).trans rfl
  clear hL
  generalize s.L.length = len at *
  go_enter Try.func12, Try.ntmps12
  go_wp2_with fail
  go_ret
  exact ⟨rfl, 0, rfl⟩
set_option maxRecDepth 100000 in
set_option maxHeartbeats 1000000 in
theorem ack1_fn (c d : Nat) (og : Option Nat) (m : Int) (xs : List Rg) (p : Pk) (w : World) (hc : w.cell? ⟨c, 0, none⟩ = some (.pointer (some ⟨d, 0, none⟩))) (hs : SetAt w d m og xs) :
    Calls Try.prog 24 #[.agg (encQ p).toArray, .pointer (some ⟨c, 0, none⟩)] w fun e w' => e = .returned (.bool (xs.any (hasP p.n))) ∧ Below w.heap.size w w' := by
  have ha := fun o => Lib.cell?_alloc_some o hc
  have HS := Lib.hid hs
  clear hs
  simp only [encQ]
  go_enter Try.func24, Try.ntmps24
  go_wp2_with fail
  refine (shas_any d m og xs p.n _ (by exact HS.out.below ((Below.refl _ _).alloc (Nat.le_refl _) _))).mono ?_
  rintro e w2 ⟨rfl, hb⟩
  have HB := Lib.hid (below_call ((Below.refl w.heap.size w).alloc (Nat.le_refl _) _) (by simp) hb)
  clear hb
  go_wp2_with fail
  go_ret
  exact ⟨rfl, HB.out⟩
set_option maxRecDepth 100000 in
set_option maxHeartbeats 1000000 in
theorem ack2_fn (c b : Nat) (ak : Nat) (p : Pk) (w : World) (hc : w.cell? ⟨c, 0, none⟩ = some (.pointer (some ⟨b, 0, none⟩))) (hb : w.cell? ⟨b, 2, none⟩ = some (.int .u64 ak)) (hp : p.n ≤ 4611686018427387904) :
    Calls Try.prog 26 #[.agg (encQ p).toArray, .pointer (some ⟨c, 0, none⟩)] w fun e w' => e = .returned (.bool (decide (p.n + 3 ≤ ak))) ∧ Below w.heap.size w w' := by
  have ha := fun o => Lib.cell?_alloc_some o hc
  have hb2 := fun o => Lib.cell?_alloc_some o hb
  obtain ⟨q, hq, hq2⟩ : ∃ q : Nat, (p.n : Int) + 3 = (q : Int) ∧ p.n + 3 = q := ⟨p.n + 3, by omega, rfl⟩
  have hqb : q ≤ 4611686018427387907 := by omega
  rw [hq2]
  clear hq2
  simp only [encQ]
  go_enter Try.func26, Try.ntmps26
  go_wp2_with fail
  go_quiet (fail)
  go_wp2_with fail
  go_ret
  refine ⟨fn_end ?_, below_drewN ((Below.refl w.heap.size w).alloc (Nat.le_refl _) _) _⟩
  simp
set_option maxRecDepth 100000 in
set_option maxHeartbeats 2000000 in
theorem clear_fn (p : Pk) (w : World) : Calls Try.prog 27 #[.agg (encQ p).toArray] w fun e w' => e = .returned (.bool true) ∧ Below w.heap.size w w' := by
  simp only [encQ]
  go_enter Try.func27, Try.ntmps27
  go_wp2_with fail
  go_ret
  exact ⟨rfl, (Below.refl _ _).alloc (Nat.le_refl _) _⟩
set_option maxRecDepth 100000 in
set_option maxHeartbeats 1000000 in
theorem take_fn (c n : Nat) (p : Pk) (w : World) (hc : w.cell? ⟨c, 0, none⟩ = some (.int .u64 n)) :
    Calls Try.prog 42 #[.agg (encQ p).toArray, .pointer (some ⟨c, 0, none⟩)] w fun e w' => e = .returned (.bool (decide (p.n = n))) ∧ Below w.heap.size w w' := by
  have ha := fun o => Lib.cell?_alloc_some o hc
  simp only [encQ]
  go_enter Try.func42, Try.ntmps42
  go_wp2_with fail
  go_ret
  refine ⟨fn_end ?_, (Below.refl w.heap.size w).alloc (Nat.le_refl _) _⟩
  simp [eqN]
set_option maxRecDepth 100000 in
set_option maxHeartbeats 1000000 in
theorem lacked_q (b : Nat) (s : LS) (fp : Nat → Prop) (w : World) (h : LAt kP w b s fp) : Calls Try.prog 45 #[.pointer (some ⟨b, 0, none⟩)] w fun e w' => e = .returned (.tuple #[.int .u64 s.ak, .bool s.has]) ∧ ∃ n, w' = w.drewN n := by
  obtain ⟨_, c2, c3⟩ := h.cells
  go_enter Try.func45, Try.ntmps45
  go_wp2_with fail
  go_quiet (fail)
  go_wp2_with fail
  go_ret2
  exact ⟨rfl, _, rfl⟩
end Go.Proofs.Ytacfbgnbjdckiaa

/- DERIVED. Walks of a set's Has and Add. -/
namespace Go.Proofs.Ytacfbgnbjdckiaa
open Go.RowKit
set_option maxRecDepth 100000 in
set_option maxHeartbeats 1000000 in
theorem add_no (b lo hi : Nat) (w : World) (h : ¬ (lo < hi ∧ hi ≤ 4611686018427387904)) :
    Calls Try.prog 22 #[.pointer (some ⟨b, 0, none⟩), .int .u64 lo, .int .u64 hi] w fun e w' => e = .returned (.bool false) ∧ Below w.heap.size w w' := by
  rcases (by omega : hi ≤ lo ∨ (lo < hi ∧ 4611686018427387904 < hi)) with h | ⟨h1, h2⟩
  all_goals
    go_enter Try.func22, Try.ntmps22
    go_wp2
    go_ret
    exact ⟨rfl, ((Below.refl _ _).alloc (Nat.le_refl _) _).alloc (by simp) _⟩


/-- The state behind the first search: the set as it was, the two boxes, the range that grows. -/
structure AddSt (w wx : World) (b : Nat) (most : Int) (v : Value) (og : Option Nat) (xs : List Rg) (lo hi c : Nat) (r : Rg) : Prop where
  set : SetIs wx b most v og xs
  lo : wx.cell? ⟨w.heap.size, 0, none⟩ = some (.int .u64 lo)
  hi : wx.cell? ⟨w.heap.size + 1, 0, none⟩ = some (.int .u64 hi)
  cur : wx.heap[c]? = some (.cells #[.int .u64 r.1, .int .u64 r.2] 37 (0, 0))
  below : Below w.heap.size w wx
  size : wx.heap.size = c + 1
  far : w.heap.size + 1 < c
theorem AddSt.drewN {w wx : World} {b : Nat} {most : Int} {v : Value} {og : Option Nat} {xs : List Rg} {lo hi c : Nat} {r : Rg} (h : AddSt w wx b most v og xs lo hi c r) (n : Nat) : AddSt w (wx.drewN n) b most v og xs lo hi c r :=
  ⟨h.set, h.lo, h.hi, h.cur, below_drewN h.below n, h.size, h.far⟩
theorem AddSt.put {w wx : World} {b : Nat} {most : Int} {v : Value} {og : Option Nat} {xs : List Rg} {lo hi c : Nat} {r : Rg} (h : AddSt w wx b most v og xs lo hi c r) (hb : b < w.heap.size) (hg : ∀ g, og = some g → g < w.heap.size) (r' : Rg) :
    AddSt w ((wx.setCell ⟨c, 0, none⟩ (.int .u64 r'.1)).setCell ⟨c, 1, none⟩ (.int .u64 r'.2)) b most v og xs lo hi c r' := by
  have hu : Upd (fun j => j = c) wx ((wx.setCell ⟨c, 0, none⟩ (.int .u64 r'.1)).setCell ⟨c, 1, none⟩ (.int .u64 r'.2)) :=
    Upd.setCell (Upd.setCell (Upd.refl (fun j => j = c) wx) ⟨c, 0, none⟩ (.inl rfl) _) ⟨c, 1, none⟩ (.inl rfl) _
  have hf := h.far
  have hcell : ∀ j o, j ≠ c → ((wx.setCell ⟨c, 0, none⟩ (.int .u64 r'.1)).setCell ⟨c, 1, none⟩ (.int .u64 r'.2)).cell? ⟨j, o, none⟩ = wx.cell? ⟨j, o, none⟩ := fun j o hj => by
    apply World.cell?_of_block
    rw [Below.heap_setCell _ _ _ _ hj, Below.heap_setCell _ _ _ _ hj]
  refine ⟨h.set.keeps hu (by omega) (fun g hg' => by have := hg g hg'; omega), by rw [hcell _ _ (by omega)]; exact h.lo, by rw [hcell _ _ (by omega)]; exact h.hi, ?_, Upd.onto h.below hu (by rw [h.size]; omega) (by intro j h1 h2; omega), by simp [World.setCell, h.size], h.far⟩
  rw [set_at (set_at h.cur 0 _) 1 _]
  rfl

/-- Behind Replace and the store: what is known, as the trim is called. -/
theorem add_fin {w wc w5 : World} {b : Nat} {most : Int} {v : Value} {og og5 : Option Nat} {xs ys : List Rg} {lo hi c : Nat} {f : Rg} {oa5 : Option Addr} {n5 cap5 : Nat} {o : Obj} (h : AddSt w wc b most v og xs lo hi c f) (hb : b < w.heap.size) (hgl : ∀ g, og = some g → g < w.heap.size)
    (hsl : Sl w5 (.slice oa5 n5 cap5) og5 ys) (hog5 : og5 = og ∨ ∃ g, og5 = some g ∧ wc.heap.size + 1 ≤ g) (hup : Upd (fun j => og = some j) (wc.alloc o).drew w5) (hb5 : w5.heap[b]? = some (.cells #[.int .i64 most, v] 81 (0, 0))) :
    SetAt (w5.setCell ⟨b, 1, none⟩ (.slice oa5 n5 cap5)) b most og5 ys ∧ Upd (fun j => j = b ∨ og = some j) w (w5.setCell ⟨b, 1, none⟩ (.slice oa5 n5 cap5)) ∧
      (w5.setCell ⟨b, 1, none⟩ (.slice oa5 n5 cap5)).cell? ⟨w.heap.size, 0, none⟩ = some (.int .u64 lo) ∧ (w5.setCell ⟨b, 1, none⟩ (.slice oa5 n5 cap5)).cell? ⟨w.heap.size + 1, 0, none⟩ = some (.int .u64 hi) ∧
      (og5 = og ∨ ∃ g, og5 = some g ∧ w.heap.size + 2 ≤ g) := by
  have hsz := h.size
  have hfar := h.far
  have hog : og5 = og ∨ ∃ g, og5 = some g ∧ w.heap.size + 2 ≤ g := by
    rcases hog5 with hx | ⟨g, hx, hg⟩
    · exact .inl hx
    · exact .inr ⟨g, hx, by omega⟩
  have hne5 : og5 ≠ some b := by
    rintro rfl
    rcases hog with hx | ⟨g, hx, hg⟩
    · exact h.set.2.2 hx.symm
    · cases hx; omega
  have hu5 : Upd (fun j => j = b) w5 (w5.setCell ⟨b, 1, none⟩ (.slice oa5 n5 cap5)) := Upd.setCell (Upd.refl (fun j => j = b) w5) ⟨b, 1, none⟩ (.inl rfl) _
  have hlo : ∀ j u, j < c → b ≠ j → (∀ g, og = some g → g ≠ j) → wc.cell? ⟨j, 0, none⟩ = some u → (w5.setCell ⟨b, 1, none⟩ (.slice oa5 n5 cap5)).cell? ⟨j, 0, none⟩ = some u := by
    intro j u hj hbj hgj hc
    rw [← hc]
    apply World.cell?_of_block
    rw [hu5.block j (by have := hup.size; simp at this; omega) (fun e => hbj e.symm), hup.block j (by simp; omega) (fun e => hgj j e rfl)]
    exact Below.heap_alloc _ _ _ (by omega)
  refine ⟨⟨_, set_store hb5 _, hsl.keeps hu5 (fun g hg e => hne5 (by rw [hg, e])), hne5⟩, ?_, hlo _ _ (by omega) (by omega) (fun g hg => by have := hgl g hg; omega) h.lo, hlo _ _ (by omega) (by omega) (fun g hg => by have := hgl g hg; omega) h.hi, hog⟩
  refine Upd.trans (F := fun _ => False) (G := fun j => j = b ∨ og = some j) (b := (wc.alloc o).drew) ?_ ?_ (fun _ _ x => x.elim) (fun _ _ x => x)
  · exact (Upd.below ((h.below.alloc (by omega) o).drew)).mono (fun i hi x => by omega)
  · exact (hup.mono (fun _ _ x => .inr x)).then (hu5.mono (fun _ _ x => .inl x))
theorem Turned.next {w w1 w2 : World} {b : Nat} {most : Int} {og og1 : Option Nat} {ys : List Rg} (h : Turned w1 b most og1 ys w2) (hu : Upd (fun j => j = b ∨ og = some j) w w1) (hog : og1 = og ∨ ∃ g, og1 = some g ∧ w.heap.size ≤ g) :
    Turned w b most og ys w2 := by
  obtain ⟨og2, hs, ho, hu2⟩ := h
  refine ⟨og2, hs, ?_, hu.trans hu2 (fun _ _ x => x) ?_⟩
  · rcases ho with rfl | rfl | ⟨g, rfl, hg⟩
    · rcases hog with rfl | hx
      · exact .inl rfl
      · exact .inr (.inr hx)
    · exact .inr (.inl rfl)
    · exact .inr (.inr ⟨g, rfl, Nat.le_trans hu.size hg⟩)
  · intro i hi x
    rcases x with x | x
    · exact .inl x
    · rcases hog with rfl | ⟨g, rfl, hg⟩
      · exact .inr x
      · cases x; omega
theorem Turned.cell {w1 w2 : World} {b : Nat} {most : Int} {og1 : Option Nat} {ys : List Rg} (h : Turned w1 b most og1 ys w2) {j : Nat} {u : Value} (hc : w1.cell? ⟨j, 0, none⟩ = some u) (hb : j ≠ b) (hg : og1 ≠ some j) : w2.cell? ⟨j, 0, none⟩ = some u := by
  obtain ⟨og2, hs, ho, hu2⟩ := h
  rw [← hc]
  apply World.cell?_of_block
  exact hu2.block j (cell_in hc) (fun x => x.elim hb (fun x => hg x))
theorem Turned.later {w w1 w2 : World} {b : Nat} {most : Int} {og : Option Nat} {ys : List Rg} (h : Turned w b most og ys w1) (hb : Below w1.heap.size w1 w2) : Turned w b most og ys w2 := by
  obtain ⟨og2, hs, ho, hu⟩ := h
  exact ⟨og2, hs.below hb, ho, hu.trans (Upd.below hb) (fun _ _ x => x) (fun i hi x => by have := hu.size; omega)⟩
theorem Turned.ofBelow {w w1 : World} {b : Nat} {most : Int} {og : Option Nat} {ys : List Rg} (h : SetAt w b most og ys) (hb : Below w.heap.size w w1) : Turned w b most og ys w1 :=
  ⟨og, h.below hb, .inl rfl, (Upd.below hb).mono (fun i hi x => by omega)⟩

theorem minI (a b : Nat) : (if b < a then (b : Int) else (a : Int)) = ((min a b : Nat) : Int) := by split <;> omega
theorem maxI (a b : Nat) : (if a < b then (b : Int) else (a : Int)) = ((max a b : Nat) : Int) := by split <;> omega

set_option maxRecDepth 100000 in
set_option maxHeartbeats 2000000 in
theorem add_yes (b : Nat) (most : Int) (og : Option Nat) (xs : List Rg) (lo hi : Nat) (w : World) (h : SetAt w b most og xs) (hm : 1 ≤ most) (hm2 : most ≤ 9223372036854775807) (hlen : (xs.length + 1) * 16 ≤ 140737488355328) (h1 : lo < hi) (h2 : hi ≤ 4611686018427387904) :
    Calls Try.prog 22 #[.pointer (some ⟨b, 0, none⟩), .int .u64 lo, .int .u64 hi] w fun e w' => e = .returned (.bool ((addL most xs lo hi).any (meetP lo hi))) ∧ Turned w b most og (addL most xs lo hi) w' := by
  obtain ⟨v, hset⟩ := h
  obtain ⟨oa, cap, rfl, hcap, hcap2⟩ := hset.2.1.shape
  have hbl := heap_lt hset.1
  obtain ⟨W, hW⟩ : ∃ W, W = (w.alloc (.cells #[.int .u64 lo] 29)).alloc (.cells #[.int .u64 hi] 29) := ⟨_, rfl⟩
  have hB : Below w.heap.size w W := by rw [hW]; exact ((Below.refl _ _).alloc (Nat.le_refl _) _).alloc (by simp) _
  have hsz : W.heap.size = w.heap.size + 2 := by rw [hW]; simp
  have hset2 : SetIs W b most (.slice oa xs.length cap) og xs := hset.below hB
  have c1 : W.cell? ⟨b, 1, none⟩ = some (.slice oa xs.length cap) := by
    have := cell_at hset2.1 1
    simpa using this
  have cl : W.cell? ⟨w.heap.size, 0, none⟩ = some (.int .u64 lo) := by rw [hW]; simp
  have ch : W.cell? ⟨w.heap.size + 1, 0, none⟩ = some (.int .u64 hi) := by rw [hW]; simp
  have HG0 := Lib.hid (show ∀ g, og = some g → g < w.heap.size from hset.2.1.lt)
  have HSET := Lib.hid hset2
  have HB := Lib.hid hB
  have HSZ := Lib.hid hsz
  clear hset hset2 hB hsz
  generalize hn : xs.length = n at *
  have HN := Lib.hid hn
  clear hn
  have hil := iOf_le xs lo
  go_enter Try.func22, Try.ntmps22
  have HW := Lib.hid hW
  clear hW
  go_upto_block 0 with fail
  rw [← HW.out]
  go_cut [7] (fun i wx => i = .int .i64 (iOf xs lo) ∧ ∃ q, wx = W.drewN q)
  case first =>
    go_wp2_with fail
    go_loopw [7] (fun i wr => ∃ j q : Nat, i = .int .i64 j ∧ j ≤ iOf xs lo ∧ wr = W.drewN q) (fun i _ => n - (intOf i).toNat)
    case atStart => exact ⟨0, 0, rfl, by omega, rfl⟩
    case round =>
      obtain ⟨j, q, rfl, hj, rfl⟩ := hrel
      rw [HN.out] at hil
      by_cases hlt : j < iOf xs lo
      · obtain ⟨r, hr, hr2⟩ := iOf_lt hlt
        obtain ⟨g, hog, rfl, hgl, c2, c3⟩ := HSET.out.2.1.atS hr
        have hjn : (j : Int) < (n : Int) := by omega
        clear hr hog c2
        go_wp2_with fail
        go_quiet (fail)
        go_wp2
        go_roundw
        case rel => exact ⟨j + 1, _, by go_num, by omega, rfl⟩
        case measure => simp [intOf]; omega
      · obtain rfl : j = iOf xs lo := by omega
        generalize hj' : iOf xs lo = j at *
        have HJ := Lib.hid hj'
        clear hj'
        by_cases hjn : j < n
        · obtain ⟨r, hr⟩ : ∃ r, xs[j]? = some r := ⟨_, List.getElem?_eq_getElem (by rw [HN.out]; exact hjn)⟩
          obtain ⟨g, hog, rfl, hgl, c2, c3⟩ := HSET.out.2.1.atS hr
          have hr2 : lo ≤ r.2 := iOf_end (xs := xs) (by rw [HJ.out]; exact hr)
          clear hr hog c2
          go_wp2_with fail
          go_quiet (fail)
          go_wp2
          go_meet
          exact ⟨rfl, _, World.drewN_drewN _ _ _⟩
        · go_wp2_with fail
          go_quiet (fail)
          go_wp2
          go_meet
          exact ⟨rfl, _, World.drewN_drewN _ _ _⟩
  case rest =>
    obtain ⟨rfl, q, hwc⟩ := hcut
    have HSET1 := Lib.hid (show SetIs wc b most (.slice oa n cap) og xs by rw [hwc]; exact HSET.out)
    have HB1 := Lib.hid (show Below w.heap.size w wc by rw [hwc]; exact below_drewN HB.out q)
    have HSZ1 := Lib.hid (show wc.heap.size = w.heap.size + 2 by rw [hwc]; exact HSZ.out)
    replace c1 : wc.cell? ⟨b, 1, none⟩ = some (.slice oa n cap) := by rw [hwc]; exact c1
    replace cl : wc.cell? ⟨w.heap.size, 0, none⟩ = some (.int .u64 lo) := by rw [hwc]; exact cl
    replace ch : wc.cell? ⟨w.heap.size + 1, 0, none⟩ = some (.int .u64 hi) := by rw [hwc]; exact ch
    clear hwc HSET HB HSZ HW
    go_upto_block 2 with fail
    have H0 := Lib.hid (show AddSt w (wc.alloc (.cells #[.int .u64 lo, .int .u64 hi] 37)) b most (.slice oa n cap) og xs lo hi wc.heap.size (lo, hi) from
      ⟨HSET1.out.below ((Below.refl _ _).alloc (Nat.le_refl _) _), Lib.cell?_alloc_some _ cl, Lib.cell?_alloc_some _ ch, alloc_at _ _, HB1.out.alloc (by rw [HSZ1.out]; omega) _, by simp, by rw [HSZ1.out]; omega⟩)
    have hgl : ∀ g, og = some g → g < w.heap.size := HG0.out
    have HGL := Lib.hid hgl
    clear hgl HSET1 HB1 HSZ1 c1 cl ch
    generalize wc.alloc (.cells #[.int .u64 lo, .int .u64 hi] 37) = wd at *
    generalize wc.heap.size = c at *
    have hkl := kOf_le hi (iOf_le xs lo)
    have hkg := kOf_ge xs (iOf xs lo) hi
    rw [HN.out] at hkl hil
    generalize hie : iOf xs lo = i0 at *
    have HIE := Lib.hid hie
    clear hie
    go_cut [9] (fun kv wx => kv = .int .i64 (kOf xs i0 hi) ∧ AddSt w wx b most (.slice oa n cap) og xs lo hi c (fuse (lo, hi) ((xs.take (kOf xs i0 hi)).drop i0)))
    case first =>
      go_wp2_with fail
      go_loopw [9] (fun kv wr => ∃ k : Nat, kv = .int .i64 k ∧ i0 ≤ k ∧ k ≤ kOf xs i0 hi ∧ AddSt w wr b most (.slice oa n cap) og xs lo hi c (fuse (lo, hi) ((xs.take k).drop i0))) (fun kv _ => n - (intOf kv).toNat)
      case atStart => exact ⟨i0, rfl, by omega, hkg, by rw [show (xs.take i0).drop i0 = [] by simp]; exact H0.out⟩
      case round =>
        obtain ⟨k, rfl, hk1, hk2, hst⟩ := hrel
        have HST := Lib.hid hst
        have cb := cell_at hst.set.1 1
        have cl := hst.lo
        have ch := hst.hi
        have cr0 := cell_at hst.cur 0
        have cr1 := cell_at hst.cur 1
        have fr0 := free_at hst.cur 0
        have fr1 := free_at hst.cur 1
        simp at cb cr0 cr1
        clear hst H0
        by_cases hlt : k < kOf xs i0 hi
        · obtain ⟨r, hr, hr2⟩ := kOf_lt hk1 hlt
          obtain ⟨g, hog, rfl, _, c2, c3⟩ := HST.out.set.2.1.atS hr
          have hkn : (k : Int) < (n : Int) := by omega
          have HF := Lib.hid (fuse_step (r := (lo, hi)) hk1 hr)
          have hgc : g ≠ c := fun e => by have h1 := HGL.out g hog; have h2 := HST.out.far; omega
          clear hr hog
          generalize fuse (lo, hi) ((xs.take k).drop i0) = f at *
          go_wp2_with fail
          go_quiet (fail)
          go_wp2_with fail
          go_region
          go_wp2
          go_roundw
          case rel =>
            refine ⟨k + 1, by go_num, by omega, by omega, ?_⟩
            rw [HF.out]
            have hp := (HST.out.drewN (nq + 1)).put hbl HGL.out (min f.1 r.1, max f.2 r.2)
            rw [minI, maxI]
            exact hp
          case measure => simp [intOf]; omega
        · obtain rfl : k = kOf xs i0 hi := by omega
          generalize hke : kOf xs i0 hi = k at *
          have HKE := Lib.hid hke
          clear hke
          by_cases hkn : k < n
          · obtain ⟨r, hr⟩ : ∃ r, xs[k]? = some r := ⟨_, List.getElem?_eq_getElem (by rw [HN.out]; exact hkn)⟩
            obtain ⟨g, hog, rfl, _, c2, c3⟩ := HST.out.set.2.1.atS hr
            have hr2 : hi < r.1 := kOf_end (xs := xs) (by rw [HKE.out]; exact hr)
            clear hr hog c3
            go_wp2_with fail
            go_quiet (fail)
            go_wp2
            go_meet
            exact ⟨rfl, HST.out.drewN _⟩
          · go_wp2_with fail
            go_quiet (fail)
            go_wp2
            go_meet
            exact ⟨rfl, HST.out.drewN _⟩
    case rest =>
      obtain ⟨rfl, hst⟩ := hcut
      generalize hke : kOf xs i0 hi = k at *
      have HKE := Lib.hid hke
      have HST := Lib.hid hst
      have cb := cell_at hst.set.1 1
      have cr0 := cell_at hst.cur 0
      have cr1 := cell_at hst.cur 1
      simp at cb cr0 cr1
      clear hst H0 hke
      generalize hfe : fuse (lo, hi) ((xs.take k).drop i0) = f at *
      have HFE := Lib.hid hfe
      clear hfe
      have hrep := replace_any (.slice oa n cap) og xs i0 k wc.heap.size f (wc.alloc (.cells #[.int .u64 f.1, .int .u64 f.2] 37)).drew
        (by exact HST.out.set.2.1.below ((Below.refl wc.heap.size wc).alloc (Nat.le_refl _) (.cells #[.int .u64 f.1, .int .u64 f.2] 37)).drew) hkg (by rw [HN.out]; exact hkl) (by exact alloc_at _ _)
        (fun e => by have h1 := HGL.out _ e; have h2 := HST.out.size; have h3 := HST.out.far; omega) (by rw [HN.out]; exact hlen)
      have hbw : (wc.alloc (.cells #[.int .u64 f.1, .int .u64 f.2] 37)).drew.heap[b]? = some (.cells #[.int .i64 most, .slice oa n cap] 81 (0, 0)) := alloc_old HST.out.set.1
      have hne := HST.out.set.2.2
      have HREP := Lib.hid (hrep.mono (R' := fun e w5 => ∃ oa5 n5 cap5 og5, e = .returned (.slice oa5 n5 cap5) ∧ Sl w5 (.slice oa5 n5 cap5) og5 (xs.take i0 ++ f :: xs.drop k) ∧
          (og5 = og ∨ ∃ g, og5 = some g ∧ wc.heap.size + 1 ≤ g) ∧ Upd (fun j => og = some j) (wc.alloc (.cells #[.int .u64 f.1, .int .u64 f.2] 37)).drew w5 ∧ w5.cell? ⟨b, 1, none⟩ = some (.slice oa n cap) ∧ w5.frozen? ⟨b, 1, none⟩ = false ∧
          w5.heap[b]? = some (.cells #[.int .i64 most, .slice oa n cap] 81 (0, 0)))
        (by
          rintro e w5 ⟨v5, og5, rfl, hsl, ho, hup⟩
          obtain ⟨oa5, cap5, rfl, _, _⟩ := hsl.shape
          have hb5 := hup.keeps hbw hne
          have cb5 := cell_at hb5 1
          exact ⟨_, _, _, og5, rfl, hsl, by simpa using ho, hup, by simpa using cb5, free_at hb5 1, hb5⟩))
      clear hrep hbw
      have cba := fun o => Lib.cell?_alloc_some o cb
      go_wp2_with fail
      go_region_with (go_at_call 36; refine HREP.out.mono ?_; rintro e w5 ⟨oa5, n5, cap5, og5, rfl, hsl, hog5, hup, cb5, fb5, hb5⟩)
      all_goals (have HF := Lib.hid (add_fin HST.out hbl HGL.out hsl hog5 hup hb5))
      all_goals (have fb6 := cell_at (set_store hb5 (.slice oa5 n5 cap5)) 1)
      all_goals clear hsl hog5 hup cb5 fb5 hb5 cba cb cr0 cr1 HREP HST
      all_goals go_wp2_with fail
      all_goals (refine (trim_any _ _ _ _ _ HF.out.1 hm hm2).mono ?_; rintro e w7 ⟨rfl, ht⟩)
      all_goals (have HT := Lib.hid ht)
      all_goals (have cl7 := Lib.hid (ht.cell HF.out.2.2.1 (by omega) (by rintro rfl; rcases HF.out.2.2.2.2 with hx | ⟨g, hx, hg⟩; (have := HGL.out _ hx.symm; omega); (cases hx; omega))))
      all_goals (have ch7 := Lib.hid (ht.cell HF.out.2.2.2.1 (by omega) (by rintro rfl; rcases HF.out.2.2.2.2 with hx | ⟨g, hx, hg⟩; (have := HGL.out _ hx.symm; omega); (cases hx; omega))))
      all_goals obtain ⟨og7, ⟨v7, hs7⟩, _, _⟩ := ht
      all_goals (have cb7 := cell_at hs7.1 1)
      all_goals simp at cb7
      all_goals (have HS7 := Lib.hid hs7.2.1)
      all_goals clear hs7 fb6
      all_goals go_wp2_with fail
      all_goals (refine (contains_meet lo hi w.heap.size (w.heap.size + 1) v7 og7 _ w7 HS7.out cl7.out ch7.out).mono ?_; rintro e w8 ⟨rfl, hb8⟩)
      all_goals (have HB8 := Lib.hid hb8)
      all_goals (have hadd : addL most xs lo hi = trimL most (xs.take i0 ++ f :: xs.drop k) := by unfold addL addRaw; rw [HIE.out, HKE.out, HFE.out])
      all_goals (have HADD := Lib.hid hadd)
      all_goals clear hadd hb8 cb7
      all_goals go_wp2
      all_goals go_ret
      all_goals rw [HADD.out]
      all_goals exact ⟨rfl, (HT.out.next HF.out.2.1 (HF.out.2.2.2.2.imp id (fun ⟨g, h1, h2⟩ => ⟨g, h1, by omega⟩))).later HB8.out⟩

theorem add_any (b : Nat) (most : Int) (og : Option Nat) (xs : List Rg) (lo hi : Nat) (w : World) (h : SetAt w b most og xs) (hm : 1 ≤ most) (hm2 : most ≤ 9223372036854775807) (hlen : (xs.length + 1) * 16 ≤ 140737488355328) :
    Calls Try.prog 22 #[.pointer (some ⟨b, 0, none⟩), .int .u64 lo, .int .u64 hi] w fun e w' =>
      e = .returned (.bool (if lo < hi ∧ hi ≤ 4611686018427387904 then (addL most xs lo hi).any (meetP lo hi) else false)) ∧ Turned w b most og (if lo < hi ∧ hi ≤ 4611686018427387904 then addL most xs lo hi else xs) w' := by
  by_cases hc : lo < hi ∧ hi ≤ 4611686018427387904
  · simp only [hc, and_self, if_true]
    exact add_yes b most og xs lo hi w h hm hm2 hlen hc.1 hc.2
  · simp only [hc, if_false]
    exact (add_no b lo hi w hc).mono fun e w' ⟨he, hb⟩ => ⟨he, Turned.ofBelow h hb⟩
end Go.Proofs.Ytacfbgnbjdckiaa
