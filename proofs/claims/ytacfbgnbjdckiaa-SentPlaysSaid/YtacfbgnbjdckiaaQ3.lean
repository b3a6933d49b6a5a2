/- DERIVED. The ledger of packets: plain; in memory. -/
import Derived.Deep.DeepCutAuto
import Derived.Laws.ResultCell
import Derived.Laws.Tables
import Derived.Laws.Rows
import Derived.Test.YtacfbgnbjdckiaaQ1
import Derived.Test.YtacfbgnbjdckiaaQ2
namespace Go.Proofs.Ytacfbgnbjdckiaa
open Go.RowKit

structure Pk where
  n : Nat
  t : Int
  z : Int
  a : Bool
  fa : Option Addr
  fl : Nat
  fc : Nat
/-- A packet's cells; its frames' slice as it is. -/
def encQ (p : Pk) : List Value := [.int .u64 p.n, .int .i64 p.t, .int .i64 p.z, .bool p.a, .slice p.fa p.fl p.fc]
theorem encQ_len (p : Pk) : (encQ p).length = 5 := rfl
theorem encQ_one (p : Pk) : ∀ v ∈ encQ p, v.oneCell' = true := by
  intro v hv
  simp [encQ] at hv
  rcases hv with rfl | rfl | rfl | rfl | rfl <;> rfl
theorem infoP : (Try.prog.info? 32).map (fun i => (i.zero, i.size, i.bytes)) = some (some (.agg #[.int .u64 0, .int .i64 0, .int .i64 0, .bool false, .slice none 0 0]), 5, 56) := by kernel_rfl
theorem zeroP : (Value.agg #[.int .u64 0, .int .i64 0, .int .i64 0, .bool false, .slice none 0 0]).cells.toList = encQ ⟨0, 0, 0, false, none, 0, 0⟩ := rfl
/-- A Ping frame's cells. -/
def pingL : List Value := [.int .i64 1, .int .u64 0, .int .u64 0, .slice none 0 0, .bool false, .int .u64 0, .int .u64 0, .int .u64 0, .int .u64 0, .int .u64 0, .slice none 0 0, .int .u8 0, .int .u8 0, .int .u8 0, .int .u8 0, .int .u8 0, .int .u8 0, .int .u8 0, .int .u8 0]
def zeroL : List Value := [.int .i64 0, .int .u64 0, .int .u64 0, .slice none 0 0, .bool false, .int .u64 0, .int .u64 0, .int .u64 0, .int .u64 0, .int .u64 0, .slice none 0 0, .int .u8 0, .int .u8 0, .int .u8 0, .int .u8 0, .int .u8 0, .int .u8 0, .int .u8 0, .int .u8 0]
def encG (b : Bool) : List Value := [.int .i64 (if b then 1 else 0), .int .u64 0, .int .u64 0, .slice none 0 0, .bool false, .int .u64 0, .int .u64 0, .int .u64 0, .int .u64 0, .int .u64 0, .slice none 0 0, .int .u8 0, .int .u8 0, .int .u8 0, .int .u8 0, .int .u8 0, .int .u8 0, .int .u8 0, .int .u8 0]
theorem encG_true : encG true = pingL := rfl
theorem encG_len (p : Bool) : (encG p).length = 19 := rfl
theorem encG_one (p : Bool) : ∀ v ∈ encG p, v.oneCell' = true := by
  intro v hv
  simp [encG] at hv
  rcases hv with rfl | rfl | rfl | rfl | rfl | rfl | rfl <;> rfl
theorem infoG : (Try.prog.info? 77).map (fun i => (i.zero.map fun z => z.cells.toList, i.size)) = some (some zeroL, 19) := by kernel_rfl
/-- Frames that are Pings. -/
def FrP (w : World) (v : Value) (o : Option Nat) (k : Nat) : Prop := SlG encG 77 w v o (List.replicate k true)
def Pk.vf (p : Pk) : Value := .slice p.fa p.fl p.fc
def Pk.fo (p : Pk) : Option Nat := p.fa.map (·.block)
/-- A packet's frames, in memory. -/
def PkF (w : World) (p : Pk) : Prop := p.fl ≤ 1 ∧ FrP w p.vf p.fo p.fl

/-- The ledger's plain state. -/
structure LS where
  L : List Pk
  nx : Nat
  ak : Nat
  has : Bool
def LS.zero : LS := ⟨[], 0, 0, false⟩
structure LS.Ok (s : LS) : Prop where
  len : s.L.length ≤ 64
  nx : s.nx ≤ 4611686018427387904
  ak : s.ak ≤ 4611686018427387904
  num : ∀ p ∈ s.L, p.n < s.nx
  z : ∀ p ∈ s.L, 0 ≤ p.z ∧ p.z ≤ 512
  t : ∀ p ∈ s.L, -9223372036854775808 ≤ p.t ∧ p.t ≤ 9223372036854775807
  ask : ∀ p ∈ s.L, p.a = true
  srt : s.L.Pairwise fun a b => a.n < b.n
theorem LS.zero_ok : LS.zero.Ok := ⟨by simp [LS.zero], by simp [LS.zero], by simp [LS.zero], by simp [LS.zero], by simp [LS.zero], by simp [LS.zero], by simp [LS.zero], by simp [LS.zero]⟩
/-- Whose ledger: the program's (its packets' frames are its own, and Pings), the document's. -/
def kP : TypeId × Bool := (61, true)
def kD : TypeId × Bool := (53, false)
structure LedAt (K : TypeId × Bool) (w : World) (b : Nat) (s : LS) (v : Value) (og : Option Nat) : Prop where
  blk : w.heap[b]? = some (.cells #[v, .int .u64 s.nx, .int .u64 s.ak, .bool s.has] K.1 (0, 0))
  row : SlG encQ 32 w v og s.L
  fr : K.2 = true → ∀ p ∈ s.L, PkF w p
  kk : K = kP ∨ K = kD
  ok : s.Ok
def LFp (K : TypeId × Bool) (b : Nat) (og : Option Nat) (L : List Pk) : Nat → Prop := fun j => j = b ∨ og = some j ∨ ∃ p ∈ L, K.2 = true ∧ p.fo = some j
def LAt (K : TypeId × Bool) (w : World) (b : Nat) (s : LS) (fp : Nat → Prop) : Prop := ∃ v og, LedAt K w b s v og ∧ fp = LFp K b og s.L
theorem slg_apart {α : Type} {enc : α → List Value} {E T : TypeId} {w : World} {v : Value} {og : Option Nat} {xs : List α} (h : SlG enc E w v og xs) {b : Nat} {cs : Array Value} {z : Nat × Nat} (hb : w.heap[b]? = some (.cells cs T z)) (hT : E ≠ T) : og ≠ some b := by
  rintro rfl
  rcases h with ⟨_, _, h1⟩ | ⟨g, zs, h1, _, hr, _⟩
  · cases h1
  · cases h1
    unfold Row at hr
    rw [hb] at hr
    simp at hr
    exact hT hr.2.1.symm
theorem PkF.ne {w : World} {p : Pk} (h : PkF w p) {b : Nat} {cs : Array Value} {T : TypeId} {z : Nat × Nat} (hb : w.heap[b]? = some (.cells cs T z)) (hT : 77 ≠ T) : p.fo ≠ some b := slg_apart h.2 hb hT
theorem PkF.row {w : World} {p : Pk} (h : PkF w p) {v : Value} {og : Option Nat} {L : List Pk} (hr : SlG encQ 32 w v og L) : ∀ g, p.fo = some g → og ≠ some g := fun g e q => row_types h.2 hr (by decide) e q
theorem LedAt.apart {K : TypeId × Bool} {w : World} {b : Nat} {s : LS} {v : Value} {og : Option Nat} (h : LedAt K w b s v og) : og ≠ some b := slg_apart h.row h.blk (by rcases h.kk with rfl | rfl <;> decide)
theorem FrP.keeps {F : Nat → Prop} {w w' : World} {v : Value} {o : Option Nat} {k : Nat} (h : FrP w v o k) (hu : Upd F w w') (hF : ∀ g, o = some g → ¬ F g) : FrP w' v o k := SlG.keeps h hu hF
theorem PkF.keeps {F : Nat → Prop} {w w' : World} {p : Pk} (h : PkF w p) (hu : Upd F w w') (hF : ∀ g, p.fo = some g → ¬ F g) : PkF w' p := ⟨h.1, h.2.keeps hu hF⟩
theorem PkF.lt {w : World} {p : Pk} (h : PkF w p) : ∀ g, p.fo = some g → g < w.heap.size := SlG.lt h.2
theorem PkF.below {w w' : World} {p : Pk} (h : PkF w p) (hb : Below w.heap.size w w') : PkF w' p := h.keeps (Upd.below hb) (fun g e => by have := h.lt g e; omega)
theorem LAt.keeps {K : TypeId × Bool} {F fp : Nat → Prop} {w w' : World} {b : Nat} {s : LS} (h : LAt K w b s fp) (hu : Upd F w w') (hF : ∀ k, fp k → ¬ F k) : LAt K w' b s fp := by
  obtain ⟨v, og, h, rfl⟩ := h
  exact ⟨v, og, ⟨hu.keeps h.blk (hF b (.inl rfl)), h.row.keeps hu (fun g hg => hF g (.inr (.inl hg))), fun hk p hp => (h.fr hk p hp).keeps hu (fun g e => hF g (.inr (.inr ⟨p, hp, hk, e⟩))), h.kk, h.ok⟩, rfl⟩
theorem LAt.lt {K : TypeId × Bool} {fp : Nat → Prop} {w : World} {b : Nat} {s : LS} (h : LAt K w b s fp) : fp b ∧ ∀ k, fp k → k < w.heap.size := by
  obtain ⟨v, og, h, rfl⟩ := h
  refine ⟨.inl rfl, ?_⟩
  rintro k (rfl | hk | ⟨p, hp, hk2, hk⟩)
  · exact heap_lt h.blk
  · exact h.row.lt k hk
  · exact (h.fr hk2 p hp).lt k hk
theorem LAt.below {K : TypeId × Bool} {fp : Nat → Prop} {w w' : World} {b : Nat} {s : LS} (h : LAt K w b s fp) (hb : Below w.heap.size w w') : LAt K w' b s fp :=
  h.keeps (Upd.below hb) (fun k hk => by have := h.lt.2 k hk; omega)
theorem LAt.drewN {K : TypeId × Bool} {fp : Nat → Prop} {w : World} {b : Nat} {s : LS} (h : LAt K w b s fp) (n : Nat) : LAt K (w.drewN n) b s fp := h.below (below_drewN (Below.refl _ _) n)
theorem LAt.ok {K : TypeId × Bool} {fp : Nat → Prop} {w : World} {b : Nat} {s : LS} (h : LAt K w b s fp) : s.Ok := by
  obtain ⟨v, og, h, rfl⟩ := h
  exact h.ok
theorem LAt.cells {K : TypeId × Bool} {fp : Nat → Prop} {w : World} {b : Nat} {s : LS} (h : LAt K w b s fp) : w.cell? ⟨b, 1, none⟩ = some (.int .u64 s.nx) ∧ w.cell? ⟨b, 2, none⟩ = some (.int .u64 s.ak) ∧ w.cell? ⟨b, 3, none⟩ = some (.bool s.has) := by
  obtain ⟨v, og, h, _⟩ := h
  exact ⟨(cell_at h.blk 1).trans rfl, (cell_at h.blk 2).trans rfl, (cell_at h.blk 3).trans rfl⟩
/-- All of new blocks, from a beginning on. -/
def LMine (K : TypeId × Bool) (W w : World) (b : Nat) (s : LS) : Prop := ∃ fp, LAt K w b s fp ∧ (∀ k, fp k → W.heap.size ≤ k) ∧ Below W.heap.size W w
theorem LMine.later {K : TypeId × Bool} {W w w' : World} {b : Nat} {s : LS} (h : LMine K W w b s) (hb : Below w.heap.size w w') : LMine K W w' b s := by
  obtain ⟨fp, h1, h2, h3⟩ := h
  exact ⟨fp, h1.below hb, h2, below_call h3 h3.size hb⟩
theorem LMine.below {K : TypeId × Bool} {W w : World} {b : Nat} {s : LS} (h : LMine K W w b s) : Below W.heap.size W w := by
  obtain ⟨_, _, _, h3⟩ := h
  exact h3
theorem LMine.drewN {K : TypeId × Bool} {W w : World} {b : Nat} {s : LS} (h : LMine K W w b s) (n : Nat) : LMine K W (w.drewN n) b s := h.later (below_drewN (Below.refl _ _) n)
theorem LMine.alloc {K : TypeId × Bool} {W w : World} {b : Nat} {s : LS} (h : LMine K W w b s) (o : Obj) : LMine K W (w.alloc o) b s := h.later ((Below.refl _ _).alloc (Nat.le_refl _) _)
/-- What a call turns: the ledger is as s', its blocks are those of the call's beginning, or new. -/
def LM (K : TypeId × Bool) (w0 w : World) (fp : Nat → Prop) (b : Nat) (s : LS) : Prop := ∃ fp', LAt K w b s fp' ∧ Upd fp w0 w ∧ ∀ g, fp' g → fp g ∨ w0.heap.size ≤ g
theorem lm_mine {K : TypeId × Bool} {W w w' : World} {b : Nat} {s' : LS} {fp : Nat → Prop} (hn : ∀ k, fp k → W.heap.size ≤ k) (hb : Below W.heap.size W w) (m : LM K w w' fp b s') : LMine K W w' b s' := by
  obtain ⟨fp', h1, h2, h3⟩ := m
  have hs := hb.size
  exact ⟨fp', h1, fun k hk => by
    rcases h3 k hk with q | q
    · exact hn k q
    · omega, Upd.belowOf hb h2 (fun k hk q => by have := hn k q; omega)⟩
theorem LM.later {K : TypeId × Bool} {w0 w w' : World} {fp : Nat → Prop} {b : Nat} {s : LS} (h : LM K w0 w fp b s) (hb : Below w.heap.size w w') : LM K w0 w' fp b s := by
  obtain ⟨fp', h1, h2, h3⟩ := h
  exact ⟨fp', h1.below hb, h2.trans (Upd.below hb) (fun _ _ q => q) (fun j hj q => by have := h2.size; omega), h3⟩
theorem LM.refl {K : TypeId × Bool} {w : World} {fp : Nat → Prop} {b : Nat} {s : LS} (h : LAt K w b s fp) : LM K w w fp b s := ⟨fp, h, Upd.refl _ _, fun _ q => .inl q⟩
end Go.Proofs.Ytacfbgnbjdckiaa

/- DERIVED. Walk of sent's part: what a closure says of each packet. -/
namespace Go.Proofs.Ytacfbgnbjdckiaa
open Go.RowKit

/-- In the middle: what was taken, and what is left, of the first packets. -/
structure PMid (w wr : World) (L : List Pk) (f : Pk → Bool) (k : Nat) (v5 v6 : Value) (o5 o6 : Option Nat) : Prop where
  out : SlG encQ 32 wr v5 o5 ((L.take k).filter f)
  left : SlG encQ 32 wr v6 o6 ((L.take k).filter fun p => !f p)
  n5 : ∀ g, o5 = some g → w.heap.size ≤ g
  n6 : ∀ g, o6 = some g → w.heap.size ≤ g
  ne : ∀ g, o5 = some g → o6 ≠ some g
  below : Below w.heap.size w wr
theorem PMid.later {w wr W : World} {L : List Pk} {f : Pk → Bool} {k : Nat} {v5 v6 : Value} {o5 o6 : Option Nat} (h : PMid w wr L f k v5 v6 o5 o6) (hb : Below wr.heap.size wr W) : PMid w W L f k v5 v6 o5 o6 :=
  ⟨h.out.below hb, h.left.below hb, h.n5, h.n6, h.ne, below_call h.below h.below.size hb⟩
theorem take_filter {L : List Pk} {k : Nat} {p : Pk} (h : L[k]? = some p) (f : Pk → Bool) : (L.take (k + 1)).filter f = (L.take k).filter f ++ (if f p then [p] else []) := by
  rw [List.take_add_one, h, List.filter_append]
  simp [List.filter]
  cases f p <;> rfl
theorem PMid.push5 {w wr W : World} {L : List Pk} {f : Pk → Bool} {k : Nat} {v5 v6 v' : Value} {o5 o6 o' : Option Nat} {p : Pk} (h : PMid w wr L f k v5 v6 o5 o6) (hp : L[k]? = some p) (hf : f p = true) (hs : SlG encQ 32 W v' o' ((L.take k).filter f ++ [p]))
    (ho : o' = o5 ∨ ∃ g, o' = some g ∧ wr.heap.size ≤ g) (hu : Upd (fun j => o5 = some j) wr W) : PMid w W L f (k + 1) v' v6 o' o6 := by
  refine ⟨by rw [take_filter hp, hf]; exact hs, ?_, og_new h.n5 h.below.size ho, h.n6, ?_, Upd.belowOf h.below hu (fun j hj e => by have := h.n5 j e; omega)⟩
  · rw [take_filter hp]
    simp only [hf, Bool.not_true, Bool.false_eq_true, if_false, List.append_nil]
    exact h.left.keeps hu (fun g e q => h.ne g q e)
  · intro g hg q
    rcases ho with rfl | ⟨g', rfl, h2⟩
    · exact h.ne g hg q
    · cases hg
      have := h.left.lt g q
      omega
theorem PMid.push6 {w wr W : World} {L : List Pk} {f : Pk → Bool} {k : Nat} {v5 v6 v' : Value} {o5 o6 o' : Option Nat} {p : Pk} (h : PMid w wr L f k v5 v6 o5 o6) (hp : L[k]? = some p) (hf : f p = false) (hs : SlG encQ 32 W v' o' (((L.take k).filter fun p => !f p) ++ [p]))
    (ho : o' = o6 ∨ ∃ g, o' = some g ∧ wr.heap.size ≤ g) (hu : Upd (fun j => o6 = some j) wr W) : PMid w W L f (k + 1) v5 v' o5 o' := by
  refine ⟨?_, by rw [take_filter hp]; simp only [hf, Bool.not_false, if_true]; exact hs, h.n5, og_new h.n6 h.below.size ho, ?_, Upd.belowOf h.below hu (fun j hj e => by have := h.n6 j e; omega)⟩
  · rw [take_filter hp]
    simp only [hf, Bool.false_eq_true, if_false, List.append_nil]
    exact h.out.keeps hu (fun g e q => h.ne g e q)
  · intro g hg q
    rcases ho with rfl | ⟨g', rfl, h2⟩
    · exact h.ne g hg q
    · cases q
      have := h.out.lt g hg
      omega
theorem Vw.pkt {w : World} {B : Nat} {oa : Option Addr} {n cap : Nat} {L : List Pk} (h : Vw encQ w B (.slice oa n cap) L) {i : Nat} {p : Pk} (ha : L[i]? = some p) :
    ∃ b off, oa = some ⟨b, off, none⟩ ∧ b < B ∧ w.cell? ⟨b, off + i * 5, none⟩ = some (.int .u64 p.n) ∧ w.cell? ⟨b, off + i * 5 + 1, none⟩ = some (.int .i64 p.t) ∧ w.cell? ⟨b, off + i * 5 + 2, none⟩ = some (.int .i64 p.z) ∧
      w.cell? ⟨b, off + i * 5 + 3, none⟩ = some (.bool p.a) ∧ w.cell? ⟨b, off + i * 5 + 4, none⟩ = some (.slice p.fa p.fl p.fc) := by
  obtain ⟨b, off, h1, h2, h3⟩ := h.el encQ_len ha
  refine ⟨b, off, h1, h2, ?_, h3 1 (by omega), h3 2 (by omega), h3 3 (by omega), h3 4 (by omega)⟩
  have := h3 0 (by omega)
  simpa [encQ] using this

set_option maxRecDepth 100000 in
set_option maxHeartbeats 2000000 in
theorem part_any (b : Nat) (s : LS) (fp : Nat → Prop) (f : Pk → Bool) (F : Nat) (cp : Value) (w : World) (h : LAt kP w b s fp) (hcf : ∀ (args : Array Value) (W : World), (callFunc F args).run Try.prog W = .ok (.enter F args) W)
    (hf : ∀ p ∈ s.L, ∀ W, Below w.heap.size w W → Calls Try.prog F #[.agg (encQ p).toArray, cp] W fun e W' => e = .returned (.bool (f p)) ∧ Below W.heap.size W W') :
    Calls Try.prog 23 #[.pointer (some ⟨b, 0, none⟩), .func (.func F) #[] #[cp]] w
      fun e w' => ∃ v o, e = .returned v ∧ SlG encQ 32 w' v o (s.L.filter f) ∧ (∀ g, o = some g → w.heap.size ≤ g) ∧ (∃ fp', LAt kP w' b { s with L := s.L.filter fun p => !f p } fp' ∧ ∀ g, fp' g → fp g ∨ w.heap.size ≤ g) ∧ Upd (fun j => j = b) w w' := by
  obtain ⟨i0, hi0, hz0, hz1, hz2'⟩ := info_parts infoP
  obtain ⟨v, og, hL, hfp⟩ := h
  obtain ⟨oa, cap, rfl, hc1, hc2⟩ := hL.row.shape
  have c0 : w.cell? ⟨b, 0, none⟩ = some (.slice oa s.L.length cap) := (cell_at hL.blk 0).trans rfl
  have HL := Lib.hid hL
  have HFPE := Lib.hid hfp
  have HF := Lib.hid hf
  have hl64 := hL.ok.len
  clear hL hf hfp
  have HV := Lib.hid HL.out.row.vw
  generalize hn : s.L.length = len at *
  have HN := Lib.hid hn
  clear hn
  go_enter Try.func23, Try.ntmps23
  go_wp2_with fail
  have HM0 := Lib.hid (show PMid w w s.L f 0 (.slice none 0 0) (.slice none 0 0) none none from ⟨SlG.nil _, SlG.nil _, by simp, by simp, by simp, Below.refl _ _⟩)
  go_loopw [5, 6, 14] (fun a c i wr => ∃ k : Nat, i = .int .i64 k ∧ k ≤ len ∧ ∃ o5 o6, PMid w wr s.L f k a c o5 o6) (fun _ _ i _ => len - (intOf i).toNat)
  case atStart => exact ⟨0, rfl, by omega, _, _, HM0.out⟩
  case round =>
    obtain ⟨k, rfl, hk, o5, o6, hm⟩ := hrel
    have HM := Lib.hid hm
    clear hm HM0
    by_cases hlt : k < len
    · obtain ⟨p, hp⟩ : ∃ p, s.L[k]? = some p := ⟨_, List.getElem?_eq_getElem (by rw [HN.out]; exact hlt)⟩
      obtain ⟨c, ofc, rfl, hc, q0, q1, q2, q3, q4⟩ := HV.out.pkt hp
      have HP := Lib.hid hp
      have HFP := Lib.hid (HF.out p (List.mem_of_getElem? hp))
      have q0 := cell_keep HM.out.below hc q0
      have q1 := cell_keep HM.out.below hc q1
      have q2 := cell_keep HM.out.below hc q2
      have q3 := cell_keep HM.out.below hc q3
      have q4 := cell_keep HM.out.below hc q4
      clear hp
      go_wp2_with fail
      have ha0 : Below wr.heap.size wr (wr.alloc (.cells #[.int .u64 p.n, .int .i64 p.t, .int .i64 p.z, .bool p.a, .slice p.fa p.fl p.fc] 32)) := (Below.refl _ _).alloc (Nat.le_refl _) _
      have HZ := Lib.hid (alloc_at wr (.cells #[.int .u64 p.n, .int .i64 p.t, .int .i64 p.z, .bool p.a, .slice p.fa p.fl p.fc] 32))
      have HM1 := Lib.hid (HM.out.later ha0)
      refine (HFP.out _ (by exact HM1.out.below)).mono ?_
      rintro e w3 ⟨rfl, hb3⟩
      have HM3 := Lib.hid (HM1.out.later hb3)
      have hz3 := below_keeps hb3 HZ.out (heap_lt HZ.out)
      obtain ⟨z, hz⟩ : ∃ z, wr.heap.size = z := ⟨_, rfl⟩
      rw [hz] at hz3
      have z0 := (cell_at hz3 0).trans (by rfl : _ = some (Value.int .u64 p.n))
      have z1 := (cell_at hz3 1).trans (by rfl : _ = some (Value.int .i64 p.t))
      have z2 := (cell_at hz3 2).trans (by rfl : _ = some (Value.int .i64 p.z))
      have z3 := (cell_at hz3 3).trans (by rfl : _ = some (Value.bool p.a))
      have z4 := (cell_at hz3 4).trans (by rfl : _ = some (Value.slice p.fa p.fl p.fc))
      have hk64 : k ≤ 64 := by omega
      have HL5 := Lib.hid (show ((s.L.take k).filter f).length ≤ k from Nat.le_trans (List.length_filter_le _ _) (List.length_take_le _ _))
      have HL6 := Lib.hid (show ((s.L.take k).filter fun p => !f p).length ≤ k from Nat.le_trans (List.length_filter_le _ _) (List.length_take_le _ _))
      clear ha0 hb3 HM HM1 q0 q1 q2 q3 q4 hz3
      cases hfp : f p
      · go_wp2_with (refine wpList_pushV encQ_len encQ_one Try.underlying38 hi0 hz1 hz0 zeroP rfl (.tmp 25) (.tmp 27) rfl (by exact HM3.out.left.alloc _) (by exact (SlG.vw (og := some w3.heap.size) (xs := [p]) (.inr ⟨w3.heap.size, [], rfl, rfl, alloc_at _ _, by simp⟩))) rfl rfl (by rw [hz2']; have := HL6.out; simp; omega) (by have := HL6.out; simp; omega) ?_)
        intro W4 v4 o4 hs4 ho4 hu4
        have H4 := Lib.hid ((HM3.out.later ((Below.refl _ _).alloc (Nat.le_refl _) _)).push6 HP.out hfp hs4 (by simpa using ho4) hu4)
        clear hs4 ho4 hu4 HM3 z0 z1 z2 z3 z4
        go_wp2_with fail
        go_roundw
        case rel => exact ⟨k + 1, by go_num, by omega, _, _, H4.out⟩
        case measure => simp [intOf]; omega
      · go_wp2_with (refine wpList_pushV encQ_len encQ_one Try.underlying38 hi0 hz1 hz0 zeroP rfl (.tmp 21) (.tmp 23) rfl (by exact HM3.out.out.alloc _) (by exact (SlG.vw (og := some w3.heap.size) (xs := [p]) (.inr ⟨w3.heap.size, [], rfl, rfl, alloc_at _ _, by simp⟩))) rfl rfl (by rw [hz2']; have := HL5.out; simp; omega) (by have := HL5.out; simp; omega) ?_)
        intro W4 v4 o4 hs4 ho4 hu4
        have H4 := Lib.hid ((HM3.out.later ((Below.refl _ _).alloc (Nat.le_refl _) _)).push5 HP.out hfp hs4 (by simpa using ho4) hu4)
        clear hs4 ho4 hu4 HM3 z0 z1 z2 z3 z4
        go_wp2_with fail
        go_roundw
        case rel => exact ⟨k + 1, by go_num, by omega, _, _, H4.out⟩
        case measure => simp [intOf]; omega
    · obtain rfl : k = len := by omega
      have htk : s.L.take k = s.L := by rw [← HN.out, List.take_length]
      have h5 := HM.out.out
      have h6 := HM.out.left
      rw [htk] at h5 h6
      obtain ⟨oB, cB, e6, hcB1, hcB2⟩ := h6.shape
      obtain ⟨nl, hnl⟩ : ∃ nl, (s.L.filter fun p => !f p).length = nl := ⟨_, rfl⟩
      rw [hnl] at e6
      subst e6
      have hkb := below_keeps HM.out.below HL.out.blk (heap_lt HL.out.blk)
      have y0 := (cell_at hkb 0).trans (by rfl : _ = some (Value.slice oa k cap))
      have y1 := free_at hkb 0
      have hu : Upd (fun j => j = b) wr (wr.setCell ⟨b, 0, none⟩ (.slice oB nl cB)) := (Upd.refl (fun j => j = b) wr).setCell ⟨b, 0, none⟩ (.inl rfl) _
      have a5 := slg_apart h5 hkb (by decide)
      have a6 := slg_apart h6 hkb (by decide)
      have ho := HL.out.ok
      have HF5 := Lib.hid (h5.keeps hu (fun g e q => a5 (by rw [e, q])))
      have HKW := Lib.hid (show ∀ p ∈ s.L, PkF wr p from fun p hp => (HL.out.fr rfl p hp).below HM.out.below)
      have HFN := Lib.hid (show ∃ fp', LAt kP (wr.setCell ⟨b, 0, none⟩ (.slice oB nl cB)) b { s with L := s.L.filter fun p => !f p } fp' ∧ ∀ g, fp' g → fp g ∨ w.heap.size ≤ g from
        ⟨_, ⟨_, o6, ⟨set_at hkb 0 _, h6.keeps hu (fun g e q => a6 (by rw [e, q])), fun _ p hp => (HKW.out p (List.mem_filter.1 hp).1).keeps hu (fun g e q => (HKW.out p (List.mem_filter.1 hp).1).ne hkb (by decide) (by rw [e, q])), .inl rfl, ⟨Nat.le_trans (List.length_filter_le _ _) ho.len, ho.nx, ho.ak, fun p hp => ho.num p (List.mem_filter.1 hp).1, fun p hp => ho.z p (List.mem_filter.1 hp).1, fun p hp => ho.t p (List.mem_filter.1 hp).1, fun p hp => ho.ask p (List.mem_filter.1 hp).1, ho.srt.filter _⟩⟩, rfl⟩, fun g hg => by
          rw [HFPE.out]
          rcases hg with hg | hg | ⟨p, hp, hg0, hg⟩
          · exact .inl (.inl hg)
          · exact .inr (HM.out.n6 g hg)
          · exact .inl (.inr (.inr ⟨p, (List.mem_filter.1 hp).1, hg0, hg⟩))⟩)
      have HUU := Lib.hid (((Upd.below HM.out.below).mono (fun j hj x => by omega) : Upd (fun j => j = b) w wr).then hu)
      clear h5 h6 hkb hu a5 a6 ho htk hnl HKW
      go_wp2_with fail
      go_ret
      exact ⟨_, o5, rfl, HF5.out, HM.out.n5, HFN.out, HUU.out⟩
set_option maxRecDepth 100000 in
set_option maxHeartbeats 2000000 in
theorem part_all (b : Nat) (s : LS) (fp : Nat → Prop) (f : Pk → Bool) (F : Nat) (w : World) (h : LAt kP w b s fp) (hcf : ∀ (args : Array Value) (W : World), (callFunc F args).run Try.prog W = .ok (.enter F args) W)
    (hf : ∀ p ∈ s.L, ∀ W, Below w.heap.size w W → Calls Try.prog F #[.agg (encQ p).toArray] W fun e W' => e = .returned (.bool (f p)) ∧ Below W.heap.size W W') :
    Calls Try.prog 23 #[.pointer (some ⟨b, 0, none⟩), .func (.func F) #[] #[]] w
      fun e w' => ∃ v o, e = .returned v ∧ SlG encQ 32 w' v o (s.L.filter f) ∧ (∀ g, o = some g → w.heap.size ≤ g) ∧ (∃ fp', LAt kP w' b { s with L := s.L.filter fun p => !f p } fp' ∧ ∀ g, fp' g → fp g ∨ w.heap.size ≤ g) ∧ Upd (fun j => j = b) w w' := by
  obtain ⟨i0, hi0, hz0, hz1, hz2'⟩ := info_parts infoP
  obtain ⟨v, og, hL, hfp⟩ := h
  obtain ⟨oa, cap, rfl, hc1, hc2⟩ := hL.row.shape
  have c0 : w.cell? ⟨b, 0, none⟩ = some (.slice oa s.L.length cap) := (cell_at hL.blk 0).trans rfl
  have HL := Lib.hid hL
  have HFPE := Lib.hid hfp
  have HF := Lib.hid hf
  have hl64 := hL.ok.len
  clear hL hf hfp
  have HV := Lib.hid HL.out.row.vw
  generalize hn : s.L.length = len at *
  have HN := Lib.hid hn
  clear hn
  go_enter Try.func23, Try.ntmps23
  go_wp2_with fail
  have HM0 := Lib.hid (show PMid w w s.L f 0 (.slice none 0 0) (.slice none 0 0) none none from ⟨SlG.nil _, SlG.nil _, by simp, by simp, by simp, Below.refl _ _⟩)
  go_loopw [5, 6, 14] (fun a c i wr => ∃ k : Nat, i = .int .i64 k ∧ k ≤ len ∧ ∃ o5 o6, PMid w wr s.L f k a c o5 o6) (fun _ _ i _ => len - (intOf i).toNat)
  case atStart => exact ⟨0, rfl, by omega, _, _, HM0.out⟩
  case round =>
    obtain ⟨k, rfl, hk, o5, o6, hm⟩ := hrel
    have HM := Lib.hid hm
    clear hm HM0
    by_cases hlt : k < len
    · obtain ⟨p, hp⟩ : ∃ p, s.L[k]? = some p := ⟨_, List.getElem?_eq_getElem (by rw [HN.out]; exact hlt)⟩
      obtain ⟨c, ofc, rfl, hc, q0, q1, q2, q3, q4⟩ := HV.out.pkt hp
      have HP := Lib.hid hp
      have HFP := Lib.hid (HF.out p (List.mem_of_getElem? hp))
      have q0 := cell_keep HM.out.below hc q0
      have q1 := cell_keep HM.out.below hc q1
      have q2 := cell_keep HM.out.below hc q2
      have q3 := cell_keep HM.out.below hc q3
      have q4 := cell_keep HM.out.below hc q4
      clear hp
      go_wp2_with fail
      have ha0 : Below wr.heap.size wr (wr.alloc (.cells #[.int .u64 p.n, .int .i64 p.t, .int .i64 p.z, .bool p.a, .slice p.fa p.fl p.fc] 32)) := (Below.refl _ _).alloc (Nat.le_refl _) _
      have HZ := Lib.hid (alloc_at wr (.cells #[.int .u64 p.n, .int .i64 p.t, .int .i64 p.z, .bool p.a, .slice p.fa p.fl p.fc] 32))
      have HM1 := Lib.hid (HM.out.later ha0)
      refine (HFP.out _ (by exact HM1.out.below)).mono ?_
      rintro e w3 ⟨rfl, hb3⟩
      have HM3 := Lib.hid (HM1.out.later hb3)
      have hz3 := below_keeps hb3 HZ.out (heap_lt HZ.out)
      obtain ⟨z, hz⟩ : ∃ z, wr.heap.size = z := ⟨_, rfl⟩
      rw [hz] at hz3
      have z0 := (cell_at hz3 0).trans (by rfl : _ = some (Value.int .u64 p.n))
      have z1 := (cell_at hz3 1).trans (by rfl : _ = some (Value.int .i64 p.t))
      have z2 := (cell_at hz3 2).trans (by rfl : _ = some (Value.int .i64 p.z))
      have z3 := (cell_at hz3 3).trans (by rfl : _ = some (Value.bool p.a))
      have z4 := (cell_at hz3 4).trans (by rfl : _ = some (Value.slice p.fa p.fl p.fc))
      have hk64 : k ≤ 64 := by omega
      have HL5 := Lib.hid (show ((s.L.take k).filter f).length ≤ k from Nat.le_trans (List.length_filter_le _ _) (List.length_take_le _ _))
      have HL6 := Lib.hid (show ((s.L.take k).filter fun p => !f p).length ≤ k from Nat.le_trans (List.length_filter_le _ _) (List.length_take_le _ _))
      clear ha0 hb3 HM HM1 q0 q1 q2 q3 q4 hz3
      cases hfp : f p
      · go_wp2_with (refine wpList_pushV encQ_len encQ_one Try.underlying38 hi0 hz1 hz0 zeroP rfl (.tmp 25) (.tmp 27) rfl (by exact HM3.out.left.alloc _) (by exact (SlG.vw (og := some w3.heap.size) (xs := [p]) (.inr ⟨w3.heap.size, [], rfl, rfl, alloc_at _ _, by simp⟩))) rfl rfl (by rw [hz2']; have := HL6.out; simp; omega) (by have := HL6.out; simp; omega) ?_)
        intro W4 v4 o4 hs4 ho4 hu4
        have H4 := Lib.hid ((HM3.out.later ((Below.refl _ _).alloc (Nat.le_refl _) _)).push6 HP.out hfp hs4 (by simpa using ho4) hu4)
        clear hs4 ho4 hu4 HM3 z0 z1 z2 z3 z4
        go_wp2_with fail
        go_roundw
        case rel => exact ⟨k + 1, by go_num, by omega, _, _, H4.out⟩
        case measure => simp [intOf]; omega
      · go_wp2_with (refine wpList_pushV encQ_len encQ_one Try.underlying38 hi0 hz1 hz0 zeroP rfl (.tmp 21) (.tmp 23) rfl (by exact HM3.out.out.alloc _) (by exact (SlG.vw (og := some w3.heap.size) (xs := [p]) (.inr ⟨w3.heap.size, [], rfl, rfl, alloc_at _ _, by simp⟩))) rfl rfl (by rw [hz2']; have := HL5.out; simp; omega) (by have := HL5.out; simp; omega) ?_)
        intro W4 v4 o4 hs4 ho4 hu4
        have H4 := Lib.hid ((HM3.out.later ((Below.refl _ _).alloc (Nat.le_refl _) _)).push5 HP.out hfp hs4 (by simpa using ho4) hu4)
        clear hs4 ho4 hu4 HM3 z0 z1 z2 z3 z4
        go_wp2_with fail
        go_roundw
        case rel => exact ⟨k + 1, by go_num, by omega, _, _, H4.out⟩
        case measure => simp [intOf]; omega
    · obtain rfl : k = len := by omega
      have htk : s.L.take k = s.L := by rw [← HN.out, List.take_length]
      have h5 := HM.out.out
      have h6 := HM.out.left
      rw [htk] at h5 h6
      obtain ⟨oB, cB, e6, hcB1, hcB2⟩ := h6.shape
      obtain ⟨nl, hnl⟩ : ∃ nl, (s.L.filter fun p => !f p).length = nl := ⟨_, rfl⟩
      rw [hnl] at e6
      subst e6
      have hkb := below_keeps HM.out.below HL.out.blk (heap_lt HL.out.blk)
      have y0 := (cell_at hkb 0).trans (by rfl : _ = some (Value.slice oa k cap))
      have y1 := free_at hkb 0
      have hu : Upd (fun j => j = b) wr (wr.setCell ⟨b, 0, none⟩ (.slice oB nl cB)) := (Upd.refl (fun j => j = b) wr).setCell ⟨b, 0, none⟩ (.inl rfl) _
      have a5 := slg_apart h5 hkb (by decide)
      have a6 := slg_apart h6 hkb (by decide)
      have ho := HL.out.ok
      have HF5 := Lib.hid (h5.keeps hu (fun g e q => a5 (by rw [e, q])))
      have HKW := Lib.hid (show ∀ p ∈ s.L, PkF wr p from fun p hp => (HL.out.fr rfl p hp).below HM.out.below)
      have HFN := Lib.hid (show ∃ fp', LAt kP (wr.setCell ⟨b, 0, none⟩ (.slice oB nl cB)) b { s with L := s.L.filter fun p => !f p } fp' ∧ ∀ g, fp' g → fp g ∨ w.heap.size ≤ g from
        ⟨_, ⟨_, o6, ⟨set_at hkb 0 _, h6.keeps hu (fun g e q => a6 (by rw [e, q])), fun _ p hp => (HKW.out p (List.mem_filter.1 hp).1).keeps hu (fun g e q => (HKW.out p (List.mem_filter.1 hp).1).ne hkb (by decide) (by rw [e, q])), .inl rfl, ⟨Nat.le_trans (List.length_filter_le _ _) ho.len, ho.nx, ho.ak, fun p hp => ho.num p (List.mem_filter.1 hp).1, fun p hp => ho.z p (List.mem_filter.1 hp).1, fun p hp => ho.t p (List.mem_filter.1 hp).1, fun p hp => ho.ask p (List.mem_filter.1 hp).1, ho.srt.filter _⟩⟩, rfl⟩, fun g hg => by
          rw [HFPE.out]
          rcases hg with hg | hg | ⟨p, hp, hg0, hg⟩
          · exact .inl (.inl hg)
          · exact .inr (HM.out.n6 g hg)
          · exact .inl (.inr (.inr ⟨p, (List.mem_filter.1 hp).1, hg0, hg⟩))⟩)
      have HUU := Lib.hid (((Upd.below HM.out.below).mono (fun j hj x => by omega) : Upd (fun j => j = b) w wr).then hu)
      clear h5 h6 hkb hu a5 a6 ho htk hnl HKW
      go_wp2_with fail
      go_ret
      exact ⟨_, o5, rfl, HF5.out, HM.out.n5, HFN.out, HUU.out⟩
end Go.Proofs.Ytacfbgnbjdckiaa

/- DERIVED. Walk of frame's Copy on a Ping; of sent's copied on packets whose frames are Pings. -/
namespace Go.Proofs.Ytacfbgnbjdckiaa
open Go.RowKit

theorem sizeG : (Try.prog.info? 77).map (·.size) = some 19 := by kernel_rfl
theorem results_cell {fn : Func} {p : Tmp} {ty : TypeId} (h : fn.results = #[.cell p ty]) (tmps : Array Value) (P : Program) (w : World) :
    (results fn tmps).run P w = ((asAddr (tmps.getD p undef)).run P w).andThen fun a w1 => (loadVar ty a).run P w1 := by
  simp only [results, h]
  simp [Sem.run_bind, Result.andThen]
theorem setRow_below {B : Nat} {w w' : World} (h : Below B w w') {g : Nat} {cs : Array Value} (hg : B ≤ g) : Below B w (w'.setRow g cs) :=
  h.trans ⟨rfl, rfl, rfl, by simp, fun k hk => setRow_other w' g k cs (by omega)⟩
set_option maxRecDepth 100000 in
set_option maxHeartbeats 2000000 in
theorem copy_ping (w : World) : Calls Try.prog 35 #[.agg #[.int .i64 1, .int .u64 0, .int .u64 0, .slice none 0 0, .bool false, .int .u64 0, .int .u64 0, .int .u64 0, .int .u64 0, .int .u64 0, .slice none 0 0, .int .u8 0, .int .u8 0, .int .u8 0, .int .u8 0, .int .u8 0, .int .u8 0, .int .u8 0, .int .u8 0]] w fun e w' => e = .returned (.agg #[.int .i64 1, .int .u64 0, .int .u64 0, .slice none 0 0, .bool false, .int .u64 0, .int .u64 0, .int .u64 0, .int .u64 0, .int .u64 0, .slice none 0 0, .int .u8 0, .int .u8 0, .int .u8 0, .int .u8 0, .int .u8 0, .int .u8 0, .int .u8 0, .int .u8 0]) ∧ Below w.heap.size w w' := by
  go_enter Try.func35, Try.ntmps35
  go_upto_region 0 with fail
  go_cut [1, 2] (fun v1 v2 wx => ∃ y z, v1 = .pointer (some ⟨y, 0, none⟩) ∧ v2 = .pointer (some ⟨z, 0, none⟩) ∧ y ≠ z ∧ w.heap.size ≤ y ∧ w.heap.size ≤ z ∧ Below w.heap.size w wx ∧
    wx.heap[y]? = some (.cells #[.int .i64 1, .int .u64 0, .int .u64 0, .slice none 0 0, .bool false, .int .u64 0, .int .u64 0, .int .u64 0, .int .u64 0, .int .u64 0, .slice none 0 0, .int .u8 0, .int .u8 0, .int .u8 0, .int .u8 0, .int .u8 0, .int .u8 0, .int .u8 0, .int .u8 0] 77 (0, 0)) ∧ wx.heap[z]? = some (.cells #[.int .i64 0, .int .u64 0, .int .u64 0, .slice none 0 0, .bool false, .int .u64 0, .int .u64 0, .int .u64 0, .int .u64 0, .int .u64 0, .slice none 0 0, .int .u8 0, .int .u8 0, .int .u8 0, .int .u8 0, .int .u8 0, .int .u8 0, .int .u8 0, .int .u8 0] 77 (0, 0)))
  case first =>
    go_wp2_with fail
    go_meet
    case rel =>
      refine ⟨_, _, rfl, rfl, ?_, Nat.le_refl _, ?_, ((Below.refl _ _).alloc (Nat.le_refl _) _).alloc (by simp) _, alloc_old (alloc_at _ _), ?_⟩
      · simp
      · simp
      · have := alloc_at (w.alloc (.cells #[.int .i64 1, .int .u64 0, .int .u64 0, .slice none 0 0, .bool false, .int .u64 0, .int .u64 0, .int .u64 0, .int .u64 0, .int .u64 0, .slice none 0 0, .int .u8 0, .int .u8 0, .int .u8 0, .int .u8 0, .int .u8 0, .int .u8 0, .int .u8 0, .int .u8 0] 77)) (.cells #[.int .i64 0, .int .u64 0, .int .u64 0, .slice none 0 0, .bool false, .int .u64 0, .int .u64 0, .int .u64 0, .int .u64 0, .int .u64 0, .slice none 0 0, .int .u8 0, .int .u8 0, .int .u8 0, .int .u8 0, .int .u8 0, .int .u8 0, .int .u8 0, .int .u8 0] 77)
        simpa using this
  case rest =>
    obtain ⟨y, z, rfl, rfl, hne, hy, hz, hb, hky, hkz⟩ := hcut
    generalize wc = w1 at *
    have y0 := (cell_at hky 0).trans (by rfl : _ = some (Value.int .i64 1))
    have HB := Lib.hid hb
    have HK := Lib.hid (And.intro hky hkz)
    clear hb hky hkz
    go_upto_region 1 with fail
    go_cut [3] (fun v wx => ∃ x, v = .pointer (some ⟨x, 0, none⟩) ∧ w1.heap.size ≤ x ∧ Below w1.heap.size w1 wx ∧ wx.heap[x]? = some (.cells #[.int .i64 1, .int .u64 0, .int .u64 0, .slice none 0 0, .bool false, .int .u64 0, .int .u64 0, .int .u64 0, .int .u64 0, .int .u64 0, .slice none 0 0, .int .u8 0, .int .u8 0, .int .u8 0, .int .u8 0, .int .u8 0, .int .u8 0, .int .u8 0, .int .u8 0] 77 (0, 0)))
    case first =>
      go_wp2_with (refine wpList_store_row rfl 77 (.tmp 3) (.tmp 6) rfl _ _ rfl rfl 77 #[.int .i64 0, .int .u64 0, .int .u64 0, .slice none 0 0, .bool false, .int .u64 0, .int .u64 0, .int .u64 0, .int .u64 0, .int .u64 0, .slice none 0 0, .int .u8 0, .int .u8 0, .int .u8 0, .int .u8 0, .int .u8 0, .int .u8 0, .int .u8 0, .int .u8 0] (by exact alloc_at _ _) (by rw [sizeG]; rfl) rfl (by simp [Value.oneCell']) ?_)
      go_meet
      case rel => exact ⟨_, rfl, Nat.le_refl _, setRow_below ((Below.refl _ _).alloc (Nat.le_refl _) _) (Nat.le_refl _), setRow_heap _ _ #[.int .i64 0, .int .u64 0, .int .u64 0, .slice none 0 0, .bool false, .int .u64 0, .int .u64 0, .int .u64 0, .int .u64 0, .int .u64 0, .slice none 0 0, .int .u8 0, .int .u8 0, .int .u8 0, .int .u8 0, .int .u8 0, .int .u8 0, .int .u8 0, .int .u8 0] _ _ _ (alloc_at _ _)⟩
    case rest =>
      obtain ⟨x, rfl, hx, hb2, hkx⟩ := hcut
      generalize wc = w2 at *
      have hky2 := below_keeps hb2 HK.out.1 (heap_lt HK.out.1)
      have hkz2 := below_keeps hb2 HK.out.2 (heap_lt HK.out.2)
      have hzlt := heap_lt HK.out.2
      have HZ := Lib.hid hkz2
      have HX := Lib.hid hkx
      have HB2 := Lib.hid (below_call HB.out HB.out.size hb2)
      have y0 := (cell_at hky2 0).trans (by rfl : _ = some (Value.int .i64 1))
      clear hky2 hkz2 hkx hb2 HK HB
      go_wp2_with (first
        | refine wpList_load_row rfl 77 (.tmp 3) rfl x rfl 77 #[.int .i64 1, .int .u64 0, .int .u64 0, .slice none 0 0, .bool false, .int .u64 0, .int .u64 0, .int .u64 0, .int .u64 0, .int .u64 0, .slice none 0 0, .int .u8 0, .int .u8 0, .int .u8 0, .int .u8 0, .int .u8 0, .int .u8 0, .int .u8 0, .int .u8 0] (0, 0) _ (by exact HX.out) Try.underlying77 rfl (by rw [sizeG]; rfl) ?_
        | refine wpList_store_row rfl 77 (.tmp 2) (.tmp 107) rfl _ _ rfl rfl 77 #[.int .i64 0, .int .u64 0, .int .u64 0, .slice none 0 0, .bool false, .int .u64 0, .int .u64 0, .int .u64 0, .int .u64 0, .int .u64 0, .slice none 0 0, .int .u8 0, .int .u8 0, .int .u8 0, .int .u8 0, .int .u8 0, .int .u8 0, .int .u8 0, .int .u8 0] (by exact HZ.out) (by rw [sizeG]; rfl) rfl (by simp [Value.oneCell']) ?_)
      (try simp only [Exit.inBlock, Exit.then])
      refine bodyPost_ret (v := .agg #[.int .i64 1, .int .u64 0, .int .u64 0, .slice none 0 0, .bool false, .int .u64 0, .int .u64 0, .int .u64 0, .int .u64 0, .int .u64 0, .slice none 0 0, .int .u8 0, .int .u8 0, .int .u8 0, .int .u8 0, .int .u8 0, .int .u8 0, .int .u8 0, .int .u8 0]) ?_ rfl ⟨rfl, ?_⟩
      · exact results_cell_row rfl _ _ z 77 _ (0, 0) _ rfl (setRow_heap _ _ #[.int .i64 0, .int .u64 0, .int .u64 0, .slice none 0 0, .bool false, .int .u64 0, .int .u64 0, .int .u64 0, .int .u64 0, .int .u64 0, .slice none 0 0, .int .u8 0, .int .u8 0, .int .u8 0, .int .u8 0, .int .u8 0, .int .u8 0, .int .u8 0, .int .u8 0] _ _ _ HZ.out) Try.underlying77 rfl (by rw [sizeG]; rfl)
      · exact setRow_below HB2.out hz
end Go.Proofs.Ytacfbgnbjdckiaa

/- DERIVED. A struct is loaded from wherever it lies; the same as an operation that is run. -/
namespace Go.Proofs.Ytacfbgnbjdckiaa
open Go.RowKit
variable {P : Program}

theorem run_loadVar_at (w : World) (b off : Nat) (ty : TypeId) (cs : List Value) (d : TypeDesc) (hc : ∀ j v, cs[j]? = some v → w.cell? ⟨b, off + j, none⟩ = some v)
    (hu : P.underlying ty = some d) (hd : (match d with | .struct _ | .array _ _ => true | _ => false) = true) (hi : (P.info? ty).map (·.size) = some cs.length) :
    (loadVar ty ⟨b, off, none⟩).run P w = .ok (.agg cs.toArray) w := by
  have hl : (loadCells ⟨b, off, none⟩ cs.length).run P w = .ok cs.toArray w :=
    run_loadCells_list (P := P) w ⟨b, off, none⟩ cs (fun j v hv => by
      rw [add_lit']
      exact hc j v hv)
  cases hq : P.info? ty with
  | none => simp [hq] at hi
  | some i =>
    have hs : i.size = cs.length := by simpa [hq] using hi
    have hagg : (isAgg ty).run P w = .ok true w := by
      unfold isAgg
      rw [Sem.run_bind, run_underlying hu w]
      cases d <;> simp_all
    simp [loadVar, Sem.run_bind, hagg, sizeOf, typeInfo, hq, hs, hl]
theorem wpList_load_at {ops : Array Oper} {rest : List Oper} {o : Oper} {a : Act} {w : World} {Q : Exit → Act → World → Prop} (hgd : o.guard = none) (ty : TypeId) (x : Operand) (ho : o.op = .load ty x)
    (b off : Nat) (hx : a.eval x = .pointer (some ⟨b, off, none⟩)) (cs : List Value) (d : TypeDesc) (hc : ∀ j v, cs[j]? = some v → w.cell? ⟨b, off + j, none⟩ = some v)
    (hu : P.underlying ty = some d) (hd : (match d with | .struct _ | .array _ _ => true | _ => false) = true) (hi : (P.info? ty).map (·.size) = some cs.length)
    (h : wpList P ops Q rest (a.put o.dst (.agg cs.toArray)) w) : wpList P ops Q (o :: rest) a w :=
  wpList_plain hgd fun _ hK => by
    unfold Oper.wp execOp
    simp only [ho, hx, Instr.loadAt, Instr.sureAddr, Sem.run_bind, Sem.run_pure, Result.andThen_ok, run_loadVar_at w b off ty cs d hc hu hd hi]
    exact hK _ _ h
theorem exec_load_row {o : Oper} {w : World} {f : Operand → Value} (ty : TypeId) (x : Operand) (ho : o.op = .load ty x)
    (g : Nat) (hx : f x = .pointer (some ⟨g, 0, none⟩)) (t : TypeId) (cs : Array Value) (fr : Nat × Nat) (d : TypeDesc) (hg : w.heap[g]? = some (.cells cs t fr))
    (hu : P.underlying ty = some d) (hd : (match d with | .struct _ | .array _ _ => true | _ => false) = true) (hi : (P.info? ty).map (·.size) = some cs.size) :
    (execOp f o).run P w = .ok (.value (.agg cs)) w := by
  unfold execOp
  simp only [ho, hx, Instr.loadAt, Instr.sureAddr, Sem.run_bind, Sem.run_pure, Result.andThen_ok, run_loadVar_row w g t ty cs fr d hg hu hd hi]
end Go.Proofs.Ytacfbgnbjdckiaa

/- DERIVED. Walk of sent's copied on packets whose frames are Pings. -/
namespace Go.Proofs.Ytacfbgnbjdckiaa
open Go.RowKit

theorem infoF : (Try.prog.info? 77).map (fun i => (i.zero, i.size, i.bytes)) = some (some (.agg #[.int .i64 0, .int .u64 0, .int .u64 0, .slice none 0 0, .bool false, .int .u64 0, .int .u64 0, .int .u64 0, .int .u64 0, .int .u64 0, .slice none 0 0, .int .u8 0, .int .u8 0, .int .u8 0, .int .u8 0, .int .u8 0, .int .u8 0, .int .u8 0, .int .u8 0]), 19, 128) := by kernel_rfl
theorem zeroF : (Value.agg #[.int .i64 0, .int .u64 0, .int .u64 0, .slice none 0 0, .bool false, .int .u64 0, .int .u64 0, .int .u64 0, .int .u64 0, .int .u64 0, .slice none 0 0, .int .u8 0, .int .u8 0, .int .u8 0, .int .u8 0, .int .u8 0, .int .u8 0, .int .u8 0, .int .u8 0]).cells.toList = encG false := rfl
/-- A copy of a packet: the same, its frames elsewhere. -/
structure PkC (B : Nat) (w' : World) (p q : Pk) : Prop where
  n : q.n = p.n
  t : q.t = p.t
  z : q.z = p.z
  a : q.a = p.a
  fl : q.fl = p.fl
  fr : PkF w' q
  new : ∀ g, q.fo = some g → B ≤ g
theorem rep_snoc (i : Nat) : List.replicate i true ++ [true] = List.replicate (i + 1) true := by rw [List.replicate_succ']
set_option maxRecDepth 100000 in
set_option maxHeartbeats 2000000 in
theorem copied_any (p : Pk) (w : World) (h : PkF w p) : Calls Try.prog 19 #[.agg (encQ p).toArray] w fun e w' => ∃ q, e = .returned (.agg (encQ q).toArray) ∧ PkC w.heap.size w' p q ∧ Below w.heap.size w w' := by
  obtain ⟨i0, hi0, hz0, hz1, hz2'⟩ := info_parts infoF
  have HF := Lib.hid h
  have hfl := h.1
  have HV := Lib.hid (show Vw encG w w.heap.size (.slice p.fa p.fl p.fc) (List.replicate p.fl true) from h.2.vw)
  clear h
  simp only [encQ]
  go_enter Try.func19, Try.ntmps19
  go_upto_region 0 with fail
  go_cut [1, 2] (fun v1 v2 wx => ∃ z y, v1 = .pointer (some ⟨z, 0, none⟩) ∧ v2 = .pointer (some ⟨y, 0, none⟩) ∧ z ≠ y ∧ w.heap.size ≤ z ∧ w.heap.size ≤ y ∧ Below w.heap.size w wx ∧
    wx.heap[z]? = some (.cells #[.int .u64 p.n, .int .i64 p.t, .int .i64 p.z, .bool p.a, .slice p.fa p.fl p.fc] 32 (0, 0)) ∧ wx.heap[y]? = some (.cells #[.int .u64 0, .int .i64 0, .int .i64 0, .bool false, .slice none 0 0] 32 (0, 0)))
  case first =>
    go_wp2_with fail
    go_meet
    case rel =>
      refine ⟨_, _, rfl, rfl, ?_, Nat.le_refl _, ?_, ((Below.refl _ _).alloc (Nat.le_refl _) _).alloc (by simp) _, alloc_old (alloc_at _ _), ?_⟩
      · simp
      · simp
      · have := alloc_at (w.alloc (.cells #[.int .u64 p.n, .int .i64 p.t, .int .i64 p.z, .bool p.a, .slice p.fa p.fl p.fc] 32)) (.cells #[.int .u64 0, .int .i64 0, .int .i64 0, .bool false, .slice none 0 0] 32)
        simpa using this
  case rest =>
    obtain ⟨z, y, rfl, rfl, hne, hz, hy, hb, hkz, hky⟩ := hcut
    generalize wc = w1 at *
    have z4 := (cell_at hkz 4).trans (by rfl : _ = some (Value.slice p.fa p.fl p.fc))
    have HB := Lib.hid hb
    have HK := Lib.hid (And.intro hkz hky)
    have HV1 := Lib.hid (HV.out.below hb)
    have HL0 := Lib.hid (show FrP w1 (.slice none 0 0) none 0 ∧ (∀ g, (none : Option Nat) = some g → w1.heap.size ≤ g) ∧ Below w1.heap.size w1 w1 from ⟨SlG.nil _, by simp, Below.refl _ _⟩)
    have HNE := Lib.hid hne
    have HNE2 := Lib.hid (show ¬ y = z from fun e => hne e.symm)
    clear hb hkz hky hne
    generalize hfn : p.fl = fl at *
    go_wp2_with fail
    go_loopw [3, 9] (fun l i wr => ∃ (j : Nat) (o : Option Nat), i = .int .i64 j ∧ j ≤ fl ∧ FrP wr l o j ∧ (∀ g, o = some g → w1.heap.size ≤ g) ∧ Below w1.heap.size w1 wr) (fun _ i _ => fl - (intOf i).toNat)
    case atStart => exact ⟨0, none, rfl, by omega, HL0.out.1, HL0.out.2.1, HL0.out.2.2⟩
    case round =>
      obtain ⟨j, o, rfl, hj, hl, hnew, hbw⟩ := hrel
      have HL := Lib.hid hl
      have HNW := Lib.hid hnew
      have HBW := Lib.hid hbw
      obtain ⟨oa, cap, el, hcl1, hcl2⟩ := hl.shape
      rw [List.length_replicate] at el
      subst el
      clear hl hnew hbw HL0
      by_cases hlt : j < fl
      · obtain ⟨b, off, hfa, hbB, hcs⟩ := HV1.out.el encG_len (i := j) (a := true) (by rw [List.getElem?_replicate]; simp [hlt])
        rw [hfa] at z4 ⊢
        have HCS := Lib.hid (show ∀ (jj : Nat) (v : Value), ([.int .i64 1, .int .u64 0, .int .u64 0, .slice none 0 0, .bool false, .int .u64 0, .int .u64 0, .int .u64 0, .int .u64 0, .int .u64 0, .slice none 0 0, .int .u8 0, .int .u8 0, .int .u8 0, .int .u8 0, .int .u8 0, .int .u8 0, .int .u8 0, .int .u8 0] : List Value)[jj]? = some v → wr.cell? ⟨b, off + j * 19 + jj, none⟩ = some v from fun jj v hjj => by
          have hl : jj < 19 := by rw [List.getElem?_eq_some_iff] at hjj; exact hjj.1
          exact cell_keep HBW.out (by have := HB.out.size; omega) ((hcs jj hl).trans hjj))
        clear hcs
        go_upto_region 4 with fail
        go_cut [5] (fun v wx => ∃ x, v = .pointer (some ⟨x, 0, none⟩) ∧ wr.heap.size ≤ x ∧ Below wr.heap.size wr wx ∧ wx.heap[x]? = some (.cells #[.int .i64 1, .int .u64 0, .int .u64 0, .slice none 0 0, .bool false, .int .u64 0, .int .u64 0, .int .u64 0, .int .u64 0, .int .u64 0, .slice none 0 0, .int .u8 0, .int .u8 0, .int .u8 0, .int .u8 0, .int .u8 0, .int .u8 0, .int .u8 0, .int .u8 0] 77 (0, 0)))
        case first =>
          go_wp2_with (first
            | refine wpList_load_at rfl 77 (.tmp 11) rfl b (off + j * 19) rfl [.int .i64 1, .int .u64 0, .int .u64 0, .slice none 0 0, .bool false, .int .u64 0, .int .u64 0, .int .u64 0, .int .u64 0, .int .u64 0, .slice none 0 0, .int .u8 0, .int .u8 0, .int .u8 0, .int .u8 0, .int .u8 0, .int .u8 0, .int .u8 0, .int .u8 0] _ (by exact HCS.out) Try.underlying77 rfl (by rw [sizeG]; rfl) ?_
            | refine wpList_store_row rfl 77 (.tmp 5) (.tmp 12) rfl _ _ rfl rfl 77 #[.int .i64 0, .int .u64 0, .int .u64 0, .slice none 0 0, .bool false, .int .u64 0, .int .u64 0, .int .u64 0, .int .u64 0, .int .u64 0, .slice none 0 0, .int .u8 0, .int .u8 0, .int .u8 0, .int .u8 0, .int .u8 0, .int .u8 0, .int .u8 0, .int .u8 0] (by exact alloc_at _ _) (by rw [sizeG]; rfl) rfl (by simp [Value.oneCell']) ?_)
          go_meet
          case rel => exact ⟨_, rfl, Nat.le_refl _, setRow_below ((Below.refl _ _).alloc (Nat.le_refl _) _) (Nat.le_refl _), setRow_heap _ _ #[.int .i64 0, .int .u64 0, .int .u64 0, .slice none 0 0, .bool false, .int .u64 0, .int .u64 0, .int .u64 0, .int .u64 0, .int .u64 0, .slice none 0 0, .int .u8 0, .int .u8 0, .int .u8 0, .int .u8 0, .int .u8 0, .int .u8 0, .int .u8 0, .int .u8 0] _ _ _ (alloc_at _ _)⟩
        case rest =>
          obtain ⟨x, rfl, hx, hb2, hkx⟩ := hcut
          have HL2 := Lib.hid (HL.out.below hb2)
          have HKX := Lib.hid hkx
          have HB2 := Lib.hid (below_call HBW.out HBW.out.size hb2)
          have hsz2 := hb2.size
          clear hkx hb2 HCS
          generalize wc = w2 at *
          go_wp2_with (refine wpList_load_row rfl 77 (.tmp 5) rfl x rfl 77 #[.int .i64 1, .int .u64 0, .int .u64 0, .slice none 0 0, .bool false, .int .u64 0, .int .u64 0, .int .u64 0, .int .u64 0, .int .u64 0, .slice none 0 0, .int .u8 0, .int .u8 0, .int .u8 0, .int .u8 0, .int .u8 0, .int .u8 0, .int .u8 0, .int .u8 0] (0, 0) _ (by exact HKX.out) Try.underlying77 rfl (by rw [sizeG]; rfl) ?_)
          refine (copy_ping _).mono ?_
          rintro e w3 ⟨rfl, hb3⟩
          have HL3 := Lib.hid (HL2.out.below hb3)
          have HB3 := Lib.hid (below_call HB2.out HB2.out.size hb3)
          have hsz3 := hb3.size
          clear hb3 HL2
          go_wp2_with (refine wpList_pushV encG_len encG_one Try.underlying30 hi0 hz1 hz0 zeroF rfl (.tmp 13) (.tmp 16) rfl (by exact SlG.alloc HL3.out _) (by exact (SlG.vw (og := some w3.heap.size) (xs := [true]) (.inr ⟨w3.heap.size, [], rfl, rfl, alloc_at _ _, by simp⟩))) rfl rfl (by rw [hz2']; simp; omega) (by simp; omega) ?_)
          intro W4 v4 o4 hs4 ho4 hu4
          have H4 := Lib.hid (show FrP W4 v4 o4 (j + 1) ∧ (∀ g, o4 = some g → w1.heap.size ≤ g) ∧ Below w1.heap.size w1 W4 from by
            refine ⟨by rw [rep_snoc] at hs4; exact hs4, fun g e => ?_, Upd.belowOf (below_call HB3.out HB3.out.size ((Below.refl _ _).alloc (Nat.le_refl _) _)) hu4 (fun k hk e => by have := HNW.out k e; omega)⟩
            rcases ho4 with e2 | ⟨g2, e2, hg2⟩
            · exact HNW.out g (by rw [← e2]; exact e)
            · rw [e2] at e
              cases e
              have := HB3.out.size
              try simp at hg2
              omega)
          clear hs4 ho4 hu4 HL3
          go_wp2_with fail
          go_roundw
          case rel => exact ⟨j + 1, o4, by go_num, by omega, H4.out.1, H4.out.2.1, H4.out.2.2⟩
          case measure => simp [intOf]; omega
      · obtain rfl : j = fl := by omega
        have hkz := below_keeps HBW.out HK.out.1 (heap_lt HK.out.1)
        have hky := below_keeps HBW.out HK.out.2 (heap_lt HK.out.2)
        have z0 := (cell_at hkz 0).trans (by rfl : _ = some (Value.int .u64 p.n))
        have z1 := (cell_at hkz 1).trans (by rfl : _ = some (Value.int .i64 p.t))
        have z2 := (cell_at hkz 2).trans (by rfl : _ = some (Value.int .i64 p.z))
        have z3 := (cell_at hkz 3).trans (by rfl : _ = some (Value.bool p.a))
        have z4 := (cell_at hkz 4).trans (by rfl : _ = some (Value.slice p.fa j p.fc))
        have zf := free_at hkz 4
        have y0 := (cell_at hky 0).trans (by rfl : _ = some (Value.int .u64 0))
        have y1 := (cell_at hky 1).trans (by rfl : _ = some (Value.int .i64 0))
        have y2 := (cell_at hky 2).trans (by rfl : _ = some (Value.int .i64 0))
        have y3 := (cell_at hky 3).trans (by rfl : _ = some (Value.bool false))
        have y4 := (cell_at hky 4).trans (by rfl : _ = some (Value.slice none 0 0))
        have g0 := free_at hky 0
        have g1 := free_at hky 1
        have g2 := free_at hky 2
        have g3 := free_at hky 3
        have g4 := free_at hky 4
        have hne := HNE.out
        have hne2 := HNE2.out
        have HU := Lib.hid (show ∀ v, Upd (fun k => k = z ∨ k = y) wr ((((((wr.setCell ⟨z, 4, none⟩ (.slice oa j cap)).setCell ⟨y, 0, none⟩ (.int .u64 p.n)).setCell ⟨y, 1, none⟩ (.int .i64 p.t)).setCell ⟨y, 2, none⟩ (.int .i64 p.z)).setCell ⟨y, 3, none⟩ (.bool p.a)).setCell ⟨y, 4, none⟩ v) from fun v =>
          ((((((Upd.refl (fun k => k = z ∨ k = y) wr).setCell ⟨z, 4, none⟩ (.inl (.inl rfl)) _).setCell ⟨y, 0, none⟩ (.inl (.inr rfl)) _).setCell ⟨y, 1, none⟩ (.inl (.inr rfl)) _).setCell ⟨y, 2, none⟩ (.inl (.inr rfl)) _).setCell ⟨y, 3, none⟩ (.inl (.inr rfl)) _).setCell ⟨y, 4, none⟩ (.inl (.inr rfl)) _)
        have hoz : ∀ g, o = some g → ¬ (g = z ∨ g = y) := fun g e q => by
          have h1 := HNW.out g e
          have h2 := heap_lt HK.out.1
          have h3 := heap_lt HK.out.2
          omega
        have HOZ := Lib.hid hoz
        clear hkz hky hoz
        go_wp2_with fail
        refine bodyPost_ret (v := .agg #[.int .u64 p.n, .int .i64 p.t, .int .i64 p.z, .bool p.a, .slice oa j cap]) ?_ rfl ⟨⟨p.n, p.t, p.z, p.a, oa, j, cap⟩, rfl, ⟨rfl, rfl, rfl, rfl, hfn.symm, ⟨hfl, ?_⟩, fun g e => ?_⟩, ?_⟩
        · rw [results_cell rfl]
          go_simp
        · have := HL.out.keeps (HU.out (.slice oa j cap)) HOZ.out
          rcases HL.out with ⟨h1, h2, h3⟩ | ⟨g, zs, h1, h2, h3, h4⟩
          · have hoa : oa = none := by injection h1
            subst hoa
            rw [h3] at this
            exact this
          · have hoa : oa = some ⟨g, 0, none⟩ := by injection h2
            subst hoa
            rw [h1] at this
            exact this
        · have : o = some g := by
            rcases HL.out with ⟨h1, h2, h3⟩ | ⟨g', zs, h1, h2, h3, h4⟩
            · have hoa : oa = none := by injection h1
              subst hoa
              cases e
            · have hoa : oa = some ⟨g', 0, none⟩ := by injection h2
              subst hoa
              cases e
              exact h1
          have h1 := HNW.out g this
          have h2 := HB.out.size
          omega
        · exact Upd.belowOf (below_call HB.out HB.out.size HBW.out) (HU.out _) (fun k hk q => by omega)
theorem copied_at (p : Pk) (w : World) (h : PkF w p) (ha : p.a = true) : Calls Try.prog 19 #[.agg #[.int .u64 p.n, .int .i64 p.t, .int .i64 p.z, .bool true, .slice p.fa p.fl p.fc]] w fun e w' => ∃ q, e = .returned (.agg (encQ q).toArray) ∧ PkC w.heap.size w' p q ∧ Below w.heap.size w w' := by
  have := copied_any p w h
  simp only [encQ] at this ⊢
  rw [ha] at this
  exact this
end Go.Proofs.Ytacfbgnbjdckiaa
