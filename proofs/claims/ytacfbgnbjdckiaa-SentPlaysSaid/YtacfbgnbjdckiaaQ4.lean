/- DERIVED. Walks of sent's Add, and the document's (printed by mksqadd.py). -/
import Derived.Deep.RegionLaw
import Derived.Deep.DeepMust
import Derived.Test.YtacfbgnbjdckiaaQ2
import Derived.Test.YtacfbgnbjdckiaaQ3
namespace Go.Proofs.Ytacfbgnbjdckiaa
open Go.RowKit

theorem own_ge {n m : Nat} {og og' : Option Nat} (hn : m ≤ n) (ho : og' = og ∨ ∃ g, og' = some g ∧ n ≤ g) : og' = og ∨ ∃ g, og' = some g ∧ m ≤ g := by
  rcases ho with h | ⟨g, h1, h2⟩
  · exact .inl h
  · exact .inr ⟨g, h1, Nat.le_trans hn h2⟩
def LS.puts (s : LS) (p : Pk) : LS := { s with L := s.L ++ [p], nx := p.n + 1 }
def LS.skips (s : LS) (n : Nat) : LS := { s with nx := n + 1 }
def LS.bad (s : LS) (p : Pk) : Bool := decide (p.n < s.nx) || decide (4611686018427387903 ≤ p.n) || decide (p.t < 0) || decide (p.z < 0) || decide (512 < p.z)
def LS.addErr (s : LS) (p : Pk) : Int := if s.bad p then 1 else if p.a = true ∧ 64 ≤ s.L.length then 13 else 0
def LS.addS (s : LS) (p : Pk) : LS := if s.addErr p ≠ 0 then s else if p.a then s.puts p else s.skips p.n
theorem addErr_bad {s : LS} {p : Pk} (h : s.bad p = true) : s.addErr p = 1 := by
  unfold LS.addErr
  rw [if_pos h]
theorem addErr_full {s : LS} {p : Pk} (h : s.bad p = false) (ha : p.a = true) (hl : 64 ≤ s.L.length) : s.addErr p = 13 := by
  unfold LS.addErr
  rw [if_neg (by rw [h]; decide), if_pos ⟨ha, hl⟩]
theorem addErr_ok {s : LS} {p : Pk} (h : s.bad p = false) (ha : p.a = true) (hl : ¬ 64 ≤ s.L.length) : s.addErr p = 0 := by
  unfold LS.addErr
  rw [if_neg (by rw [h]; decide), if_neg (fun x => hl x.2)]
theorem addErr_skip {s : LS} {p : Pk} (h : s.bad p = false) (ha : p.a = false) : s.addErr p = 0 ∧ s.addS p = s.skips p.n := by
  have : s.addErr p = 0 := by
    unfold LS.addErr
    rw [if_neg (by rw [h]; decide), if_neg (fun x => by rw [ha] at x; cases x.1)]
  refine ⟨this, ?_⟩
  unfold LS.addS
  rw [if_neg (fun x => x this), if_neg (by rw [ha]; decide)]
theorem bad_cases (s : LS) (p : Pk) (bad : Bool) (h : s.bad p = bad) :
    (bad = true ∧ p.n < s.nx ∧ (p.n : Int) < (s.nx : Int)) ∨ (bad = true ∧ ¬ p.n < s.nx ∧ ¬ (p.n : Int) < (s.nx : Int) ∧ 4611686018427387903 ≤ p.n ∧ (4611686018427387903 : Int) ≤ (p.n : Int)) ∨
    (bad = true ∧ ¬ p.n < s.nx ∧ ¬ (p.n : Int) < (s.nx : Int) ∧ ¬ 4611686018427387903 ≤ p.n ∧ ¬ (4611686018427387903 : Int) ≤ (p.n : Int) ∧ p.t < 0) ∨
    (bad = true ∧ ¬ p.n < s.nx ∧ ¬ (p.n : Int) < (s.nx : Int) ∧ ¬ 4611686018427387903 ≤ p.n ∧ ¬ (4611686018427387903 : Int) ≤ (p.n : Int) ∧ ¬ p.t < 0 ∧ p.z < 0) ∨
    (bad = true ∧ ¬ p.n < s.nx ∧ ¬ (p.n : Int) < (s.nx : Int) ∧ ¬ 4611686018427387903 ≤ p.n ∧ ¬ (4611686018427387903 : Int) ≤ (p.n : Int) ∧ ¬ p.t < 0 ∧ ¬ p.z < 0 ∧ 512 < p.z) ∨
    (bad = false ∧ ¬ p.n < s.nx ∧ ¬ (p.n : Int) < (s.nx : Int) ∧ ¬ 4611686018427387903 ≤ p.n ∧ ¬ (4611686018427387903 : Int) ≤ (p.n : Int) ∧ ¬ p.t < 0 ∧ ¬ p.z < 0 ∧ ¬ 512 < p.z) := by
  subst h
  unfold LS.bad
  by_cases h1 : p.n < s.nx
  · exact .inl ⟨by simp [h1], h1, by omega⟩
  by_cases h2 : 4611686018427387903 ≤ p.n
  · exact .inr (.inl ⟨by simp [h2], h1, by omega, h2, by omega⟩)
  by_cases h3 : p.t < 0
  · exact .inr (.inr (.inl ⟨by simp [h3], h1, by omega, h2, by omega, h3⟩))
  by_cases h4 : p.z < 0
  · exact .inr (.inr (.inr (.inl ⟨by simp [h4], h1, by omega, h2, by omega, h3, h4⟩)))
  by_cases h5 : 512 < p.z
  · exact .inr (.inr (.inr (.inr (.inl ⟨by simp [h5], h1, by omega, h2, by omega, h3, h4, h5⟩))))
  · exact .inr (.inr (.inr (.inr (.inr ⟨by simp only [Bool.or_eq_false_iff, decide_eq_false_iff_not]; exact ⟨⟨⟨⟨h1, h2⟩, h3⟩, h4⟩, h5⟩, h1, by omega, h2, by omega, h3, h4, h5⟩))))
theorem lskip_fin {K : TypeId × Bool} {w w2 : World} {b n1 : Nat} {s : LS} {fp : Nat → Prop} {v0 : Value} {og : Option Nat} {p : Pk} (hL : LedAt K w b s v0 og) (hfp : fp = LFp K b og s.L) (hb2 : Below w.heap.size w w2)
    (hk : w2.heap[b]? = some (.cells #[v0, .int .u64 s.nx, .int .u64 s.ak, .bool s.has] K.1 (0, 0))) (hn1 : p.n + 1 = n1) (hn : s.nx ≤ p.n) (hn2 : p.n < 4611686018427387903) :
    LM K w (w2.setCell ⟨b, 1, none⟩ (.int .u64 n1)) fp b (s.skips p.n) := by
  subst hn1
  have hL2 : LedAt K w2 b s v0 og := ⟨hk, hL.row.below hb2, fun q p hp => (hL.fr q p hp).below hb2, hL.kk, hL.ok⟩
  have hu : Upd (fun j => j = b) w2 (w2.setCell ⟨b, 1, none⟩ (.int .u64 ((p.n + 1 : Nat) : Int))) := (Upd.refl (fun j => j = b) _).setCell ⟨b, 1, none⟩ (.inl rfl) _
  have ok := hL.ok
  have hap := hL2.apart
  have hsz := heap_lt hL.blk
  refine ⟨fp, ⟨v0, og, ⟨(set_at hk 1 _).trans rfl, hL2.row.keeps hu (fun g e q => hap (by rw [e, q])), fun q p hp => (hL2.fr q p hp).keeps hu (fun g e x => (hL2.fr q p hp).ne hk (by rcases hL.kk with rfl | rfl <;> decide) (by rw [e, x])), hL.kk, ⟨ok.len, by show p.n + 1 ≤ _; omega, ok.ak, fun q hq => ?_, ok.z, ok.t, ok.ask, ok.srt⟩⟩, hfp⟩, ?_, fun g hg => .inl hg⟩
  · show q.n < p.n + 1
    have := ok.num q hq
    omega
  · rw [hfp]
    exact ((Upd.below hb2).mono (fun j hj x => by omega) : Upd (LFp K b og s.L) w w2).then (hu.mono (fun j _ x => .inl x))
theorem lput_fin {K : TypeId × Bool} {w w2 W : World} {b n1 : Nat} {s : LS} {fp : Nat → Prop} {v0 : Value} {og o8 : Option Nat} {a8 : Option Addr} {m c8 : Nat} {p q : Pk} (hL : LedAt K w b s v0 og) (hfp : fp = LFp K b og s.L) (hb2 : Below w.heap.size w w2) (hu : Upd (fun j => og = some j) w2 W)
    (hk : W.heap[b]? = some (.cells #[v0, .int .u64 s.nx, .int .u64 s.ak, .bool s.has] K.1 (0, 0))) (f8 : SlG encQ 32 W (.slice a8 m c8) o8 (s.L ++ [q])) (ho : o8 = og ∨ ∃ g, o8 = some g ∧ w2.heap.size ≤ g)
    (hq : K.2 = true → PkF W q) (hqn : K.2 = true → ∀ g, q.fo = some g → w.heap.size ≤ g) (hpn : q.n = p.n) (hpt : q.t = p.t) (hpz : q.z = p.z) (hqa : q.a = true) (hn1 : p.n + 1 = n1)
    (hP : s.nx ≤ p.n ∧ p.n < 4611686018427387903 ∧ (-9223372036854775808 ≤ p.t ∧ p.t ≤ 9223372036854775807) ∧ (0 ≤ p.z ∧ p.z ≤ 512)) (hl : s.L.length < 64) :
    LM K w ((W.setCell ⟨b, 0, none⟩ (.slice a8 m c8)).setCell ⟨b, 1, none⟩ (.int .u64 n1)) fp b (s.puts q) := by
  subst hn1
  obtain ⟨hn, hn2, ht, hz⟩ := hP
  have hTP : 32 ≠ K.1 := by rcases hL.kk with rfl | rfl <;> decide
  have hTF : 77 ≠ K.1 := by rcases hL.kk with rfl | rfl <;> decide
  have ho8 := slg_apart f8 hk hTP
  have hub : Upd (fun j => j = b) W ((W.setCell ⟨b, 0, none⟩ (.slice a8 m c8)).setCell ⟨b, 1, none⟩ (.int .u64 ((p.n + 1 : Nat) : Int))) := ((Upd.refl (fun j => j = b) W).setCell ⟨b, 0, none⟩ (.inl rfl) _).setCell ⟨b, 1, none⟩ (.inl rfl) _
  have ok := hL.ok
  have hs := hb2.size
  have hfW : K.2 = true → ∀ r ∈ s.L, PkF W r := fun k r hr => ((hL.fr k r hr).below hb2).keeps hu (fun g e x => (hL.fr k r hr).row hL.row g e x)
  refine ⟨LFp K b o8 (s.L ++ [q]), ⟨_, o8, ⟨set_at (set_at hk 0 _) 1 _ |>.trans (by rw [← hpn]; rfl), f8.keeps hub (fun g e x => ho8 (by rw [e, x])), fun k r hr => ?_, hL.kk, ⟨?_, ?_, ok.ak, ?_, ?_, ?_, ?_, ?_⟩⟩, rfl⟩, ?_, ?_⟩
  · have hr2 : PkF W r := by
      rcases List.mem_append.1 hr with hr | hr
      · exact hfW k r hr
      · rw [List.mem_singleton.1 hr]
        exact hq k
    exact hr2.keeps hub (fun g e x => hr2.ne hk hTF (by rw [e, x]))
  · show (s.L ++ [q]).length ≤ 64
    rw [List.length_append]
    simp
    omega
  · show q.n + 1 ≤ _
    omega
  · intro r hr
    show r.n < q.n + 1
    rcases List.mem_append.1 hr with hr | hr
    · have := ok.num r hr
      omega
    · rw [List.mem_singleton.1 hr]
      omega
  · intro r hr
    rcases List.mem_append.1 hr with hr | hr
    · exact ok.z r hr
    · rw [List.mem_singleton.1 hr]
      omega
  · intro r hr
    rcases List.mem_append.1 hr with hr | hr
    · exact ok.t r hr
    · rw [List.mem_singleton.1 hr]
      omega
  · intro r hr
    rcases List.mem_append.1 hr with hr | hr
    · exact ok.ask r hr
    · rw [List.mem_singleton.1 hr]
      exact hqa
  · show (s.L ++ [q]).Pairwise fun a b => a.n < b.n
    rw [List.pairwise_append]
    refine ⟨ok.srt, by simp, fun r hr x hx => ?_⟩
    rw [List.mem_singleton.1 hx]
    have := ok.num r hr
    omega
  · rw [hfp]
    exact ((Upd.below hb2).trans (hu.trans hub (H := LFp K b og s.L) (fun _ _ q => .inr (.inl q)) (fun _ _ q => .inl q)) (H := LFp K b og s.L) (fun j hj q => by omega) (fun _ _ q => q))
  · intro g hg
    rw [hfp]
    rcases hg with hg | hg | ⟨r, hr, k, hg⟩
    · exact .inl (.inl hg)
    · rcases ho with rfl | ⟨g', rfl, h4⟩
      · exact .inl (.inr (.inl hg))
      · cases hg
        right
        omega
    · rcases List.mem_append.1 hr with hr | hr
      · exact .inl (.inr (.inr ⟨r, hr, k, hg⟩))
      · rw [List.mem_singleton.1 hr] at hg
        exact .inr (hqn k g hg)
theorem adds_put {s : LS} {p q : Pk} {B : Nat} {w' : World} (he : s.addErr p = 0) (hb : s.bad p = false) (h : PkC B w' p q) (ha : p.a = true) : s.addS q = s.puts q := by
  have : s.addErr q = s.addErr p := by
    unfold LS.addErr LS.bad
    rw [h.n, h.t, h.z, h.a]
  unfold LS.addS
  rw [if_neg (fun x => x (this.trans he)), if_pos (by rw [h.a, ha])]
theorem adds_err {s : LS} {p : Pk} (he : s.addErr p ≠ 0) : s.addS p = s := by
  unfold LS.addS
  rw [if_pos he]
set_option maxRecDepth 100000 in
set_option maxHeartbeats 4000000 in
theorem ladd_any (b : Nat) (s : LS) (fp : Nat → Prop) (p : Pk) (w : World) (h : LAt kP w b s fp) (ht : -9223372036854775808 ≤ p.t ∧ p.t ≤ 9223372036854775807) (hz : -9223372036854775808 ≤ p.z ∧ p.z ≤ 9223372036854775807) (hn : p.n < 18446744073709551616) (hpf : PkF w p) (hpo : ∀ g, p.fo = some g → ¬ fp g) :
    Calls Try.prog 8 #[.pointer (some ⟨b, 0, none⟩), .agg (encQ p).toArray] w fun e w' => e = .returned (.int .i64 (s.addErr p)) ∧ ∃ q, q.n = p.n ∧ q.t = p.t ∧ q.z = p.z ∧ q.a = p.a ∧ q.fl = p.fl ∧ LM kP w w' fp b (s.addS q) := by
  obtain ⟨i0, hi0, hz0, hz1, hz2'⟩ := info_parts infoP
  obtain ⟨vL, og, hL, hfp⟩ := h
  obtain ⟨oa, cap, rfl, hc1, hc2⟩ := hL.row.shape
  have hap := hL.apart
  have hlt := hL.row.lt
  have hbl := heap_lt hL.blk
  have HL := Lib.hid hL
  have hlen64 := hL.ok.len
  have hnxb := hL.ok.nx
  obtain ⟨len, hlen⟩ : ∃ len, s.L.length = len := ⟨_, rfl⟩
  obtain ⟨nx, hnx⟩ : ∃ nx, s.nx = nx := ⟨_, rfl⟩
  have HLN := Lib.hid hlen
  have HNX := Lib.hid hnx
  have HFP := Lib.hid hfp
  obtain ⟨bad, hbad⟩ : ∃ bad, s.bad p = bad := ⟨_, rfl⟩
  have HBAD := Lib.hid hbad
  have hcs := bad_cases s p bad hbad
  rw [hlen] at hc1 hlen64
  rw [hnx] at hnxb hcs
  have hpf := Lib.hid hpf
  have hpo := Lib.hid (show ∀ g, p.fo = some g → ¬ og = some g from fun g e x => hpo g e (by rw [hfp]; exact .inr (.inl x)))
  clear hL hfp hbad
  simp only [encQ]
  go_enter Try.func8, Try.ntmps8
  go_upto_region 0 with fail
  go_cut [3] (fun v wx => ∃ z, v = .pointer (some ⟨z, 0, none⟩) ∧ w.heap.size ≤ z ∧ Below w.heap.size w wx ∧ wx.heap[z]? = some (.cells #[.int .u64 p.n, .int .i64 p.t, .int .i64 p.z, .bool p.a, .slice p.fa p.fl p.fc] 32 (0, 0)))
  case first =>
    go_wp2_with fail
    go_meet
    case rel => exact ⟨_, rfl, Nat.le_refl _, (Below.refl _ _).alloc (Nat.le_refl _) _, alloc_at _ _⟩
  case rest =>
    obtain ⟨z, rfl, hzz, hb1, hkz⟩ := hcut
    generalize wc = w1 at *
    have hblk1 := below_keeps hb1 HL.out.blk hbl
    have b0 : w1.cell? ⟨b, 0, none⟩ = some (.slice oa len cap) := by rw [cell_at hblk1, ← hlen]; rfl
    have b1 : w1.cell? ⟨b, 1, none⟩ = some (.int .u64 nx) := by rw [cell_at hblk1, ← hnx]; rfl
    have z0 := (cell_at hkz 0).trans (by rfl : _ = some (Value.int .u64 p.n))
    have z1 := (cell_at hkz 1).trans (by rfl : _ = some (Value.int .i64 p.t))
    have z2 := (cell_at hkz 2).trans (by rfl : _ = some (Value.int .i64 p.z))
    have z3 := (cell_at hkz 3).trans (by rfl : _ = some (Value.bool p.a))
    go_upto_region 1 with fail
    go_cut [31] (fun v wx => v = .bool bad ∧ ∃ q, wx = w1.drewN q)
    case first =>
      clear hblk1 hb1 hkz hlen hnx hap hlt
      rcases hcs with ⟨rfl, c1, d1⟩ | ⟨rfl, c1, d1, c2, d2⟩ | ⟨rfl, c1, d1, c2, d2, c3⟩ | ⟨rfl, c1, d1, c2, d2, c3, c4⟩ | ⟨rfl, c1, d1, c2, d2, c3, c4, c5⟩ | ⟨rfl, c1, d1, c2, d2, c3, c4, c5⟩
      all_goals
        go_wp2_with fail
        go_quiet (fail)
        go_wp2_with fail
        go_meet
        case rel =>
          refine ⟨?_, _, rfl⟩
          first | rfl | (simp; done) | (simp; omega)
    case rest =>
      obtain ⟨rfl, q, rfl⟩ := hcut
      have hb2 : Below w.heap.size w (w1.drewN q) := below_drewN hb1 q
      have hblk1 := below_keeps hb2 HL.out.blk hbl
      have hkz : (w1.drewN q).heap[z]? = _ := hkz
      have HROW := Lib.hid (show SlG encQ 32 (w1.drewN q) (.slice oa len cap) og s.L from by rw [← hlen]; exact HL.out.row.below hb2)
      have z0 : (w1.drewN q).cell? ⟨z, 0, none⟩ = _ := z0
      have b0 : (w1.drewN q).cell? ⟨b, 0, none⟩ = _ := b0
      have b1 : (w1.drewN q).cell? ⟨b, 1, none⟩ = _ := b1
      have z3 : (w1.drewN q).cell? ⟨z, 3, none⟩ = _ := z3
      have HB2 := Lib.hid hb2
      generalize w1.drewN q = w2 at *
      have HNB := Lib.hid (show ¬ og = some b from hap)
      have HNZ := Lib.hid (show ¬ og = some z from fun q => by have := hlt z q; omega)
      have HBLK := Lib.hid (show w2.heap[b]? = some (.cells #[.slice oa s.L.length cap, .int .u64 s.nx, .int .u64 s.ak, .bool s.has] kP.1 (0, 0)) from hblk1)
      have HKZ := Lib.hid (show w2.heap[z]? = _ from hkz)
      have HSof := Lib.hid (show ∀ W, Upd (fun j => og = some j) w2 W → W.cell? ⟨b, 0, none⟩ = some (.slice oa len cap) ∧ W.cell? ⟨z, 0, none⟩ = some (.int .u64 p.n) ∧ W.cell? ⟨z, 1, none⟩ = some (.int .i64 p.t) ∧ W.cell? ⟨z, 2, none⟩ = some (.int .i64 p.z) ∧ W.cell? ⟨z, 3, none⟩ = some (.bool p.a) ∧ W.cell? ⟨z, 4, none⟩ = some (.slice p.fa p.fl p.fc) from fun W h => by
        have hk := h.keeps HBLK.out HNB.out
        have hk2 := h.keeps HKZ.out HNZ.out
        refine ⟨by rw [cell_at hk, ← hlen]; rfl, (cell_at hk2 0).trans rfl, (cell_at hk2 1).trans rfl, (cell_at hk2 2).trans rfl, (cell_at hk2 3).trans rfl, (cell_at hk2 4).trans rfl⟩)
      have hbz : ¬ b = z := by omega
      have hzb : ¬ z = b := by omega
      clear hblk1 hb1 hkz hlen hnx hap hlt hb2 z1 z2
      cases bad
      case true =>
        clear hcs
        have HE := Lib.hid (show s.addErr p = 1 from addErr_bad HBAD.out)
        go_wp2_with fail
        go_ret
        exact ⟨by rw [HE.out]; first | rfl | trivial, p, rfl, rfl, rfl, by first | rfl | exact hpa, rfl, by rw [adds_err (by rw [HE.out]; decide)]; exact (LM.refl ⟨_, _, HL.out, HFP.out⟩).later (HB2.out)⟩
      case false =>
      obtain ⟨c1, d1, c2, d2, c3, c4, c5⟩ : ¬ p.n < nx ∧ ¬ (p.n : Int) < (nx : Int) ∧ ¬ 4611686018427387903 ≤ p.n ∧ ¬ (4611686018427387903 : Int) ≤ (p.n : Int) ∧ ¬ p.t < 0 ∧ ¬ p.z < 0 ∧ ¬ 512 < p.z := by
        rcases hcs with ⟨x, _⟩ | ⟨x, _⟩ | ⟨x, _⟩ | ⟨x, _⟩ | ⟨x, _⟩ | ⟨_, x⟩
        all_goals first | exact x | cases x
      clear hcs
      obtain ⟨n1, hn1, hn1b⟩ : ∃ n1, p.n + 1 = n1 ∧ n1 ≤ 4611686018427387903 := ⟨_, rfl, by omega⟩
      have HN1 := Lib.hid hn1
      have hnw : IntKind.u64.wrap ((p.n : Int) + 1) = (n1 : Int) := by rw [IntWalk.u64_in _ (by omega)]; omega
      have HPK := Lib.hid (show s.nx ≤ p.n ∧ p.n < 4611686018427387903 ∧ (-9223372036854775808 ≤ p.t ∧ p.t ≤ 9223372036854775807) ∧ (0 ≤ p.z ∧ p.z ≤ 512) from ⟨by rw [HNX.out]; omega, by omega, ht, by omega⟩)
      clear hn1 hn1b
      cases hpa : p.a
      case false =>
        rw [hpa] at z3
        have HM := Lib.hid (lskip_fin HL.out HFP.out HB2.out HBLK.out HN1.out HPK.out.1 HPK.out.2.1)
        have HE := Lib.hid (show s.addErr p = 0 ∧ s.addS p = s.skips p.n from addErr_skip HBAD.out hpa)
        have q1 := free_at HBLK.out 1
        go_wp2_with fail
        go_ret
        exact ⟨by rw [HE.out.1]; first | rfl | trivial, p, rfl, rfl, rfl, hpa, rfl, by rw [HE.out.2]; exact HM.out⟩
      case true =>
        rw [hpa] at z3
        by_cases hf : 64 ≤ len
        · have hfi : (64 : Int) ≤ (len : Int) := by omega
          have HE := Lib.hid (show s.addErr p = 13 from addErr_full HBAD.out hpa (by rw [HLN.out]; exact hf))
          go_wp2_with fail
          go_ret
          exact ⟨by rw [HE.out]; first | rfl | trivial, p, rfl, rfl, rfl, by first | rfl | exact hpa, rfl, by rw [adds_err (by rw [HE.out]; decide)]; exact (LM.refl ⟨_, _, HL.out, HFP.out⟩).later (HB2.out)⟩
        · have hfi : ¬ (64 : Int) ≤ (len : Int) := by omega
          have HE := Lib.hid (show s.addErr p = 0 from addErr_ok HBAD.out hpa (by rw [HLN.out]; exact hf))
          have hu : Upd (fun j => og = some j) w2 w2.drew := (Upd.refl _ _).drew
          have hsz : w2.heap.size ≤ w2.drew.heap.size := Nat.le_refl _
          have f := HROW.out.drew
          have HPF := Lib.hid (show ∀ W, Upd (fun j => og = some j) w2 W → PkF W p from fun W hW => (hpf.out.below HB2.out).keeps hW (fun g e x => hpo.out g e x))
          go_wp2_with fail
          refine wp_region_till (S := fun w' => w'.cell? ⟨b, 0, none⟩ = some (.slice oa len cap) ∧ w'.cell? ⟨z, 0, none⟩ = some (.int .u64 p.n) ∧ w'.cell? ⟨z, 1, none⟩ = some (.int .i64 p.t) ∧ w'.cell? ⟨z, 2, none⟩ = some (.int .i64 p.z) ∧ w'.cell? ⟨z, 3, none⟩ = some (.bool p.a) ∧ w'.cell? ⟨z, 4, none⟩ = some (.slice p.fa p.fl p.fc)) [11] (by kernel_rfl) (by exact HSof.out _ hu) (fun hHeld => ?_)
          refine wpTill_take0 (i := 0) (oi := ⟨some 40, _, _, _, _, _⟩) (v := ?_) rfl (by kernel_rfl) (fun _ _ _ h => h) (Or.inl ⟨by rfl, ?_⟩) (fun _ => hHeld) ?_
          rotate_left
          · intro w hSw
            (try dsimp only at hSw)
            go_simp
            try with_reducible rfl
          try simp only [Act.put, List.setIfInBounds_toArray, List.set_cons_zero, List.set_cons_succ]
          refine wpTill_take0 (i := 1) (oi := ⟨some 41, _, _, _, _, _⟩) (v := ?_) rfl (by kernel_rfl) (fun _ _ _ h => h) (Or.inl ⟨by rfl, ?_⟩) (fun _ => hHeld) ?_
          rotate_left
          · intro w hSw
            (try dsimp only at hSw)
            go_simp
            try with_reducible rfl
          try simp only [Act.put, List.setIfInBounds_toArray, List.set_cons_zero, List.set_cons_succ]
          refine wpTill_take0 (i := 2) (oi := ⟨some 42, _, _, _, _, _⟩) (v := ?_) rfl (by kernel_rfl) (fun _ _ _ h => h) (Or.inl ⟨by rfl, ?_⟩) (fun _ => hHeld) ?_
          rotate_left
          · intro w hSw
            (try dsimp only at hSw)
            go_simp
            try with_reducible rfl
          try simp only [Act.put, List.setIfInBounds_toArray, List.set_cons_zero, List.set_cons_succ]
          refine wpTill_take0 (i := 3) (oi := ⟨some 43, _, _, _, _, _⟩) (v := ?_) rfl (by kernel_rfl) (fun _ _ _ h => h) (Or.inl ⟨by rfl, ?_⟩) (fun _ => hHeld) ?_
          rotate_left
          · intro w hSw
            (try dsimp only at hSw)
            go_simp
            try with_reducible rfl
          try simp only [Act.put, List.setIfInBounds_toArray, List.set_cons_zero, List.set_cons_succ]
          refine wpTill_take (i := 4) (oi := ⟨some 44, _, _, _, _, _⟩) (v := ?_) rfl (by kernel_rfl) (fun _ _ _ h => h) (Or.inl ⟨by rfl, ?_⟩) (by exact hHeld) ?_
          rotate_left
          · intro w hSw
            (try dsimp only at hSw)
            go_simp
            try with_reducible rfl
          try simp only [Act.put, List.setIfInBounds_toArray, List.set_cons_zero, List.set_cons_succ]
          refine wpTill_take (i := 5) (oi := ⟨some 45, _, _, _, _, _⟩) (v := ?_) rfl (by kernel_rfl) (fun _ _ _ h => h) (Or.inl ⟨by rfl, ?_⟩) (by exact hHeld) ?_
          rotate_left
          · intro w hSw
            (try dsimp only at hSw)
            go_simp
            try with_reducible rfl
          try simp only [Act.put, List.setIfInBounds_toArray, List.set_cons_zero, List.set_cons_succ]
          refine wpTill_ready (rs := [6]) (by kernel_rfl) (by simp) ?_
          refine AllTill.cons (o := ⟨some 46, _, _, _, _, _⟩) rfl (fun K hK => ?_) AllTill.nil
          go_simp
          go_at_call 19
          have hpw := HPF.out _ hu
          refine (copied_at p _ hpw hpa).mono ?_
          clear hpw
          rintro e W6 ⟨q, rfl, hpc, hx6⟩
          have f := f.below hx6
          have hu := hu.trans (Upd.below hx6) (fun _ _ q => q) (fun j hj q => by have := hu.size; omega)
          go_wp2_with fail
          refine hK.out _ _ (by exact HSof.out _ hu) (fun hHeld => ?_)
          clear hK K
          try simp only [Act.put, List.setIfInBounds_toArray, List.set_cons_zero, List.set_cons_succ]
          refine wpTill_ready (rs := [7]) (by kernel_rfl) (by simp) ?_
          refine AllTill.cons (o := ⟨some 47, _, _, _, _, _⟩) rfl (fun K hK => ?_) AllTill.nil
          refine step_fresh (enc := encQ) (E := 32) rfl [q] (encQ q).toArray rfl (by simp) (by kernel_rfl) ?_
          intro W7 v7 g7 f7 hg7 hx7
          have f := f.below hx7
          have hq7 := hpc.fr.below hx7
          have hu := hu.trans (Upd.below hx7) (fun _ _ q => q) (fun j hj q => by have := hu.size; omega)
          refine hK.out _ _ (by exact HSof.out _ hu) (fun hHeld => ?_)
          clear hK K
          try simp only [Act.put, List.setIfInBounds_toArray, List.set_cons_zero, List.set_cons_succ]
          refine wpTill_ready (rs := [8]) (by kernel_rfl) (by simp) ?_
          refine AllTill.cons (o := ⟨some 48, _, _, _, _, _⟩) rfl (fun K hK => ?_) AllTill.nil
          refine step_pushV encQ_len encQ_one Try.underlying38 hi0 hz1 hz0 zeroP rfl (.tmp 44) (.tmp 47) rfl (by exact f) (by exact f7.vw) rfl rfl (by rw [HLN.out, hz2']; simp; omega) (by rw [HLN.out]; simp; omega) ?_
          intro W8 v8 o8 f8 ho8 hu8
          have hq8 := hq7.keeps hu8 (fun g e x => hq7.row f g e x)
          have ho8 := own_ge (Nat.le_trans (Nat.le_refl _) hu.size) ho8
          have hu := hu.trans hu8 (fun _ _ q => q) (fun _ _ q => q)
          refine hK.out _ _ (by exact HSof.out _ hu) (fun hHeld => ?_)
          clear hK K
          try simp only [Act.put, List.setIfInBounds_toArray, List.set_cons_zero, List.set_cons_succ]
          refine wpTill_take0 (i := 9) (oi := ⟨some 49, _, _, _, _, _⟩) (v := ?_) rfl (by kernel_rfl) (fun _ _ _ h => h) (Or.inl ⟨by rfl, ?_⟩) (fun _ => hHeld) ?_
          rotate_left
          · intro w hSw
            (try dsimp only at hSw)
            go_simp
            try with_reducible rfl
          try simp only [Act.put, List.setIfInBounds_toArray, List.set_cons_zero, List.set_cons_succ]
          refine wpTill_take0 (i := 10) (oi := ⟨some 50, _, _, _, _, _⟩) (v := ?_) rfl (by kernel_rfl) (fun _ _ _ h => h) (Or.inl ⟨by rfl, ?_⟩) (fun _ => hHeld) ?_
          rotate_left
          · intro w hSw
            (try dsimp only at hSw)
            go_simp
            try with_reducible rfl
          try simp only [Act.put, List.setIfInBounds_toArray, List.set_cons_zero, List.set_cons_succ]
          refine wpTill_ready (rs := [11]) (by kernel_rfl) (by simp) ?_
          refine AllTill.consD (o := ⟨none, _, _, _, _, _⟩) rfl (by kernel_rfl) (fun K hK => ?_) AllTill.nil
          obtain ⟨a8, c8, e8, _, _⟩ := f8.shape
          rw [show (s.L ++ [q]).length = len + 1 by rw [List.length_append, HLN.out]; rfl] at e8
          subst e8
          have hk := hu.keeps HBLK.out HNB.out
          have e0 := cell_at hk 0
          have q0 := free_at hk 0
          have hk2z := hHeld.2.1
          go_simp
          refine hK.out _ _ ?_
          clear hK K
          try simp only [Act.put, List.setIfInBounds_toArray, List.set_cons_zero, List.set_cons_succ]
          refine wpTill_done (by kernel_rfl) ?_ _
          have zz := hk2z
          have y1 : W8.cell? ⟨b, 1, none⟩ = some (.int .u64 nx) := by rw [cell_at hk, ← HNX.out]; rfl
          have q1 := free_at hk 1
          have HM := Lib.hid (lput_fin HL.out HFP.out HB2.out hu hk f8 ho8 (fun _ => hq8) (fun _ g e => Nat.le_trans (Nat.le_trans HB2.out.size hsz) (hpc.new g e)) hpc.n hpc.t hpc.z (hpc.a.trans hpa) HN1.out HPK.out (by rw [HLN.out]; omega))
          have HPC := Lib.hid hpc
          clear f8 ho8 hu hk hpc hq7 hq8 hu8
          go_wp2_with fail
          go_ret
          exact ⟨by rw [HE.out]; rfl, q, HPC.out.n, HPC.out.t, HPC.out.z, HPC.out.a, HPC.out.fl, by rw [adds_put HE.out HBAD.out HPC.out hpa]; exact HM.out⟩
end Go.Proofs.Ytacfbgnbjdckiaa

/- DERIVED. Walk of the document's Add (printed by mksqdadd.py). -/
namespace Go.Proofs.Ytacfbgnbjdckiaa
open Go.RowKit

theorem adds_self {s : LS} {p : Pk} (he : s.addErr p = 0) (ha : p.a = true) : s.addS p = s.puts p := by
  unfold LS.addS
  rw [if_neg (fun x => x he), if_pos ha]
set_option maxRecDepth 100000 in
set_option maxHeartbeats 4000000 in
theorem dadd_any (b : Nat) (s : LS) (fp : Nat → Prop) (p : Pk) (w : World) (h : LAt kD w b s fp) (ht : -9223372036854775808 ≤ p.t ∧ p.t ≤ 9223372036854775807) (hz : -9223372036854775808 ≤ p.z ∧ p.z ≤ 9223372036854775807) (hn : p.n < 18446744073709551616) :
    Calls Try.prog 33 #[.pointer (some ⟨b, 0, none⟩), .agg (encQ p).toArray] w fun e w' => e = .returned (.int .i64 (s.addErr p)) ∧ LM kD w w' fp b (s.addS p) := by
  obtain ⟨i0, hi0, hz0, hz1, hz2'⟩ := info_parts infoP
  obtain ⟨vL, og, hL, hfp⟩ := h
  obtain ⟨oa, cap, rfl, hc1, hc2⟩ := hL.row.shape
  have hap := hL.apart
  have hlt := hL.row.lt
  have hbl := heap_lt hL.blk
  have HL := Lib.hid hL
  have hlen64 := hL.ok.len
  have hnxb := hL.ok.nx
  obtain ⟨len, hlen⟩ : ∃ len, s.L.length = len := ⟨_, rfl⟩
  obtain ⟨nx, hnx⟩ : ∃ nx, s.nx = nx := ⟨_, rfl⟩
  have HLN := Lib.hid hlen
  have HNX := Lib.hid hnx
  have HFP := Lib.hid hfp
  obtain ⟨bad, hbad⟩ : ∃ bad, s.bad p = bad := ⟨_, rfl⟩
  have HBAD := Lib.hid hbad
  have hcs := bad_cases s p bad hbad
  rw [hlen] at hc1 hlen64
  rw [hnx] at hnxb hcs
  clear hL hfp hbad
  simp only [encQ]
  go_enter Try.func33, Try.ntmps33
  go_upto_region 0 with fail
  go_cut [3] (fun v wx => ∃ z, v = .pointer (some ⟨z, 0, none⟩) ∧ w.heap.size ≤ z ∧ Below w.heap.size w wx ∧ wx.heap[z]? = some (.cells #[.int .u64 p.n, .int .i64 p.t, .int .i64 p.z, .bool p.a, .slice p.fa p.fl p.fc] 32 (0, 0)))
  case first =>
    go_wp2_with fail
    go_meet
    case rel => exact ⟨_, rfl, Nat.le_refl _, (Below.refl _ _).alloc (Nat.le_refl _) _, alloc_at _ _⟩
  case rest =>
    obtain ⟨z, rfl, hzz, hb1, hkz⟩ := hcut
    generalize wc = w1 at *
    have hblk1 := below_keeps hb1 HL.out.blk hbl
    have b0 : w1.cell? ⟨b, 0, none⟩ = some (.slice oa len cap) := by rw [cell_at hblk1, ← hlen]; rfl
    have b1 : w1.cell? ⟨b, 1, none⟩ = some (.int .u64 nx) := by rw [cell_at hblk1, ← hnx]; rfl
    have z0 := (cell_at hkz 0).trans (by rfl : _ = some (Value.int .u64 p.n))
    have z1 := (cell_at hkz 1).trans (by rfl : _ = some (Value.int .i64 p.t))
    have z2 := (cell_at hkz 2).trans (by rfl : _ = some (Value.int .i64 p.z))
    have z3 := (cell_at hkz 3).trans (by rfl : _ = some (Value.bool p.a))
    go_upto_region 1 with fail
    go_cut [31] (fun v wx => v = .bool bad ∧ ∃ q, wx = w1.drewN q)
    case first =>
      clear hblk1 hb1 hkz hlen hnx hap hlt
      rcases hcs with ⟨rfl, c1, d1⟩ | ⟨rfl, c1, d1, c2, d2⟩ | ⟨rfl, c1, d1, c2, d2, c3⟩ | ⟨rfl, c1, d1, c2, d2, c3, c4⟩ | ⟨rfl, c1, d1, c2, d2, c3, c4, c5⟩ | ⟨rfl, c1, d1, c2, d2, c3, c4, c5⟩
      all_goals
        go_wp2_with fail
        go_quiet (fail)
        go_wp2_with fail
        go_meet
        case rel =>
          refine ⟨?_, _, rfl⟩
          first | rfl | (simp; done) | (simp; omega)
    case rest =>
      obtain ⟨rfl, q, rfl⟩ := hcut
      have hb2 : Below w.heap.size w (w1.drewN q) := below_drewN hb1 q
      have hblk1 := below_keeps hb2 HL.out.blk hbl
      have hkz : (w1.drewN q).heap[z]? = _ := hkz
      have HROW := Lib.hid (show SlG encQ 32 (w1.drewN q) (.slice oa len cap) og s.L from by rw [← hlen]; exact HL.out.row.below hb2)
      have z0 : (w1.drewN q).cell? ⟨z, 0, none⟩ = _ := z0
      have b0 : (w1.drewN q).cell? ⟨b, 0, none⟩ = _ := b0
      have b1 : (w1.drewN q).cell? ⟨b, 1, none⟩ = _ := b1
      have z3 : (w1.drewN q).cell? ⟨z, 3, none⟩ = _ := z3
      have HB2 := Lib.hid hb2
      generalize w1.drewN q = w2 at *
      have HNB := Lib.hid (show ¬ og = some b from hap)
      have HNZ := Lib.hid (show ¬ og = some z from fun q => by have := hlt z q; omega)
      have HBLK := Lib.hid (show w2.heap[b]? = some (.cells #[.slice oa s.L.length cap, .int .u64 s.nx, .int .u64 s.ak, .bool s.has] kD.1 (0, 0)) from hblk1)
      have HKZ := Lib.hid (show w2.heap[z]? = _ from hkz)
      have HSof := Lib.hid (show ∀ W, Upd (fun j => og = some j) w2 W → W.cell? ⟨b, 0, none⟩ = some (.slice oa len cap) ∧ W.cell? ⟨z, 0, none⟩ = some (.int .u64 p.n) ∧ W.cell? ⟨z, 1, none⟩ = some (.int .i64 p.t) ∧ W.cell? ⟨z, 2, none⟩ = some (.int .i64 p.z) ∧ W.cell? ⟨z, 3, none⟩ = some (.bool p.a) ∧ W.cell? ⟨z, 4, none⟩ = some (.slice p.fa p.fl p.fc) from fun W h => by
        have hk := h.keeps HBLK.out HNB.out
        have hk2 := h.keeps HKZ.out HNZ.out
        refine ⟨by rw [cell_at hk, ← hlen]; rfl, (cell_at hk2 0).trans rfl, (cell_at hk2 1).trans rfl, (cell_at hk2 2).trans rfl, (cell_at hk2 3).trans rfl, (cell_at hk2 4).trans rfl⟩)
      have hbz : ¬ b = z := by omega
      have hzb : ¬ z = b := by omega
      clear hblk1 hb1 hkz hlen hnx hap hlt hb2 z1 z2
      cases bad
      case true =>
        clear hcs
        have HE := Lib.hid (show s.addErr p = 1 from addErr_bad HBAD.out)
        go_wp2_with fail
        go_ret
        exact ⟨by rw [HE.out]; first | rfl | trivial, by rw [adds_err (by rw [HE.out]; decide)]; exact (LM.refl ⟨_, _, HL.out, HFP.out⟩).later (HB2.out)⟩
      case false =>
      obtain ⟨c1, d1, c2, d2, c3, c4, c5⟩ : ¬ p.n < nx ∧ ¬ (p.n : Int) < (nx : Int) ∧ ¬ 4611686018427387903 ≤ p.n ∧ ¬ (4611686018427387903 : Int) ≤ (p.n : Int) ∧ ¬ p.t < 0 ∧ ¬ p.z < 0 ∧ ¬ 512 < p.z := by
        rcases hcs with ⟨x, _⟩ | ⟨x, _⟩ | ⟨x, _⟩ | ⟨x, _⟩ | ⟨x, _⟩ | ⟨_, x⟩
        all_goals first | exact x | cases x
      clear hcs
      obtain ⟨n1, hn1, hn1b⟩ : ∃ n1, p.n + 1 = n1 ∧ n1 ≤ 4611686018427387903 := ⟨_, rfl, by omega⟩
      have HN1 := Lib.hid hn1
      have hnw : IntKind.u64.wrap ((p.n : Int) + 1) = (n1 : Int) := by rw [IntWalk.u64_in _ (by omega)]; omega
      have HPK := Lib.hid (show s.nx ≤ p.n ∧ p.n < 4611686018427387903 ∧ (-9223372036854775808 ≤ p.t ∧ p.t ≤ 9223372036854775807) ∧ (0 ≤ p.z ∧ p.z ≤ 512) from ⟨by rw [HNX.out]; omega, by omega, ht, by omega⟩)
      clear hn1 hn1b
      cases hpa : p.a
      case false =>
        rw [hpa] at z3
        have HM := Lib.hid (lskip_fin HL.out HFP.out HB2.out HBLK.out HN1.out HPK.out.1 HPK.out.2.1)
        have HE := Lib.hid (show s.addErr p = 0 ∧ s.addS p = s.skips p.n from addErr_skip HBAD.out hpa)
        have q1 := free_at HBLK.out 1
        go_wp2_with fail
        go_ret
        exact ⟨by rw [HE.out.1]; first | rfl | trivial, by rw [HE.out.2]; exact HM.out⟩
      case true =>
        rw [hpa] at z3
        by_cases hf : 64 ≤ len
        · have hfi : (64 : Int) ≤ (len : Int) := by omega
          have HE := Lib.hid (show s.addErr p = 13 from addErr_full HBAD.out hpa (by rw [HLN.out]; exact hf))
          go_wp2_with fail
          go_ret
          exact ⟨by rw [HE.out]; first | rfl | trivial, by rw [adds_err (by rw [HE.out]; decide)]; exact (LM.refl ⟨_, _, HL.out, HFP.out⟩).later (HB2.out)⟩
        · have hfi : ¬ (64 : Int) ≤ (len : Int) := by omega
          have HE := Lib.hid (show s.addErr p = 0 from addErr_ok HBAD.out hpa (by rw [HLN.out]; exact hf))
          have hB : Below w2.heap.size w2 w2.drew := (Below.refl _ _).drew
          have HOG := Lib.hid (show ∀ g, og = some g → g < w2.heap.size from fun g e => by have := HROW.out.lt g e; exact this)
          have HBB := Lib.hid (heap_lt HBLK.out)
          have f := HROW.out.drew
          go_wp2_with fail
          refine wp_region_till (S := fun w' => w'.cell? ⟨b, 0, none⟩ = some (.slice oa len cap) ∧ w'.cell? ⟨z, 0, none⟩ = some (.int .u64 p.n) ∧ w'.cell? ⟨z, 1, none⟩ = some (.int .i64 p.t) ∧ w'.cell? ⟨z, 2, none⟩ = some (.int .i64 p.z) ∧ w'.cell? ⟨z, 3, none⟩ = some (.bool p.a) ∧ w'.cell? ⟨z, 4, none⟩ = some (.slice p.fa p.fl p.fc)) [12] (by kernel_rfl) (by exact HSof.out _ ((Upd.below hB).mono (fun j hj x => absurd hj (by omega)))) (fun hHeld => ?_)
          refine wpTill_take0 (i := 0) (oi := ⟨some 44, _, _, _, _, _⟩) (v := ?_) rfl (by kernel_rfl) (fun _ _ _ h => h) (Or.inl ⟨by rfl, ?_⟩) (fun _ => hHeld) ?_
          rotate_left
          · intro w hSw
            (try dsimp only at hSw)
            go_simp
            try with_reducible rfl
          try simp only [Act.put, List.setIfInBounds_toArray, List.set_cons_zero, List.set_cons_succ]
          refine wpTill_take0 (i := 2) (oi := ⟨some 46, _, _, _, _, _⟩) (v := ?_) rfl (by kernel_rfl) (fun _ _ _ h => h) (Or.inl ⟨by rfl, ?_⟩) (fun _ => hHeld) ?_
          rotate_left
          · intro w hSw
            (try dsimp only at hSw)
            go_simp
            try with_reducible rfl
          try simp only [Act.put, List.setIfInBounds_toArray, List.set_cons_zero, List.set_cons_succ]
          refine wpTill_take0 (i := 3) (oi := ⟨some 47, _, _, _, _, _⟩) (v := ?_) rfl (by kernel_rfl) (fun _ _ _ h => h) (Or.inl ⟨by rfl, ?_⟩) (fun _ => hHeld) ?_
          rotate_left
          · intro w hSw
            (try dsimp only at hSw)
            go_simp
            try with_reducible rfl
          try simp only [Act.put, List.setIfInBounds_toArray, List.set_cons_zero, List.set_cons_succ]
          refine wpTill_take0 (i := 4) (oi := ⟨some 48, _, _, _, _, _⟩) (v := ?_) rfl (by kernel_rfl) (fun _ _ _ h => h) (Or.inl ⟨by rfl, ?_⟩) (fun _ => hHeld) ?_
          rotate_left
          · intro w hSw
            (try dsimp only at hSw)
            go_simp
            try with_reducible rfl
          try simp only [Act.put, List.setIfInBounds_toArray, List.set_cons_zero, List.set_cons_succ]
          refine wpTill_take (i := 5) (oi := ⟨some 49, _, _, _, _, _⟩) (v := ?_) rfl (by kernel_rfl) (fun _ _ _ h => h) (Or.inl ⟨by rfl, ?_⟩) (by exact hHeld) ?_
          rotate_left
          · intro w hSw
            (try dsimp only at hSw)
            go_simp
            try with_reducible rfl
          try simp only [Act.put, List.setIfInBounds_toArray, List.set_cons_zero, List.set_cons_succ]
          refine wpTill_take (i := 7) (oi := ⟨some 51, _, _, _, _, _⟩) (v := ?_) rfl (by kernel_rfl) (fun _ _ _ h => h) (Or.inl ⟨by rfl, ?_⟩) (by exact hHeld) ?_
          rotate_left
          · intro w hSw
            (try dsimp only at hSw)
            go_simp
            try with_reducible rfl
          try simp only [Act.put, List.setIfInBounds_toArray, List.set_cons_zero, List.set_cons_succ]
          refine wpTill_ready (rs := [1, 8]) (by kernel_rfl) (by simp) ?_
          refine AllTill.cons (o := ⟨some 45, _, _, _, _, _⟩) rfl (fun K hK => ?_) ?_
          · refine step_fresh (enc := encQ) (E := 32) rfl [] #[] rfl (by simp) (by kernel_rfl) ?_
            intro W1 v1 g1 f1 hg1 hx1
            have n1 := Nat.le_trans hB.size hg1
            have hB := below_call hB hB.size hx1
            have f := f.below hx1
            refine hK.out _ _ (by exact HSof.out _ ((Upd.below hB).mono (fun j hj x => absurd hj (by omega)))) (fun hHeld => ?_)
            clear hK K
            try simp only [Act.put, List.setIfInBounds_toArray, List.set_cons_zero, List.set_cons_succ]
            refine wpTill_ready (rs := [6, 8]) (by kernel_rfl) (by simp) ?_
            refine AllTill.cons (o := ⟨some 50, _, _, _, _, _⟩) rfl (fun K hK => ?_) ?_
            · refine step_pushV encQ_len encQ_one Try.underlying38 hi0 hz1 hz0 zeroP rfl (.tmp 45) (.tmp 49) rfl (by exact f1) (by exact f.vw) rfl rfl (by rw [HLN.out, hz2']; simp; omega) (by rw [HLN.out]; simp; omega) ?_
              intro W6 v6 o6 f6 ho6 hu6
              have f := f.keeps hu6 (fun g e x => by cases x; have := HOG.out _ e; omega)
              obtain ⟨g6, rfl, n6⟩ : ∃ g, o6 = some g ∧ w2.heap.size ≤ g := by
                rcases ho6 with rfl | ⟨g, rfl, h⟩
                · exact ⟨_, rfl, n1⟩
                · exact ⟨_, rfl, Nat.le_trans hB.size h⟩
              have hB := Upd.onto hB hu6 hB.size (fun k hk e => by cases e; omega)
              refine hK.out _ _ (by exact HSof.out _ ((Upd.below hB).mono (fun j hj x => absurd hj (by omega)))) (fun hHeld => ?_)
              clear hK K
              try simp only [Act.put, List.setIfInBounds_toArray, List.set_cons_zero, List.set_cons_succ]
              refine wpTill_ready (rs := [8]) (by kernel_rfl) (by simp) ?_
              refine AllTill.cons (o := ⟨some 52, _, _, _, _, _⟩) rfl (fun K hK => ?_) AllTill.nil
              refine step_fresh (enc := encQ) (E := 32) rfl [p] (encQ p).toArray rfl (by simp) (by simp only [encQ, hpa]; kernel_rfl) ?_
              intro W8 v8 g8 f8 hg8 hx8
              have n8 := Nat.le_trans hB.size hg8
              have d86 : ∀ g, some g6 = some g → g8 ≠ g := fun g e => by cases e; have := f6.lt g6 rfl; omega
              have f6 := f6.below hx8
              have hB := below_call hB hB.size hx8
              have f := f.below hx8
              refine hK.out _ _ (by exact HSof.out _ ((Upd.below hB).mono (fun j hj x => absurd hj (by omega)))) (fun hHeld => ?_)
              clear hK K
              try simp only [Act.put, List.setIfInBounds_toArray, List.set_cons_zero, List.set_cons_succ]
              refine wpTill_ready (rs := [9]) (by kernel_rfl) (by simp) ?_
              refine AllTill.cons (o := ⟨some 53, _, _, _, _, _⟩) rfl (fun K hK => ?_) AllTill.nil
              have n6' := n6
              refine step_pushV encQ_len encQ_one Try.underlying38 hi0 hz1 hz0 zeroP rfl (.tmp 50) (.tmp 52) rfl (by exact f6) (by exact f8.vw) rfl rfl (by rw [hz2']; simp [HLN.out]; omega) (by simp [HLN.out]; omega) ?_
              intro W9 v9 o9 f9 ho9 hu9
              have f := f.keeps hu9 (fun g e x => by cases x; have := HOG.out _ e; omega)
              obtain ⟨g9, rfl, n9⟩ : ∃ g, o9 = some g ∧ w2.heap.size ≤ g := by
                rcases ho9 with rfl | ⟨g, rfl, h⟩
                · exact ⟨_, rfl, n6⟩
                · exact ⟨_, rfl, Nat.le_trans hB.size h⟩
              have hB := Upd.onto hB hu9 hB.size (fun k hk e => by cases e; omega)
              refine hK.out _ _ (by exact HSof.out _ ((Upd.below hB).mono (fun j hj x => absurd hj (by omega)))) (fun hHeld => ?_)
              clear hK K
              try simp only [Act.put, List.setIfInBounds_toArray, List.set_cons_zero, List.set_cons_succ]
              refine wpTill_take0 (i := 10) (oi := ⟨some 54, _, _, _, _, _⟩) (v := ?_) rfl (by kernel_rfl) (fun _ _ _ h => h) (Or.inl ⟨by rfl, ?_⟩) (fun _ => hHeld) ?_
              rotate_left
              · intro w hSw
                (try dsimp only at hSw)
                go_simp
                try with_reducible rfl
              try simp only [Act.put, List.setIfInBounds_toArray, List.set_cons_zero, List.set_cons_succ]
              refine wpTill_take0 (i := 11) (oi := ⟨some 55, _, _, _, _, _⟩) (v := ?_) rfl (by kernel_rfl) (fun _ _ _ h => h) (Or.inl ⟨by rfl, ?_⟩) (fun _ => hHeld) ?_
              rotate_left
              · intro w hSw
                (try dsimp only at hSw)
                go_simp
                try with_reducible rfl
              try simp only [Act.put, List.setIfInBounds_toArray, List.set_cons_zero, List.set_cons_succ]
              refine wpTill_ready (rs := [12]) (by kernel_rfl) (by simp) ?_
              refine AllTill.consD (o := ⟨none, _, _, _, _, _⟩) rfl (by kernel_rfl) (fun K hK => ?_) AllTill.nil
              obtain ⟨a8, c8, e8, _, _⟩ := f9.shape
              have e9 : (([] ++ s.L) ++ [p]).length = len + 1 := by simp [HLN.out]
              rw [e9] at e8
              subst e8
              have hk := below_keeps hB HBLK.out HBB.out
              have e0 := cell_at hk 0
              have q0 := free_at hk 0
              have hk2z := hHeld.2.1
              go_simp
              refine hK.out _ _ ?_
              clear hK K
              try simp only [Act.put, List.setIfInBounds_toArray, List.set_cons_zero, List.set_cons_succ]
              refine wpTill_done (by kernel_rfl) ?_ _
              have zz := hk2z
              have y1 : W9.cell? ⟨b, 1, none⟩ = some (.int .u64 nx) := by rw [cell_at hk, ← HNX.out]; rfl
              have q1 := free_at hk 1
              have HM := Lib.hid (lput_fin HL.out HFP.out HB2.out ((Upd.below hB).mono (fun j hj x => absurd hj (by omega))) hk (by exact f9) (.inr ⟨g9, rfl, n9⟩) (fun k => by cases k) (fun k => by cases k) rfl rfl rfl hpa HN1.out HPK.out (by rw [HLN.out]; omega))
              clear f f9 f8 f6 f1 hB hk
              go_wp2_with fail
              go_ret
              exact ⟨by rw [HE.out]; first | rfl | trivial, by rw [adds_self HE.out hpa]; exact HM.out⟩
            refine AllTill.cons (o := ⟨some 52, _, _, _, _, _⟩) rfl (fun K hK => ?_) ?_
            · refine step_fresh (enc := encQ) (E := 32) rfl [p] (encQ p).toArray rfl (by simp) (by simp only [encQ, hpa]; kernel_rfl) ?_
              intro W8 v8 g8 f8 hg8 hx8
              have n8 := Nat.le_trans hB.size hg8
              have d81 : g8 ≠ g1 := by have := f1.lt g1 rfl; omega
              have f1 := f1.below hx8
              have hB := below_call hB hB.size hx8
              have f := f.below hx8
              refine hK.out _ _ (by exact HSof.out _ ((Upd.below hB).mono (fun j hj x => absurd hj (by omega)))) (fun hHeld => ?_)
              clear hK K
              try simp only [Act.put, List.setIfInBounds_toArray, List.set_cons_zero, List.set_cons_succ]
              refine wpTill_ready (rs := [6]) (by kernel_rfl) (by simp) ?_
              refine AllTill.cons (o := ⟨some 50, _, _, _, _, _⟩) rfl (fun K hK => ?_) AllTill.nil
              have HG8 := Lib.hid (f8.lt g8 rfl)
              refine step_pushV encQ_len encQ_one Try.underlying38 hi0 hz1 hz0 zeroP rfl (.tmp 45) (.tmp 49) rfl (by exact f1) (by exact f.vw) rfl rfl (by rw [HLN.out, hz2']; simp; omega) (by rw [HLN.out]; simp; omega) ?_
              intro W6 v6 o6 f6 ho6 hu6
              have f := f.keeps hu6 (fun g e x => by cases x; have := HOG.out _ e; omega)
              have f8 := f8.keeps hu6 (fun g e x => by cases x; cases e; exact d81 rfl)
              have d86 : ∀ g, o6 = some g → g8 ≠ g := fun g e => by
                rcases ho6 with x | ⟨g', x, hg'⟩
                · rw [x] at e; cases e; exact d81
                · rw [x] at e; cases e; have := HG8.out; omega
              obtain ⟨g6, rfl, n6⟩ : ∃ g, o6 = some g ∧ w2.heap.size ≤ g := by
                rcases ho6 with rfl | ⟨g, rfl, h⟩
                · exact ⟨_, rfl, n1⟩
                · exact ⟨_, rfl, Nat.le_trans hB.size h⟩
              have hB := Upd.onto hB hu6 hB.size (fun k hk e => by cases e; omega)
              refine hK.out _ _ (by exact HSof.out _ ((Upd.below hB).mono (fun j hj x => absurd hj (by omega)))) (fun hHeld => ?_)
              clear hK K
              try simp only [Act.put, List.setIfInBounds_toArray, List.set_cons_zero, List.set_cons_succ]
              refine wpTill_ready (rs := [9]) (by kernel_rfl) (by simp) ?_
              refine AllTill.cons (o := ⟨some 53, _, _, _, _, _⟩) rfl (fun K hK => ?_) AllTill.nil
              have n6' := n6
              refine step_pushV encQ_len encQ_one Try.underlying38 hi0 hz1 hz0 zeroP rfl (.tmp 50) (.tmp 52) rfl (by exact f6) (by exact f8.vw) rfl rfl (by rw [hz2']; simp [HLN.out]; omega) (by simp [HLN.out]; omega) ?_
              intro W9 v9 o9 f9 ho9 hu9
              have f := f.keeps hu9 (fun g e x => by cases x; have := HOG.out _ e; omega)
              obtain ⟨g9, rfl, n9⟩ : ∃ g, o9 = some g ∧ w2.heap.size ≤ g := by
                rcases ho9 with rfl | ⟨g, rfl, h⟩
                · exact ⟨_, rfl, n6⟩
                · exact ⟨_, rfl, Nat.le_trans hB.size h⟩
              have hB := Upd.onto hB hu9 hB.size (fun k hk e => by cases e; omega)
              refine hK.out _ _ (by exact HSof.out _ ((Upd.below hB).mono (fun j hj x => absurd hj (by omega)))) (fun hHeld => ?_)
              clear hK K
              try simp only [Act.put, List.setIfInBounds_toArray, List.set_cons_zero, List.set_cons_succ]
              refine wpTill_take0 (i := 10) (oi := ⟨some 54, _, _, _, _, _⟩) (v := ?_) rfl (by kernel_rfl) (fun _ _ _ h => h) (Or.inl ⟨by rfl, ?_⟩) (fun _ => hHeld) ?_
              rotate_left
              · intro w hSw
                (try dsimp only at hSw)
                go_simp
                try with_reducible rfl
              try simp only [Act.put, List.setIfInBounds_toArray, List.set_cons_zero, List.set_cons_succ]
              refine wpTill_take0 (i := 11) (oi := ⟨some 55, _, _, _, _, _⟩) (v := ?_) rfl (by kernel_rfl) (fun _ _ _ h => h) (Or.inl ⟨by rfl, ?_⟩) (fun _ => hHeld) ?_
              rotate_left
              · intro w hSw
                (try dsimp only at hSw)
                go_simp
                try with_reducible rfl
              try simp only [Act.put, List.setIfInBounds_toArray, List.set_cons_zero, List.set_cons_succ]
              refine wpTill_ready (rs := [12]) (by kernel_rfl) (by simp) ?_
              refine AllTill.consD (o := ⟨none, _, _, _, _, _⟩) rfl (by kernel_rfl) (fun K hK => ?_) AllTill.nil
              obtain ⟨a8, c8, e8, _, _⟩ := f9.shape
              have e9 : (([] ++ s.L) ++ [p]).length = len + 1 := by simp [HLN.out]
              rw [e9] at e8
              subst e8
              have hk := below_keeps hB HBLK.out HBB.out
              have e0 := cell_at hk 0
              have q0 := free_at hk 0
              have hk2z := hHeld.2.1
              go_simp
              refine hK.out _ _ ?_
              clear hK K
              try simp only [Act.put, List.setIfInBounds_toArray, List.set_cons_zero, List.set_cons_succ]
              refine wpTill_done (by kernel_rfl) ?_ _
              have zz := hk2z
              have y1 : W9.cell? ⟨b, 1, none⟩ = some (.int .u64 nx) := by rw [cell_at hk, ← HNX.out]; rfl
              have q1 := free_at hk 1
              have HM := Lib.hid (lput_fin HL.out HFP.out HB2.out ((Upd.below hB).mono (fun j hj x => absurd hj (by omega))) hk (by exact f9) (.inr ⟨g9, rfl, n9⟩) (fun k => by cases k) (fun k => by cases k) rfl rfl rfl hpa HN1.out HPK.out (by rw [HLN.out]; omega))
              clear f f9 f8 f6 f1 hB hk
              go_wp2_with fail
              go_ret
              exact ⟨by rw [HE.out]; first | rfl | trivial, by rw [adds_self HE.out hpa]; exact HM.out⟩
            exact AllTill.nil
          refine AllTill.cons (o := ⟨some 52, _, _, _, _, _⟩) rfl (fun K hK => ?_) ?_
          · refine step_fresh (enc := encQ) (E := 32) rfl [p] (encQ p).toArray rfl (by simp) (by simp only [encQ, hpa]; kernel_rfl) ?_
            intro W8 v8 g8 f8 hg8 hx8
            have n8 := Nat.le_trans hB.size hg8
            have hB := below_call hB hB.size hx8
            have f := f.below hx8
            refine hK.out _ _ (by exact HSof.out _ ((Upd.below hB).mono (fun j hj x => absurd hj (by omega)))) (fun hHeld => ?_)
            clear hK K
            try simp only [Act.put, List.setIfInBounds_toArray, List.set_cons_zero, List.set_cons_succ]
            refine wpTill_ready (rs := [1]) (by kernel_rfl) (by simp) ?_
            refine AllTill.cons (o := ⟨some 45, _, _, _, _, _⟩) rfl (fun K hK => ?_) AllTill.nil
            refine step_fresh (enc := encQ) (E := 32) rfl [] #[] rfl (by simp) (by kernel_rfl) ?_
            intro W1 v1 g1 f1 hg1 hx1
            have n1 := Nat.le_trans hB.size hg1
            have d81 : g8 ≠ g1 := by have := f8.lt g8 rfl; omega
            have f8 := f8.below hx1
            have hB := below_call hB hB.size hx1
            have f := f.below hx1
            refine hK.out _ _ (by exact HSof.out _ ((Upd.below hB).mono (fun j hj x => absurd hj (by omega)))) (fun hHeld => ?_)
            clear hK K
            try simp only [Act.put, List.setIfInBounds_toArray, List.set_cons_zero, List.set_cons_succ]
            refine wpTill_ready (rs := [6]) (by kernel_rfl) (by simp) ?_
            refine AllTill.cons (o := ⟨some 50, _, _, _, _, _⟩) rfl (fun K hK => ?_) AllTill.nil
            have HG8 := Lib.hid (f8.lt g8 rfl)
            refine step_pushV encQ_len encQ_one Try.underlying38 hi0 hz1 hz0 zeroP rfl (.tmp 45) (.tmp 49) rfl (by exact f1) (by exact f.vw) rfl rfl (by rw [HLN.out, hz2']; simp; omega) (by rw [HLN.out]; simp; omega) ?_
            intro W6 v6 o6 f6 ho6 hu6
            have f := f.keeps hu6 (fun g e x => by cases x; have := HOG.out _ e; omega)
            have f8 := f8.keeps hu6 (fun g e x => by cases x; cases e; exact d81 rfl)
            have d86 : ∀ g, o6 = some g → g8 ≠ g := fun g e => by
              rcases ho6 with x | ⟨g', x, hg'⟩
              · rw [x] at e; cases e; exact d81
              · rw [x] at e; cases e; have := HG8.out; omega
            obtain ⟨g6, rfl, n6⟩ : ∃ g, o6 = some g ∧ w2.heap.size ≤ g := by
              rcases ho6 with rfl | ⟨g, rfl, h⟩
              · exact ⟨_, rfl, n1⟩
              · exact ⟨_, rfl, Nat.le_trans hB.size h⟩
            have hB := Upd.onto hB hu6 hB.size (fun k hk e => by cases e; omega)
            refine hK.out _ _ (by exact HSof.out _ ((Upd.below hB).mono (fun j hj x => absurd hj (by omega)))) (fun hHeld => ?_)
            clear hK K
            try simp only [Act.put, List.setIfInBounds_toArray, List.set_cons_zero, List.set_cons_succ]
            refine wpTill_ready (rs := [9]) (by kernel_rfl) (by simp) ?_
            refine AllTill.cons (o := ⟨some 53, _, _, _, _, _⟩) rfl (fun K hK => ?_) AllTill.nil
            have n6' := n6
            refine step_pushV encQ_len encQ_one Try.underlying38 hi0 hz1 hz0 zeroP rfl (.tmp 50) (.tmp 52) rfl (by exact f6) (by exact f8.vw) rfl rfl (by rw [hz2']; simp [HLN.out]; omega) (by simp [HLN.out]; omega) ?_
            intro W9 v9 o9 f9 ho9 hu9
            have f := f.keeps hu9 (fun g e x => by cases x; have := HOG.out _ e; omega)
            obtain ⟨g9, rfl, n9⟩ : ∃ g, o9 = some g ∧ w2.heap.size ≤ g := by
              rcases ho9 with rfl | ⟨g, rfl, h⟩
              · exact ⟨_, rfl, n6⟩
              · exact ⟨_, rfl, Nat.le_trans hB.size h⟩
            have hB := Upd.onto hB hu9 hB.size (fun k hk e => by cases e; omega)
            refine hK.out _ _ (by exact HSof.out _ ((Upd.below hB).mono (fun j hj x => absurd hj (by omega)))) (fun hHeld => ?_)
            clear hK K
            try simp only [Act.put, List.setIfInBounds_toArray, List.set_cons_zero, List.set_cons_succ]
            refine wpTill_take0 (i := 10) (oi := ⟨some 54, _, _, _, _, _⟩) (v := ?_) rfl (by kernel_rfl) (fun _ _ _ h => h) (Or.inl ⟨by rfl, ?_⟩) (fun _ => hHeld) ?_
            rotate_left
            · intro w hSw
              (try dsimp only at hSw)
              go_simp
              try with_reducible rfl
            try simp only [Act.put, List.setIfInBounds_toArray, List.set_cons_zero, List.set_cons_succ]
            refine wpTill_take0 (i := 11) (oi := ⟨some 55, _, _, _, _, _⟩) (v := ?_) rfl (by kernel_rfl) (fun _ _ _ h => h) (Or.inl ⟨by rfl, ?_⟩) (fun _ => hHeld) ?_
            rotate_left
            · intro w hSw
              (try dsimp only at hSw)
              go_simp
              try with_reducible rfl
            try simp only [Act.put, List.setIfInBounds_toArray, List.set_cons_zero, List.set_cons_succ]
            refine wpTill_ready (rs := [12]) (by kernel_rfl) (by simp) ?_
            refine AllTill.consD (o := ⟨none, _, _, _, _, _⟩) rfl (by kernel_rfl) (fun K hK => ?_) AllTill.nil
            obtain ⟨a8, c8, e8, _, _⟩ := f9.shape
            have e9 : (([] ++ s.L) ++ [p]).length = len + 1 := by simp [HLN.out]
            rw [e9] at e8
            subst e8
            have hk := below_keeps hB HBLK.out HBB.out
            have e0 := cell_at hk 0
            have q0 := free_at hk 0
            have hk2z := hHeld.2.1
            go_simp
            refine hK.out _ _ ?_
            clear hK K
            try simp only [Act.put, List.setIfInBounds_toArray, List.set_cons_zero, List.set_cons_succ]
            refine wpTill_done (by kernel_rfl) ?_ _
            have zz := hk2z
            have y1 : W9.cell? ⟨b, 1, none⟩ = some (.int .u64 nx) := by rw [cell_at hk, ← HNX.out]; rfl
            have q1 := free_at hk 1
            have HM := Lib.hid (lput_fin HL.out HFP.out HB2.out ((Upd.below hB).mono (fun j hj x => absurd hj (by omega))) hk (by exact f9) (.inr ⟨g9, rfl, n9⟩) (fun k => by cases k) (fun k => by cases k) rfl rfl rfl hpa HN1.out HPK.out (by rw [HLN.out]; omega))
            clear f f9 f8 f6 f1 hB hk
            go_wp2_with fail
            go_ret
            exact ⟨by rw [HE.out]; first | rfl | trivial, by rw [adds_self HE.out hpa]; exact HM.out⟩
          exact AllTill.nil
end Go.Proofs.Ytacfbgnbjdckiaa

/- DERIVED. Walk of slices.Replace at ranges: one element for at least one. -/
namespace Go.Proofs.Ytacfbgnbjdckiaa
open Go.RowKit

theorem replace_rows {rs : List Rg} {r : Rg} {i k n cap : Nat} {zz : List Rg} (hik : i < k) (hkn : k < n) (hnc : n ≤ cap) (hrs : rs.length = cap)
    (hz : zz = splice (splice rs i [r]) (i + 1) (((splice rs i [r]).drop k).take (n - k)) ∨ ∃ c, zz = splice (splice (splice rs i [r]) (i + 1) (((splice rs i [r]).drop k).take (n - k))) (i + 1 + (n - k)) c ∧ i + 1 + (n - k) + c.length ≤ cap) :
    ∃ zs, zz = (rs.take i ++ r :: (rs.take n).drop k) ++ zs ∧ i + 1 + (n - k) + zs.length = cap := by
  have l1 : (splice rs i [r]).length = cap := by rw [splice_len _ _ _ (by simp; omega), hrs]
  have m1 : ((splice rs i [r]).drop k).take (n - k) = (rs.take n).drop k := by
    rw [splice_drop_ge (by simp; omega) (by simp; omega), List.drop_take]
  have ml : ((rs.take n).drop k).length = n - k := by rw [List.length_drop, List.length_take]; omega
  rw [m1] at hz
  have l2 : (splice (splice rs i [r]) (i + 1) ((rs.take n).drop k)).length = cap := by rw [splice_len _ _ _ (by rw [l1, ml]; omega), l1]
  have t2 : (splice (splice rs i [r]) (i + 1) ((rs.take n).drop k)).take (i + 1 + (n - k)) = rs.take i ++ [r] ++ (rs.take n).drop k := by
    have h1 := splice_take_end (L := splice rs i [r]) (c := (rs.take n).drop k) (o := i + 1) (by omega)
    have h2 := splice_take_end (L := rs) (c := [r]) (o := i) (by omega)
    rw [ml] at h1
    rw [h1]
    congr 1
  have t3 : zz.take (i + 1 + (n - k)) = rs.take i ++ [r] ++ (rs.take n).drop k ∧ zz.length = cap := by
    rcases hz with rfl | ⟨c, rfl, hc⟩
    · exact ⟨t2, l2⟩
    · exact ⟨by rw [splice_take_lt (Nat.le_refl _) (by rw [l2]; omega)]; exact t2, by rw [splice_len _ _ _ (by rw [l2]; exact hc), l2]⟩
  refine ⟨zz.drop (i + 1 + (n - k)), ?_, ?_⟩
  · have e : rs.take i ++ r :: (rs.take n).drop k = rs.take i ++ [r] ++ (rs.take n).drop k := by simp
    rw [e, ← t3.1, List.take_append_drop]
  · rw [List.length_drop, t3.2]; omega

set_option maxRecDepth 100000 in
set_option maxHeartbeats 400000 in
theorem replace_mid (g h : Nat) (rs : List Rg) (r : Rg) (i k n cap : Nat) (w : World) (hik : i < k) (hkn : k < n) (hnc : n ≤ cap) (hrs : rs.length = cap) (hg : RowR w g rs) (hh : RowR w h [r]) (_hgh : g ≠ h) (hm : cap ≤ 9223372036854775807) :
    Calls Try.prog 36 #[.slice (some ⟨g, 0, none⟩) n cap, .int .i64 i, .int .i64 k, .slice (some ⟨h, 0, none⟩) 1 1] w
      fun e w' => e = .returned (.slice (some ⟨g, 0, none⟩) (i + 1 + (n - k)) cap) ∧ Head w' g (rs.take i ++ r :: (rs.take n).drop k) cap ∧ Upd (fun k => k = g) w w' := by
  obtain ⟨i0, hi, hz0, hz1, hz2⟩ := info_parts infoR
  have HG := Lib.hid hg
  have HH := Lib.hid hh
  have HN := Lib.hid hrs
  clear hg hh hrs
  go_enter Try.func36, Try.ntmps36
  go_wp2_with fail
  go_quiet (fail)
  go_wp2_with (refine wpList_copy_at encR_len encR_one Try.underlying33 hi hz1 rfl (.tmp 95) (.tmp 96) 33 rfl (by exact HG.out) (by exact HH.out) i 0 1 rfl rfl rfl rfl ?c1 ?c2 ?c3 ?_)
  case c1 => omega
  case c2 => rw [HN.out]; omega
  case c3 => exact Nat.le_refl _
  intro W1 hW1 hU1
  have H1 := Lib.hid hW1
  have U1 := Lib.hid hU1
  have L1 := Lib.hid (show (splice rs i [r]).length = cap by rw [splice_len _ _ _ (by rw [HN.out]; simp; omega), HN.out])
  clear hW1 hU1
  go_wp2_with fail
  have f1 : IntKind.i64.wrap ((i : Int) + 1) = (i : Int) + 1 := IntWalk.i64_in _ (by omega)
  have f2 : ((i : Int) + 1).toNat = i + 1 := by omega
  have f3 : (0 : Int) ≤ (i : Int) + 1 := by omega
  have f4 : (i : Int) + 1 ≤ (i : Int) + 1 + ((n - k : Nat) : Int) := by omega
  have f5 : ¬ cap = i + 1 := by omega
  have f6 : ¬ cap = k := by omega
  have f7 : k ≤ n := by omega
  go_still_tail 9, (by kernel_rfl)
  change wpList _ _ _ _ _ W1.drew
  clear f1 f2 f3 f4 f5 f6 f7
  go_wp2_with (refine wpList_copy_at encR_len encR_one Try.underlying33 hi hz1 rfl (.tmp 103) (.tmp 106) 33 rfl (by exact H1.out) (by exact H1.out) (i + 1) k (n - k) rfl rfl rfl rfl ?d1 ?d2 ?d3 ?_)
  case d2 => rw [L1.out]; omega
  case d3 => rw [L1.out]; omega
  intro W2 hW2 hU2
  have H2 := Lib.hid hW2
  have U2 := Lib.hid hU2
  have L2 := Lib.hid (show (splice (splice rs i [r]) (i + 1) (((splice rs i [r]).drop k).take (n - k))).length = cap by rw [splice_len _ _ _ (by rw [L1.out, List.length_take, List.length_drop, L1.out]; omega), L1.out])
  clear hW2 hU2
  by_cases hx : i + 1 + (n - k) < cap
  · go_wp2_with (refine wpList_clear_at encR_len encR_one Try.underlying33 hi hz0 zeroR rfl (.tmp 110) rfl (by exact H2.out) (i + 1 + (n - k)) (n - (i + 1 + (n - k))) rfl rfl ?e1 ?_)
    case e1 => rw [L2.out]; omega
    intro W3 hW3 hU3
    have H3 := Lib.hid hW3
    have U3 := Lib.hid hU3
    clear hW3 hU3
    go_wp2
    go_ret
    refine ⟨rfl, ?_, ?_⟩
    · obtain ⟨zs, hzs, hlen⟩ := replace_rows (zz := splice (splice (splice rs i [r]) (i + 1) (((splice rs i [r]).drop k).take (n - k))) (i + 1 + (n - k)) (List.replicate (n - (i + 1 + (n - k))) (0, 0))) hik hkn hnc HN.out (.inr ⟨_, rfl, by simp; omega⟩)
      exact ⟨zs, by rw [← hzs]; exact H3.out, by simp only [List.length_append, List.length_take, List.length_drop, List.length_cons, HN.out]; omega⟩
    · exact (((Upd.refl _ w).drewN nq).then U1.out).drew.then (U2.out.then U3.out)
  · have hcn : n = cap := by omega
    have hk1 : k = i + 1 := by omega
    have HC := Lib.hid hcn
    have HK := Lib.hid hk1
    clear hcn hk1
    go_wp2_with (refine wpList_clear_zero Try.underlying33 rfl (.tmp 110) rfl rfl ?e2 ?_)
    case e2 => have := HC.out; have := HK.out; omega
    go_wp2
    have hcap : i + 1 + (n - k) = cap := by omega
    go_ret
    refine ⟨rfl, ?_, ?_⟩
    · rw [hcap]
      obtain ⟨zs, hzs, hlen⟩ := replace_rows (zz := splice (splice rs i [r]) (i + 1) (((splice rs i [r]).drop k).take (n - k))) hik hkn hnc HN.out (.inl rfl)
      exact ⟨zs, by rw [← hzs]; exact H2.out, by simp only [List.length_append, List.length_take, List.length_drop, List.length_cons, HN.out]; omega⟩
    · exact (((Upd.refl _ w).drewN nq).then U1.out).drew.then U2.out
end Go.Proofs.Ytacfbgnbjdckiaa
