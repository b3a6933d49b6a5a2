/- DERIVED. The evaluator's append, copy, clear and conversions against the model's, whole. -/
import Derived.Test.YtijnjnncgkhabaaEvQ7
namespace Go.Proofs.Ytijnjnncgkhabaa
namespace Ev
open Go.RowKit

section
variable {P : Program} {Y : Ty} {β : Id → CA} {D : Id → Prop} {B N : Nat} {W w : World} {s s' u : S} {e : Env} {a : Act}

theorem Same.rel (h : Same s u) (hr : Rel β D B W s.h w) : Rel β D B W u.h w := ⟨by rw [h.1]; exact hr.hr, hr.bel⟩
theorem Same.from (h : Same s u) {v : AV} {m : Sem Value} (hg : Gives P β D B W u s' v m w) : Gives P β D B W s s' v m w := by
  obtain ⟨β', D', w', V, x1, x2⟩ := hg
  exact ⟨β', D', w', V, by rw [← h.2]; exact x1, x2⟩
theorem okE_ok {i : TypeInfo} (h : okE i = true) : i.bytes ≤ 1048576 ∧ 1 ≤ i.bytes ∧ 1 ≤ i.size := by
  simp only [okE, Bool.and_eq_true] at h
  exact ⟨Nat.le_of_ble_eq_true h.1, Nat.le_of_ble_eq_true h.2.1, Nat.le_of_ble_eq_true h.2.2⟩

theorem app_ok (hY : TyOk P Y) (hr : Rel β D B W s.h w) {sT xT ty el : TypeId} {i : TypeInfo} {d : TypeDesc} {cs : List AV} {z : Bool} (hel : elemS Y sT = some el) (hi : Y.t el = some i) (hk : okE i = true) (hx : under Y xT = some d) (hd : d = .string ∨ ∃ e, d = .slice e) (hcs : zeroT Y el = some cs)
    {x y v : AV} {X Z : Value} (h : appF z i.size x y s = some (v, s')) (hX : VR β D x X) (hZ : VR β D y Z) (hf : Fresh D s.n.num s'.n.num) : Gives P β D B W s s' v (Builtin.append_ #[sT, xT] ty #[X, Z]) w := by
  obtain ⟨n, hn, h⟩ := ofO_some h
  obtain ⟨hl, h⟩ := ifB_some h
  obtain ⟨new, u, h1, h2⟩ := bind_some h
  have hl' : n ≤ 1048576 := Nat.le_of_ble_eq_true hl
  obtain ⟨b1, b2, b3⟩ := okE_ok hk
  obtain ⟨hs, News, g1, g2, g3, g4⟩ := first_ok (P := P) hr.hr h1 hZ hn (Nat.le_refl _)
  obtain ⟨i', zv, hi', hz, hzr, hzv, o1, hlen, hYt⟩ := zeroT_ok hY hcs β D
  obtain rfl : i' = i := by rw [hi] at hYt; cases hYt; rfl
  have hu := elemS_ok hY hel
  have hux := under_ok hY hx
  have hzs : zv.cells.size = i'.size := by have := hzv.length; simp at this; omega
  have hA : Apps P el i'.size zv.cells w n News fun S => Builtin.append_ #[sT, xT] ty #[S, Z] :=
    ⟨fun base sLen sCap w' hroom hst hno => app_room hu hi' hux hd (lenO_ok hn hZ w) hroom (g4 w rfl) hst hno,
     fun base sLen sCap Old hroom hsl hold => app_grow hu hi' hz hux hd (lenO_ok hn hZ w) hroom hsl hl' b1 b2 hold (g4 w.drew rfl)⟩
  exact hs.from (grow_ok (hs.rel hr) b3 hzs h2 hX g1 g2 g3 hl' hA (by rw [hs.2]; exact hf))
theorem apz_ok (hY : TyOk P Y) (hr : Rel β D B W s.h w) {sT xT ty el : TypeId} {i : TypeInfo} {k0 : IntKind} {cs : List AV} {z : Bool} (hel : elemS Y sT = some el) (hi : Y.t el = some i) (hk : okE i = true) (hx : under Y xT = some (.int k0)) (hcs : zeroT Y el = some cs)
    {x y v : AV} {X Z : Value} (h : apzF z i.size cs x y s = some (v, s')) (hX : VR β D x X) (hZ : VR β D y Z) (hf : Fresh D s.n.num s'.n.num) : Gives P β D B W s s' v (Builtin.append_ #[sT, xT] ty #[X, Z]) w := by
  obtain ⟨n, hn, h⟩ := ofO_some h
  obtain ⟨hl, h⟩ := ifB_some h
  have hl' : n ≤ 1048576 := Nat.le_of_ble_eq_true hl
  obtain ⟨k, rfl⟩ := natOf_ok hn hZ
  obtain ⟨b1, b2, b3⟩ := okE_ok hk
  obtain ⟨i', zv, hi', hz, hzr, hzv, o1, hlen, hYt⟩ := zeroT_ok hY hcs β D
  obtain rfl : i' = i := by rw [hi] at hYt; cases hYt; rfl
  have hu := elemS_ok hY hel
  have hux := under_ok hY hx
  have hzs : zv.cells.size = i'.size := by have := hzv.length; simp at this; omega
  have hrep := made_vr hzv n
  rw [hlen] at hrep
  have hA : Apps P el i'.size zv.cells w n (madeCells zv.cells (n * i'.size)).toList fun S => Builtin.append_ #[sT, xT] ty #[S, .int k n] :=
    ⟨fun base sLen sCap w' hroom hst hno => apz_room hu hi' hz hzs hux rfl hroom hl' b1 hst hno,
     fun base sLen sCap Old hroom hsl hold => apz_grow hu hi' hz hzs hux rfl hroom hsl hl' b1 b2 hold⟩
  exact grow_ok hr b3 hzs h hX hrep (repL_one o1 n) (by rw [repL_length, hlen]) hl' hA hf

theorem cpy_ok (hY : TyOk P Y) (hr : Rel β D B W s.h w) {dT sT ty el : TypeId} {z : Nat} (hel : elemS Y dT = some el) (hz : sizeT Y el = some z) {x y v : AV} {X Z : Value}
    (h : cpyF z x y s = some (v, s')) (hX : VR β D x X) (hZ : VR β D y Z) : Gives P β D B W s s' v (Builtin.copy_ #[dT, sT] ty #[X, Z]) w := by
  have h0 := ofO_some h
  clear h
  obtain ⟨m, hm, h⟩ := h0
  have hu := elemS_ok hY hel
  have hsz := size_ok hY hz
  have hlen := lenO_ok (P := P) hm hZ w
  have min1 : ∀ len : Nat, minN m len = Nat.min m len := fun len => by rw [minN_ok]
  cases x <;> first | (simp only [M.no] at h; cases h; done) | skip
  · -- nil
    obtain ⟨rfl, rfl⟩ := pure_some h
    simp only [VR] at hX
    subst hX
    have hfirst : (Builtin.firstCells z 0 Z).run P w = .ok #[] w := by
      cases y <;> simp only [lenO] at hm <;> try (cases hm; done)
      all_goals simp only [VR] at hZ
      · obtain ⟨rfl, _⟩ := hZ
        simp only [Builtin.firstCells, Sem.run_pure]
        congr 1
        apply Array.ext'
        simp [ByteArray.data_extract]
      · subst hZ; simp [Builtin.firstCells]
      · obtain ⟨_, rfl⟩ := hZ; simp [Builtin.firstCells, loadCells, loadCellsFrom]
      · obtain ⟨_, _, q, cap, rfl, _⟩ := hZ; simp [Builtin.firstCells, loadCells, loadCellsFrom]
    exact Gives.same hr (V := .int .i64 0) (by simp [VR]) (by simp [Builtin.copy_, run_underlying hu, hlen, hsz, hfirst, goInt])
  · rename_i id off len cap
    obtain ⟨l, u, h1, h2⟩ := bind_some h
    obtain ⟨u0, t, h3, h4⟩ := bind_some h2
    obtain ⟨rfl, rfl⟩ := pure_some h4
    simp only [VR] at hX
    obtain ⟨hd, rfl⟩ := hX
    obtain ⟨hs, News, g1, g2, g3, g4⟩ := first_ok (P := P) hr.hr h1 hZ hm (by rw [minN_ok]; omega)
    obtain ⟨k1, k2, k3, k4⟩ := wr_ok (P := P) (hs.rel hr).hr g1 g2 h3
    refine ⟨β, D, _, .int .i64 (Int.ofNat (minN m len)), by rw [k1, hs.2]; exact Ext.refl _ _ _, ⟨k2, setCells_below _ _ (hr.hr.old id hd) _ _ _ _ hr.bel⟩, by simp only [VR], ?_⟩
    have := g4 w rfl
    rw [min1] at this
    simp [Builtin.copy_, run_underlying hu, hlen, hsz, this, k4, goInt, min1]
  · rename_i id off len k w'
    obtain ⟨l, u, h1, h2⟩ := bind_some h
    obtain ⟨u0, t, h3, h4⟩ := bind_some h2
    obtain ⟨rfl, rfl⟩ := pure_some h4
    simp only [VR] at hX
    obtain ⟨hd, hlk, q, cap, rfl, hkc, hq, hlim⟩ := hX
    obtain ⟨hs, News, g1, g2, g3, g4⟩ := first_ok (P := P) hr.hr h1 hZ hm (by rw [minN_ok]; omega)
    obtain ⟨k1, k2, k3, k4⟩ := wr_ok (P := P) (hs.rel hr).hr g1 g2 h3
    refine ⟨β, D, _, .int .i64 (Int.ofNat (minN m len)), by rw [k1, hs.2]; exact Ext.refl _ _ _, ⟨k2, setCells_below _ _ (hr.hr.old id hd) _ _ _ _ hr.bel⟩, by simp only [VR], ?_⟩
    have := g4 w rfl
    rw [min1] at this
    have hst : (storeCells ⟨(β id).blk, q, none⟩ News).run P w = .ok () (w.setCells (β id).blk ((β id).base + off) News) := by
      by_cases h0 : len = 0
      · have : News = [] := by
          have h5 := g1.length
          rw [g3, minN_ok, h0] at h5
          exact List.eq_nil_of_length_eq_zero (by simpa using h5)
        subst this
        rfl
      · rw [hq.resolve_left (by omega)]
        exact k4
    simp [Builtin.copy_, run_underlying hu, hlen, hsz, this, hst, goInt, min1]
theorem clr_ok (hY : TyOk P Y) (hr : Rel β D B W s.h w) {dT ty el : TypeId} {cs : List AV} (hel : elemS Y dT = some el) (hcs : zeroT Y el = some cs) {x v : AV} {X : Value}
    (h : clrF cs x s = some (v, s')) (hX : VR β D x X) : Gives P β D B W s s' v (Builtin.clear_ #[dT] ty #[X]) w := by
  have hu := elemS_ok hY hel
  obtain ⟨i, zv, hi', hz, hzr, hzv, o1, hlen, hYt⟩ := zeroT_ok hY hcs β D
  have hzs : zv.cells.size = i.size := by have := hzv.length; simp at this; omega
  have hmade : ∀ n, Builtin.zeroCells zv.cells n = madeCells zv.cells (n * i.size) := fun n => by simp [Builtin.zeroCells, madeCells, hzs]
  have tu : VR β D (.tu []) (.tuple #[]) := by simp only [VR]; exact ⟨[], rfl, VRs.nil⟩
  cases x <;> first | (simp only [clrF, M.no] at h; cases h; done) | skip
  · obtain ⟨rfl, rfl⟩ := pure_some h
    simp only [VR] at hX
    subst hX
    exact Gives.same hr tu (by simp [Builtin.clear_, run_underlying hu])
  · rename_i id off len cap
    obtain ⟨u0, t, h3, h4⟩ := bind_some h
    obtain ⟨rfl, rfl⟩ := pure_some h4
    simp only [VR] at hX
    obtain ⟨hd, rfl⟩ := hX
    have hrep := made_vr hzv len
    rw [hlen] at hrep
    obtain ⟨k1, k2, k3, k4⟩ := wr_ok (P := P) hr.hr hrep (repL_one o1 len) h3
    refine ⟨β, D, _, .tuple #[], by rw [k1]; exact Ext.refl _ _ _, ⟨k2, setCells_below _ _ (hr.hr.old id hd) _ _ _ _ hr.bel⟩, tu, ?_⟩
    cases len with
    | zero =>
      have : madeCells zv.cells (0 * i.size) = #[] := by simp [madeCells]
      rw [this]
      simp [Builtin.clear_, run_underlying hu]
      rfl
    | succ len => simp [Builtin.clear_, run_underlying hu, hzr, hmade, k4]
  · rename_i id off len k w'
    obtain ⟨u0, t, h3, h4⟩ := bind_some h
    obtain ⟨rfl, rfl⟩ := pure_some h4
    simp only [VR] at hX
    obtain ⟨hd, hlk, q, cap, rfl, hkc, hq, hlim⟩ := hX
    have hrep := made_vr hzv len
    rw [hlen] at hrep
    obtain ⟨k1, k2, k3, k4⟩ := wr_ok (P := P) hr.hr hrep (repL_one o1 len) h3
    refine ⟨β, D, _, .tuple #[], by rw [k1]; exact Ext.refl _ _ _, ⟨k2, setCells_below _ _ (hr.hr.old id hd) _ _ _ _ hr.bel⟩, tu, ?_⟩
    cases len with
    | zero =>
      have : madeCells zv.cells (0 * i.size) = #[] := by simp [madeCells]
      rw [this]
      simp [Builtin.clear_, run_underlying hu]
      rfl
    | succ len =>
      rw [hq.resolve_left (by omega)]
      simp [Builtin.clear_, run_underlying hu, hzr, hmade, k4]

/-- A text as bytes of one's own. -/
theorem cvb_ok (hr : Rel β D B W s.h w) {sT dT el : TypeId} (hs : P.underlying sT = some .string) (hd : P.underlying dT = some (.slice el)) (he : P.underlying el = some (.int .u8)) {x v : AV} {X : Value}
    (h : cvbF x s = some (v, s')) (hX : VR β D x X) (hf : Fresh D s.n.num s'.n.num) : Gives P β D B W s s' v (convert sT dT X) w := by
  cases x <;> first | (simp only [cvbF, M.no] at h; cases h; done) | skip
  rename_i b
  obtain ⟨hlb, h⟩ := ifB_some h
  have hlb' : b.length ≤ 1048576 := Nat.le_of_ble_eq_true hlb
  obtain ⟨id, u, h1, h2⟩ := bind_some h
  obtain ⟨rfl, rfl⟩ := pure_some h2
  simp only [VR] at hX
  obtain ⟨rfl, hb⟩ := hX
  have hsz : (⟨(b.map UInt8.ofNat).toArray⟩ : ByteArray).size = b.length := by show (List.map UInt8.ofNat b).toArray.size = _; simp
  have hrun := run_bytes_of_string (P := P) w sT dT el ⟨(b.map UInt8.ofNat).toArray⟩ hs hd he
  rw [hsz] at hrun
  have hid := (new_ok hr.hr h1).1
  have hge := grownCap_ge w b.length 0 el
  have hcs : (bytesRow ⟨(b.map UInt8.ofNat).toArray⟩ (grownCap w b.length 0 el)).size = grownCap w b.length 0 el := by
    simp [bytesRow, hsz]
    omega
  refine Gives.fresh hr h1 hf (.inr rfl) _ el _ ?_ ?_ (fun e => by simp at e) hrun ?_
  · exact .inr (Nat.le_refl _)
  · refine ⟨?_, ?_, fun j v hv => ?_⟩
    · rw [hcs]; simp [bytesL]; exact hge
    · intro v hv
      simp only [bytesL, List.mem_map] at hv
      obtain ⟨_, _, rfl⟩ := hv
      rfl
    · simp only [bytesL, List.getElem?_map] at hv
      cases hq : b[j]? with
      | none => rw [hq] at hv; cases hv
      | some q =>
        rw [hq] at hv
        simp only [Option.map_some, Option.some.injEq] at hv
        subst hv
        have hj : j < b.length := (List.getElem?_eq_some_iff.1 hq).1
        have hqlt := hb q (List.mem_of_getElem? hq)
        refine ⟨.int .u8 (q : Int), ?_, by simp only [VR]; rfl⟩
        simp only [bytesRow, Nat.zero_add]
        rw [Array.getElem?_append_left (by simp; exact hj)]
        simp [hq]
        omega
  · simp only [VR]
    subst hid
    rw [named_same]
    refine ⟨.inr rfl, Nat.le_refl _, _, _, rfl, ⟨hge, grownCap_le_maxLen _ _ _ _ (show _ ≤ 9223372036854775807 by omega)⟩, .inr rfl, ?_⟩
    simp only [hcs]
    omega
theorem bytesOf_ok : ∀ {l : List AV} {bs : List Nat} {Vs : List Value}, bytesOf l = some bs → VRs β D l Vs → Vs = bs.map (fun n : Nat => Value.int .u8 (n : Int)) ∧ ∀ b ∈ bs, b < 256
  | [], bs, Vs, h, hv => by
    simp only [bytesOf] at h
    cases h
    simp only [VRs] at hv
    exact ⟨hv, by simp⟩
  | v :: l, bs, Vs, h, hv => by
    simp only [VRs] at hv
    obtain ⟨V, Us, rfl, hV, hU⟩ := hv
    cases v <;> simp only [bytesOf] at h <;> try (cases h; done)
    rename_i k x
    cases k <;> try (cases h; done)
    cases x <;> try (cases h; done)
    rename_i q
    simp only at h
    cases hb : Nat.blt q 256 <;> rw [hb] at h <;> simp only at h
    · cases h
    · cases hr : bytesOf l <;> rw [hr] at h <;> simp only at h <;> cases h
      obtain ⟨e1, e2⟩ := bytesOf_ok hr hU
      simp only [VR] at hV
      refine ⟨by rw [hV, e1]; rfl, fun b hbm => ?_⟩
      rcases List.mem_cons.1 hbm with rfl | hbm
      · exact Nat.le_of_ble_eq_true hb
      · exact e2 b hbm
/-- Bytes as a text. -/
theorem cvt_ok (hr : Rel β D B W s.h w) {sT dT el : TypeId} (hs : P.underlying sT = some (.slice el)) (hd : P.underlying dT = some .string) (he : P.underlying el = some (.int .u8)) {x v : AV} {X : Value}
    (h : cvtF x s = some (v, s')) (hX : VR β D x X) : Gives P β D B W s s' v (convert sT dT X) w := by
  have fin : ∀ {id : Id} {off len cap q : Nat}, M.bind (M.rd id off len) cvtL s = some (v, s') → (len ≠ 0 → q = (β id).base + off) → Gives P β D B W s s' v (convert sT dT (.slice (some ⟨(β id).blk, q, none⟩) len cap)) w := by
    intro id off len cap q h hq
    obtain ⟨l, u, h1, h2⟩ := bind_some h
    obtain ⟨bs, hbs, h3⟩ := ofO_some h2
    obtain ⟨rfl, rfl⟩ := pure_some h3
    obtain ⟨g1, g2, g3, Vs, g4, g5, g6, g7, g8⟩ := rd_ok hr.hr h1
    obtain ⟨e1, e2⟩ := bytesOf_ok hbs g4
    have hbl : (bs.map UInt8.ofNat).length = len := by rw [e1] at g5; simpa using g5
    have := run_convert_bytes_back (P := P) w sT dT el ⟨(β id).blk, q, none⟩ cap (bs.map UInt8.ofNat) hs he hd (fun j hj => by
      rw [add_at, hq (by omega)]
      refine g6 j _ ?_
      rw [e1]
      have hj' : j < bs.length := by simpa using hj
      have hlt := e2 bs[j] (List.getElem_mem hj')
      simp [hj']
      omega)
    rw [hbl] at this
    exact ⟨β, D, w, .string ⟨(bs.map UInt8.ofNat).toArray⟩, by rw [g2]; exact Ext.refl _ _ _, ⟨by rw [g1]; exact hr.hr, hr.bel⟩, by simp only [VR]; first | exact ⟨rfl, e2⟩ | exact ⟨trivial, e2⟩, this⟩
  cases x <;> first | (simp only [cvtF, M.no] at h; cases h; done) | skip
  · obtain ⟨rfl, rfl⟩ := pure_some h
    simp only [VR] at hX
    subst hX
    exact Gives.same hr (V := .string .empty) (by simp only [VR]; exact ⟨rfl, by simp⟩) (by simp [convert, run_underlying hs, run_underlying hd, run_underlying he, Conv.bytesToString])
  · simp only [VR] at hX
    obtain ⟨_, rfl⟩ := hX
    exact fin h (fun _ => rfl)
  · simp only [VR] at hX
    obtain ⟨_, hlk, q, cap, rfl, hkc, hq, _⟩ := hX
    exact fin h (fun h0 => hq.resolve_left (by omega))
end
end Ev
end Go.Proofs.Ytijnjnncgkhabaa
