/- DERIVED. The document's vars and Text: how long they are. -/
import Derived.Lib.SlBytesConst
import Derived.Laws.BytesArg
import Derived.Deep.DeepCutAuto
import Derived.Test.YtncfbaabhceeoaaQK3
import Derived.Test.YtncfbaabhceeoaaQK14
import Derived.Test.YtncfbaabhceeoaaQK15
import Derived.Test.YtncfbaabhceeoaaQK16
set_option linter.all false
namespace Go.Proofs.Ytncfbaabhceeoaa
open Go.RowKit

/-- Bytes that can be read, k of them. -/
def MadeV (w w' : World) (v : Value) (k : Nat) : Prop := ∃ L, Vw encB w' w'.heap.size v L ∧ L.length = k ∧ Below w.heap.size w w'
theorem MadeK.v {w w' : World} {v : Value} {k : Nat} (h : MadeK w w' v k) : MadeV w w' v k := by
  obtain ⟨og, L, h1, h2, h3, h4⟩ := h
  exact ⟨L, h1.vw, h2, h4⟩
def sizes (zs : List Nat) : Nat := (zs.map vsize).foldr (· + ·) 0
theorem sizes_le (zs : List Nat) : sizes zs ≤ 8 * zs.length := by
  induction zs with
  | nil => exact Nat.le_refl _
  | cons z zs ih =>
    have h : sizes (z :: zs) = vsize z + sizes zs := rfl
    have := vsize_le z
    rw [h, List.length_cons]
    omega
theorem sizes_snoc {zs : List Nat} {m z : Nat} (h : zs[m]? = some z) : sizes (zs.take (m + 1)) = sizes (zs.take m) + vsize z := by
  have hs : ∀ l : List Nat, sizes (l ++ [z]) = sizes l + vsize z := fun l => by
    induction l with
    | nil => show vsize z + 0 = 0 + vsize z; omega
    | cons a l ih =>
      show vsize a + sizes (l ++ [z]) = vsize a + sizes l + vsize z
      omega
  rw [take_snoc' h, hs]
set_option maxRecDepth 100000 in
set_option maxHeartbeats 1000000 in
theorem rvars_any (v u : Value) (B B2 : Nat) (xs zs : List Nat) (w : World) (h : Vw encB w B v xs) (hB : B ≤ w.heap.size) (hl : xs.length ≤ 5000) (hz : Vw encU w B2 u zs) (hB2 : B2 ≤ w.heap.size) (hzl : zs.length ≤ 10) (hzb : ∀ z ∈ zs, z ≤ 4611686018427387903) :
    Calls Try.prog 40 #[v, u] w fun e w' => ∃ v', e = .returned v' ∧ MadeV w w' v' (xs.length + sizes zs) := by
  obtain ⟨oz, capz, rfl, hcz1, hcz2⟩ := hz.shape
  have HZ := Lib.hid hz
  have HZB := Lib.hid hzb
  have hsl := sizes_le zs
  obtain ⟨nz, hnz⟩ : ∃ nz, zs.length = nz := ⟨_, rfl⟩
  have HNZ := Lib.hid hnz
  rw [hnz] at hcz1 hsl hzl ⊢
  have H0 := Lib.hid (show MadeV w w v (xs.length + sizes (zs.take 0)) from ⟨xs, h.below ((Below.refl _ _).mono hB) |>.mono hB, rfl, Below.refl _ _⟩)
  obtain ⟨lx, hlx⟩ : ∃ lx, xs.length = lx := ⟨_, rfl⟩
  rw [hlx] at H0 hl ⊢
  obtain ⟨oa, cap, rfl, _, _⟩ := h.shape
  rw [hlx] at H0 ⊢
  clear h hz hzb hnz hlx
  go_enter Try.func40, Try.ntmps40
  go_wp2_with fail
  go_loopw [0, 5] (fun v i wr => ∃ m : Nat, i = .int .i64 m ∧ m ≤ nz ∧ MadeV w wr v (lx + sizes (zs.take m))) (fun _ i _ => nz - (intOf i).toNat)
  case atStart => exact ⟨0, rfl, by omega, H0.out⟩
  case round =>
    obtain ⟨m, rfl, hm, L, hv, hL, hb⟩ := hrel
    have HV := Lib.hid hv
    have HB := Lib.hid hb
    have HL := Lib.hid hL
    clear hv hb hL H0
    by_cases hlt : m < nz
    · obtain ⟨z, hz⟩ : ∃ z, zs[m]? = some z := ⟨_, List.getElem?_eq_getElem (by rw [HNZ.out]; exact hlt)⟩
      obtain ⟨c, ofc, rfl, hc, q0⟩ := HZ.out.num64 hz
      have hzb := HZB.out z (List.mem_of_getElem? hz)
      have q0 := cell_keep HB.out (Nat.lt_of_lt_of_le hc hB2) q0
      have hsn := sizes_snoc hz
      have hst := sizes_le (zs.take m)
      rw [List.length_take, HNZ.out] at hst
      have HSN := Lib.hid hsn
      clear hz hsn
      go_wp2_with fail
      refine (rput_any _ _ z L _ (by exact HV.out) (Nat.le_refl _) (by rw [HL.out]; omega) hzb).mono ?_
      rintro e w2 ⟨v2, rfl, hm2⟩
      have HN := Lib.hid (show MadeV w w2 v2 (lx + sizes (zs.take (m + 1))) from by
        obtain ⟨L2, h1, h2, h3⟩ := hm2.v
        exact ⟨L2, h1, by rw [h2, HL.out, HSN.out]; omega, below_call HB.out HB.out.size h3⟩)
      clear hm2
      go_wp2_with fail
      go_roundw
      case rel => exact ⟨m + 1, by go_num, by omega, HN.out⟩
      case measure => simp [intOf]; omega
    · obtain rfl : m = nz := by omega
      go_wp2_with fail
      go_ret
      refine ⟨_, rfl, L, HV.out, ?_, HB.out⟩
      rw [HL.out, List.take_of_length_le (by rw [HNZ.out]; exact Nat.le_refl _)]
set_option maxRecDepth 100000 in
set_option maxHeartbeats 1000000 in
theorem rtext_any (v u : Value) (B B2 : Nat) (xs zs : List Nat) (w : World) (h : Vw encB w B v xs) (hB : B ≤ w.heap.size) (hl : xs.length ≤ 5000) (hz : Vw encB w B2 u zs) (hB2 : B2 ≤ w.heap.size) (hzl : zs.length ≤ 5000) :
    Calls Try.prog 41 #[v, u] w fun e w' => ∃ v', e = .returned v' ∧ MadeK w w' v' (xs.length + vsize zs.length + zs.length) := by
  obtain ⟨i0, hi0, hz0, hz1, hz2'⟩ := info_parts infoB
  obtain ⟨oz, capz, rfl, hcz1, hcz2⟩ := hz.shape
  have HZ := Lib.hid hz
  have H := Lib.hid h
  obtain ⟨nz, hnz⟩ : ∃ nz, zs.length = nz := ⟨_, rfl⟩
  have HNZ := Lib.hid hnz
  rw [hnz] at hcz1 hzl HZ ⊢
  have hv8 := vsize_le nz
  clear h hz hnz
  go_enter Try.func41, Try.ntmps41
  go_wp2_with fail
  refine (rput_any _ _ nz xs _ (by exact H.out) hB (by omega) (by omega)).mono ?_
  rintro e w2 ⟨v2, rfl, og2, L2, hs2, hl2, hg2, hb2⟩
  have HS2 := Lib.hid hs2
  have HL2 := Lib.hid hl2
  have HG2 := Lib.hid hg2
  have HB2 := Lib.hid hb2
  clear hs2 hl2 hg2 hb2
  go_wp2_with (refine wpList_pushV encB_len encB_one Try.underlying36 hi0 hz1 hz0 zeroB rfl (.tmp 9) (.tmp 10) rfl (by exact HS2.out) (by exact HZ.out.below (HB2.out.mono hB2)) rfl rfl (by rw [HL2.out, HNZ.out, hz2']; omega) (by rw [HL2.out, HNZ.out]; omega) ?_)
  intro W3 v3 og3 hs3 ho3 hu3
  have HN := Lib.hid (show MadeK w W3 v3 (xs.length + vsize nz + nz) from ⟨og3, _, hs3, by rw [List.length_append, HL2.out, HNZ.out], og_new HG2.out HB2.out.size ho3, Upd.belowOf HB2.out hu3 (fun g hg q => by have := HG2.out g q; omega)⟩)
  clear hs3 ho3 hu3
  go_wp2_with fail
  go_ret
  exact ⟨_, rfl, HN.out⟩
end Go.Proofs.Ytncfbaabhceeoaa

/- DERIVED. How long the document's bytes of a Stream, of a Reset are (printed by mkrfone.py). -/
namespace Go.Proofs.Ytncfbaabhceeoaa
open Go.RowKit

theorem lit_vwU {w : World} {g n c : Nat} {cs : Array Value} {t : TypeId} {z : Nat × Nat} {xs : List Nat} (h : w.heap[g]? = some (.cells cs t z)) (hl : cs.toList = flat encU xs) (hn : n = xs.length) (hc : n ≤ c) (hc2 : c ≤ 9223372036854775807) :
    Vw encU w w.heap.size (.slice (some ⟨g, 0, none⟩) n c) xs := (lit_vwaU (fp := fun _ => False) h hl (fun q => q) hn hc hc2).vw
theorem MadeV.then {w w1 w' : World} {v : Value} {k : Nat} (hb : Below w.heap.size w w1) (h : MadeV w1 w' v k) : MadeV w w' v k := by
  obtain ⟨L, h1, h2, h3⟩ := h
  exact ⟨L, h1, h2, below_call hb hb.size h3⟩
set_option maxRecDepth 100000 in
set_option maxHeartbeats 2000000 in
theorem rone_4 (f : Fr) (w : World) (hk : f.kd = 4) (h1 : f.sid ≤ 4611686018427387903) (h2 : f.code ≤ 4611686018427387903) (h3 : f.fnl ≤ 4611686018427387903) {od od2 : Option Addr} {ln cd ln2 cd2 : Nat} (hvd : f.vd = .slice od ln cd) (hvr : f.vr = .slice od2 ln2 cd2) :
    Calls Try.prog 21 #[.agg (encF f).toArray] w fun e w' => ∃ v', e = .returned v' ∧ MadeV w w' v' (sizes [4] + sizes [f.sid, f.code, f.fnl]) := by
  obtain ⟨kd, sid, off, vd, fin, lim, code, fnl, seq, dly, vr, c0, c1, c2, c3, c4, c5, c6, c7⟩ := f
  simp only at hk h1 h2 h3 hvd hvr
  subst hk hvd hvr
  simp only [encF]
  obtain ⟨s1, hs1⟩ : ∃ s, sizes [4] = s := ⟨_, rfl⟩
  have hs1l := sizes_le [4]
  rw [hs1] at hs1l
  simp only [List.length_cons, List.length_nil] at hs1l
  obtain ⟨s2, hs2⟩ : ∃ s, sizes [sid, code, fnl] = s := ⟨_, rfl⟩
  have HS := Lib.hid (And.intro hs1 hs2)
  rw [hs1, hs2]
  clear hs1 hs2
  go_enter Try.func21, Try.ntmps21
  go_upto_region 0 with fail
  go_cut [1] (fun v wx => ∃ z, v = .pointer (some ⟨z, 0, none⟩) ∧ w.heap.size ≤ z ∧ Below w.heap.size w wx ∧ wx.heap[z]? = some (.cells #[.int .i64 4, .int .u64 sid, .int .u64 off, .slice od ln cd, .bool fin, .int .u64 lim, .int .u64 code, .int .u64 fnl, .int .u64 seq, .int .u64 dly, .slice od2 ln2 cd2,
      .int .u8 c0, .int .u8 c1, .int .u8 c2, .int .u8 c3, .int .u8 c4, .int .u8 c5, .int .u8 c6, .int .u8 c7] 39 (0, 0)))
  case first =>
    go_wp2_with fail
    go_meet
    case rel => exact ⟨_, rfl, Nat.le_refl _, (Below.refl _ _).alloc (Nat.le_refl _) _, alloc_at _ _⟩
  case rest =>
    obtain ⟨z, rfl, hz, hb1, hkz⟩ := hcut
    generalize wc = w1 at *
    have HB1 := Lib.hid hb1
    have HK1 := Lib.hid hkz
    clear hb1 hkz hz
    have z0 : w1.cell? ⟨z, 0, none⟩ = some (.int .i64 4) := (cell_at HK1.out 0).trans rfl
    have z1 : w1.cell? ⟨z, 1, none⟩ = some (.int .u64 sid) := (cell_at HK1.out 1).trans rfl
    have z6 : w1.cell? ⟨z, 6, none⟩ = some (.int .u64 code) := (cell_at HK1.out 6).trans rfl
    have z7 : w1.cell? ⟨z, 7, none⟩ = some (.int .u64 fnl) := (cell_at HK1.out 7).trans rfl
    go_wp2_with fail
    refine (rvars_any (.slice none 0 0) _ 0 _ [] [4] _ (Vw.nil _ _ _ _ (by omega)) (Nat.zero_le _) (by simp) (by exact lit_vwU (n := 1) (c := 1) (xs := [4]) (alloc_at _ _) rfl rfl (by omega) (by omega)) (Nat.le_refl _) (by simp) (by simp)).mono ?_
    rw [HS.out.1]
    rintro e w2 ⟨v2, rfl, L2, hv2, hl2, hb2⟩
    have HV2 := Lib.hid hv2
    have HL2 := Lib.hid (show L2.length = s1 by rw [hl2]; simp)
    have hb1s := HB1.out.size
    have hba := (Below.refl w1.heap.size w1).alloc (Nat.le_refl _) (.cells #[.int .u64 4] 25)
    have HB2 := Lib.hid (below_call HB1.out HB1.out.size (below_call hba hba.size hb2))
    have HK2 := Lib.hid (below_keeps (below_call hba hba.size hb2) HK1.out (heap_lt HK1.out))
    clear hv2 hl2 hb2 z0 z1 z6 z7 hba HK1 HB1
    have z0 : w2.cell? ⟨z, 0, none⟩ = some (.int .i64 4) := (cell_at HK2.out 0).trans rfl
    have z1 : w2.cell? ⟨z, 1, none⟩ = some (.int .u64 sid) := (cell_at HK2.out 1).trans rfl
    have z6 : w2.cell? ⟨z, 6, none⟩ = some (.int .u64 code) := (cell_at HK2.out 6).trans rfl
    have z7 : w2.cell? ⟨z, 7, none⟩ = some (.int .u64 fnl) := (cell_at HK2.out 7).trans rfl
    go_wp2_with fail
    refine (rvars_any v2 _ w2.heap.size _ L2 [sid, code, fnl] _ (by exact HV2.out.below ((Below.refl _ _).alloc (Nat.le_refl _) _)) (by simp) (by rw [HL2.out]; omega) (by exact lit_vwU (n := 3) (c := 3) (xs := [sid, code, fnl]) (alloc_at _ _) rfl rfl (by omega) (by omega)) (Nat.le_refl _) (by simp) (by simp; omega)).mono ?_
    rw [HS.out.2, HL2.out]
    rintro e w3 ⟨v3, rfl, hm⟩
    have HM := Lib.hid (MadeV.then (HB2.out.alloc HB2.out.size _) hm)
    clear hm
    go_wp2_with fail
    go_ret
    exact ⟨_, rfl, HM.out⟩

set_option maxRecDepth 100000 in
set_option maxHeartbeats 2000000 in
theorem rone_8zt (f : Fr) (D : List Nat) (B : Nat) (w : World) (hk : f.kd = 8) (h1 : f.sid ≤ 4611686018427387903) (ho : f.off = 0) (hfin : f.fin = true) (hvd : Vw encB w B f.vd D) (hB : B ≤ w.heap.size) (hD : D.length ≤ 2000) {od2 : Option Addr} {ln2 cd2 : Nat} (hvr : f.vr = .slice od2 ln2 cd2) :
    Calls Try.prog 21 #[.agg (encF f).toArray] w fun e w' => ∃ v', e = .returned v' ∧ MadeV w w' v' (sizes [11, f.sid] + vsize D.length + D.length) := by
  obtain ⟨kd, sid, off, vd, fin, lim, code, fnl, seq, dly, vr, c0, c1, c2, c3, c4, c5, c6, c7⟩ := f
  simp only at hk h1 ho hfin hvd hvr
  
  subst hk hfin hvr
  obtain ⟨od, cd, rfl, hcd1, hcd2⟩ := hvd.shape
  have HVD := Lib.hid hvd
  have HDL := Lib.hid hD
  generalize hln : D.length = ln at *
  have HLN := Lib.hid hln
  clear hvd hln
  simp only [encF]
  obtain ⟨s1, hs1⟩ : ∃ s, sizes [11, sid] = s := ⟨_, rfl⟩
  have hs1l := sizes_le [11, sid]
  rw [hs1] at hs1l
  simp only [List.length_cons, List.length_nil] at hs1l
  subst ho
  have HS := Lib.hid hs1
  rw [hs1]
  clear hs1
  go_enter Try.func21, Try.ntmps21
  go_upto_region 0 with fail
  go_cut [1] (fun v wx => ∃ z, v = .pointer (some ⟨z, 0, none⟩) ∧ w.heap.size ≤ z ∧ Below w.heap.size w wx ∧ wx.heap[z]? = some (.cells #[.int .i64 8, .int .u64 sid, .int .u64 0, .slice od ln cd, .bool true, .int .u64 lim, .int .u64 code, .int .u64 fnl, .int .u64 seq, .int .u64 dly, .slice od2 ln2 cd2,
      .int .u8 c0, .int .u8 c1, .int .u8 c2, .int .u8 c3, .int .u8 c4, .int .u8 c5, .int .u8 c6, .int .u8 c7] 39 (0, 0)))
  case first =>
    go_wp2_with fail
    go_meet
    case rel => exact ⟨_, rfl, Nat.le_refl _, (Below.refl _ _).alloc (Nat.le_refl _) _, alloc_at _ _⟩
  case rest =>
    obtain ⟨z, rfl, hz, hb1, hkz⟩ := hcut
    generalize wc = w1 at *
    have HB1 := Lib.hid hb1
    have HK1 := Lib.hid hkz
    clear hb1 hkz hz
    have z0 : w1.cell? ⟨z, 0, none⟩ = some (.int .i64 8) := (cell_at HK1.out 0).trans rfl
    have z1 : w1.cell? ⟨z, 1, none⟩ = some (.int .u64 sid) := (cell_at HK1.out 1).trans rfl
    have z2 : w1.cell? ⟨z, 2, none⟩ = some (.int .u64 0) := (cell_at HK1.out 2).trans rfl
    have z3 : w1.cell? ⟨z, 3, none⟩ = some (.slice od ln cd) := (cell_at HK1.out 3).trans rfl
    have z4 : w1.cell? ⟨z, 4, none⟩ = some (.bool true) := (cell_at HK1.out 4).trans rfl
    go_wp2_with fail
    refine (rvars_any (.slice none 0 0) _ 0 _ [] [8] _ (Vw.nil _ _ _ _ (by omega)) (Nat.zero_le _) (by simp) (by exact lit_vwU (n := 1) (c := 1) (xs := [8]) (alloc_at _ _) rfl rfl (by omega) (by omega)) (Nat.le_refl _) (by simp) (by simp)).mono ?_
    rintro e w2 ⟨v2, rfl, L2, hv2, hl2, hb2⟩
    obtain ⟨ov2, cv2, rfl, _, _⟩ := hv2.shape
    have hb1s := HB1.out.size
    have hba := (Below.refl w1.heap.size w1).alloc (Nat.le_refl _) (.cells #[.int .u64 8] 25)
    have HB2 := Lib.hid (below_call HB1.out HB1.out.size (below_call hba hba.size hb2))
    have HK2 := Lib.hid (below_keeps (below_call hba hba.size hb2) HK1.out (heap_lt HK1.out))
    clear hv2 hl2 hb2 z0 z1 z2 z3 z4 hba HK1 HB1
    have z0 : w2.cell? ⟨z, 0, none⟩ = some (.int .i64 8) := (cell_at HK2.out 0).trans rfl
    have z1 : w2.cell? ⟨z, 1, none⟩ = some (.int .u64 sid) := (cell_at HK2.out 1).trans rfl
    have z2 : w2.cell? ⟨z, 2, none⟩ = some (.int .u64 0) := (cell_at HK2.out 2).trans rfl
    have z3 : w2.cell? ⟨z, 3, none⟩ = some (.slice od ln cd) := (cell_at HK2.out 3).trans rfl
    have z4 : w2.cell? ⟨z, 4, none⟩ = some (.bool true) := (cell_at HK2.out 4).trans rfl
    go_wp2_with fail
    refine (rvars_any (.slice none 0 0) _ 0 _ [] [11, sid] _ (Vw.nil _ _ _ _ (by omega)) (Nat.zero_le _) (by simp) (by exact lit_vwU (n := 2) (c := 2) (xs := [11, sid]) (alloc_at _ _) rfl rfl (by omega) (by omega)) (Nat.le_refl _) (by simp) (by simp; omega)).mono ?_
    rw [HS.out]
    rintro e w3 ⟨v3, rfl, L3, hv3, hl3, hb3⟩
    have HV3 := Lib.hid hv3
    have HL3 := Lib.hid (show L3.length = s1 by rw [hl3]; simp)
    have hba := (Below.refl w2.heap.size w2).alloc (Nat.le_refl _) (.cells #[.int .u64 11, .int .u64 sid] 25)
    have HB3 := Lib.hid (below_call HB2.out HB2.out.size (below_call hba hba.size hb3))
    have HK3 := Lib.hid (below_keeps (below_call hba hba.size hb3) HK2.out (heap_lt HK2.out))
    clear hv3 hl3 hb3 z0 z1 z2 z3 z4 hba HK2 HB2
    have z2 : w3.cell? ⟨z, 2, none⟩ = some (.int .u64 0) := (cell_at HK3.out 2).trans rfl
    have z3 : w3.cell? ⟨z, 3, none⟩ = some (.slice od ln cd) := (cell_at HK3.out 3).trans rfl
    go_wp2_with fail
    refine (rtext_any v3 (.slice od ln cd) w3.heap.size B L3 D _ (by exact HV3.out) (Nat.le_refl _) (by rw [HL3.out]; omega) (by exact HVD.out.below (HB3.out.mono hB)) (by have := HB3.out.size; omega) (by rw [HLN.out]; omega)).mono ?_
    rw [HL3.out, HLN.out]
    rintro e w5 ⟨v5, rfl, hm⟩
    have HM := Lib.hid (MadeV.then HB3.out hm.v)
    clear hm
    go_wp2_with fail
    go_ret
    exact ⟨_, rfl, HM.out⟩

set_option maxRecDepth 100000 in
set_option maxHeartbeats 2000000 in
theorem rone_8zf (f : Fr) (D : List Nat) (B : Nat) (w : World) (hk : f.kd = 8) (h1 : f.sid ≤ 4611686018427387903) (ho : f.off = 0) (hfin : f.fin = false) (hvd : Vw encB w B f.vd D) (hB : B ≤ w.heap.size) (hD : D.length ≤ 2000) {od2 : Option Addr} {ln2 cd2 : Nat} (hvr : f.vr = .slice od2 ln2 cd2) :
    Calls Try.prog 21 #[.agg (encF f).toArray] w fun e w' => ∃ v', e = .returned v' ∧ MadeV w w' v' (sizes [10, f.sid] + vsize D.length + D.length) := by
  obtain ⟨kd, sid, off, vd, fin, lim, code, fnl, seq, dly, vr, c0, c1, c2, c3, c4, c5, c6, c7⟩ := f
  simp only at hk h1 ho hfin hvd hvr
  
  subst hk hfin hvr
  obtain ⟨od, cd, rfl, hcd1, hcd2⟩ := hvd.shape
  have HVD := Lib.hid hvd
  have HDL := Lib.hid hD
  generalize hln : D.length = ln at *
  have HLN := Lib.hid hln
  clear hvd hln
  simp only [encF]
  obtain ⟨s1, hs1⟩ : ∃ s, sizes [10, sid] = s := ⟨_, rfl⟩
  have hs1l := sizes_le [10, sid]
  rw [hs1] at hs1l
  simp only [List.length_cons, List.length_nil] at hs1l
  subst ho
  have HS := Lib.hid hs1
  rw [hs1]
  clear hs1
  go_enter Try.func21, Try.ntmps21
  go_upto_region 0 with fail
  go_cut [1] (fun v wx => ∃ z, v = .pointer (some ⟨z, 0, none⟩) ∧ w.heap.size ≤ z ∧ Below w.heap.size w wx ∧ wx.heap[z]? = some (.cells #[.int .i64 8, .int .u64 sid, .int .u64 0, .slice od ln cd, .bool false, .int .u64 lim, .int .u64 code, .int .u64 fnl, .int .u64 seq, .int .u64 dly, .slice od2 ln2 cd2,
      .int .u8 c0, .int .u8 c1, .int .u8 c2, .int .u8 c3, .int .u8 c4, .int .u8 c5, .int .u8 c6, .int .u8 c7] 39 (0, 0)))
  case first =>
    go_wp2_with fail
    go_meet
    case rel => exact ⟨_, rfl, Nat.le_refl _, (Below.refl _ _).alloc (Nat.le_refl _) _, alloc_at _ _⟩
  case rest =>
    obtain ⟨z, rfl, hz, hb1, hkz⟩ := hcut
    generalize wc = w1 at *
    have HB1 := Lib.hid hb1
    have HK1 := Lib.hid hkz
    clear hb1 hkz hz
    have z0 : w1.cell? ⟨z, 0, none⟩ = some (.int .i64 8) := (cell_at HK1.out 0).trans rfl
    have z1 : w1.cell? ⟨z, 1, none⟩ = some (.int .u64 sid) := (cell_at HK1.out 1).trans rfl
    have z2 : w1.cell? ⟨z, 2, none⟩ = some (.int .u64 0) := (cell_at HK1.out 2).trans rfl
    have z3 : w1.cell? ⟨z, 3, none⟩ = some (.slice od ln cd) := (cell_at HK1.out 3).trans rfl
    have z4 : w1.cell? ⟨z, 4, none⟩ = some (.bool false) := (cell_at HK1.out 4).trans rfl
    go_wp2_with fail
    refine (rvars_any (.slice none 0 0) _ 0 _ [] [8] _ (Vw.nil _ _ _ _ (by omega)) (Nat.zero_le _) (by simp) (by exact lit_vwU (n := 1) (c := 1) (xs := [8]) (alloc_at _ _) rfl rfl (by omega) (by omega)) (Nat.le_refl _) (by simp) (by simp)).mono ?_
    rintro e w2 ⟨v2, rfl, L2, hv2, hl2, hb2⟩
    obtain ⟨ov2, cv2, rfl, _, _⟩ := hv2.shape
    have hb1s := HB1.out.size
    have hba := (Below.refl w1.heap.size w1).alloc (Nat.le_refl _) (.cells #[.int .u64 8] 25)
    have HB2 := Lib.hid (below_call HB1.out HB1.out.size (below_call hba hba.size hb2))
    have HK2 := Lib.hid (below_keeps (below_call hba hba.size hb2) HK1.out (heap_lt HK1.out))
    clear hv2 hl2 hb2 z0 z1 z2 z3 z4 hba HK1 HB1
    have z0 : w2.cell? ⟨z, 0, none⟩ = some (.int .i64 8) := (cell_at HK2.out 0).trans rfl
    have z1 : w2.cell? ⟨z, 1, none⟩ = some (.int .u64 sid) := (cell_at HK2.out 1).trans rfl
    have z2 : w2.cell? ⟨z, 2, none⟩ = some (.int .u64 0) := (cell_at HK2.out 2).trans rfl
    have z3 : w2.cell? ⟨z, 3, none⟩ = some (.slice od ln cd) := (cell_at HK2.out 3).trans rfl
    have z4 : w2.cell? ⟨z, 4, none⟩ = some (.bool false) := (cell_at HK2.out 4).trans rfl
    go_wp2_with fail
    refine (rvars_any (.slice none 0 0) _ 0 _ [] [10, sid] _ (Vw.nil _ _ _ _ (by omega)) (Nat.zero_le _) (by simp) (by exact lit_vwU (n := 2) (c := 2) (xs := [10, sid]) (alloc_at _ _) rfl rfl (by omega) (by omega)) (Nat.le_refl _) (by simp) (by simp; omega)).mono ?_
    rw [HS.out]
    rintro e w3 ⟨v3, rfl, L3, hv3, hl3, hb3⟩
    have HV3 := Lib.hid hv3
    have HL3 := Lib.hid (show L3.length = s1 by rw [hl3]; simp)
    have hba := (Below.refl w2.heap.size w2).alloc (Nat.le_refl _) (.cells #[.int .u64 10, .int .u64 sid] 25)
    have HB3 := Lib.hid (below_call HB2.out HB2.out.size (below_call hba hba.size hb3))
    have HK3 := Lib.hid (below_keeps (below_call hba hba.size hb3) HK2.out (heap_lt HK2.out))
    clear hv3 hl3 hb3 z0 z1 z2 z3 z4 hba HK2 HB2
    have z2 : w3.cell? ⟨z, 2, none⟩ = some (.int .u64 0) := (cell_at HK3.out 2).trans rfl
    have z3 : w3.cell? ⟨z, 3, none⟩ = some (.slice od ln cd) := (cell_at HK3.out 3).trans rfl
    go_wp2_with fail
    refine (rtext_any v3 (.slice od ln cd) w3.heap.size B L3 D _ (by exact HV3.out) (Nat.le_refl _) (by rw [HL3.out]; omega) (by exact HVD.out.below (HB3.out.mono hB)) (by have := HB3.out.size; omega) (by rw [HLN.out]; omega)).mono ?_
    rw [HL3.out, HLN.out]
    rintro e w5 ⟨v5, rfl, hm⟩
    have HM := Lib.hid (MadeV.then HB3.out hm.v)
    clear hm
    go_wp2_with fail
    go_ret
    exact ⟨_, rfl, HM.out⟩

set_option maxRecDepth 100000 in
set_option maxHeartbeats 2000000 in
theorem rone_8pt (f : Fr) (D : List Nat) (B : Nat) (w : World) (hk : f.kd = 8) (h1 : f.sid ≤ 4611686018427387903) (ho : 0 < f.off) (ho2 : f.off ≤ 4611686018427387903) (hfin : f.fin = true) (hvd : Vw encB w B f.vd D) (hB : B ≤ w.heap.size) (hD : D.length ≤ 2000) {od2 : Option Addr} {ln2 cd2 : Nat} (hvr : f.vr = .slice od2 ln2 cd2) :
    Calls Try.prog 21 #[.agg (encF f).toArray] w fun e w' => ∃ v', e = .returned v' ∧ MadeV w w' v' (sizes [15, f.sid] + sizes [f.off] + vsize D.length + D.length) := by
  obtain ⟨kd, sid, off, vd, fin, lim, code, fnl, seq, dly, vr, c0, c1, c2, c3, c4, c5, c6, c7⟩ := f
  simp only at hk h1 ho hfin hvd hvr
  simp only at ho2
  subst hk hfin hvr
  obtain ⟨od, cd, rfl, hcd1, hcd2⟩ := hvd.shape
  have HVD := Lib.hid hvd
  have HDL := Lib.hid hD
  generalize hln : D.length = ln at *
  have HLN := Lib.hid hln
  clear hvd hln
  simp only [encF]
  obtain ⟨s1, hs1⟩ : ∃ s, sizes [15, sid] = s := ⟨_, rfl⟩
  have hs1l := sizes_le [15, sid]
  rw [hs1] at hs1l
  simp only [List.length_cons, List.length_nil] at hs1l
  have hoi : (0 : Int) < (off : Int) := by omega
  obtain ⟨s2, hs2⟩ : ∃ s, sizes [off] = s := ⟨_, rfl⟩
  have hs2l := sizes_le [off]
  rw [hs2] at hs2l
  simp only [List.length_cons, List.length_nil] at hs2l
  have HS := Lib.hid hs1
  have HS2 := Lib.hid hs2
  rw [hs1, hs2]
  clear hs1 hs2
  go_enter Try.func21, Try.ntmps21
  go_upto_region 0 with fail
  go_cut [1] (fun v wx => ∃ z, v = .pointer (some ⟨z, 0, none⟩) ∧ w.heap.size ≤ z ∧ Below w.heap.size w wx ∧ wx.heap[z]? = some (.cells #[.int .i64 8, .int .u64 sid, .int .u64 off, .slice od ln cd, .bool true, .int .u64 lim, .int .u64 code, .int .u64 fnl, .int .u64 seq, .int .u64 dly, .slice od2 ln2 cd2,
      .int .u8 c0, .int .u8 c1, .int .u8 c2, .int .u8 c3, .int .u8 c4, .int .u8 c5, .int .u8 c6, .int .u8 c7] 39 (0, 0)))
  case first =>
    go_wp2_with fail
    go_meet
    case rel => exact ⟨_, rfl, Nat.le_refl _, (Below.refl _ _).alloc (Nat.le_refl _) _, alloc_at _ _⟩
  case rest =>
    obtain ⟨z, rfl, hz, hb1, hkz⟩ := hcut
    generalize wc = w1 at *
    have HB1 := Lib.hid hb1
    have HK1 := Lib.hid hkz
    clear hb1 hkz hz
    have z0 : w1.cell? ⟨z, 0, none⟩ = some (.int .i64 8) := (cell_at HK1.out 0).trans rfl
    have z1 : w1.cell? ⟨z, 1, none⟩ = some (.int .u64 sid) := (cell_at HK1.out 1).trans rfl
    have z2 : w1.cell? ⟨z, 2, none⟩ = some (.int .u64 off) := (cell_at HK1.out 2).trans rfl
    have z3 : w1.cell? ⟨z, 3, none⟩ = some (.slice od ln cd) := (cell_at HK1.out 3).trans rfl
    have z4 : w1.cell? ⟨z, 4, none⟩ = some (.bool true) := (cell_at HK1.out 4).trans rfl
    go_wp2_with fail
    refine (rvars_any (.slice none 0 0) _ 0 _ [] [8] _ (Vw.nil _ _ _ _ (by omega)) (Nat.zero_le _) (by simp) (by exact lit_vwU (n := 1) (c := 1) (xs := [8]) (alloc_at _ _) rfl rfl (by omega) (by omega)) (Nat.le_refl _) (by simp) (by simp)).mono ?_
    rintro e w2 ⟨v2, rfl, L2, hv2, hl2, hb2⟩
    obtain ⟨ov2, cv2, rfl, _, _⟩ := hv2.shape
    have hb1s := HB1.out.size
    have hba := (Below.refl w1.heap.size w1).alloc (Nat.le_refl _) (.cells #[.int .u64 8] 25)
    have HB2 := Lib.hid (below_call HB1.out HB1.out.size (below_call hba hba.size hb2))
    have HK2 := Lib.hid (below_keeps (below_call hba hba.size hb2) HK1.out (heap_lt HK1.out))
    clear hv2 hl2 hb2 z0 z1 z2 z3 z4 hba HK1 HB1
    have z0 : w2.cell? ⟨z, 0, none⟩ = some (.int .i64 8) := (cell_at HK2.out 0).trans rfl
    have z1 : w2.cell? ⟨z, 1, none⟩ = some (.int .u64 sid) := (cell_at HK2.out 1).trans rfl
    have z2 : w2.cell? ⟨z, 2, none⟩ = some (.int .u64 off) := (cell_at HK2.out 2).trans rfl
    have z3 : w2.cell? ⟨z, 3, none⟩ = some (.slice od ln cd) := (cell_at HK2.out 3).trans rfl
    have z4 : w2.cell? ⟨z, 4, none⟩ = some (.bool true) := (cell_at HK2.out 4).trans rfl
    go_wp2_with fail
    refine (rvars_any (.slice none 0 0) _ 0 _ [] [15, sid] _ (Vw.nil _ _ _ _ (by omega)) (Nat.zero_le _) (by simp) (by exact lit_vwU (n := 2) (c := 2) (xs := [15, sid]) (alloc_at _ _) rfl rfl (by omega) (by omega)) (Nat.le_refl _) (by simp) (by simp; omega)).mono ?_
    rw [HS.out]
    rintro e w3 ⟨v3, rfl, L3, hv3, hl3, hb3⟩
    have HV3 := Lib.hid hv3
    have HL3 := Lib.hid (show L3.length = s1 by rw [hl3]; simp)
    have hba := (Below.refl w2.heap.size w2).alloc (Nat.le_refl _) (.cells #[.int .u64 15, .int .u64 sid] 25)
    have HB3 := Lib.hid (below_call HB2.out HB2.out.size (below_call hba hba.size hb3))
    have HK3 := Lib.hid (below_keeps (below_call hba hba.size hb3) HK2.out (heap_lt HK2.out))
    clear hv3 hl3 hb3 z0 z1 z2 z3 z4 hba HK2 HB2
    have z2 : w3.cell? ⟨z, 2, none⟩ = some (.int .u64 off) := (cell_at HK3.out 2).trans rfl
    have z3 : w3.cell? ⟨z, 3, none⟩ = some (.slice od ln cd) := (cell_at HK3.out 3).trans rfl
    go_wp2_with fail
    refine (rvars_any v3 _ w3.heap.size _ L3 [off] _ (by exact HV3.out.below ((Below.refl _ _).alloc (Nat.le_refl _) _)) (by simp) (by rw [HL3.out]; omega) (by exact lit_vwU (n := 1) (c := 1) (xs := [off]) (alloc_at _ _) rfl rfl (by omega) (by omega)) (Nat.le_refl _) (by simp) (by simp; omega)).mono ?_
    rw [HS2.out, HL3.out]
    rintro e w4 ⟨v4, rfl, L4, hv4, hl4, hb4⟩
    have HV4 := Lib.hid hv4
    have HL4 := Lib.hid hl4
    have hba := (Below.refl w3.heap.size w3).alloc (Nat.le_refl _) (.cells #[.int .u64 off] 25)
    have HB4 := Lib.hid (below_call HB3.out HB3.out.size (below_call hba hba.size hb4))
    have HK4 := Lib.hid (below_keeps (below_call hba hba.size hb4) HK3.out (heap_lt HK3.out))
    clear hv4 hl4 hb4 z2 z3 hba HK3 HB3
    have z3 : w4.cell? ⟨z, 3, none⟩ = some (.slice od ln cd) := (cell_at HK4.out 3).trans rfl
    go_wp2_with fail
    refine (rtext_any v4 (.slice od ln cd) w4.heap.size B L4 D _ (by exact HV4.out) (Nat.le_refl _) (by rw [HL4.out]; omega) (by exact HVD.out.below (HB4.out.mono hB)) (by have := HB4.out.size; omega) (by rw [HLN.out]; omega)).mono ?_
    rw [HL4.out, HLN.out]
    rintro e w5 ⟨v5, rfl, hm⟩
    have HM := Lib.hid (MadeV.then HB4.out hm.v)
    clear hm
    go_wp2_with fail
    go_ret
    exact ⟨_, rfl, HM.out⟩

set_option maxRecDepth 100000 in
set_option maxHeartbeats 2000000 in
theorem rone_8pf (f : Fr) (D : List Nat) (B : Nat) (w : World) (hk : f.kd = 8) (h1 : f.sid ≤ 4611686018427387903) (ho : 0 < f.off) (ho2 : f.off ≤ 4611686018427387903) (hfin : f.fin = false) (hvd : Vw encB w B f.vd D) (hB : B ≤ w.heap.size) (hD : D.length ≤ 2000) {od2 : Option Addr} {ln2 cd2 : Nat} (hvr : f.vr = .slice od2 ln2 cd2) :
    Calls Try.prog 21 #[.agg (encF f).toArray] w fun e w' => ∃ v', e = .returned v' ∧ MadeV w w' v' (sizes [14, f.sid] + sizes [f.off] + vsize D.length + D.length) := by
  obtain ⟨kd, sid, off, vd, fin, lim, code, fnl, seq, dly, vr, c0, c1, c2, c3, c4, c5, c6, c7⟩ := f
  simp only at hk h1 ho hfin hvd hvr
  simp only at ho2
  subst hk hfin hvr
  obtain ⟨od, cd, rfl, hcd1, hcd2⟩ := hvd.shape
  have HVD := Lib.hid hvd
  have HDL := Lib.hid hD
  generalize hln : D.length = ln at *
  have HLN := Lib.hid hln
  clear hvd hln
  simp only [encF]
  obtain ⟨s1, hs1⟩ : ∃ s, sizes [14, sid] = s := ⟨_, rfl⟩
  have hs1l := sizes_le [14, sid]
  rw [hs1] at hs1l
  simp only [List.length_cons, List.length_nil] at hs1l
  have hoi : (0 : Int) < (off : Int) := by omega
  obtain ⟨s2, hs2⟩ : ∃ s, sizes [off] = s := ⟨_, rfl⟩
  have hs2l := sizes_le [off]
  rw [hs2] at hs2l
  simp only [List.length_cons, List.length_nil] at hs2l
  have HS := Lib.hid hs1
  have HS2 := Lib.hid hs2
  rw [hs1, hs2]
  clear hs1 hs2
  go_enter Try.func21, Try.ntmps21
  go_upto_region 0 with fail
  go_cut [1] (fun v wx => ∃ z, v = .pointer (some ⟨z, 0, none⟩) ∧ w.heap.size ≤ z ∧ Below w.heap.size w wx ∧ wx.heap[z]? = some (.cells #[.int .i64 8, .int .u64 sid, .int .u64 off, .slice od ln cd, .bool false, .int .u64 lim, .int .u64 code, .int .u64 fnl, .int .u64 seq, .int .u64 dly, .slice od2 ln2 cd2,
      .int .u8 c0, .int .u8 c1, .int .u8 c2, .int .u8 c3, .int .u8 c4, .int .u8 c5, .int .u8 c6, .int .u8 c7] 39 (0, 0)))
  case first =>
    go_wp2_with fail
    go_meet
    case rel => exact ⟨_, rfl, Nat.le_refl _, (Below.refl _ _).alloc (Nat.le_refl _) _, alloc_at _ _⟩
  case rest =>
    obtain ⟨z, rfl, hz, hb1, hkz⟩ := hcut
    generalize wc = w1 at *
    have HB1 := Lib.hid hb1
    have HK1 := Lib.hid hkz
    clear hb1 hkz hz
    have z0 : w1.cell? ⟨z, 0, none⟩ = some (.int .i64 8) := (cell_at HK1.out 0).trans rfl
    have z1 : w1.cell? ⟨z, 1, none⟩ = some (.int .u64 sid) := (cell_at HK1.out 1).trans rfl
    have z2 : w1.cell? ⟨z, 2, none⟩ = some (.int .u64 off) := (cell_at HK1.out 2).trans rfl
    have z3 : w1.cell? ⟨z, 3, none⟩ = some (.slice od ln cd) := (cell_at HK1.out 3).trans rfl
    have z4 : w1.cell? ⟨z, 4, none⟩ = some (.bool false) := (cell_at HK1.out 4).trans rfl
    go_wp2_with fail
    refine (rvars_any (.slice none 0 0) _ 0 _ [] [8] _ (Vw.nil _ _ _ _ (by omega)) (Nat.zero_le _) (by simp) (by exact lit_vwU (n := 1) (c := 1) (xs := [8]) (alloc_at _ _) rfl rfl (by omega) (by omega)) (Nat.le_refl _) (by simp) (by simp)).mono ?_
    rintro e w2 ⟨v2, rfl, L2, hv2, hl2, hb2⟩
    obtain ⟨ov2, cv2, rfl, _, _⟩ := hv2.shape
    have hb1s := HB1.out.size
    have hba := (Below.refl w1.heap.size w1).alloc (Nat.le_refl _) (.cells #[.int .u64 8] 25)
    have HB2 := Lib.hid (below_call HB1.out HB1.out.size (below_call hba hba.size hb2))
    have HK2 := Lib.hid (below_keeps (below_call hba hba.size hb2) HK1.out (heap_lt HK1.out))
    clear hv2 hl2 hb2 z0 z1 z2 z3 z4 hba HK1 HB1
    have z0 : w2.cell? ⟨z, 0, none⟩ = some (.int .i64 8) := (cell_at HK2.out 0).trans rfl
    have z1 : w2.cell? ⟨z, 1, none⟩ = some (.int .u64 sid) := (cell_at HK2.out 1).trans rfl
    have z2 : w2.cell? ⟨z, 2, none⟩ = some (.int .u64 off) := (cell_at HK2.out 2).trans rfl
    have z3 : w2.cell? ⟨z, 3, none⟩ = some (.slice od ln cd) := (cell_at HK2.out 3).trans rfl
    have z4 : w2.cell? ⟨z, 4, none⟩ = some (.bool false) := (cell_at HK2.out 4).trans rfl
    go_wp2_with fail
    refine (rvars_any (.slice none 0 0) _ 0 _ [] [14, sid] _ (Vw.nil _ _ _ _ (by omega)) (Nat.zero_le _) (by simp) (by exact lit_vwU (n := 2) (c := 2) (xs := [14, sid]) (alloc_at _ _) rfl rfl (by omega) (by omega)) (Nat.le_refl _) (by simp) (by simp; omega)).mono ?_
    rw [HS.out]
    rintro e w3 ⟨v3, rfl, L3, hv3, hl3, hb3⟩
    have HV3 := Lib.hid hv3
    have HL3 := Lib.hid (show L3.length = s1 by rw [hl3]; simp)
    have hba := (Below.refl w2.heap.size w2).alloc (Nat.le_refl _) (.cells #[.int .u64 14, .int .u64 sid] 25)
    have HB3 := Lib.hid (below_call HB2.out HB2.out.size (below_call hba hba.size hb3))
    have HK3 := Lib.hid (below_keeps (below_call hba hba.size hb3) HK2.out (heap_lt HK2.out))
    clear hv3 hl3 hb3 z0 z1 z2 z3 z4 hba HK2 HB2
    have z2 : w3.cell? ⟨z, 2, none⟩ = some (.int .u64 off) := (cell_at HK3.out 2).trans rfl
    have z3 : w3.cell? ⟨z, 3, none⟩ = some (.slice od ln cd) := (cell_at HK3.out 3).trans rfl
    go_wp2_with fail
    refine (rvars_any v3 _ w3.heap.size _ L3 [off] _ (by exact HV3.out.below ((Below.refl _ _).alloc (Nat.le_refl _) _)) (by simp) (by rw [HL3.out]; omega) (by exact lit_vwU (n := 1) (c := 1) (xs := [off]) (alloc_at _ _) rfl rfl (by omega) (by omega)) (Nat.le_refl _) (by simp) (by simp; omega)).mono ?_
    rw [HS2.out, HL3.out]
    rintro e w4 ⟨v4, rfl, L4, hv4, hl4, hb4⟩
    have HV4 := Lib.hid hv4
    have HL4 := Lib.hid hl4
    have hba := (Below.refl w3.heap.size w3).alloc (Nat.le_refl _) (.cells #[.int .u64 off] 25)
    have HB4 := Lib.hid (below_call HB3.out HB3.out.size (below_call hba hba.size hb4))
    have HK4 := Lib.hid (below_keeps (below_call hba hba.size hb4) HK3.out (heap_lt HK3.out))
    clear hv4 hl4 hb4 z2 z3 hba HK3 HB3
    have z3 : w4.cell? ⟨z, 3, none⟩ = some (.slice od ln cd) := (cell_at HK4.out 3).trans rfl
    go_wp2_with fail
    refine (rtext_any v4 (.slice od ln cd) w4.heap.size B L4 D _ (by exact HV4.out) (Nat.le_refl _) (by rw [HL4.out]; omega) (by exact HVD.out.below (HB4.out.mono hB)) (by have := HB4.out.size; omega) (by rw [HLN.out]; omega)).mono ?_
    rw [HL4.out, HLN.out]
    rintro e w5 ⟨v5, rfl, hm⟩
    have HM := Lib.hid (MadeV.then HB4.out hm.v)
    clear hm
    go_wp2_with fail
    go_ret
    exact ⟨_, rfl, HM.out⟩
theorem vsize_sm {n : Nat} (h : n < 64) : vsize n = 1 := by unfold vsize; rw [if_pos h]
/-- A Stream's bytes: at most 20 more than its data. -/
theorem rone_8 (f : Fr) (D : List Nat) (B : Nat) (w : World) (hk : f.kd = 8) (h1 : f.sid < 64) (ho : f.off ≤ 4611686018427387903) (hvd : Vw encB w B f.vd D) (hB : B ≤ w.heap.size) (hD : D.length ≤ 2000) {od2 : Option Addr} {ln2 cd2 : Nat} (hvr : f.vr = .slice od2 ln2 cd2) :
    Calls Try.prog 21 #[.agg (encF f).toArray] w fun e w' => ∃ v' k, e = .returned v' ∧ MadeV w w' v' k ∧ k ≤ D.length + 20 := by
  have e1 : ∀ k, k < 64 → sizes [k, f.sid] = 2 := fun k hk => by
    show vsize k + (vsize f.sid + 0) = 2
    rw [vsize_sm hk, vsize_sm h1]
  have e2 : sizes [f.off] ≤ 8 := sizes_le [f.off]
  have e3 := vsize_le D.length
  by_cases h0 : f.off = 0
  · cases hf : f.fin with
    | true =>
      refine (rone_8zt f D B w hk (by omega) h0 hf hvd hB hD hvr).mono ?_
      rintro e w' ⟨v', rfl, hm⟩
      exact ⟨v', _, rfl, hm, by rw [e1 _ (by omega)]; omega⟩
    | false =>
      refine (rone_8zf f D B w hk (by omega) h0 hf hvd hB hD hvr).mono ?_
      rintro e w' ⟨v', rfl, hm⟩
      exact ⟨v', _, rfl, hm, by rw [e1 _ (by omega)]; omega⟩
  · cases hf : f.fin with
    | true =>
      refine (rone_8pt f D B w hk (by omega) (by omega) ho hf hvd hB hD hvr).mono ?_
      rintro e w' ⟨v', rfl, hm⟩
      exact ⟨v', _, rfl, hm, by rw [e1 _ (by omega)]; omega⟩
    | false =>
      refine (rone_8pf f D B w hk (by omega) (by omega) ho hf hvd hB hD hvr).mono ?_
      rintro e w' ⟨v', rfl, hm⟩
      exact ⟨v', _, rfl, hm, by rw [e1 _ (by omega)]; omega⟩
theorem size4_sizes (f : Fr) (h : right4 f = true) : size4 f = sizes [4] + sizes [f.sid, f.code, f.fnl] := by
  unfold size4 bytes4 varsB
  rw [if_pos h, List.length_append, varB_len]
  simp only [List.flatMap_cons, List.flatMap_nil, List.length_append, varB_len, List.length_nil]
  rfl
end Go.Proofs.Ytncfbaabhceeoaa

/- DERIVED. SenderKeeps: what a frame that is told is. -/
namespace Go.Proofs.Ytncfbaabhceeoaa
open Go.RowKit

theorem right4_reset {c n : Nat} (hc : c < 100) (hn : n ≤ 4000) : right4 (resetF 8 (some (c, n))) = true := by
  have h1 : overB 8 = false := by decide
  have h2 : overB c = false := by unfold overB; exact decide_eq_false (by omega)
  show (!([8, c].any overB) && decide (n ≤ 1099511627776)) = true
  simp only [List.any_cons, List.any_nil, h1, h2, Bool.or_false, Bool.not_false, Bool.true_and, decide_eq_true_eq]
  omega
/-- What is told. -/
structure TOk (w' : World) (s : SS) (room : Int) (f : Fr) (off len : Nat) : Prop where
  sid : f.sid = 8
  fo : f.off = off
  vd : ∃ od cd, f.vd = .slice od len cd
  vr : ∃ a b c, f.vr = .slice a b c
  bd : off ≤ 4000 ∧ len ≤ 4000
  one : ∀ W2, Below w'.heap.size w' W2 → Calls Try.prog 21 #[.agg (encF f).toArray] W2 fun e w3 => ∃ v' kk, e = .returned v' ∧ MadeV W2 w3 v' kk ∧ (kk : Int) ≤ room
  kd : decide (f.kd = 4) = decide (s.st = 5)
  kd2 : f.kd = 4 ∨ f.kd = 8
theorem TOk.later {w w' : World} {s : SS} {room : Int} {f : Fr} {off len : Nat} (h : TOk w s room f off len) (hb : Below w.heap.size w w') : TOk w' s room f off len :=
  ⟨h.sid, h.fo, h.vd, h.vr, h.bd, fun W2 h2 => h.one W2 (below_call hb hb.size h2), h.kd, h.kd2⟩
/-- Behind Next. -/
structure NX (W w : World) (r k : Nat) (s : SS) (room : Int) (f : Fr) (off len : Nat) (v : Value) (X : Ext) : Prop where
  tok : TOk w s room f off len
  or : (s.st = 5 ∧ f.fnl = s.os.sent ∧ ∃ s', KA W w r s' v s.os.B X ∧ KI s' (k + 1) ∧ s'.lim = s.lim ∧ s'.os = s.os ∧ s'.st = 5) ∨
    (s.st ≤ 4 ∧ ∃ od cd fin s', f = strF 8 off (.slice od len cd) fin ∧ KA W w r s' v s.os.B X ∧ KM s' k off len fin ∧ s'.lim = s.lim ∧ s'.os.B = s.os.B ∧ s'.os.fi = s.os.fi ∧
      Vw encB w w.heap.size (.slice od len cd) ((s.os.B.drop off).take len) ∧ (off + len ≤ s.lim ∨ len = 0) ∧ off + len ≤ s.os.B.length ∧ (fin = true → s.os.fi = true ∧ off + len = s.os.B.length))
theorem NX.ka {W w : World} {r k : Nat} {s : SS} {room : Int} {f : Fr} {off len : Nat} {v : Value} {X : Ext} (h : NX W w r k s room f off len v X) : ∃ s', KA W w r s' v s.os.B X := by
  rcases h.or with ⟨_, _, s', hk, _⟩ | ⟨_, _, _, _, s', _, hk, _⟩
  · exact ⟨s', hk⟩
  · exact ⟨s', hk⟩
theorem NX.add {W w w' : World} {r k z : Nat} {s : SS} {room : Int} {f : Fr} {off len : Nat} {v : Value} {X : Ext} {o : Obj} (h : NX W w r k s room f off len v X) (hb : Below w.heap.size w w') (hz : w.heap.size ≤ z) (ho : w'.heap[z]? = some o) : NX W w' r k s room f off len v ((z, o) :: X) := by
  refine ⟨h.tok.later hb, ?_⟩
  rcases h.or with ⟨a, b, s', hk, h2⟩ | ⟨a, od, cd, fin, s', h2, hk, h3, h4, h5, h6, h7, h8⟩
  · exact .inl ⟨a, b, s', hk.add hb hz ho, h2⟩
  · exact .inr ⟨a, od, cd, fin, s', h2, hk.add hb hz ho, h3, h4, h5, h6, h7.below (hb.mono (Nat.le_refl _)) |>.mono hb.size, h8⟩
theorem NX.later {W w w' : World} {r k : Nat} {s : SS} {room : Int} {f : Fr} {off len : Nat} {v : Value} {X : Ext} (h : NX W w r k s room f off len v X) (hb : Below w.heap.size w w') : NX W w' r k s room f off len v X := by
  refine ⟨h.tok.later hb, ?_⟩
  rcases h.or with ⟨a, b, s', hk, h2⟩ | ⟨a, od, cd, fin, s', h2, hk, h3, h4, h5, h6, h7, h8⟩
  · exact .inl ⟨a, b, s', hk.later hb, h2⟩
  · exact .inr ⟨a, od, cd, fin, s', h2, hk.later hb, h3, h4, h5, h6, h7.below (hb.mono (Nat.le_refl _)) |>.mono hb.size, h8⟩
theorem keep_told (W w : World) (r k : Nat) (s : SS) (room : Int) (more : Nat) (v : Value) {X : Ext} (h : KA W w r s v s.os.B X) (hi : KI s k) (hk : k < 60) (hm : more < 18446744073709551616) (hr1 : -9223372036854775808 ≤ room) (hr2 : room ≤ 9223372036854775807) :
    Calls Try.prog 20 #[.pointer (some ⟨r, 0, none⟩), .int .i64 room, .int .u64 more] w fun e w' => ∃ f ok, e = .returned (.tuple #[.agg (encF f).toArray, .bool ok]) ∧ FrSl f ∧
      ((ok = false ∧ KA W w' r s v s.os.B X) ∨
       (ok = true ∧ ∃ off len, NX W w' r k s room f off len v X)) := by
  have hl4 := hi.gi.l4
  have hsn := hi.gi.ok.sent
  refine (keep_next W w r k s room more v h hi hk hm hr1 hr2).mono ?_
  rintro e w' ⟨f, ok, rfl, hf, ⟨rfl, hK⟩ | ⟨rfl, h5, c, s', rfl, hc, hsz, hK, hI, h6, h7, h8⟩ | ⟨rfl, h4, off, od, len, cd, fin, s', rfl, hK, hM, h6, h7, h8, hv, h9, h10, h11, h12⟩⟩
  · exact ⟨f, _, rfl, hf, .inl ⟨rfl, hK⟩⟩
  · refine ⟨_, _, rfl, hf, .inr ⟨rfl, 0, 0, ⟨rfl, rfl, ⟨_, _, rfl⟩, ⟨_, _, _, rfl⟩, ⟨by omega, by omega⟩, fun W2 hb => ?_, by rw [decide_eq_true h5]; rfl, .inl rfl⟩, .inl ⟨h5, rfl, s', hK, hI, h6, h7, h8⟩⟩⟩
    have hr4 := right4_reset (c := c) (n := s.os.sent) hc (by omega)
    refine (rone_4 (resetF 8 (some (c, s.os.sent))) W2 rfl (by show 8 ≤ _; omega) (by show c ≤ _; omega) (by show s.os.sent ≤ _; omega) (od := none) (ln := 0) (cd := 0) (od2 := none) (ln2 := 0) (cd2 := 0) rfl rfl).mono ?_
    rintro e w3 ⟨v', rfl, hm⟩
    rw [← size4_sizes _ hr4] at hm
    exact ⟨v', _, rfl, hm, hsz⟩
  · have hbd := hM.bds
    have hdl : ((s.os.B.drop off).take len).length = len := by rw [List.length_take, List.length_drop]; omega
    refine ⟨_, _, rfl, hf, .inr ⟨rfl, off, len, ⟨rfl, rfl, ⟨_, _, rfl⟩, ⟨_, _, _, rfl⟩, hbd, fun W2 hb => ?_, ?_, .inr rfl⟩, .inr ⟨h4, od, cd, fin, s', rfl, hK, hM, h6, h7, h8, hv, h9, h10, h11⟩⟩⟩
    · refine (rone_8 (strF 8 off (.slice od len cd) fin) ((s.os.B.drop off).take len) w'.heap.size W2 rfl (by show 8 < 64; omega) (by show off ≤ _; omega) (hv.below hb) hb.size (by rw [hdl]; omega) (od2 := none) (ln2 := 0) (cd2 := 0) rfl).mono ?_
      rintro e w3 ⟨v', kk, rfl, hm, hkk⟩
      rw [hdl] at hkk
      exact ⟨v', kk, rfl, hm, by omega⟩
    · rw [decide_eq_false (show ¬ s.st = 5 by omega)]
      rfl
end Go.Proofs.Ytncfbaabhceeoaa

/- DERIVED. A row of bytes that is laid down at once, as a view. -/
namespace Go.Proofs.Ytncfbaabhceeoaa
open Go.RowKit

theorem lit_vw {w : World} {g n c : Nat} {cs : Array Value} {t : TypeId} {z : Nat × Nat} {xs : List Nat} (h : w.heap[g]? = some (.cells cs t z)) (hl : cs.toList = flat encB xs) (hn : n = xs.length) (hc : n ≤ c) (hc2 : c ≤ 9223372036854775807) :
    Vw encB w w.heap.size (.slice (some ⟨g, 0, none⟩) n c) xs := (lit_vwa (fp := fun _ => False) h hl (fun q => q) hn hc hc2).vw
end Go.Proofs.Ytncfbaabhceeoaa

/- DERIVED. Walk of narthexlaw16's known. -/
namespace Go.Proofs.Ytncfbaabhceeoaa
open Go.RowKit

set_option maxRecDepth 100000 in
set_option maxHeartbeats 2000000 in
theorem sknown_any (w : World) : Calls Try.prog 25 #[] w fun e w' => e = .returned (.bool true) ∧ Below w.heap.size w w' := by
  have hcs := fun (w : World) (C : Array Value) (n c : Nat) => Lib.run_convert_bytes_const (P := Try.prog) w 36 5 C n c Try.underlying36 Try.underlying5
  go_enter Try.func25, Try.ntmps25
  go_wp2_with fail
  refine (sdnew_any 4 _ (by omega)).mono ?_
  rintro e w1 ⟨r, rfl, hm⟩
  have H1 := Lib.hid hm
  clear hm
  go_wp2_with fail
  obtain ⟨fp, hO, hn, hb⟩ := H1.out
  refine (sstate_q r _ fp _ (by exact hO)).mono ?_
  rw [show ((SS.new 4).st : Int) = 1 from rfl]
  rintro e w2 ⟨rfl, q, rfl⟩
  have H2 := Lib.hid (H1.out.drewN q)
  clear hO hn hb H1
  generalize w1.drewN q = w2 at *
  go_wp2_with fail
  obtain ⟨fp, hO, hn, hb⟩ := H2.out
  refine (sfinish_any r _ fp _ (by exact hO)).mono ?_
  rw [show (SS.new 4).closed = false from rfl]
  rintro e w3 ⟨rfl, hm⟩
  obtain ⟨s3, hs3⟩ : ∃ s3 : SS, { SS.new 4 with os := { (SS.new 4).os with fi := true } } = s3 := ⟨_, rfl⟩
  have H3 := Lib.hid (show SdMine w w3 r s3 from by rw [← hs3]; exact sdm_mine hn hb hm)
  have R3 := Lib.hid (show s3.wrN 1 = (0, 24) ∧ s3.wr [97] = s3 ∧ s3.st < 5 ∧ s3.os.B.length = 0 ∧ s3.os.sent = 0 by rw [← hs3]; refine ⟨rfl, rfl, by decide, rfl, rfl⟩)
  clear hs3
  clear hO hn hb hm H2
  go_wp2_with fail
  obtain ⟨fp, hO, hn, hb⟩ := H3.out.later ((Below.refl _ _).alloc (Nat.le_refl _) (.cells #[.int .u8 97] 5 (1, 2)))
  refine (swrite_any r s3 fp _ [97] _ (by exact hO) (by exact lit_vw (alloc_at _ _) rfl rfl (by omega) (by omega)) (Nat.le_refl _) (by unfold Bys; decide) (by rw [R3.out.2.2.2.1]; omega) (by decide) (by rw [R3.out.2.2.2.1]; omega)).mono ?_
  rw [show ([97] : List Nat).length = 1 from rfl, R3.out.1, R3.out.2.1]
  rintro e w4 ⟨rfl, hm⟩
  have H4 := Lib.hid (sdm_mine hn hb hm)
  clear hO hn hb hm H3
  go_wp2_with fail
  obtain ⟨fp, hO, hn, hb⟩ := H4.out
  refine (snext_few r s3 fp 3 9 _ (by exact hO) R3.out.2.2.1 (by omega)).mono ?_
  rintro e w5 ⟨rfl, hb5⟩
  have H5 := Lib.hid (H4.out.later hb5)
  clear hO hn hb hb5 H4
  go_wp2_with (refine wpList_store_row rfl 39 (.tmp 4) (.tmp 29) rfl _ _ rfl rfl 39 zcells (by exact alloc_at _ _) (by rw [sizeF]; rfl) rfl (by simp [Value.oneCell', encF, zeroF]) ?_)
  obtain ⟨fp, hO, hn, hb⟩ := H5.out.later (setRow_below ((Below.refl w5.heap.size w5).alloc (Nat.le_refl _) (.cells zcells 39)) (Nat.le_refl w5.heap.size) (cs := (encF zeroF).toArray))
  refine (ssent_q r s3 fp _ (by exact hO)).mono ?_
  rw [R3.out.2.2.2.2]
  rintro e w6 ⟨rfl, q6, rfl⟩
  have HB := Lib.hid (below_drewN hb q6)
  clear hO hn hb H5
  go_wp2_with fail
  go_ret
  exact ⟨rfl, HB.out⟩
end Go.Proofs.Ytncfbaabhceeoaa

/- DERIVED. Walk of narthexkeep's Cut. -/
namespace Go.Proofs.Ytncfbaabhceeoaa
open Go.RowKit
set_option maxHeartbeats 400000 in
theorem kcut_q (oa : Option Addr) (len cap n : Nat) (w : World) (h1 : len ≤ cap) (_h2 : cap ≤ 9223372036854775807) (h3 : n ≤ 9223372036854775807) :
    Calls Try.prog 15 #[.slice oa len cap, .int .i64 n] w fun e w' => e = .returned (.slice oa (min len n) cap) ∧ w' = w := by
  by_cases h : n < len
  · go_enter Try.func15, Try.ntmps15
    go_wp2_with fail
    go_ret
    exact ⟨by rw [Nat.min_eq_right (by omega)]; rfl, rfl⟩
  · go_enter Try.func15, Try.ntmps15
    go_wp2_with fail
    go_ret
    exact ⟨by rw [Nat.min_eq_left (by omega)]; rfl, rfl⟩
end Go.Proofs.Ytncfbaabhceeoaa
