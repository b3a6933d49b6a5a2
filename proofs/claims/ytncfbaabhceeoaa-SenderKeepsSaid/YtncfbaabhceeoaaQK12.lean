/- DERIVED. Walk of sender's Reset (printed by mksndreset.py). -/
import Derived.Deep.MidRow
import Derived.Test.YtncfbaabhceeoaaQK9
import Derived.Test.YtncfbaabhceeoaaQK10
import Derived.Test.YtncfbaabhceeoaaQK11
set_option linter.all false
namespace Go.Proofs.Ytncfbaabhceeoaa
open Go.RowKit

/-- Cells laid over a row from an offset on. -/
def putAll (cs : Array Value) : Nat → List Value → Array Value
  | _, [] => cs
  | o, v :: l => putAll (cs.setIfInBounds o v) (o + 1) l
theorem setCells_at {b : Nat} {t : TypeId} {z : Nat × Nat} : ∀ (vs : List Value) (o : Nat) (w : World) (cs : Array Value), w.heap[b]? = some (.cells cs t z) → (w.setCells b o vs).heap[b]? = some (.cells (putAll cs o vs) t z)
  | [], _, _, _, h => h
  | v :: l, o, w, cs, h => setCells_at l (o + 1) _ _ (set_at h o v)
theorem upd_setCells {F : Nat → Prop} {b : Nat} (hb : F b) : ∀ (vs : List Value) (o : Nat) (a w : World), Upd F a w → Upd F a (w.setCells b o vs)
  | [], _, _, _, h => h
  | v :: l, o, a, w, h => upd_setCells hb l (o + 1) a _ (h.setCell ⟨b, o, none⟩ (.inl hb) v)
theorem there_row {w : World} {b : Nat} {t : TypeId} {cs : Array Value} (h : w.heap[b]? = some (.cells cs t (0, 0))) {o n : Nat} (hn : o + n ≤ cs.size) : w.there b o n := fun j hj => by
  refine ⟨?_, free_at h (o + j)⟩
  rw [cell_at h, Array.getElem?_eq_getElem (by omega)]
  rfl
theorem there_drewN {w : World} {b o n : Nat} (h : w.there b o n) (k : Nat) : (w.drewN k).there b o n := h
theorem put_frame (id st fi lim rq p : Value) (f g : Fr) : putAll ([id, st, fi, lim] ++ encF f ++ [rq, p]).toArray 4 (encF g) = ([id, st, fi, lim] ++ encF g ++ [rq, p]).toArray := by
  simp only [encF, putAll, List.cons_append, List.nil_append, List.append_assoc, List.setIfInBounds_toArray, List.set_cons_zero, List.set_cons_succ]
theorem scells_eq (s : SS) (b : Nat) (f : Fr) : scells s b f = ([Value.int .u64 s.id, .int .i64 s.st, .bool s.os.fi, .int .u64 s.lim] ++ encF f ++ [Value.bool s.rq, .pointer (some ⟨b, 0, none⟩)]).toArray := rfl
def SS.rstN (s : SS) (code : Nat) : Nat := if 4 ≤ s.st then 24 else if 4611686018427387903 < code then 1 else 0
def SS.rst (s : SS) (code : Nat) : SS := if s.rstN code = 0 then { s with st := 5, rs := some (code, s.os.sent), rq := true } else s
set_option maxRecDepth 100000 in
set_option maxHeartbeats 2000000 in
theorem sreset_any (r : Nat) (s : SS) (fp : Nat → Prop) (code : Nat) (w : World) (h : SdAt w r s fp) (hc : code < 18446744073709551616) :
    Calls Try.prog 18 #[.pointer (some ⟨r, 0, none⟩), .int .u64 code] w fun e w' => e = .returned (.int .i64 (s.rstN code)) ∧ SdM w w' fp r (s.rst code) := by
  have H := Lib.hid h
  obtain ⟨_, c1, _, _, _⟩ := h.cells
  obtain ⟨b, fb, h0, hfp⟩ := h
  have H0 := Lib.hid h0
  have HFP := Lib.hid hfp
  have f1 := free_at h0.blk 1
  have f23 := free_at h0.blk 23
  have c23 : w.cell? ⟨r, 23, none⟩ = some (.bool s.rq) := (cell_at h0.blk 23).trans rfl
  have hst := h0.ok.st
  have hsent : s.os.sent < 18446744073709551616 := by have := h0.buf.ok.sent; have := h0.buf.ok.len; omega
  clear h0 hfp
  unfold SS.rst
  obtain ⟨a, ha⟩ : ∃ a, s.rstN code = a := ⟨_, rfl⟩
  rw [ha]
  obtain ⟨st, hste⟩ : ∃ st, s.st = st := ⟨_, rfl⟩
  rw [hste] at c1 hst
  have HA := Lib.hid ha
  have HST := Lib.hid hste
  clear ha hste
  by_cases h4 : 4 ≤ st
  · obtain rfl : a = 24 := by have := HA.out; unfold SS.rstN at this; rw [HST.out, if_pos h4] at this; exact this.symm
    have HEND := Lib.hid (SdM.refl H.out)
    go_enter Try.func18, Try.ntmps18
    go_wp2_with fail
    go_ret
    exact ⟨rfl, HEND.out⟩
  · by_cases hv : 4611686018427387903 < code
    · obtain rfl : a = 1 := by have := HA.out; unfold SS.rstN at this; rw [HST.out, if_neg h4, if_pos hv] at this; exact this.symm
      have HEND := Lib.hid (SdM.refl H.out)
      go_enter Try.func18, Try.ntmps18
      go_wp2_with fail
      go_ret
      exact ⟨rfl, HEND.out⟩
    · obtain rfl : a = 0 := by have := HA.out; unfold SS.rstN at this; rw [HST.out, if_neg h4, if_neg hv] at this; exact this.symm
      rw [if_pos rfl]
      obtain ⟨s5, hs5⟩ : ∃ s5 : SS, s5 = { s with st := 5, rq := true } := ⟨_, rfl⟩
      have HS5 := Lib.hid hs5
      obtain ⟨id, hid⟩ : ∃ id, s.id = id := ⟨_, rfl⟩
      obtain ⟨sn, hsn⟩ : ∃ sn, s.os.sent = sn := ⟨_, rfl⟩
      rw [hsn] at hsent ⊢
      have HSN0 := Lib.hid hsn
      have HID := Lib.hid hid
      clear hs5 hsn hid
      go_enter Try.func18, Try.ntmps18
      go_upto_region 6 with fail
      have hu5 : Upd (fun j => j = r) w ((w.setCell ⟨r, 1, none⟩ (.int .i64 5)).setCell ⟨r, 23, none⟩ (.bool true)) := ((Upd.refl (fun j => j = r) w).setCell ⟨r, 1, none⟩ (.inl rfl) _).setCell ⟨r, 23, none⟩ (.inl rfl) _
      have hb5 := set_at (set_at H0.out.blk 1 (.int .i64 5)) 23 (.bool true)
      generalize (w.setCell ⟨r, 1, none⟩ (.int .i64 5)).setCell ⟨r, 23, none⟩ (.bool true) = w5 at *
      have HBK5 := Lib.hid (show w5.heap[r]? = some (.cells (scells s5 b (resetF s.id s.rs)) 86 (0, 0)) from by rw [HS5.out]; exact hb5)
      have HU5 := Lib.hid hu5
      have H5 := Lib.hid (show SdAt w5 r s5 (fun j => j = r ∨ fb j) from by
        refine ⟨b, fb, ⟨?_, ?_, H0.out.ne, ?_⟩, rfl⟩
        · have := HBK5.out
          rw [HS5.out] at this ⊢
          exact this
        · rw [HS5.out]
          exact H0.out.own HU5.out
        · rw [HS5.out]
          exact ⟨H0.out.ok.id, ⟨by show 1 ≤ 5; omega, by show 5 ≤ 6; omega⟩, H0.out.ok.lim, H0.out.ok.rs⟩)
      have HSN := Lib.hid (show s5.os.sent = sn from by rw [HS5.out]; exact HSN0.out)
      have HC0 := Lib.hid (show w5.cell? ⟨r, 0, none⟩ = some (.int .u64 id) from by rw [← HID.out]; exact (cell_at HBK5.out 0).trans (by rw [HS5.out]; rfl))
      have HTH := Lib.hid (there_row HBK5.out (o := 4) (n := 19) (by show 23 ≤ 25; omega))
      have HFIN := Lib.hid (show ∀ k, SdM w ((w5.drewN k).setCells r 4 (encF (resetF id (some (code, sn))))) fp r { s with st := 5, rs := some (code, sn), rq := true } from fun k => by
        refine sdm_two (s' := { s with st := 5, rs := some (code, sn), rq := true }) H0.out HFP.out (HU5.out.drewN k) (OM.refl ((H0.out.own HU5.out).drewN k)) (upd_setCells (F := fun j => j = r) rfl _ _ _ _ (Upd.refl _ _)) ?_ ⟨H0.out.ok.id, ⟨by show 1 ≤ 5; omega, by show 5 ≤ 6; omega⟩, H0.out.ok.lim, fun x hx => ?_⟩
        · have := setCells_at (encF (resetF id (some (code, sn)))) 4 (w5.drewN k) _ HBK5.out
          rw [this, scells_eq, put_frame, scells_eq, HS5.out, ← HID.out]
        · cases hx
          exact ⟨hc, hsent⟩)
      clear hu5 hb5 c1 c23 f1 f23
      refine wp_region_till (S := fun w' => w'.cell? ⟨r, 0, none⟩ = some (.int .u64 id)) [11] (by kernel_rfl) (by exact HC0.out) (fun hHeld => ?_)
      refine wpTill_take0 (i := 0) (oi := ⟨some 20, _, _, _, _, _⟩) (v := ?_) rfl (by kernel_rfl) (fun _ _ _ h => h) (Or.inl ⟨by rfl, ?_⟩) (fun _ => hHeld) ?_
      rotate_left
      · intro w hSw
        (try dsimp only at hSw)
        go_simp
        try with_reducible rfl
      try simp only [Act.put, List.setIfInBounds_toArray, List.set_cons_zero, List.set_cons_succ]
      refine wpTill_take0 (i := 1) (oi := ⟨some 21, _, _, _, _, _⟩) (v := ?_) rfl (by kernel_rfl) (fun _ _ _ h => h) (Or.inl ⟨by rfl, ?_⟩) (fun _ => hHeld) ?_
      rotate_left
      · intro w hSw
        (try dsimp only at hSw)
        go_simp
        try with_reducible rfl
      try simp only [Act.put, List.setIfInBounds_toArray, List.set_cons_zero, List.set_cons_succ]
      refine wpTill_take0 (i := 2) (oi := ⟨some 22, _, _, _, _, _⟩) (v := ?_) rfl (by kernel_rfl) (fun _ _ _ h => h) (Or.inl ⟨by rfl, ?_⟩) (fun _ => hHeld) ?_
      rotate_left
      · intro w hSw
        (try dsimp only at hSw)
        go_simp
        try with_reducible rfl
      try simp only [Act.put, List.setIfInBounds_toArray, List.set_cons_zero, List.set_cons_succ]
      refine wpTill_take0 (i := 3) (oi := ⟨some 23, _, _, _, _, _⟩) (v := ?_) rfl (by kernel_rfl) (fun _ _ _ h => h) (Or.inl ⟨by rfl, ?_⟩) (fun _ => hHeld) ?_
      rotate_left
      · intro w hSw
        (try dsimp only at hSw)
        go_simp
        try with_reducible rfl
      try simp only [Act.put, List.setIfInBounds_toArray, List.set_cons_zero, List.set_cons_succ]
      refine wpTill_take (i := 4) (oi := ⟨some 24, _, _, _, _, _⟩) (v := ?_) rfl (by kernel_rfl) (fun _ _ _ h => h) (Or.inl ⟨by rfl, ?_⟩) (by exact hHeld) ?_
      rotate_left
      · intro w hSw
        (try dsimp only at hSw)
        go_simp
        try with_reducible rfl
      try simp only [Act.put, List.setIfInBounds_toArray, List.set_cons_zero, List.set_cons_succ]
      refine wpTill_take0 (i := 5) (oi := ⟨some 25, _, _, _, _, _⟩) (v := ?_) rfl (by kernel_rfl) (fun _ _ _ h => h) (Or.inl ⟨by rfl, ?_⟩) (fun _ => hHeld) ?_
      rotate_left
      · intro w hSw
        (try dsimp only at hSw)
        go_simp
        try with_reducible rfl
      try simp only [Act.put, List.setIfInBounds_toArray, List.set_cons_zero, List.set_cons_succ]
      refine wpTill_take0 (i := 6) (oi := ⟨some 26, _, _, _, _, _⟩) (v := ?_) rfl (by kernel_rfl) (fun _ _ _ h => h) (Or.inl ⟨by rfl, ?_⟩) (fun _ => hHeld) ?_
      rotate_left
      · intro w hSw
        (try dsimp only at hSw)
        go_simp
        try with_reducible rfl
      try simp only [Act.put, List.setIfInBounds_toArray, List.set_cons_zero, List.set_cons_succ]
      refine wpTill_ready (rs := [7]) (by kernel_rfl) (by simp) ?_
      refine AllTill.cons (o := ⟨some 27, _, _, _, _, _⟩) rfl (fun K hK => ?_) AllTill.nil
      go_simp
      go_at_call 22
      refine (ssent_q r s5 (fun j => j = r ∨ fb j) _ (by exact H5.out.drewN _)).mono ?_
      rw [HSN.out]
      rintro e W8 ⟨rfl, q8, rfl⟩
      go_wp2_with fail
      refine hK.out _ _ (by exact HC0.out) (fun hHeld => ?_)
      clear hK K
      try simp only [Act.put, List.setIfInBounds_toArray, List.set_cons_zero, List.set_cons_succ]
      refine wpTill_take0 (i := 8) (oi := ⟨some 28, _, _, _, _, _⟩) (v := ?_) rfl (by kernel_rfl) (fun _ _ _ h => h) (Or.inl ⟨by rfl, ?_⟩) (fun _ => hHeld) ?_
      rotate_left
      · intro w hSw
        (try dsimp only at hSw)
        go_simp
        try with_reducible rfl
      try simp only [Act.put, List.setIfInBounds_toArray, List.set_cons_zero, List.set_cons_succ]
      refine wpTill_take0 (i := 9) (oi := ⟨some 29, _, _, _, _, _⟩) (v := ?_) rfl (by kernel_rfl) (fun _ _ _ h => h) (Or.inl ⟨by rfl, ?_⟩) (fun _ => hHeld) ?_
      rotate_left
      · intro w hSw
        (try dsimp only at hSw)
        go_simp
        try with_reducible rfl
      try simp only [Act.put, List.setIfInBounds_toArray, List.set_cons_zero, List.set_cons_succ]
      refine wpTill_take0 (i := 10) (oi := ⟨some 30, _, _, _, _, _⟩) (v := ?_) rfl (by kernel_rfl) (fun _ _ _ h => h) (Or.inl ⟨by rfl, ?_⟩) (fun _ => hHeld) ?_
      rotate_left
      · intro w hSw
        (try dsimp only at hSw)
        go_simp
        try with_reducible rfl
      try simp only [Act.put, List.setIfInBounds_toArray, List.set_cons_zero, List.set_cons_succ]
      refine wpTill_ready (rs := [11]) (by kernel_rfl) (by simp) ?_
      refine AllTill.consD (o := ⟨none, _, _, _, _, _⟩) rfl (by kernel_rfl) (fun K hK => ?_) AllTill.nil
      refine wp_store_mid 39 (.tmp 30) (.tmp 28) rfl r 4 _ rfl rfl (by exact HTH.out) (by rw [sizeF]; rfl) (by simp [Value.oneCell']) ?_
      refine hK.out _ _ ?_
      clear hK K
      try simp only [Act.put, List.setIfInBounds_toArray, List.set_cons_zero, List.set_cons_succ]
      refine wpTill_done (by kernel_rfl) ?_ _
      go_wp2_with fail
      go_ret
      exact ⟨rfl, HFIN.out _⟩
end Go.Proofs.Ytncfbaabhceeoaa

/- DERIVED. Walk of sender's Acked (printed by mksndack.py). -/
namespace Go.Proofs.Ytncfbaabhceeoaa
open Go.RowKit

def OS.whole (s : OS) : Bool := s.fi && s.ea && decide (s.base = s.B.length)
/-- The buffer turned by what is acknowledged. -/
def SS.ackd (s : SS) (o : OS) : SS := { s with os := o, st := if s.st = 3 ∧ o.whole = true then 4 else s.st }
set_option maxRecDepth 100000 in
set_option maxHeartbeats 4000000 in
theorem sack_str (r : Nat) (s : SS) (fp : Nat → Prop) (f : Fr) (off n cd : Nat) (fin : Bool) (od : Option Addr) (zs yz : List Rg) (at_ : Nat) (w : World) (h : SdAt w r s fp) (hf : FrOk f) (hk : f.kd = 8) (hs : f.sid = s.id) (hof : f.off = off) (hv : f.vd = .slice od n cd) (hfi : f.fin = fin) (hn : n ≤ 9223372036854775807)
    (hyz : cutRaw (s.os.kn off n).1 (s.os.kn off n).2 s.os.ys = yz) (hly : yz.length ≤ 100000) (hzs : s.os.ackX (s.os.kn off n) = zs) (hnz : Norm zs) (hlz : zs.length ≤ 100000) (hat : atOf zs s.os.B.length = at_) (hat1 : s.os.base ≤ at_) (hat2 : at_ ≤ s.os.B.length) :
    Calls Try.prog 24 #[.pointer (some ⟨r, 0, none⟩), .agg (encF f).toArray] w fun e w' => e = .returned (.tuple #[]) ∧ SdM w w' fp r (s.ackd (s.os.ackG zs yz at_ fin)) := by
  have H := Lib.hid h
  obtain ⟨b, fb, h0, hfp⟩ := h
  obtain ⟨kd, sid, foff, vd, ffin, lim, code, fnl, seq, dly, vr, c0, c1, c2, c3, c4, c5, c6, c7⟩ := f
  obtain rfl : kd = 8 := hk
  obtain rfl : foff = off := hof
  obtain rfl : vd = .slice od n cd := hv
  obtain rfl : ffin = fin := hfi
  obtain rfl : sid = s.id := hs
  have HF := Lib.hid hf
  have hoff := hf.off
  simp only at hoff
  have H0 := Lib.hid h0
  have HY := Lib.hid (And.intro hyz (And.intro hly (And.intro hzs (And.intro hnz (And.intro hlz (And.intro hat (And.intro hat1 hat2)))))))
  have c0' : w.cell? ⟨r, 0, none⟩ = some (.int .u64 s.id) := (cell_at h0.blk 0).trans rfl
  have HFIN0 := Lib.hid (show ∀ W W8, Below w.heap.size w W → OM W W8 fb b (s.os.ackG zs yz at_ ffin) → SdM w W8 fp r { s with os := (s.os.ackG zs yz at_ ffin) } from fun W W8 hb hm => by
    obtain ⟨fb', h1, h2⟩ := hm
    have hm2 : OM w W8 fb b (s.os.ackG zs yz at_ ffin) := ⟨fb', h1, h2.first hb⟩
    exact sdm_of (s' := { s with os := (s.os.ackG zs yz at_ ffin) }) h0 hfp hm2 (Upd.refl _ _) (h0.later hm2) ⟨h0.ok.id, h0.ok.st, h0.ok.lim, h0.ok.rs⟩)
  obtain ⟨T, hT⟩ : ∃ T, s.ackd (s.os.ackG zs yz at_ ffin) = T := ⟨_, rfl⟩
  rw [hT]
  have HE1 := Lib.hid (show ∀ W, SdM w W fp r { s with os := (s.os.ackG zs yz at_ ffin), st := 4 } → s.st = 3 → (s.os.ackG zs yz at_ ffin).whole = true → SdM w W fp r T from fun W m h3 hw => by
    rw [← hT, SS.ackd, if_pos ⟨h3, hw⟩]
    exact m)
  have HE2 := Lib.hid (show ∀ W, SdM w W fp r { s with os := (s.os.ackG zs yz at_ ffin) } → ¬ (s.st = 3 ∧ (s.os.ackG zs yz at_ ffin).whole = true) → SdM w W fp r T from fun W m h3 => by
    rw [← hT, SS.ackd, if_neg h3]
    exact m)
  obtain ⟨st, hst⟩ : ∃ st, s.st = st := ⟨_, rfl⟩
  have HST := Lib.hid hst
  simp only [encF]
  generalize s.id = id at *
  clear hT hst
  clear h0 hfp hf hyz hly hzs hnz hlz hat hat1 hat2
  go_enter Try.func24, Try.ntmps24
  go_upto_region 0 with fail
  go_cut [3] (fun v wx => ∃ z, v = .pointer (some ⟨z, 0, none⟩) ∧ w.heap.size ≤ z ∧ Below w.heap.size w wx ∧ wx.heap[z]? = some (.cells #[.int .i64 8, .int .u64 id, .int .u64 foff, .slice od n cd, .bool ffin, .int .u64 lim, .int .u64 code, .int .u64 fnl, .int .u64 seq, .int .u64 dly, vr,
    .int .u8 c0, .int .u8 c1, .int .u8 c2, .int .u8 c3, .int .u8 c4, .int .u8 c5, .int .u8 c6, .int .u8 c7] 39 (0, 0)))
  case first =>
    go_wp2_with fail
    go_meet
    case rel => exact ⟨_, rfl, Nat.le_refl _, (Below.refl _ _).alloc (Nat.le_refl _) _, alloc_at _ _⟩
  case rest =>
    obtain ⟨z, rfl, hz, hb1, hkz⟩ := hcut
    generalize wc = w1 at *
    have HKZ := Lib.hid hkz
    have HBD := Lib.hid (show ∀ k, Below w.heap.size w (w1.drewN k) from fun k => below_drewN hb1 k)
    have HBD1 := Lib.hid (show Below w.heap.size w w1.drew from hb1.drew)
    have hrw := heap_lt H0.out.blk
    have HRK := Lib.hid (below_keeps hb1 H0.out.blk hrw)
    have HB := Lib.hid H0.out.buf
    have d0 := cell_keep hb1 hrw c0'
    have z0 := (cell_at hkz 0).trans (by rfl : _ = some (Value.int .i64 8))
    have z1 := (cell_at hkz 1).trans (by rfl : _ = some (Value.int .u64 id))
    clear hb1 hkz c0'
    go_wp2_with fail
    go_quiet (fail)
    go_wp2_with fail
    refine wp_region_till (S := fun w' => w'.cell? ⟨r, 24, none⟩ = some (.pointer (some ⟨b, 0, none⟩)) ∧ w'.cell? ⟨z, 2, none⟩ = some (.int .u64 foff) ∧ w'.cell? ⟨z, 3, none⟩ = some (.slice od n cd) ∧ w'.cell? ⟨z, 4, none⟩ = some (.bool ffin)) [11] (by kernel_rfl) (by exact ⟨(cell_at HRK.out 24).trans rfl, (cell_at HKZ.out 2).trans rfl, (cell_at HKZ.out 3).trans rfl, (cell_at HKZ.out 4).trans rfl⟩) (fun hHeld => ?_)
    refine wpTill_take0 (i := 0) (oi := ⟨some 16, _, _, _, _, _⟩) (v := ?_) rfl (by kernel_rfl) (fun _ _ _ h => h) (Or.inl ⟨by rfl, ?_⟩) (fun _ => hHeld) ?_
    rotate_left
    · intro w hSw
      (try dsimp only at hSw)
      go_simp
      try with_reducible rfl
    try simp only [Act.put, List.setIfInBounds_toArray, List.set_cons_zero, List.set_cons_succ]
    refine wpTill_take0 (i := 1) (oi := ⟨some 17, _, _, _, _, _⟩) (v := ?_) rfl (by kernel_rfl) (fun _ _ _ h => h) (Or.inl ⟨by rfl, ?_⟩) (fun _ => hHeld) ?_
    rotate_left
    · intro w hSw
      (try dsimp only at hSw)
      go_simp
      try with_reducible rfl
    try simp only [Act.put, List.setIfInBounds_toArray, List.set_cons_zero, List.set_cons_succ]
    refine wpTill_take0 (i := 2) (oi := ⟨some 18, _, _, _, _, _⟩) (v := ?_) rfl (by kernel_rfl) (fun _ _ _ h => h) (Or.inl ⟨by rfl, ?_⟩) (fun _ => hHeld) ?_
    rotate_left
    · intro w hSw
      (try dsimp only at hSw)
      go_simp
      try with_reducible rfl
    try simp only [Act.put, List.setIfInBounds_toArray, List.set_cons_zero, List.set_cons_succ]
    refine wpTill_take (i := 3) (oi := ⟨some 19, _, _, _, _, _⟩) (v := ?_) rfl (by kernel_rfl) (fun _ _ _ h => h) (Or.inl ⟨by rfl, ?_⟩) (by exact hHeld) ?_
    rotate_left
    · intro w hSw
      (try dsimp only at hSw)
      go_simp
      try with_reducible rfl
    try simp only [Act.put, List.setIfInBounds_toArray, List.set_cons_zero, List.set_cons_succ]
    refine wpTill_take0 (i := 4) (oi := ⟨some 20, _, _, _, _, _⟩) (v := ?_) rfl (by kernel_rfl) (fun _ _ _ h => h) (Or.inl ⟨by rfl, ?_⟩) (fun _ => hHeld) ?_
    rotate_left
    · intro w hSw
      (try dsimp only at hSw)
      go_simp
      try with_reducible rfl
    try simp only [Act.put, List.setIfInBounds_toArray, List.set_cons_zero, List.set_cons_succ]
    refine wpTill_take (i := 5) (oi := ⟨some 21, _, _, _, _, _⟩) (v := ?_) rfl (by kernel_rfl) (fun _ _ _ h => h) (Or.inl ⟨by rfl, ?_⟩) (by exact hHeld) ?_
    rotate_left
    · intro w hSw
      (try dsimp only at hSw)
      go_simp
      try with_reducible rfl
    try simp only [Act.put, List.setIfInBounds_toArray, List.set_cons_zero, List.set_cons_succ]
    refine wpTill_take0 (i := 6) (oi := ⟨some 22, _, _, _, _, _⟩) (v := ?_) rfl (by kernel_rfl) (fun _ _ _ h => h) (Or.inl ⟨by rfl, ?_⟩) (fun _ => hHeld) ?_
    rotate_left
    · intro w hSw
      (try dsimp only at hSw)
      go_simp
      try with_reducible rfl
    try simp only [Act.put, List.setIfInBounds_toArray, List.set_cons_zero, List.set_cons_succ]
    refine wpTill_take0 (i := 9) (oi := ⟨some 25, _, _, _, _, _⟩) (v := ?_) rfl (by kernel_rfl) (fun _ _ _ h => h) (Or.inl ⟨by rfl, ?_⟩) (fun _ => hHeld) ?_
    rotate_left
    · intro w hSw
      (try dsimp only at hSw)
      go_simp
      try with_reducible rfl
    try simp only [Act.put, List.setIfInBounds_toArray, List.set_cons_zero, List.set_cons_succ]
    refine wpTill_take (i := 10) (oi := ⟨some 26, _, _, _, _, _⟩) (v := ?_) rfl (by kernel_rfl) (fun _ _ _ h => h) (Or.inl ⟨by rfl, ?_⟩) (by exact hHeld) ?_
    rotate_left
    · intro w hSw
      (try dsimp only at hSw)
      go_simp
      try with_reducible rfl
    try simp only [Act.put, List.setIfInBounds_toArray, List.set_cons_zero, List.set_cons_succ]
    refine wpTill_ready (rs := [7]) (by kernel_rfl) (by simp) ?_
    refine AllTill.cons (o := ⟨some 23, _, _, _, _, _⟩) rfl (fun K hK => ?_) AllTill.nil
    have z3 := (cell_at HKZ.out 3).trans (by rfl : _ = some (Value.slice od n cd))
    go_simp
    refine hK.out _ _ (by exact hHeld) (fun hHeld => ?_)
    clear hK K
    try simp only [Act.put, List.setIfInBounds_toArray, List.set_cons_zero, List.set_cons_succ]
    refine wpTill_ready (rs := [8]) (by kernel_rfl) (by simp) ?_
    refine AllTill.cons (o := ⟨some 24, _, _, _, _, _⟩) rfl (fun K hK => ?_) AllTill.nil
    go_simp
    refine hK.out _ _ (by exact hHeld) (fun hHeld => ?_)
    clear hK K
    try simp only [Act.put, List.setIfInBounds_toArray, List.set_cons_zero, List.set_cons_succ]
    refine wpTill_ready (rs := [11]) (by kernel_rfl) (by simp) ?_
    refine AllTill.consD (o := ⟨some 27, _, _, _, _, _⟩) rfl (by kernel_rfl) (fun K hK => ?_) AllTill.nil
    go_simp
    go_at_call 44
    refine (oackG_any b s.os fb foff n zs at_ _ (by first | exact HB.out.below (HBD.out _) | exact HB.out.below HBD1.out) (by exact HF.out.off) (by omega) (by omega) ffin yz HY.out.1 HY.out.2.1 HY.out.2.2.1 HY.out.2.2.2.1 HY.out.2.2.2.2.1 HY.out.2.2.2.2.2.1 HY.out.2.2.2.2.2.2.1 HY.out.2.2.2.2.2.2.2).mono ?_
    rintro e W8 ⟨rfl, hm⟩
    have H8 := Lib.hid (by first | exact HFIN0.out _ _ (HBD.out _) hm | exact HFIN0.out _ _ HBD1.out hm)
    clear hm
    obtain ⟨e1, f1, _, _⟩ := H8.out.cell1
    obtain ⟨b8, fb8, ho8, e24⟩ := H8.out.ptr
    have HO8 := Lib.hid ho8
    clear ho8
    rw [show (_ : SS).st = st from HST.out] at e1
    refine hK.out _ _ ?_
    clear hK K
    try simp only [Act.put, List.setIfInBounds_toArray, List.set_cons_zero, List.set_cons_succ]
    refine wpTill_done (by kernel_rfl) ?_ _
    by_cases h3 : st = 3
    · subst h3
      go_wp2_with fail
      refine (owhole_q b8 _ fb8 _ (by exact HO8.out)).mono ?_
      obtain ⟨wh, hwh⟩ : ∃ wh, (s.os.ackG zs yz at_ ffin).whole = wh := ⟨_, rfl⟩
      have HWH := Lib.hid hwh
      unfold OS.whole at hwh
      rw [hwh]
      clear hwh
      rintro e w9 ⟨rfl, q9, rfl⟩
      cases wh
      · go_wp2_with fail
        go_end0
        exact ⟨rfl, HE2.out _ (H8.out.drewN _) (by rw [HWH.out]; simp)⟩
      · go_wp2_with fail
        go_end0
        exact ⟨rfl, HE1.out _ ((H8.out.drewN _).setSt 4 ⟨by omega, by omega⟩) HST.out HWH.out⟩
    · go_wp2_with fail
      go_end0
      exact ⟨rfl, HE2.out _ (H8.out.drewN 0) (fun q => h3 (HST.out.symm.trans q.1))⟩
set_option maxRecDepth 100000 in
set_option maxHeartbeats 2000000 in
theorem sack_rst (r : Nat) (s : SS) (fp : Nat → Prop) (f : Fr) (w : World) (h : SdAt w r s fp) (hk : f.kd = 4) (hs : f.sid = s.id) (h5 : s.st = 5) :
    Calls Try.prog 24 #[.pointer (some ⟨r, 0, none⟩), .agg (encF f).toArray] w fun e w' => e = .returned (.tuple #[]) ∧ SdM w w' fp r { s with st := 6, rq := false } := by
  have H := Lib.hid h
  obtain ⟨b, fb, h0, hfp⟩ := h
  obtain ⟨kd, sid, foff, vd, ffin, lim, code, fnl, seq, dly, vr, c0, c1, c2, c3, c4, c5, c6, c7⟩ := f
  obtain rfl : kd = 4 := hk
  obtain rfl : sid = s.id := hs
  have H0 := Lib.hid h0
  have c0' : w.cell? ⟨r, 0, none⟩ = some (.int .u64 s.id) := (cell_at h0.blk 0).trans rfl
  have c1' : w.cell? ⟨r, 1, none⟩ = some (.int .i64 5) := (cell_at h0.blk 1).trans (by rw [show (5 : Int) = (s.st : Int) by omega]; rfl)
  have c23 : w.cell? ⟨r, 23, none⟩ = some (.bool s.rq) := (cell_at h0.blk 23).trans rfl
  have f23 := free_at h0.blk 23
  have f1 := free_at h0.blk 1
  have HFIN0 := Lib.hid (show ∀ W, Below w.heap.size w W → SdM w ((W.setCell ⟨r, 1, none⟩ (.int .i64 6)).setCell ⟨r, 23, none⟩ (.bool false)) fp r { s with st := 6, rq := false } from fun W hb =>
    (((SdM.refl H.out).later hb).setSt 6 ⟨by omega, by omega⟩).setRq false)
  simp only [encF]
  generalize s.id = id at *
  clear h0 hfp
  go_enter Try.func24, Try.ntmps24
  go_upto_region 0 with fail
  go_cut [3] (fun v wx => ∃ z, v = .pointer (some ⟨z, 0, none⟩) ∧ w.heap.size ≤ z ∧ Below w.heap.size w wx ∧ wx.heap[z]? = some (.cells #[.int .i64 4, .int .u64 id, .int .u64 foff, vd, .bool ffin, .int .u64 lim, .int .u64 code, .int .u64 fnl, .int .u64 seq, .int .u64 dly, vr,
    .int .u8 c0, .int .u8 c1, .int .u8 c2, .int .u8 c3, .int .u8 c4, .int .u8 c5, .int .u8 c6, .int .u8 c7] 39 (0, 0)))
  case first =>
    go_wp2_with fail
    go_meet
    case rel => exact ⟨_, rfl, Nat.le_refl _, (Below.refl _ _).alloc (Nat.le_refl _) _, alloc_at _ _⟩
  case rest =>
    obtain ⟨z, rfl, hz, hb1, hkz⟩ := hcut
    generalize wc = w1 at *
    have hrw := heap_lt H0.out.blk
    have d0 := cell_keep hb1 hrw c0'
    have d1 := cell_keep hb1 hrw c1'
    have d23 := cell_keep hb1 hrw c23
    have g23 := free_at (below_keeps hb1 H0.out.blk hrw) 23
    have g1 := free_at (below_keeps hb1 H0.out.blk hrw) 1
    have HFIN := Lib.hid (show ∀ k, SdM w (((w1.drewN k).setCell ⟨r, 1, none⟩ (.int .i64 6)).setCell ⟨r, 23, none⟩ (.bool false)) fp r { s with id := id, st := 6, rq := false } from fun k => HFIN0.out _ (below_drewN hb1 k))
    have z0 := (cell_at hkz 0).trans (by rfl : _ = some (Value.int .i64 4))
    have z1 := (cell_at hkz 1).trans (by rfl : _ = some (Value.int .u64 id))
    clear hb1 hkz c0' c1' c23 f23 f1
    go_wp2_with fail
    go_quiet (fail)
    go_wp2_with fail
    go_end0
    exact ⟨rfl, HFIN.out _⟩
end Go.Proofs.Ytncfbaabhceeoaa

/- DERIVED. Walk of sender's Lost (printed by mksndlost.py). -/
namespace Go.Proofs.Ytncfbaabhceeoaa
open Go.RowKit

set_option maxRecDepth 100000 in
set_option maxHeartbeats 4000000 in
theorem slost_str (r : Nat) (s : SS) (fp : Nat → Prop) (f : Fr) (off n cd : Nat) (fin : Bool) (od : Option Addr) (y0 ys : List Rg) (w : World) (h : SdAt w r s fp) (hf : FrOk f) (hk : f.kd = 8) (hs : f.sid = s.id) (hof : f.off = off) (hv : f.vd = .slice od n cd) (hfi : f.fin = fin) (hn : n ≤ 9223372036854775807)
    (hy0 : s.os.lostB (s.os.kn off n) = y0) (hny : Norm y0) (hly : y0.length + s.os.xs.length ≤ 100000) (hys : lostY s.os y0 s.os.xs.length = ys) :
    Calls Try.prog 23 #[.pointer (some ⟨r, 0, none⟩), .agg (encF f).toArray] w fun e w' => e = .returned (.tuple #[]) ∧ SdM w w' fp r { s with os := { s.os with ys := ys, el := s.os.el || (fin && s.os.es) } } := by
  have H := Lib.hid h
  obtain ⟨b, fb, h0, hfp⟩ := h
  obtain ⟨kd, sid, foff, vd, ffin, lim, code, fnl, seq, dly, vr, c0, c1, c2, c3, c4, c5, c6, c7⟩ := f
  obtain rfl : kd = 8 := hk
  obtain rfl : foff = off := hof
  obtain rfl : vd = .slice od n cd := hv
  obtain rfl : ffin = fin := hfi
  obtain rfl : sid = s.id := hs
  have HF := Lib.hid hf
  have hoff := hf.off
  simp only at hoff
  have H0 := Lib.hid h0
  have HY := Lib.hid (And.intro hy0 (And.intro hny (And.intro hly hys)))
  have c0' : w.cell? ⟨r, 0, none⟩ = some (.int .u64 s.id) := (cell_at h0.blk 0).trans rfl
  have HFIN0 := Lib.hid (show ∀ W W8, Below w.heap.size w W → OM W W8 fb b { s.os with ys := ys, el := s.os.el || (ffin && s.os.es) } → SdM w W8 fp r { s with os := { s.os with ys := ys, el := s.os.el || (ffin && s.os.es) } } from fun W W8 hb hm => by
    obtain ⟨fb', h1, h2⟩ := hm
    have hm2 : OM w W8 fb b { s.os with ys := ys, el := s.os.el || (ffin && s.os.es) } := ⟨fb', h1, h2.first hb⟩
    exact sdm_of (s' := { s with os := { s.os with ys := ys, el := s.os.el || (ffin && s.os.es) } }) h0 hfp hm2 (Upd.refl _ _) (h0.later hm2) ⟨h0.ok.id, h0.ok.st, h0.ok.lim, h0.ok.rs⟩)
  simp only [encF]
  generalize s.id = id at *
  clear h0 hfp hf hy0 hny hly hys
  go_enter Try.func23, Try.ntmps23
  go_upto_region 0 with fail
  go_cut [3] (fun v wx => ∃ z, v = .pointer (some ⟨z, 0, none⟩) ∧ w.heap.size ≤ z ∧ Below w.heap.size w wx ∧ wx.heap[z]? = some (.cells #[.int .i64 8, .int .u64 id, .int .u64 foff, .slice od n cd, .bool ffin, .int .u64 lim, .int .u64 code, .int .u64 fnl, .int .u64 seq, .int .u64 dly, vr,
    .int .u8 c0, .int .u8 c1, .int .u8 c2, .int .u8 c3, .int .u8 c4, .int .u8 c5, .int .u8 c6, .int .u8 c7] 39 (0, 0)))
  case first =>
    go_wp2_with fail
    go_meet
    case rel => exact ⟨_, rfl, Nat.le_refl _, (Below.refl _ _).alloc (Nat.le_refl _) _, alloc_at _ _⟩
  case rest =>
    obtain ⟨z, rfl, hz, hb1, hkz⟩ := hcut
    generalize wc = w1 at *
    have HKZ := Lib.hid hkz
    have HBD := Lib.hid (show ∀ k, Below w.heap.size w (w1.drewN k) from fun k => below_drewN hb1 k)
    have HBD1 := Lib.hid (show Below w.heap.size w w1.drew from hb1.drew)
    have hrw := heap_lt H0.out.blk
    have HRK := Lib.hid (below_keeps hb1 H0.out.blk hrw)
    have HB := Lib.hid H0.out.buf
    have d0 := cell_keep hb1 hrw c0'
    have z0 := (cell_at hkz 0).trans (by rfl : _ = some (Value.int .i64 8))
    have z1 := (cell_at hkz 1).trans (by rfl : _ = some (Value.int .u64 id))
    clear hb1 hkz c0'
    go_wp2_with fail
    go_quiet (fail)
    go_wp2_with fail
    refine wp_region_till (S := fun w' => w'.cell? ⟨r, 24, none⟩ = some (.pointer (some ⟨b, 0, none⟩)) ∧ w'.cell? ⟨z, 2, none⟩ = some (.int .u64 foff) ∧ w'.cell? ⟨z, 3, none⟩ = some (.slice od n cd) ∧ w'.cell? ⟨z, 4, none⟩ = some (.bool ffin)) [11] (by kernel_rfl) (by exact ⟨(cell_at HRK.out 24).trans rfl, (cell_at HKZ.out 2).trans rfl, (cell_at HKZ.out 3).trans rfl, (cell_at HKZ.out 4).trans rfl⟩) (fun hHeld => ?_)
    refine wpTill_take0 (i := 0) (oi := ⟨some 16, _, _, _, _, _⟩) (v := ?_) rfl (by kernel_rfl) (fun _ _ _ h => h) (Or.inl ⟨by rfl, ?_⟩) (fun _ => hHeld) ?_
    rotate_left
    · intro w hSw
      (try dsimp only at hSw)
      go_simp
      try with_reducible rfl
    try simp only [Act.put, List.setIfInBounds_toArray, List.set_cons_zero, List.set_cons_succ]
    refine wpTill_take0 (i := 1) (oi := ⟨some 17, _, _, _, _, _⟩) (v := ?_) rfl (by kernel_rfl) (fun _ _ _ h => h) (Or.inl ⟨by rfl, ?_⟩) (fun _ => hHeld) ?_
    rotate_left
    · intro w hSw
      (try dsimp only at hSw)
      go_simp
      try with_reducible rfl
    try simp only [Act.put, List.setIfInBounds_toArray, List.set_cons_zero, List.set_cons_succ]
    refine wpTill_take0 (i := 2) (oi := ⟨some 18, _, _, _, _, _⟩) (v := ?_) rfl (by kernel_rfl) (fun _ _ _ h => h) (Or.inl ⟨by rfl, ?_⟩) (fun _ => hHeld) ?_
    rotate_left
    · intro w hSw
      (try dsimp only at hSw)
      go_simp
      try with_reducible rfl
    try simp only [Act.put, List.setIfInBounds_toArray, List.set_cons_zero, List.set_cons_succ]
    refine wpTill_take (i := 3) (oi := ⟨some 19, _, _, _, _, _⟩) (v := ?_) rfl (by kernel_rfl) (fun _ _ _ h => h) (Or.inl ⟨by rfl, ?_⟩) (by exact hHeld) ?_
    rotate_left
    · intro w hSw
      (try dsimp only at hSw)
      go_simp
      try with_reducible rfl
    try simp only [Act.put, List.setIfInBounds_toArray, List.set_cons_zero, List.set_cons_succ]
    refine wpTill_take0 (i := 4) (oi := ⟨some 20, _, _, _, _, _⟩) (v := ?_) rfl (by kernel_rfl) (fun _ _ _ h => h) (Or.inl ⟨by rfl, ?_⟩) (fun _ => hHeld) ?_
    rotate_left
    · intro w hSw
      (try dsimp only at hSw)
      go_simp
      try with_reducible rfl
    try simp only [Act.put, List.setIfInBounds_toArray, List.set_cons_zero, List.set_cons_succ]
    refine wpTill_take (i := 5) (oi := ⟨some 21, _, _, _, _, _⟩) (v := ?_) rfl (by kernel_rfl) (fun _ _ _ h => h) (Or.inl ⟨by rfl, ?_⟩) (by exact hHeld) ?_
    rotate_left
    · intro w hSw
      (try dsimp only at hSw)
      go_simp
      try with_reducible rfl
    try simp only [Act.put, List.setIfInBounds_toArray, List.set_cons_zero, List.set_cons_succ]
    refine wpTill_take0 (i := 6) (oi := ⟨some 22, _, _, _, _, _⟩) (v := ?_) rfl (by kernel_rfl) (fun _ _ _ h => h) (Or.inl ⟨by rfl, ?_⟩) (fun _ => hHeld) ?_
    rotate_left
    · intro w hSw
      (try dsimp only at hSw)
      go_simp
      try with_reducible rfl
    try simp only [Act.put, List.setIfInBounds_toArray, List.set_cons_zero, List.set_cons_succ]
    refine wpTill_take0 (i := 9) (oi := ⟨some 25, _, _, _, _, _⟩) (v := ?_) rfl (by kernel_rfl) (fun _ _ _ h => h) (Or.inl ⟨by rfl, ?_⟩) (fun _ => hHeld) ?_
    rotate_left
    · intro w hSw
      (try dsimp only at hSw)
      go_simp
      try with_reducible rfl
    try simp only [Act.put, List.setIfInBounds_toArray, List.set_cons_zero, List.set_cons_succ]
    refine wpTill_take (i := 10) (oi := ⟨some 26, _, _, _, _, _⟩) (v := ?_) rfl (by kernel_rfl) (fun _ _ _ h => h) (Or.inl ⟨by rfl, ?_⟩) (by exact hHeld) ?_
    rotate_left
    · intro w hSw
      (try dsimp only at hSw)
      go_simp
      try with_reducible rfl
    try simp only [Act.put, List.setIfInBounds_toArray, List.set_cons_zero, List.set_cons_succ]
    refine wpTill_ready (rs := [7]) (by kernel_rfl) (by simp) ?_
    refine AllTill.cons (o := ⟨some 23, _, _, _, _, _⟩) rfl (fun K hK => ?_) AllTill.nil
    have z3 := (cell_at HKZ.out 3).trans (by rfl : _ = some (Value.slice od n cd))
    go_simp
    refine hK.out _ _ (by exact hHeld) (fun hHeld => ?_)
    clear hK K
    try simp only [Act.put, List.setIfInBounds_toArray, List.set_cons_zero, List.set_cons_succ]
    refine wpTill_ready (rs := [8]) (by kernel_rfl) (by simp) ?_
    refine AllTill.cons (o := ⟨some 24, _, _, _, _, _⟩) rfl (fun K hK => ?_) AllTill.nil
    go_simp
    refine hK.out _ _ (by exact hHeld) (fun hHeld => ?_)
    clear hK K
    try simp only [Act.put, List.setIfInBounds_toArray, List.set_cons_zero, List.set_cons_succ]
    refine wpTill_ready (rs := [11]) (by kernel_rfl) (by simp) ?_
    refine AllTill.consD (o := ⟨some 27, _, _, _, _, _⟩) rfl (by kernel_rfl) (fun K hK => ?_) AllTill.nil
    go_simp
    go_at_call 43
    refine (olost_any b s.os fb foff n ffin y0 ys _ (by first | exact HB.out.below (HBD.out _) | exact HB.out.below HBD1.out) (by exact HF.out.off) (by omega) (by omega) HY.out.1 HY.out.2.1 HY.out.2.2.1 HY.out.2.2.2).mono ?_
    rintro e W8 ⟨rfl, hm⟩
    have H8 := Lib.hid (by first | exact HFIN0.out _ _ (HBD.out _) hm | exact HFIN0.out _ _ HBD1.out hm)
    clear hm
    go_wp2_with fail
    refine hK.out _ _ ?_
    clear hK K
    try simp only [Act.put, List.setIfInBounds_toArray, List.set_cons_zero, List.set_cons_succ]
    refine wpTill_done (by kernel_rfl) ?_ _
    go_wp2_with fail
    go_end0
    exact ⟨rfl, H8.out⟩
set_option maxRecDepth 100000 in
set_option maxHeartbeats 2000000 in
theorem slost_rst (r : Nat) (s : SS) (fp : Nat → Prop) (f : Fr) (w : World) (h : SdAt w r s fp) (hk : f.kd = 4) (hs : f.sid = s.id) (h5 : s.st = 5) :
    Calls Try.prog 23 #[.pointer (some ⟨r, 0, none⟩), .agg (encF f).toArray] w fun e w' => e = .returned (.tuple #[]) ∧ SdM w w' fp r { s with rq := true } := by
  have H := Lib.hid h
  obtain ⟨b, fb, h0, hfp⟩ := h
  obtain ⟨kd, sid, foff, vd, ffin, lim, code, fnl, seq, dly, vr, c0, c1, c2, c3, c4, c5, c6, c7⟩ := f
  obtain rfl : kd = 4 := hk
  obtain rfl : sid = s.id := hs
  have H0 := Lib.hid h0
  have c0' : w.cell? ⟨r, 0, none⟩ = some (.int .u64 s.id) := (cell_at h0.blk 0).trans rfl
  have c1' : w.cell? ⟨r, 1, none⟩ = some (.int .i64 5) := (cell_at h0.blk 1).trans (by rw [show (5 : Int) = (s.st : Int) by omega]; rfl)
  have c23 : w.cell? ⟨r, 23, none⟩ = some (.bool s.rq) := (cell_at h0.blk 23).trans rfl
  have f23 := free_at h0.blk 23
  have HFIN0 := Lib.hid (show ∀ W, Below w.heap.size w W → SdM w (W.setCell ⟨r, 23, none⟩ (.bool true)) fp r { s with rq := true } from fun W hb => by
    refine sdm_of (s' := { s with rq := true }) h0 hfp ((OM.refl h0.buf).later hb) ((Upd.refl (fun j => j = r) W).setCell ⟨r, 23, none⟩ (.inl rfl) _) ?_ ⟨h0.ok.id, h0.ok.st, h0.ok.lim, h0.ok.rs⟩
    exact set_at (below_keeps hb h0.blk (heap_lt h0.blk)) 23 _)
  simp only [encF]
  generalize s.id = id at *
  clear h0 hfp
  go_enter Try.func23, Try.ntmps23
  go_upto_region 0 with fail
  go_cut [3] (fun v wx => ∃ z, v = .pointer (some ⟨z, 0, none⟩) ∧ w.heap.size ≤ z ∧ Below w.heap.size w wx ∧ wx.heap[z]? = some (.cells #[.int .i64 4, .int .u64 id, .int .u64 foff, vd, .bool ffin, .int .u64 lim, .int .u64 code, .int .u64 fnl, .int .u64 seq, .int .u64 dly, vr,
    .int .u8 c0, .int .u8 c1, .int .u8 c2, .int .u8 c3, .int .u8 c4, .int .u8 c5, .int .u8 c6, .int .u8 c7] 39 (0, 0)))
  case first =>
    go_wp2_with fail
    go_meet
    case rel => exact ⟨_, rfl, Nat.le_refl _, (Below.refl _ _).alloc (Nat.le_refl _) _, alloc_at _ _⟩
  case rest =>
    obtain ⟨z, rfl, hz, hb1, hkz⟩ := hcut
    generalize wc = w1 at *
    have hrw := heap_lt H0.out.blk
    have d0 := cell_keep hb1 hrw c0'
    have d1 := cell_keep hb1 hrw c1'
    have d23 := cell_keep hb1 hrw c23
    have g23 := free_at (below_keeps hb1 H0.out.blk hrw) 23
    have HFIN := Lib.hid (show ∀ k, SdM w ((w1.drewN k).setCell ⟨r, 23, none⟩ (.bool true)) fp r { s with id := id, rq := true } from fun k => HFIN0.out _ (below_drewN hb1 k))
    have z0 := (cell_at hkz 0).trans (by rfl : _ = some (Value.int .i64 4))
    have z1 := (cell_at hkz 1).trans (by rfl : _ = some (Value.int .u64 id))
    clear hb1 hkz c0' c1' c23 f23
    go_wp2_with fail
    go_quiet (fail)
    go_wp2_with fail
    go_end0
    exact ⟨rfl, HFIN.out _⟩
end Go.Proofs.Ytncfbaabhceeoaa

/- DERIVED. Plain: what SenderKeeps asks: bytes come, pieces go, are lost, are acknowledged. -/
namespace Go.Proofs.Ytncfbaabhceeoaa
open Go.RowKit

structure GI (s : OS) (lim : Nat) : Prop where
  ok : s.Ok
  l4 : s.B.length ≤ 4000
  sl : s.sent ≤ lim
  rm : s.B.length ≤ s.base + 2048
  xb : ∀ j, mem s.xs j = true → j < s.sent
  yb : ∀ j, mem s.ys j = true → j < s.sent ∧ mem s.xs j = false
  bx : ∀ j, j < s.base → mem s.xs j = true
theorem GI.start (lim : Nat) : GI OS.zero lim :=
  ⟨OS.zero_ok, by show 0 ≤ 4000; omega, Nat.zero_le _, by show 0 ≤ _; omega, fun j q => by simp [OS.zero, mem] at q, fun j q => by simp [OS.zero, mem] at q, fun j q => absurd q (Nat.not_lt_zero _)⟩
theorem GI.more {s : OS} {lim lim2 : Nat} (h : GI s lim) (hl : lim ≤ lim2) : GI s lim2 := ⟨h.ok, h.l4, Nat.le_trans h.sl hl, h.rm, h.xb, h.yb, h.bx⟩
theorem GI.xl {s : OS} {lim : Nat} (h : GI s lim) : s.xs.length ≤ 4000 ∧ s.ys.length ≤ 4000 := by
  have h1 := len_mem h.ok.nx h.xb
  have h2 := len_mem h.ok.ny (fun j hj => (h.yb j hj).1)
  have := h.ok.sent
  have := h.l4
  omega
theorem GI.finish {s : OS} {lim : Nat} (h : GI s lim) : GI { s with fi := true } lim :=
  ⟨⟨h.ok.len, h.ok.base, h.ok.sent, h.ok.nx, h.ok.ny, h.ok.lx, h.ok.ly, h.ok.bys⟩, h.l4, h.sl, h.rm, h.xb, h.yb, h.bx⟩
theorem GI.endGoes {s : OS} {lim : Nat} (h : GI s lim) : GI { s with es := true, el := false } lim :=
  ⟨⟨h.ok.len, h.ok.base, h.ok.sent, h.ok.nx, h.ok.ny, h.ok.lx, h.ok.ly, h.ok.bys⟩, h.l4, h.sl, h.rm, h.xb, h.yb, h.bx⟩
theorem write_len (s : OS) (d : List Nat) : (s.write d).B.length = s.B.length + min d.length s.room := by
  show (s.B ++ d.take (min d.length s.room)).length = _
  rw [List.length_append, List.length_take]
  omega
theorem GI.write {s : OS} {lim : Nat} (h : GI s lim) {d : List Nat} (hd : d.length ≤ 60) (hl : s.B.length ≤ 3900) (hb : Bys d) : GI (s.write d) lim := by
  have hw := write_len s d
  have hr : s.room ≤ 2048 - (s.B.length - s.base) := by
    unfold OS.room
    split <;> omega
  have hbase := h.ok.base
  have hrm := h.rm
  have hsn := h.ok.sent
  refine ⟨⟨by omega, ?_, ?_, h.ok.nx, h.ok.ny, h.ok.lx, h.ok.ly, ?_⟩, by omega, h.sl, ?_, h.xb, h.yb, h.bx⟩
  · show s.base ≤ _
    omega
  · show s.sent ≤ _
    omega
  · intro x hx
    have hx : x ∈ s.B ++ d.take (min d.length s.room) := hx
    rcases List.mem_append.1 hx with q | q
    · exact h.ok.bys x q
    · exact hb x (List.mem_of_mem_take q)
  · show _ ≤ s.base + 2048
    omega
theorem GI.base_le {s : OS} {lim f : Nat} (h : GI s lim) (hf : mem s.xs f = false) : s.base ≤ f := by
  rcases Nat.lt_or_ge f s.base with h1 | h1
  · rw [h.bx f h1] at hf
    cases hf
  · exact h1
theorem GI.goes {s : OS} {lim : Nat} (h : GI s lim) {f t : Nat} (hft : f < t) (htn : t ≤ s.B.length) (htl : t ≤ lim) : GI (s.went f t) lim ∧ t ≤ (s.went f t).sent := by
  have hc := cutRaw_facts (f := f) (t := t) h.ok.ny (by omega)
  have hcn := cut_norm f t _ h.ok.ny
  have hmx : (s.went f t).sent = max s.sent t := rfl
  have heys : (s.went f t).ys = cutRaw f t s.ys := rfl
  have hos := h.ok.sent
  have hsl := h.sl
  have hl4 := h.l4
  have hyb : ∀ j, mem (s.went f t).ys j = true → j < s.sent ∧ mem s.xs j = false := by
    intro j hj
    rw [heys, hc] at hj
    simp only [Bool.and_eq_true] at hj
    exact h.yb j hj.1
  have hyl := len_mem (xs := cutRaw f t s.ys) hcn (m := s.sent) (fun j hj => (hyb j hj).1)
  refine ⟨⟨⟨h.ok.len, h.ok.base, by rw [hmx]; show _ ≤ s.B.length; omega, h.ok.nx, hcn, h.ok.lx, by show (cutRaw f t s.ys).length ≤ _; omega, h.ok.bys⟩, h.l4, by rw [hmx]; omega, h.rm, ?_, ?_, h.bx⟩, by rw [hmx]; omega⟩
  · intro j hj
    have := h.xb j hj
    rw [hmx]
    omega
  · intro j hj
    obtain ⟨h1, h2⟩ := hyb j hj
    rw [hmx]
    exact ⟨by omega, h2⟩
/-- What Next does. -/
theorem GI.next {s : OS} {lim : Nat} (h : GI s lim) (hlim : lim ≤ 1000) (m lim2 : Nat) (hl2 : lim2 ≤ lim) :
    (∃ f t0 t, s.part lim2 = (f, t0) ∧ s.base ≤ f ∧ f < t ∧ min t0 (f + m) = t ∧ t ≤ s.B.length ∧ t ≤ lim ∧ t0 ≤ 1099511627776 ∧ (cutRaw f t s.ys).length ≤ 100000 ∧ GI (s.went f t) lim ∧ t ≤ (s.went f t).sent) ∨
    (s.ys = [] ∧ s.sent = s.B.length ∧ s.ende = true) ∨
    (∃ f t0, s.part lim2 = (f, t0) ∧ f ≤ t0 ∧ min t0 (f + m) = f ∧ t0 ≤ 1099511627776 ∧ (s.ys = [] → s.sent = s.B.length → s.ende = false)) := by
  have hs := h.ok.sent
  have hl := h.l4
  have hsl := h.sl
  have hcl : ∀ f t, (cutRaw f t s.ys).length ≤ 100000 := fun f t => by have := cut_le f t _ h.ok.ny; have := h.xl.2; omega
  obtain ⟨f, t0, hp, hft0, h1, h2, h3⟩ : ∃ f t0, s.part lim2 = (f, t0) ∧ f ≤ t0 ∧ t0 ≤ max s.sent (min lim2 s.B.length) ∧ (s.ys = [] → f = s.sent) ∧ (f < t0 → mem s.xs f = false) := by
    cases hy : s.ys with
    | nil =>
      refine ⟨s.sent, max s.sent (min lim2 s.B.length), ?_, by omega, Nat.le_refl _, fun _ => rfl, fun _ => bool_not (fun q => by have := h.xb _ q; omega)⟩
      unfold OS.part
      rw [hy]
    | cons r rest =>
      have hr : r ∈ s.ys := by rw [hy]; exact List.mem_cons_self ..
      have hr1 := (h.ok.ny.1 r hr).1
      have hr2 := mem_top h.ok.ny (fun j hj => (h.yb j hj).1) r hr
      refine ⟨r.1, r.2, ?_, by omega, by omega, (fun q => (by cases q)), fun _ => (h.yb r.1 (mem_of hr (Nat.le_refl _) hr1)).2⟩
      unfold OS.part
      rw [hy]
  by_cases hlt : f < min t0 (f + m)
  · left
    obtain ⟨g1, g2⟩ := h.goes (f := f) (t := min t0 (f + m)) hlt (by omega) (by omega)
    exact ⟨f, t0, _, hp, h.base_le (h3 (by omega)), hlt, rfl, by omega, by omega, by omega, hcl _ _, g1, g2⟩
  · right
    by_cases he : s.ys = [] ∧ s.sent = s.B.length ∧ s.ende = true
    · exact .inl he
    · refine .inr ⟨f, t0, hp, hft0, by omega, by omega, fun q1 q2 => ?_⟩
      cases q : s.ende with
      | false => rfl
      | true => exact absurd ⟨q1, q2, q⟩ he
theorem GI.kn {s : OS} {lim f t : Nat} (_ : GI s lim) (hft : f ≤ t) (hts : t ≤ s.sent) : s.kn f ((t - f : Nat) : Int) = (f, t) := by
  unfold OS.kn
  simp only [Prod.mk.injEq, Int.toNat_natCast]
  omega
/-- It is lost. -/
theorem GI.lost {s : OS} {lim f t : Nat} (h : GI s lim) (hft : f ≤ t) (hts : t ≤ s.sent) (fin : Bool) :
    Norm (s.lostB (s.kn f ((t - f : Nat) : Int))) ∧ (s.lostB (s.kn f ((t - f : Nat) : Int))).length + s.xs.length ≤ 100000 ∧
    GI { s with ys := lostY s (s.lostB (s.kn f ((t - f : Nat) : Int))) s.xs.length, el := s.el || (fin && s.es) } lim := by
  rw [h.kn hft hts]
  obtain ⟨l1, l2⟩ := h.xl
  have hs := h.ok.sent
  have hl := h.l4
  obtain ⟨a1, a2, a3⟩ : Norm (s.lostB (f, t)) ∧ (s.lostB (f, t)).length ≤ s.ys.length + 1 ∧ ∀ j, mem (s.lostB (f, t)) j = (mem s.ys j || decide (f ≤ j ∧ j < t)) := by
    unfold OS.lostB
    by_cases q : f < t
    · rw [if_pos q]
      exact addL_facts h.ok.ny q (by omega) (by omega)
    · rw [if_neg q]
      refine ⟨h.ok.ny, by omega, fun j => ?_⟩
      have : ¬ (f ≤ j ∧ j < t) := by omega
      simp [this]
  obtain ⟨b1, b2⟩ := lostY_facts h.ok.nx a1 s.xs.length (Nat.le_refl _)
  rw [List.take_length] at b2
  have hmy : ∀ j, mem (lostY s (s.lostB (f, t)) s.xs.length) j = ((mem s.ys j || decide (f ≤ j ∧ j < t)) && !mem s.xs j) := fun j => by rw [b2, a3]
  have hyb : ∀ j, mem (lostY s (s.lostB (f, t)) s.xs.length) j = true → j < s.sent ∧ mem s.xs j = false := by
    intro j hj
    rw [hmy] at hj
    simp only [Bool.and_eq_true, Bool.or_eq_true, decide_eq_true_eq, Bool.not_eq_true'] at hj
    refine ⟨?_, hj.2⟩
    rcases hj.1 with h1 | h1
    · exact (h.yb j h1).1
    · omega
  have hyl := len_mem b1 (fun j hj => (hyb j hj).1)
  exact ⟨a1, by omega, ⟨h.ok.len, h.ok.base, h.ok.sent, h.ok.nx, b1, h.ok.lx, by show (lostY s (s.lostB (f, t)) s.xs.length).length ≤ _; omega, h.ok.bys⟩, h.l4, h.sl, h.rm, h.xb, hyb, h.bx⟩
/-- It is acknowledged. -/
theorem GI.acked {s : OS} {lim f t : Nat} (h : GI s lim) (hft : f ≤ t) (hts : t ≤ s.sent) (fin : Bool) :
    ∃ zs yz at_, s.ackX (s.kn f ((t - f : Nat) : Int)) = zs ∧ Norm zs ∧ zs.length ≤ 100000 ∧ cutRaw (s.kn f ((t - f : Nat) : Int)).1 (s.kn f ((t - f : Nat) : Int)).2 s.ys = yz ∧ yz.length ≤ 100000 ∧ atOf zs s.B.length = at_ ∧ s.base ≤ at_ ∧ at_ ≤ s.B.length ∧
      GI (s.ackG zs yz at_ fin) lim := by
  rw [h.kn hft hts]
  obtain ⟨l1, l2⟩ := h.xl
  have hs := h.ok.sent
  have hl := h.l4
  obtain ⟨a1, a2, a3⟩ : Norm (s.ackX (f, t)) ∧ (s.ackX (f, t)).length ≤ s.xs.length + 1 ∧ ∀ j, mem (s.ackX (f, t)) j = (mem s.xs j || decide (f ≤ j ∧ j < t)) := by
    unfold OS.ackX
    by_cases q : f < t
    · rw [if_pos q]
      exact addL_facts h.ok.nx q (by omega) (by omega)
    · rw [if_neg q]
      refine ⟨h.ok.nx, by omega, fun j => ?_⟩
      have : ¬ (f ≤ j ∧ j < t) := by omega
      simp [this]
  obtain ⟨zs, hz⟩ : ∃ zs, s.ackX (f, t) = zs := ⟨_, rfl⟩
  rw [hz] at a1 a2 a3
  have hcn := cut_norm f t _ h.ok.ny
  have hc := cutRaw_facts (f := f) (t := t) h.ok.ny hft
  have hcl := cut_le f t _ h.ok.ny
  have hup : ∀ k, mem s.xs k = true → mem zs k = true := fun k hk => by rw [a3, hk]; rfl
  obtain ⟨q1, q2, q3⟩ := at_facts (n := s.B.length) a1
  have hrm := h.rm
  have hbs := h.ok.base
  have hba : s.base ≤ atOf zs s.B.length := by
    rcases Nat.lt_or_ge (atOf zs s.B.length) s.base with q | q
    · have e1 := hup _ (h.bx _ q)
      have e2 := q3 (by omega)
      rw [e1] at e2
      cases e2
    · exact q
  refine ⟨zs, _, _, hz, a1, by omega, rfl, by show (cutRaw f t s.ys).length ≤ _; omega, rfl, hba, q1, ⟨h.ok.len, q1, h.ok.sent, a1, hcn, by show zs.length ≤ _; omega, by show (cutRaw f t s.ys).length ≤ _; omega, h.ok.bys⟩, h.l4, h.sl, ?_, ?_, ?_, ?_⟩
  · show s.B.length ≤ atOf zs s.B.length + 2048
    omega
  · intro j hj
    have hj : mem zs j = true := hj
    rw [a3] at hj
    simp only [Bool.or_eq_true, decide_eq_true_eq] at hj
    show j < s.sent
    rcases hj with q | q
    · exact h.xb j q
    · omega
  · intro j hj
    have hj : mem (cutRaw f t s.ys) j = true := hj
    rw [hc] at hj
    simp only [Bool.and_eq_true, Bool.not_eq_true', decide_eq_false_iff_not] at hj
    obtain ⟨e1, e2⟩ := h.yb j hj.1
    refine ⟨e1, ?_⟩
    show mem zs j = false
    rw [a3, e2]
    simp only [Bool.false_or, decide_eq_false_iff_not]
    exact hj.2
  · intro j hj
    exact q2 j hj
end Go.Proofs.Ytncfbaabhceeoaa

/- DERIVED. Plain: SenderEnds' rounds come to an end with all acknowledged. -/
namespace Go.Proofs.Ytncfbaabhceeoaa
open Go.RowKit

structure EI (s : OS) (n : Nat) : Prop where
  ci : ∃ wt, CI s n wt s.ea
  p : 1 ≤ n → mem s.xs (n - 1) = true → s.ea = true
structure EM (s : OS) (n f t : Nat) (fin : Bool) : Prop where
  cm : ∃ wt, CM s n wt s.ea f t fin
  p : 1 ≤ n → mem s.xs (n - 1) = true → s.ea = true
  q : 1 ≤ n → t = n → fin = true ∨ s.ea = true
  nz : 1 ≤ n → f < t
/-- What is left. -/
def vv (s : OS) (n : Nat) : Nat := if n = 0 then lft s n else n - cnt (mem s.xs) n
theorem vv_le {s : OS} {n : Nat} : vv s n ≤ max n 1 := by
  unfold vv lft
  split
  · subst_vars
    split <;> omega
  · omega
theorem EI.ende {s : OS} {n : Nat} (h : EI s n) : s.ende = !s.ea := by
  obtain ⟨wt, hc⟩ := h.ci
  exact ende_of hc.fi hc.es
theorem EI.start {A : List Nat} {n : Nat} (h : A.length = n) (hn : n ≤ 200) (hb : Bys A) : EI { OS.zero with B := A, fi := true } n :=
  ⟨⟨_, CI.start h hn hb⟩, fun _ q => by simp [OS.zero, mem] at q⟩
/-- The next piece. -/
theorem EI.next {s : OS} {n : Nat} (h : EI s n) {k : Nat} (hk : 1 ≤ k) :
    (∃ f t0 t, s.part 1000 = (f, t0) ∧ s.base ≤ f ∧ f < t ∧ min t0 (f + k) = t ∧ t ≤ n ∧ t0 ≤ 1099511627776 ∧ (cutRaw f t s.ys).length ≤ 100000 ∧ EM (s.went f t) n f t (decide (t = s.B.length) && s.ende)) ∨
    (s.ys = [] ∧ s.sent = n ∧ s.ende = true ∧ EM { s with es := true, el := false } n n n true) ∨
    (s.ys = [] ∧ s.sent = n ∧ s.ende = false ∧ s.ea = true ∧ s.whole = true) := by
  have hende := h.ende
  have hp := h.p
  obtain ⟨wt, hc⟩ := h.ci
  have hlen := hc.len
  rcases hc.next hk with ⟨f, t0, t, h1, h2, h3, h4, h5, h6, h7, h8⟩ | ⟨h1, h2, h3, h4⟩ | ⟨h1, h2, h3⟩
  · refine .inl ⟨f, t0, t, h1, h2, h3, h4, h5, h6, h7, ⟨⟨wt, h8⟩, hp, fun _ q => ?_, fun _ => h3⟩⟩
    rw [hlen, q, hende]
    show (decide (n = n) && !s.ea) = true ∨ s.ea = true
    cases s.ea <;> simp
  · refine .inr (.inl ⟨h1, h2, h3, ⟨⟨wt, h4⟩, hp, fun _ _ => .inl rfl, fun hn => ?_⟩⟩)
    exfalso
    have hall : mem s.xs (n - 1) = true := by
      rcases hc.cov (n - 1) (by omega) with e | e
      · exact e
      · rw [h1] at e
        simp [mem] at e
    have := hp hn hall
    rw [hende, this] at h3
    cases h3
  · obtain ⟨d1, _, d3, _⟩ := hc.done h1 h2 h3
    exact .inr (.inr ⟨h1, h2, h3, d1, d3⟩)
theorem EM.lost {s : OS} {n f t : Nat} {fin : Bool} (h : EM s n f t fin) :
    Norm (s.lostB (s.kn f ((t - f : Nat) : Int))) ∧ (s.lostB (s.kn f ((t - f : Nat) : Int))).length + s.xs.length ≤ 100000 ∧
    EI { s with ys := lostY s (s.lostB (s.kn f ((t - f : Nat) : Int))) s.xs.length, el := s.el || (fin && s.es) } n := by
  obtain ⟨wt, hc⟩ := h.cm
  obtain ⟨a, b, c⟩ := hc.lost
  exact ⟨a, b, ⟨wt, c⟩, h.p⟩
theorem EM.acked {s : OS} {n f t : Nat} {fin : Bool} (h : EM s n f t fin) :
    ∃ zs yz at_, s.ackX (s.kn f ((t - f : Nat) : Int)) = zs ∧ Norm zs ∧ zs.length ≤ 100000 ∧ cutRaw (s.kn f ((t - f : Nat) : Int)).1 (s.kn f ((t - f : Nat) : Int)).2 s.ys = yz ∧ yz.length ≤ 100000 ∧ atOf zs s.B.length = at_ ∧ s.base ≤ at_ ∧ at_ ≤ s.B.length ∧
      EI (s.ackG zs yz at_ fin) n ∧ vv (s.ackG zs yz at_ fin) n + 1 ≤ vv s n ∧ (fin = true → s.es = true) := by
  obtain ⟨wt, hc⟩ := h.cm
  have hfn := hc.fn
  have hpc := hc.pc
  have hts := hc.ts
  have hsn := hc.ok.sent
  have hln := hc.len
  have hwl := hc.wl
  have hwv := hc.wv
  obtain ⟨zs, yz, at_, a1, a2, a3, a4, a5, a6, a7, a8, a9, a10⟩ := hc.acked
  have hm : ∀ j, j < n → mem zs j = true → mem s.xs j = true ∨ (f ≤ j ∧ j < t) := fun j hj hz => by
    have e1 : (setT wt f (t - f))[j]? = some (mem zs j) := a9.wv j hj
    rw [setT_at wt f _ _ (by omega)] at e1
    split at e1
    · right; omega
    · rw [hwv j hj] at e1
      left
      have : mem s.xs j = mem zs j := by simpa using e1
      rw [this]; exact hz
  have hm2 : ∀ j, j < n → (mem s.xs j = true ∨ (f ≤ j ∧ j < t)) → mem zs j = true := fun j hj hz => by
    have e1 : (setT wt f (t - f))[j]? = some (mem zs j) := a9.wv j hj
    rw [setT_at wt f _ _ (by omega)] at e1
    split at e1
    · simpa using e1.symm
    · rename_i hno
      rw [hwv j hj] at e1
      have : mem s.xs j = mem zs j := by simpa using e1
      rw [← this]
      rcases hz with e | e
      · exact e
      · exact absurd ⟨e.1, by omega⟩ hno
  refine ⟨zs, yz, at_, a1, a2, a3, a4, a5, a6, a7, a8, ⟨⟨setT wt f (t - f), by have e := a9.ea; rw [e]; exact a9⟩, fun hn hz => ?_⟩, ?_, fun q => (hfn q).1⟩
  · show (s.ea || (fin && s.es)) = true
    rcases hm (n - 1) (by omega) hz with e | e
    · rw [h.p hn e]; rfl
    · have htn : t = n := by omega
      rcases h.q hn htn with q | q
      · rw [q, (hfn q).1]; simp
      · rw [q]; rfl
  · unfold vv
    by_cases hn : n = 0
    · rw [if_pos hn, if_pos hn]
      exact a10
    · rw [if_neg hn, if_neg hn]
      have hft := h.nz (by omega)
      have hc1 := cnt_more (p := fun j => mem s.xs j && decide (j < n)) (q := fun j => mem zs j && decide (j < n)) (fun k hk => by
        simp only [Bool.and_eq_true, decide_eq_true_eq] at hk ⊢
        exact ⟨hm2 k hk.2 (.inl hk.1), hk.2⟩) (f := f) (by rw [(hpc f (Nat.le_refl _) hft).1]; rfl) (by
        have : f < n := by omega
        simp only [Bool.and_eq_true, decide_eq_true_eq]
        exact ⟨hm2 f this (.inr ⟨Nat.le_refl _, hft⟩), this⟩) n (by omega)
      have hsame : ∀ (p : Nat → Bool) (m : Nat), m ≤ n → cnt (fun j => p j && decide (j < n)) m = cnt p m := fun p m => by
        induction m with
        | zero => intro _; rfl
        | succ m ih =>
          intro hm
          simp only [cnt]
          rw [ih (by omega)]
          have e : (p m && decide (m < n)) = p m := by rw [decide_eq_true (show m < n by omega), Bool.and_true]
          simp only [e]
      rw [hsame _ n (Nat.le_refl _), hsame _ n (Nat.le_refl _)] at hc1
      have hle := cnt_le (mem zs) n
      show n - cnt (mem zs) n + 1 ≤ n - cnt (mem s.xs) n
      have e2 : cnt (fun j => mem s.xs j) n = cnt (mem s.xs) n := rfl
      have e3 : cnt (fun j => mem zs j) n = cnt (mem zs) n := rfl
      omega
theorem cnt_full {p : Nat → Bool} : ∀ n, cnt p n = n → ∀ j, j < n → p j = true
  | 0, _, j, hj => by omega
  | n + 1, h, j, hj => by
    have hle := cnt_le p n
    simp only [cnt] at h
    cases hp : p n with
    | false => rw [hp] at h; simp at h; omega
    | true =>
      rw [hp] at h
      by_cases e : j = n
      · rw [e]; exact hp
      · exact cnt_full n (by simp at h; omega) j (by omega)
/-- Nothing is left. -/
theorem EI.over {s : OS} {n : Nat} (h : EI s n) (hv : vv s n = 0) : s.whole = true ∧ s.ea = true := by
  have hp := h.p
  obtain ⟨wt, hc⟩ := h.ci
  have hlen := hc.len
  unfold vv at hv
  have hall : (∀ j, j < n → mem s.xs j = true) ∧ s.ea = true := by
    by_cases hn : n = 0
    · rw [if_pos hn] at hv
      refine ⟨fun j hj => by omega, ?_⟩
      unfold lft at hv
      cases hq : s.ea with
      | true => rfl
      | false => rw [hq] at hv; simp at hv
    · rw [if_neg hn] at hv
      have hle := cnt_le (mem s.xs) n
      have := cnt_full (p := mem s.xs) n (by omega)
      exact ⟨this, hp (by omega) (this _ (by omega))⟩
  refine ⟨?_, hall.2⟩
  unfold OS.whole
  rw [hc.fi, hall.2, hc.base, at_all hc.ok.nx hall.1, hlen]
  simp
/-- All is acknowledged: nothing is to be sent. -/
theorem EI.fin {s : OS} {n : Nat} (h : EI s n) (hw : s.whole = true) : s.ys = [] ∧ s.sent = n ∧ s.ende = false ∧ s.ea = true := by
  have he := h.ende
  obtain ⟨wt, hc⟩ := h.ci
  unfold OS.whole at hw
  simp only [Bool.and_eq_true, decide_eq_true_eq] at hw
  obtain ⟨⟨_, hea⟩, hb⟩ := hw
  have hlen := hc.len
  have hsl := hc.ok.sent
  obtain ⟨_, h2, _⟩ := at_facts (n := n) hc.ok.nx
  have hall : ∀ j, j < n → mem s.xs j = true := fun j hj => h2 j (by rw [← hc.base]; omega)
  have hsn : s.sent = n := by
    by_cases hn : n = 0
    · omega
    · have := hc.xb _ (hall (n - 1) (by omega))
      omega
  refine ⟨?_, hsn, by rw [he, hea]; rfl, hea⟩
  cases hy : s.ys with
  | nil => rfl
  | cons r rest =>
    exfalso
    have hr : r ∈ s.ys := by rw [hy]; exact List.mem_cons_self ..
    have hny := hc.ok.ny
    rw [hy] at hny
    have hlt := hny.head.1.1
    have := hc.yb r.1 (mem_of hr (Nat.le_refl _) hlt)
    rw [hall r.1 (by omega)] at this
    cases this.2
end Go.Proofs.Ytncfbaabhceeoaa
