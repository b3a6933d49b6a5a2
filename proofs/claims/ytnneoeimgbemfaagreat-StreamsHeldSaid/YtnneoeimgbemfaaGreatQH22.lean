/- DERIVED. Walk of sender's Next behind a Reset, and where there is no room. -/
import Derived.Test.YtnneoeimgbemfaaGreatQH13
import Derived.Test.YtnneoeimgbemfaaGreatQH15
import Derived.Test.YtnneoeimgbemfaaGreatQH16
import Derived.Test.YtnneoeimgbemfaaGreatQH17
import Derived.Test.YtnneoeimgbemfaaGreatQH18
import Derived.Test.YtnneoeimgbemfaaGreatQH19
import Derived.Test.YtnneoeimgbemfaaGreatQH20
import Derived.Test.YtnneoeimgbemfaaGreatQH21
set_option linter.all false
namespace Go.Proofs.YtnneoeimgbemfaaGreat
open Go.RowKit

def size4 (f : Fr) : Nat := if right4 f then (bytes4 f).length else 0
theorem size4_int (f : Fr) : (if right4 f then ((bytes4 f).length : Int) else 0) = (size4 f : Int) := by unfold size4; split <;> rfl
theorem size4_le (f : Fr) : size4 f ≤ 32 := by
  unfold size4
  split
  · unfold bytes4
    rw [List.length_append, varB_len]
    have h1 := vsize_le 4
    have h2 := varsB_len [f.sid, f.code, f.fnl]
    simp only [List.length_cons, List.length_nil] at h2
    omega
  · omega
theorem range_row {w : World} {b : Nat} {t : TypeId} {cs : Array Value} {z : Nat × Nat} (h : w.heap[b]? = some (.cells cs t z)) {o : Nat} {l : List Value} (hl : ∀ j v, l[j]? = some v → cs[o + j]? = some v) : w.rangeAt b o l := fun j v hv => by
  rw [cell_at h]
  exact hl j v hv
theorem SdAt0.reset_range {w : World} {r b : Nat} {s : SS} {fb : Nat → Prop} (h : SdAt0 w r s b fb) : w.rangeAt r 4 (encF (resetF s.id s.rs)) := range_row h.blk (fun j v hv => by
  rw [scells_eq]
  have hj : j < 19 := by
    have := (List.getElem?_eq_some_iff.1 hv).1
    exact this
  show (([Value.int .u64 s.id, .int .i64 s.st, .bool s.os.fi, .int .u64 s.lim] ++ encF (resetF s.id s.rs) ++ [Value.bool s.rq, .pointer (some ⟨b, 0, none⟩)]).toArray)[4 + j]? = some v
  rw [List.getElem?_toArray, List.append_assoc, List.getElem?_append_right (by show 4 ≤ 4 + j; omega), show 4 + j - [Value.int .u64 s.id, .int .i64 s.st, .bool s.os.fi, .int .u64 s.lim].length = j by show 4 + j - 4 = j; omega, List.getElem?_append_left (by show j < 19; exact hj)]
  exact hv)
set_option maxRecDepth 100000 in
set_option maxHeartbeats 2000000 in
theorem snext_few (r : Nat) (s : SS) (fp : Nat → Prop) (room : Int) (more : Nat) (w : World) (h : SdAt w r s fp) (hst : s.st < 5) (hm : min room 512 < 20) :
    Calls Tryz.prog 26 #[.pointer (some ⟨r, 0, none⟩), .int .i64 room, .int .u64 more] w fun e w' => e = .returned (.tuple #[.agg (encF zeroF).toArray, .bool false]) ∧ Below w.heap.size w w' := by
  obtain ⟨b, fb, h0, hfp⟩ := h
  have c1 : w.cell? ⟨r, 1, none⟩ = some (.int .i64 s.st) := (cell_at h0.blk 1).trans rfl
  have hrw := heap_lt h0.blk
  obtain ⟨st, hste⟩ : ∃ st, s.st = st := ⟨_, rfl⟩
  rw [hste] at c1 hst
  clear h0 hfp hste
  have hroom : room < 20 := by omega
  have hroom2 : ¬ (512 : Int) < room := by omega
  have hst5 : ¬ (5 : Int) ≤ (st : Int) := by omega
  go_enter Tryz.func26, Tryz.ntmps26
  go_upto_region 0 with fail
  go_cut [6] (fun v wx => ∃ y, v = .pointer (some ⟨y, 0, none⟩) ∧ w.heap.size ≤ y ∧ Below w.heap.size w wx ∧ wx.heap[y]? = some (.cells zcells 46 (0, 0)))
  case first =>
    go_wp2_with fail
    go_meet
    case rel => exact ⟨_, rfl, Nat.le_refl _, (Below.refl _ _).alloc (Nat.le_refl _) _, alloc_at _ _⟩
  case rest =>
    obtain ⟨y, rfl, hy, hb1, hky⟩ := hcut
    generalize wc = w1 at *
    have HYK := Lib.hid hky
    have d1 := cell_keep hb1 hrw c1
    have HB := Lib.hid (And.intro hb1 hy)
    clear hky hb1 hy c1
    go_wp2_with (refine wpList_store_row rfl 46 (.tmp 6) (.tmp 43) rfl _ _ rfl rfl 46 zcells (by exact HYK.out) (by rw [sizeF]; rfl) rfl (by simp [Value.oneCell']) ?_)
    (try simp only [Exit.inBlock, Exit.then])
    refine bodyPost_ret (results_row_tmp rfl _ _ y 46 zcells (0, 0) _ rfl (setRow_heap _ y _ _ _ _ HYK.out) Tryz.underlying46 rfl (by rw [sizeF]; rfl)) rfl ?_
    exact ⟨rfl, setRow_below HB.out.1 HB.out.2⟩
set_option maxRecDepth 100000 in
set_option maxHeartbeats 2000000 in
/-- The Reset was told already, or there is no room for it. -/
theorem snext_rno (r : Nat) (s : SS) (fp : Nat → Prop) (room : Int) (more : Nat) (w : World) (h : SdAt w r s fp) (hst : 5 ≤ s.st) (hm : s.rq = true → ∃ x, s.rs = some x ∧ min room 512 < size4 (resetF s.id s.rs)) (hr1 : -9223372036854775808 ≤ room) (hr2 : room ≤ 9223372036854775807) :
    Calls Tryz.prog 26 #[.pointer (some ⟨r, 0, none⟩), .int .i64 room, .int .u64 more] w fun e w' => e = .returned (.tuple #[.agg (encF zeroF).toArray, .bool false]) ∧ Below w.heap.size w w' := by
  obtain ⟨b, fb, h0, hfp⟩ := h
  have c1 : w.cell? ⟨r, 1, none⟩ = some (.int .i64 s.st) := (cell_at h0.blk 1).trans rfl
  have c23 : w.cell? ⟨r, 23, none⟩ = some (.bool s.rq) := (cell_at h0.blk 23).trans rfl
  have hrw := heap_lt h0.blk
  have HRG := Lib.hid h0.reset_range
  have HOK := Lib.hid h0.ok
  obtain ⟨st, hste⟩ : ∃ st, s.st = st := ⟨_, rfl⟩
  obtain ⟨rq, hrqe⟩ : ∃ rq, s.rq = rq := ⟨_, rfl⟩
  rw [hste] at c1 hst
  rw [hrqe] at c23 hm
  clear h0 hfp hste hrqe
  obtain ⟨rm, hrm⟩ : ∃ rm : Int, min room 512 = rm := ⟨_, rfl⟩
  rw [hrm] at hm
  have HM := Lib.hid hm
  clear hm
  have hst5 : (5 : Int) ≤ (st : Int) := by omega
  go_enter Tryz.func26, Tryz.ntmps26
  go_upto_region 0 with fail
  go_cut [6] (fun v wx => ∃ y, v = .pointer (some ⟨y, 0, none⟩) ∧ w.heap.size ≤ y ∧ Below w.heap.size w wx ∧ wx.heap[y]? = some (.cells zcells 46 (0, 0)))
  case first =>
    go_wp2_with fail
    go_meet
    case rel => exact ⟨_, rfl, Nat.le_refl _, (Below.refl _ _).alloc (Nat.le_refl _) _, alloc_at _ _⟩
  case rest =>
    obtain ⟨y, rfl, hy, hb1, hky⟩ := hcut
    generalize wc = w1 at *
    have d1 := cell_keep hb1 hrw c1
    have d23 := cell_keep hb1 hrw c23
    have HRG1 := Lib.hid (show w1.rangeAt r 4 (encF (resetF s.id s.rs)) from fun j v hv => cell_keep hb1 hrw (HRG.out j v hv))
    have HYK := Lib.hid hky
    have HB := Lib.hid (And.intro hb1 hy)
    clear hky hb1 hy c1 c23
    go_upto_region 1 with fail
    go_cut [1] (fun v wx => v = .int .i64 rm ∧ wx = w1)
    case first =>
      by_cases h512 : 512 < room
      · obtain rfl : rm = 512 := by omega
        go_wp2_with fail
        go_meet
        case rel => exact ⟨rfl, rfl⟩
      · obtain rfl : room = rm := by omega
        go_wp2_with fail
        go_meet
        case rel => exact ⟨rfl, rfl⟩
    case rest =>
      obtain ⟨rfl, rfl⟩ := hcut
      generalize wc = w1 at *
      cases rq
      · go_wp2_with (refine wpList_store_row rfl 46 (.tmp 6) (.tmp 33) rfl _ _ rfl rfl 46 zcells (by exact HYK.out) (by rw [sizeF]; rfl) rfl (by simp [Value.oneCell']) ?_)
        (try simp only [Exit.inBlock, Exit.then])
        refine bodyPost_ret (results_row_tmp rfl _ _ y 46 zcells (0, 0) _ rfl (setRow_heap _ y _ _ _ _ HYK.out) Tryz.underlying46 rfl (by rw [sizeF]; rfl)) rfl ?_
        exact ⟨rfl, setRow_below HB.out.1 HB.out.2⟩
      · go_wp2_with (refine BigFrame.wpList_want (by rfl) (fun K hK => wp_load_mid 46 (.tmp 28) rfl r 4 rfl (encF (resetF s.id s.rs)) _ (by exact HRG1.out) Tryz.underlying46 rfl (by rw [sizeF]; rfl) (hK _ _ ?_)))
        obtain ⟨x, hx, hsz⟩ := HM.out (by first | rfl | trivial)
        have hrs := HOK.out.rs x hx
        have hid := HOK.out.id
        obtain ⟨z, hz⟩ : ∃ z, size4 (resetF s.id s.rs) = z := ⟨_, rfl⟩
        rw [hz] at hsz
        have HZ := Lib.hid hz
        refine (size_4 (resetF s.id s.rs) _ (by rw [hx]; rfl) (by rw [hx]; exact ⟨⟨by show (-9223372036854775808 : Int) ≤ 4; omega, by show (4 : Int) ≤ _; omega⟩, hid, by show 0 < _; omega, by show 0 < _; omega, hrs.1, hrs.2⟩) (by rw [hx]; show 0 < _; omega) (od := none) (ln := 0) (cd := 0) (od2 := none) (ln2 := 0) (cd2 := 0) (by rw [hx]; rfl) (by rw [hx]; rfl)).mono ?_
        rw [size4_int, HZ.out]
        rintro e w2 ⟨rfl, hb2⟩
        clear hz
        have HYK2 := Lib.hid (below_keeps hb2 HYK.out (heap_lt HYK.out))
        have HB2 := Lib.hid (below_call HB.out.1 HB.out.1.size hb2)
        clear hb2
        go_wp2_with (refine wpList_store_row rfl 46 (.tmp 6) (.tmp 33) rfl _ _ rfl rfl 46 zcells (by exact HYK2.out) (by rw [sizeF]; rfl) rfl (by simp [Value.oneCell']) ?_)
        (try simp only [Exit.inBlock, Exit.then])
        refine bodyPost_ret (results_row_tmp rfl _ _ y 46 zcells (0, 0) _ rfl (setRow_heap _ y _ _ _ _ HYK2.out) Tryz.underlying46 rfl (by rw [sizeF]; rfl)) rfl ?_
        exact ⟨rfl, setRow_below HB2.out HB.out.2⟩
set_option maxRecDepth 100000 in
set_option maxHeartbeats 2000000 in
/-- The Reset is told. -/
theorem snext_rst (r : Nat) (s : SS) (fp : Nat → Prop) (room : Int) (more : Nat) (w : World) (h : SdAt w r s fp) (hst : 5 ≤ s.st) (hq : s.rq = true) (hm : ∃ x, s.rs = some x ∧ (size4 (resetF s.id s.rs) : Int) ≤ min room 512) (hr1 : -9223372036854775808 ≤ room) (hr2 : room ≤ 9223372036854775807) :
    Calls Tryz.prog 26 #[.pointer (some ⟨r, 0, none⟩), .int .i64 room, .int .u64 more] w fun e w' => e = .returned (.tuple #[.agg (encF (resetF s.id s.rs)).toArray, .bool true]) ∧ SdM w w' fp r { s with rq := false } := by
  have H := Lib.hid h
  obtain ⟨b, fb, h0, hfp⟩ := h
  have c1 : w.cell? ⟨r, 1, none⟩ = some (.int .i64 s.st) := (cell_at h0.blk 1).trans rfl
  have c23 : w.cell? ⟨r, 23, none⟩ = some (.bool s.rq) := (cell_at h0.blk 23).trans rfl
  have hrw := heap_lt h0.blk
  have HRG := Lib.hid h0.reset_range
  have HOK := Lib.hid h0.ok
  obtain ⟨st, hste⟩ : ∃ st, s.st = st := ⟨_, rfl⟩
  rw [hste] at c1 hst
  rw [hq] at c23
  have f23 := free_at h0.blk 23
  clear h0 hfp hste hq
  obtain ⟨rm, hrm⟩ : ∃ rm : Int, min room 512 = rm := ⟨_, rfl⟩
  rw [hrm] at hm
  have HM := Lib.hid hm
  clear hm
  have hst5 : (5 : Int) ≤ (st : Int) := by omega
  go_enter Tryz.func26, Tryz.ntmps26
  go_upto_region 0 with fail
  go_cut [6] (fun v wx => ∃ y, v = .pointer (some ⟨y, 0, none⟩) ∧ w.heap.size ≤ y ∧ Below w.heap.size w wx ∧ wx.heap[y]? = some (.cells zcells 46 (0, 0)))
  case first =>
    go_wp2_with fail
    go_meet
    case rel => exact ⟨_, rfl, Nat.le_refl _, (Below.refl _ _).alloc (Nat.le_refl _) _, alloc_at _ _⟩
  case rest =>
    obtain ⟨y, rfl, hy, hb1, hky⟩ := hcut
    generalize wc = w1 at *
    have d1 := cell_keep hb1 hrw c1
    have d23 := cell_keep hb1 hrw c23
    have HRG1 := Lib.hid (show w1.rangeAt r 4 (encF (resetF s.id s.rs)) from fun j v hv => cell_keep hb1 hrw (HRG.out j v hv))
    have HYK := Lib.hid hky
    have HB := Lib.hid (And.intro hb1 hy)
    clear hky hb1 hy c1 c23
    go_upto_region 1 with fail
    go_cut [1] (fun v wx => v = .int .i64 rm ∧ wx = w1)
    case first =>
      by_cases h512 : 512 < room
      · obtain rfl : rm = 512 := by omega
        go_wp2_with fail
        go_meet
        case rel => exact ⟨rfl, rfl⟩
      · obtain rfl : room = rm := by omega
        go_wp2_with fail
        go_meet
        case rel => exact ⟨rfl, rfl⟩
    case rest =>
      obtain ⟨rfl, rfl⟩ := hcut
      generalize wc = w1 at *
      go_wp2_with (refine BigFrame.wpList_want (by rfl) (fun K hK => wp_load_mid 46 (.tmp 28) rfl r 4 rfl (encF (resetF s.id s.rs)) _ (by exact HRG1.out) Tryz.underlying46 rfl (by rw [sizeF]; rfl) (hK _ _ ?_)))
      obtain ⟨x, hx, hsz⟩ := HM.out
      have hrs := HOK.out.rs x hx
      have hid := HOK.out.id
      obtain ⟨z, hz⟩ : ∃ z, size4 (resetF s.id s.rs) = z := ⟨_, rfl⟩
      rw [hz] at hsz
      have HZ := Lib.hid hz
      refine (size_4 (resetF s.id s.rs) _ (by rw [hx]; rfl) (by rw [hx]; exact ⟨⟨by show (-9223372036854775808 : Int) ≤ 4; omega, by show (4 : Int) ≤ _; omega⟩, hid, by show 0 < _; omega, by show 0 < _; omega, hrs.1, hrs.2⟩) (by rw [hx]; show 0 < _; omega) (od := none) (ln := 0) (cd := 0) (od2 := none) (ln2 := 0) (cd2 := 0) (by rw [hx]; rfl) (by rw [hx]; rfl)).mono ?_
      rw [size4_int, HZ.out]
      rintro e w2 ⟨rfl, hb2⟩
      clear hz
      have hlt : ¬ rm < (z : Int) := by omega
      have HM2 := Lib.hid (show SdM w (w2.setCell ⟨r, 23, none⟩ (.bool false)) fp r { s with rq := false } from ((SdM.refl H.out).later (below_call HB.out.1 HB.out.1.size hb2)).setRq false)
      have hr1 : r < w1.heap.size := by have := HB.out.1.size; omega
      have g23 : w2.frozen? ⟨r, 23, none⟩ = false := ((SdM.refl H.out).later (below_call HB.out.1 HB.out.1.size hb2)).cell1.2.2.2
      have e23 := cell_keep hb2 hr1 d23
      have hyr : ¬ y = r := by have := HB.out.2; omega
      have hyk2 := below_keeps hb2 HYK.out (heap_lt HYK.out)
      have HYK2 := Lib.hid (show (w2.setCell ⟨r, 23, none⟩ (.bool false)).heap[y]? = some (.cells zcells 46 (0, 0)) from ((Upd.refl (fun j => j = r) w2).setCell ⟨r, 23, none⟩ (.inl rfl) _).keeps hyk2 hyr)
      have HRG2 := Lib.hid (show (w2.setCell ⟨r, 23, none⟩ (.bool false)).rangeAt r 4 (encF (resetF s.id s.rs)) from by
        refine World.rangeAt_setCells_apart (fun j v hv => cell_keep hb2 hr1 (HRG1.out j v hv)) r 23 [.bool false] (.inr (.inl (by show 4 + 19 ≤ 23; omega))))
      have HFO := Lib.hid (show (encF (resetF s.id s.rs)).toArray.all (·.oneCell') = true from by rw [hx]; simp [encF, resetF, Value.oneCell'])
      have hyf := HB.out.2
      have hb02 := below_call HB.out.1 HB.out.1.size hb2
      have HEND := Lib.hid (show ∀ cs, SdM w ((w2.setCell ⟨r, 23, none⟩ (.bool false)).setRow y cs) fp r { s with rq := false } from fun cs => by
        obtain ⟨b', fb', h0', hfp'⟩ := H.out
        have hu0 : Upd (fun j => j = r) w2 (w2.setCell ⟨r, 23, none⟩ (.bool false)) := (Upd.refl (fun j => j = r) w2).setCell ⟨r, 23, none⟩ (.inl rfl) _
        have hu1 : Upd (fun j => j = y) (w2.setCell ⟨r, 23, none⟩ (.bool false)) ((w2.setCell ⟨r, 23, none⟩ (.bool false)).setRow y cs) := (Upd.refl (fun j => j = y) _).setRowN y (.inl rfl) cs
        have hu : Upd (fun j => j = r ∨ j = y) w2 ((w2.setCell ⟨r, 23, none⟩ (.bool false)).setRow y cs) := hu0.trans hu1 (fun _ _ e => .inl e) (fun _ _ e => .inr e)
        have hlt := h0'.buf.lt.2
        have hk2 := below_keeps hb02 h0'.blk (heap_lt h0'.blk)
        refine ⟨fp, ⟨b', fb', ⟨hu1.keeps (set_at hk2 23 (.bool false)) (fun e => hyr e.symm), (h0'.buf.below hb02).keeps hu (fun k hk e => ?_), h0'.ne, ⟨h0'.ok.id, h0'.ok.st, h0'.ok.lim, h0'.ok.rs⟩⟩, hfp'⟩, ⟨(Upd.below hb02).trans hu (fun i hi e => by omega) (fun i hi e => ?_), fun k q => .inl q⟩⟩
        · rcases e with e | e
          · exact h0'.ne (e ▸ hk)
          · have := hlt k hk; omega
        · rcases e with e | e
          · rw [hfp']; exact .inl e
          · omega)
      clear hb2 hyk2 hx hb02
      go_wp2_with (first
        | refine wpList_load_mid rfl 46 (.tmp 39) rfl r 4 rfl (encF (resetF s.id s.rs)) _ (by exact HRG2.out) Tryz.underlying46 rfl (by rw [sizeF]; rfl) ?_
        | refine wpList_store_row rfl 46 (.tmp 6) (.tmp 40) rfl _ _ rfl rfl 46 zcells (by exact HYK2.out) (by rw [sizeF]; rfl) rfl (by exact HFO.out) ?_)
      (try simp only [Exit.inBlock, Exit.then])
      refine bodyPost_ret (results_row_tmp rfl _ _ y 46 (encF (resetF s.id s.rs)).toArray (0, 0) _ rfl (setRow_heap _ y _ _ _ _ HYK2.out) Tryz.underlying46 rfl (by rw [sizeF]; rfl)) rfl ?_
      exact ⟨rfl, HEND.out _⟩
end Go.Proofs.YtnneoeimgbemfaaGreat

/- DERIVED. sender's Next, whatever it tells. -/
namespace Go.Proofs.YtnneoeimgbemfaaGreat
open Go.RowKit

/-- What a sender's Next tells. -/
inductive NF where
  | none
  | rst
  | piece (off len : Nat) (fin : Bool)
def OS.nxt (s : OS) (m lim : Nat) : Option (Nat × Nat × Bool × OS) :=
  if (s.part lim).1 < min (s.part lim).2 ((s.part lim).1 + m) then
    some ((s.part lim).1, min (s.part lim).2 ((s.part lim).1 + m) - (s.part lim).1, decide (min (s.part lim).2 ((s.part lim).1 + m) = s.B.length) && s.ende, s.went (s.part lim).1 (min (s.part lim).2 ((s.part lim).1 + m)))
  else if s.ys = [] ∧ s.sent = s.B.length ∧ s.ende = true then some (s.B.length, 0, true, { s with es := true, el := false })
  else none
def SS.nx (s : SS) (room : Int) (more : Nat) : SS × NF :=
  if 5 ≤ s.st then (if s.rq = true ∧ (size4 (resetF s.id s.rs) : Int) ≤ min room 512 then ({ s with rq := false }, .rst) else (s, .none))
  else if min room 512 < 20 then (s, .none)
  else match s.os.nxt (min room 512 - 20).toNat (min s.lim (s.os.sent + min more 1099511627776)) with
    | none => (s, .none)
    | some x => ({ s with os := x.2.2.2, st := max (max s.st 2) (if x.2.2.1 then 3 else 0) }, .piece x.1 x.2.1 x.2.2.1)
def NF.fr (id : Nat) (rs : Option (Nat × Nat)) (v : Value) : NF → Fr
  | .none => zeroF
  | .rst => resetF id rs
  | .piece off _ fin => strF id off v fin
def NF.ok : NF → Bool
  | .none => false
  | _ => true
def NF.data (B : List Nat) : NF → List Nat
  | .piece off len _ => (B.drop off).take len
  | _ => []
/-- What a sender's Next leaves. -/
def SnP (w w' : World) (fp : Nat → Prop) (r : Nat) (s' : SS) (v : Value) (data : List Nat) : Prop := SdM w w' fp r s' ∧ ∃ og, SlG encB 5 w' v og data ∧ ∀ g, og = some g → w.heap.size ≤ g
theorem snx_any (r : Nat) (s : SS) (fp : Nat → Prop) (room : Int) (more : Nat) (w : World) (h : SdAt w r s fp) (hj : GJ s.os) (hrs : 5 ≤ s.st → s.rq = true → ∃ x, s.rs = some x) (hmore : more < 18446744073709551616) (hr1 : -9223372036854775808 ≤ room) (hr2 : room ≤ 9223372036854775807) :
    Calls Tryz.prog 26 #[.pointer (some ⟨r, 0, none⟩), .int .i64 room, .int .u64 more] w fun e w' => ∃ v, e = .returned (.tuple #[.agg (encF ((s.nx room more).2.fr s.id s.rs v)).toArray, .bool (s.nx room more).2.ok]) ∧
      SnP w w' fp r (s.nx room more).1 v ((s.nx room more).2.data s.os.B) := by
  have hl4 := hj.l4
  have hst := h.ok.st
  have hlim := h.ok.lim
  have hsent := hj.ok.sent
  have nocase : ∀ w', Below w.heap.size w w' → SnP w w' fp r s (.slice none 0 0) [] := fun w' hb => ⟨(SdM.refl h).later hb, none, SlG.nil _, by simp⟩
  unfold SS.nx
  by_cases h5 : 5 ≤ s.st
  · rw [if_pos h5]
    by_cases hq : s.rq = true ∧ (size4 (resetF s.id s.rs) : Int) ≤ min room 512
    · rw [if_pos hq]
      obtain ⟨x, hx⟩ := hrs h5 hq.1
      refine (snext_rst r s fp room more w h h5 hq.1 ⟨x, hx, hq.2⟩ hr1 hr2).mono ?_
      rintro e w' ⟨rfl, hm⟩
      exact ⟨.slice none 0 0, rfl, hm, none, SlG.nil _, by simp⟩
    · rw [if_neg hq]
      refine (snext_rno r s fp room more w h h5 (fun q => ?_) hr1 hr2).mono ?_
      · obtain ⟨x, hx⟩ := hrs h5 q
        refine ⟨x, hx, ?_⟩
        rcases Int.lt_or_le (min room 512) (size4 (resetF s.id s.rs) : Int) with q2 | q2
        · exact q2
        · exact absurd ⟨q, q2⟩ hq
      · rintro e w' ⟨rfl, hb⟩
        exact ⟨.slice none 0 0, rfl, nocase w' hb⟩
  · rw [if_neg h5]
    by_cases hroom : min room 512 < 20
    · rw [if_pos hroom]
      refine (snext_few r s fp room more w h (by omega) hroom).mono ?_
      rintro e w' ⟨rfl, hb⟩
      exact ⟨.slice none 0 0, rfl, nocase w' hb⟩
    · rw [if_neg hroom]
      obtain ⟨m, hm2⟩ : ∃ m : Nat, min room 512 = (m : Int) + 20 := ⟨(min room 512 - 20).toNat, by omega⟩
      rw [show (min room 512 - 20).toNat = m by omega]
      obtain ⟨lim2, hlim2⟩ : ∃ lim2, min s.lim (s.os.sent + min more 1099511627776) = lim2 := ⟨_, rfl⟩
      rw [hlim2]
      unfold OS.nxt
      rcases hj.next m lim2 with ⟨f, t0, t, b1, b2, b3, b4, b5, b6, b7, b8, b9⟩ | ⟨b1, b2, b3⟩ | ⟨f, t0, b1, b2, b3, b4, b5⟩
      · rw [b1]
        simp only
        rw [b4, if_pos b3]
        simp only
        obtain ⟨fin, hfin⟩ : ∃ fin, (decide (t = s.os.B.length) && s.os.ende) = fin := ⟨_, rfl⟩
        rw [hfin]
        refine (snext_yes r s fp room more m lim2 f fin (s.os.went f t) ((s.os.B.drop f).take (t - f)) w h (by omega) hm2 hmore hr1 hr2 hlim2 rfl (fun b fb W2 h0 => ?_)).mono ?_
        · rw [← hfin]
          exact onext_go b s.os fb m lim2 f t0 t W2 h0 (by omega) b1 b2 b3 (by rw [Int.toNat_natCast]; exact b4) b5 (by omega) b6 b7 (by omega) (by omega)
        · rintro e w' ⟨v2, rfl, hm, hsl⟩
          exact ⟨v2, rfl, hm, hsl⟩
      · have hpt : s.os.part lim2 = (s.os.sent, max s.os.sent (min lim2 s.os.B.length)) := by
          unfold OS.part
          rw [b1]
        rw [hpt]
        simp only
        rw [if_neg (by omega), if_pos ⟨b1, b2, b3⟩]
        simp only
        refine (snext_yes r s fp room more m lim2 s.os.B.length true { s.os with es := true, el := false } [] w h (by omega) hm2 hmore hr1 hr2 hlim2 rfl (fun b fb W2 h0 => ?_)).mono ?_
        · refine (onext_end b s.os fb m lim2 W2 h0 (by omega) b1 b2 b3 (by omega) (by omega)).mono ?_
          rintro e w' ⟨rfl, hm⟩
          exact ⟨_, none, rfl, hm, SlG.nil _, fun g q => by cases q⟩
        · rintro e w' ⟨v2, rfl, hm, hsl⟩
          refine ⟨v2, rfl, hm, ?_⟩
          show ∃ og, SlG encB 5 w' v2 og ((s.os.B.drop s.os.B.length).take 0) ∧ _
          rw [List.take_zero]
          exact hsl
      · rw [b1]
        simp only
        rw [b3, if_neg (by omega), if_neg (fun q => by rw [b5 q.1 q.2.1] at q; simp at q)]
        simp only
        refine (snext_no r s fp room more m lim2 w h (by omega) hm2 hmore hr1 hr2 hlim2 (fun b fb W2 h0 => ?_)).mono ?_
        · exact onext_none b s.os fb m lim2 f t0 W2 h0 (by omega) b1 b2 (by rw [Int.toNat_natCast]; exact b3) b4 b5 (by omega) (by omega)
        · rintro e w' ⟨rfl, hb⟩
          exact ⟨.slice none 0 0, rfl, nocase w' hb⟩
end Go.Proofs.YtnneoeimgbemfaaGreat

/- DERIVED. receiver's Next: plain; a struct in a cell as a result. -/
namespace Go.Proofs.YtnneoeimgbemfaaGreat
open Go.RowKit

def maxF (id lim : Nat) : Fr := ⟨17, id, 0, .slice none 0 0, false, lim, 0, 0, 0, 0, .slice none 0 0, 0, 0, 0, 0, 0, 0, 0, 0⟩
def size5 (f : Fr) : Nat := if right5 f then (bytes5 f).length else 0
def size17 (f : Fr) : Nat := if right17 f then (bytes17 f).length else 0
theorem size17_int (f : Fr) : (if right17 f then ((bytes17 f).length : Int) else 0) = (size17 f : Int) := by unfold size17; split <;> rfl
theorem size5_int (f : Fr) : (if right5 f then ((bytes5 f).length : Int) else 0) = (size5 f : Int) := by unfold size5; split <;> rfl
def RS.tk (s : RS) (n : Nat) : RS := { s with ib := s.ib.take n, st := if (s.ib.take n).last then 4 else s.st }
def RS.top (s : RS) : Nat := s.taken + s.win
def RS.due (s : RS) : Bool := decide (s.lim + max 1 (s.win / 2) ≤ s.top) || s.ag
def RS.nx (s : RS) (room : Int) : RS × Fr × Bool :=
  if s.so = true ∧ s.st ≤ 2 then
    (if room < size5 (stopF s.id s.sf) then (s, zeroF, false) else ({ s with so := false }, stopF s.id s.sf, true))
  else if s.st ≠ 1 ∨ s.due = false ∨ room < size17 (maxF s.id s.top) ∨ size17 (maxF s.id s.top) = 0 then (s, zeroF, false)
  else ({ s with lim := max s.lim s.top, ag := false }, maxF s.id s.top, true)
theorem RAt0.fbs {w : World} {r b : Nat} {s : RS} {fb : Nat → Prop} (h : RAt0 w r s b fb) : ∀ k, fb k → k < w.heap.size := h.buf.lt.2
theorem RAt0.maxed {w w5 : World} {r b : Nat} {s : RS} {fb fp : Nat → Prop} (h : RAt0 w r s b fb) (hfp : fp = fun j => j = r ∨ fb j) (hb : Below w.heap.size w w5) (n : Nat) (hn : n ≤ 1099511640000) (y : Nat) (hy : w.heap.size ≤ y) (cs : Array Value) :
    RM w (((w5.setCell ⟨r, 3, none⟩ (.int .u64 n)).setCell ⟨r, 28, none⟩ (.bool false)).setRow y cs) fp r { s with lim := n, ag := false } := by
  have h5 := h.later hb
  have hr := heap_lt h.blk
  have hu : ∀ F : Nat → Prop, F r → F y → Upd F w5 (((w5.setCell ⟨r, 3, none⟩ (.int .u64 n)).setCell ⟨r, 28, none⟩ (.bool false)).setRow y cs) := fun F hF hy => (((Upd.refl F w5).setCell ⟨r, 3, none⟩ (.inl hF) _).setCell ⟨r, 28, none⟩ (.inl hF) _).setRowN y (.inl hy) cs
  have hbk := set_at (set_at h5.blk 3 (.int .u64 n)) 28 (.bool false)
  refine ⟨fp, ⟨b, fb, ⟨?_, h5.buf.keeps (hu (fun j => j = r ∨ j = y) (.inl rfl) (.inr rfl)) ?_, h.ne, ⟨h.ok.id, h.ok.win, h.ok.st, hn, h.ok.code, h.ok.fnl⟩⟩, hfp⟩, ⟨?_, fun k q => .inl q⟩⟩
  · rw [setRow_other _ y r cs (by omega)]
    exact hbk.trans rfl
  · rintro k hk (rfl | rfl)
    · exact h.ne hk
    · have := h.fbs k hk
      omega
  · subst hfp
    exact ((((Upd.below hb).mono (fun k hk q => by omega)).setCell ⟨r, 3, none⟩ (.inl (.inl rfl)) _).setCell ⟨r, 28, none⟩ (.inl (.inl rfl)) _).setRowN y (.inr hy) cs
theorem RAt0.unstop {w w5 : World} {r b : Nat} {s : RS} {fb fp : Nat → Prop} (h : RAt0 w r s b fb) (hfp : fp = fun j => j = r ∨ fb j) (hb : Below w.heap.size w w5) (y : Nat) (hy : w.heap.size ≤ y) (cs : Array Value) :
    RM w ((w5.setCell ⟨r, 27, none⟩ (.bool false)).setRow y cs) fp r { s with so := false } := by
  have h5 := h.later hb
  have hr := heap_lt h.blk
  have hu : ∀ F : Nat → Prop, F r → F y → Upd F w5 ((w5.setCell ⟨r, 27, none⟩ (.bool false)).setRow y cs) := fun F hF hy => ((Upd.refl F w5).setCell ⟨r, 27, none⟩ (.inl hF) _).setRowN y (.inl hy) cs
  have hbk := set_at h5.blk 27 (.bool false)
  refine ⟨fp, ⟨b, fb, ⟨?_, h5.buf.keeps (hu (fun j => j = r ∨ j = y) (.inl rfl) (.inr rfl)) ?_, h.ne, ⟨h.ok.id, h.ok.win, h.ok.st, h.ok.lim, h.ok.code, h.ok.fnl⟩⟩, hfp⟩, ⟨?_, fun k q => .inl q⟩⟩
  · rw [setRow_other _ y r cs (by omega)]
    exact hbk.trans rfl
  · rintro k hk (rfl | rfl)
    · exact h.ne hk
    · have := h.fbs k hk
      omega
  · subst hfp
    exact (((Upd.below hb).mono (fun k hk q => by omega)).setCell ⟨r, 27, none⟩ (.inl (.inl rfl)) _).setRowN y (.inr hy) cs
/-- 'wpList_load_row' of an operation that has a guard, which is wanted. -/
theorem wpList_load_rowG {P : Program} {ops : Array Oper} {rest : List Oper} {o : Oper} {a : Act} {w : World} {Q : Exit → Act → World → Prop} (hw : Region.wanted o (yielded ops a.tmps) = true) (ty : TypeId) (x : Operand) (ho : o.op = .load ty x)
    (g : Nat) (hx : a.eval x = .pointer (some ⟨g, 0, none⟩)) (t : TypeId) (cs : Array Value) (fr : Nat × Nat) (d : TypeDesc) (hg : w.heap[g]? = some (.cells cs t fr))
    (hu : P.underlying ty = some d) (hd : (match d with | .struct _ | .array _ _ => true | _ => false) = true) (hi : (P.info? ty).map (·.size) = some cs.size)
    (h : wpList P ops Q rest (a.put o.dst (.agg cs)) w) : wpList P ops Q (o :: rest) a w :=
  wpList_step fun K hK => by
    rw [if_pos hw]
    exact wp_load_row ty x ho g hx t cs fr d hg hu hd hi (hK _ _ h)
def frCells (f : Fr) : Array Value := (encF f).toArray
theorem Fr.free {w : World} {z : Nat} {cs : Array Value} {t : TypeId} (h : w.heap[z]? = some (.cells cs t (0, 0))) (o : Nat) : w.frozen? ⟨z, o, none⟩ = false := free_at h o
end Go.Proofs.YtnneoeimgbemfaaGreat

/- DERIVED. streams: Next: what is kept while it runs; plain. -/
namespace Go.Proofs.YtnneoeimgbemfaaGreat
open Go.RowKit

theorem out_went {lab lab' : Nat → Lab} {w w' : World} (hw : Went (fun k => lab k ≠ .out) (fun k => lab' k ≠ .out) w w') {k : Nat} (h : lab k = .out) (hk : k < w.heap.size) : lab' k = .out := by
  cases hq : lab' k with
  | out => rfl
  | _ =>
    exfalso
    rcases hw.new k (by rw [hq]; simp) with e | e
    · exact e h
    · have e : w.heap.size ≤ k := e
      omega
/-- Within Next: the set, the result's row, the row of all streams. -/
structure NL (w wA wx : World) (p : Nat) (t : ST) (lab lab' : Nat → Lab) (a b y : Nat) (v : Value) (og : Option Nat) (zs : List (Option Nat)) : Prop where
  st : StAt wx p t lab' a b
  went : Went (fun k => lab k ≠ .out) (fun k => lab' k ≠ .out) w wx
  hy : wx.heap[y]? = some (.cells (encF zeroF).toArray 46 (0, 0))
  yo : lab' y = .out
  yk : YK wA wx a b
  sl : SlG encY 73 wx v og zs
  so : ∀ g, og = some g → lab' g = .out
  ly : w.heap.size ≤ y
theorem NL.later {w wA wx wy : World} {p : Nat} {t : ST} {lab lab' : Nat → Lab} {a b y : Nat} {v : Value} {og : Option Nat} {zs : List (Option Nat)} (h : NL w wA wx p t lab lab' a b y v og zs) (hb : Below wx.heap.size wx wy) : NL w wA wy p t lab lab' a b y v og zs :=
  ⟨h.st.below hb, h.went.later hb, below_keeps hb h.hy (heap_lt h.hy), h.yo, h.yk.trans (YK.below a b hb), h.sl.below hb, h.so, h.ly⟩
theorem NL.turn {w wA wx wy : World} {p : Nat} {t t' : ST} {lab lab' : Nat → Lab} {a b y : Nat} {v : Value} {og : Option Nat} {zs : List (Option Nat)} (h : NL w wA wx p t lab lab' a b y v og zs)
    (k : ∃ lab2, StAt wy p t' lab2 a b ∧ Went (fun k => lab' k ≠ .out) (fun k => lab2 k ≠ .out) wx wy ∧ YK wx wy a b) : ∃ lab2, NL w wA wy p t' lab lab2 a b y v og zs ∧ ∀ j, lab' j = .out → j < wx.heap.size → lab2 j = .out := by
  obtain ⟨lab2, k1, k2, k3⟩ := k
  refine ⟨lab2, ⟨k1, h.went.trans k2, k2.upd.keeps h.hy (fun q => q h.yo), out_went k2 h.yo (heap_lt h.hy), h.yk.trans k3, h.sl.keeps k2.upd (fun g hg q => q (h.so g hg)), fun g hg => out_went k2 (h.so g hg) (h.sl.lt g hg), h.ly⟩, fun j q1 q2 => out_went k2 q1 q2⟩
/-- The result's row is written. -/
theorem NL.ret {w wA wx : World} {p : Nat} {t : ST} {lab lab' : Nat → Lab} {a b y : Nat} {v : Value} {og : Option Nat} {zs : List (Option Nat)} (h : NL w wA wx p t lab lab' a b y v og zs) (cs : Array Value) :
    StAt (wx.setRow y cs) p t lab' a b ∧ Went (fun k => lab k ≠ .out) (fun k => lab' k ≠ .out) w (wx.setRow y cs) := by
  have hu : Upd (fun j => j = y) wx (wx.setRow y cs) := (Upd.refl (fun j => j = y) wx).setRowN y (.inl rfl) cs
  refine ⟨h.st.keeps hu (fun k hk => by rw [show k = y from hk]; exact h.yo), ⟨h.went.upd.trans hu (fun k _ q => q) (fun k hk q => ?_), h.went.new⟩⟩
  have := h.ly
  have q : k = y := q
  omega
/-- A row of one's own, filled. -/
theorem NL.fill {w wA wx : World} {p : Nat} {t : ST} {lab lab' : Nat → Lab} {a b y z : Nat} {v : Value} {og : Option Nat} {zs : List (Option Nat)} {cs0 : Array Value} (h : NL w wA wx p t lab lab' a b y v og zs) (hz : wx.heap[z]? = some (.cells cs0 46 (0, 0))) (zo : lab' z = .out) (zy : z ≠ y) (zw : w.heap.size ≤ z) (cs : Array Value) :
    NL w wA (wx.setRow z cs) p t lab lab' a b y v og zs ∧ (wx.setRow z cs).heap[z]? = some (.cells cs 46 (0, 0)) := by
  have hu : Upd (fun j => j = z) wx (wx.setRow z cs) := (Upd.refl (fun j => j = z) wx).setRowN z (.inl rfl) cs
  have hzg : ∀ g, og = some g → g ≠ z := fun g hg e => by
    rcases h.sl with ⟨_, _, q⟩ | ⟨g', _, q1, _, hr, _⟩
    · rw [q] at hg; cases hg
    · rw [q1] at hg
      cases hg
      have hr : wx.heap[g]? = _ := hr
      rw [e, hz] at hr
      cases hr
  refine ⟨⟨h.st.keeps hu (fun k hk => by rw [show k = z from hk]; exact zo), ⟨h.went.upd.trans hu (fun k _ q => q) (fun k hk q => ?_), h.went.new⟩, hu.keeps h.hy (fun e => zy e.symm), h.yo, h.yk.trans (h.st.yk hu (fun k hk => .inl (by rw [show k = z from hk]; exact zo))), h.sl.keeps hu (fun g hg q => hzg g hg q), h.so, h.ly⟩, setRow_heap _ _ _ _ _ _ hz⟩
  have q : k = z := q
  omega
/-- Does a stream lie at or below the one that was told last? -/
def ST.upto (t : ST) (h : H1) : Bool := t.told && decide (h.id ≤ t.last)
def firstOf (t : ST) : Nat → Nat
  | 0 => 0
  | j + 1 => match t.all[j]? with
    | some x => if t.upto x.2.2 then j + 1 else firstOf t j
    | none => firstOf t j
theorem firstOf_le (t : ST) : ∀ j, firstOf t j ≤ j
  | 0 => Nat.le_refl _
  | j + 1 => by
    have := firstOf_le t j
    unfold firstOf
    split
    · split <;> omega
    · omega
def ST.more (t : ST) : Nat := t.allowed - min t.allowed t.sentN
/-- A receiver's Next does what it should. -/
def RNx (s : RS) (room : Int) : Prop := ∀ (r : Nat) (fp : Nat → Prop) (w : World), RAt w r s fp → Calls Tryz.prog 25 #[.pointer (some ⟨r, 0, none⟩), .int .i64 room] w fun e w' => e = .returned (.tuple #[.agg (encF (s.nx room).2.1).toArray, .bool (s.nx room).2.2]) ∧ RM w w' fp r (s.nx room).1
theorem nx_no {s : RS} {room : Int} (h : (s.nx room).2.2 = false) : (s.nx room).1 = s ∧ (s.nx room).2.1 = zeroF := by
  unfold RS.nx at h ⊢
  split at h
  · split at h
    · rename_i h1 h2
      rw [if_pos h1, if_pos h2]
      exact ⟨rfl, rfl⟩
    · cases h
  · split at h
    · rename_i h1 h2
      rw [if_neg h1, if_pos h2]
      exact ⟨rfl, rfl⟩
    · cases h
theorem rnx_id (s : RS) (room : Int) : (s.nx room).1.id = s.id := by
  unfold RS.nx
  split
  · split <;> rfl
  · split <;> rfl
theorem snx_id (s : SS) (room : Int) (more : Nat) : (s.nx room more).1.id = s.id := by
  unfold SS.nx
  split
  · split <;> rfl
  · split
    · rfl
    · split <;> rfl
theorem snx_no {s : SS} {room : Int} {more : Nat} (h : (s.nx room more).2.ok = false) : (s.nx room more).1 = s := by
  unfold SS.nx at h ⊢
  split at h
  · rename_i h1
    rw [if_pos h1]
    split at h
    · cases h
    · rename_i h2
      rw [if_neg h2]
  · rename_i h1
    rw [if_neg h1]
    split at h
    · rename_i h2
      rw [if_pos h2]
    · rename_i h2
      rw [if_neg h2]
      split at h
      · first | rfl | (rename_i h3; rw [h3])
      · cases h
theorem one1_hs {o : Bool} {n : Nat} {x : Option H1} {L : List H1} (hx : L[n]? = x) {z : Bool × Nat × H1} (hz : z ∈ one1 o n x) : z.1 = o ∧ L[z.2.1]? = some z.2.2 := by
  cases x with
  | none => simp [one1] at hz
  | some h =>
    simp only [one1, List.mem_singleton] at hz
    subst hz
    exact ⟨rfl, hx⟩
theorem inter_hs {oa ob : Bool} {A B : List H1} : ∀ n, ∀ z ∈ inter oa ob A B n, (z.1 = oa ∧ A[z.2.1]? = some z.2.2) ∨ (z.1 = ob ∧ B[z.2.1]? = some z.2.2)
  | 0 => fun z hz => by simp [inter] at hz
  | n + 1 => fun z hz => by
    simp only [inter, List.mem_append] at hz
    rcases hz with (hz | hz) | hz
    · exact inter_hs n z hz
    · exact .inl (one1_hs rfl hz)
    · exact .inr (one1_hs rfl hz)
theorem ST.all_hs {t : ST} {x : Bool × Nat × H1} (h : x ∈ t.all) : (t.hs x.1)[x.2.1]? = some x.2.2 := by
  have key : ∀ o, (x.1 = o ∧ (t.hs o)[x.2.1]? = some x.2.2) → (t.hs x.1)[x.2.1]? = some x.2.2 := fun o q => by rw [q.1]; exact q.2
  unfold ST.all at h
  split at h
  · rcases inter_hs _ x h with q | q
    · exact key true q
    · exact key false q
  · rcases inter_hs _ x h with q | q
    · exact key false q
    · exact key true q
theorem encF_one {f : Fr} {o1 o2 : Option Addr} {l1 c1 l2 c2 : Nat} (h1 : f.vd = .slice o1 l1 c1) (h2 : f.vr = .slice o2 l2 c2) : (encF f).toArray.all (·.oneCell') = true := by
  simp [encF, h1, h2, Value.oneCell']
theorem rnx_one (s : RS) (room : Int) : (encF (s.nx room).2.1).toArray.all (·.oneCell') = true := by
  have hs : ∀ id x, (encF (stopF id x)).toArray.all (·.oneCell') = true := fun id x => by
    cases x <;> exact encF_one rfl rfl
  unfold RS.nx
  split
  · split
    · exact encF_one rfl rfl
    · exact hs _ _
  · split
    · exact encF_one rfl rfl
    · exact encF_one rfl rfl
theorem nf_one (nf : NF) (id : Nat) (rs : Option (Nat × Nat)) {v : Value} {o : Option Addr} {l c : Nat} (hv : v = .slice o l c) : (encF (nf.fr id rs v)).toArray.all (·.oneCell') = true := by
  subst hv
  cases nf with
  | none => exact encF_one rfl rfl
  | rst =>
    show (encF (resetF id rs)).toArray.all _ = true
    cases rs <;> exact encF_one rfl rfl
  | piece off len fin => exact encF_one rfl rfl
end Go.Proofs.YtnneoeimgbemfaaGreat

/- DERIVED. narthexlaw18's StreamsRing: what a's streams are, and what each Next tells; plain. -/
namespace Go.Proofs.YtnneoeimgbemfaaGreat
open Go.RowKit

/-- A sender after τ turns of 40 bytes. -/
def rS (id lim : Nat) (B : List Nat) (τ : Nat) : SS := ⟨id, if τ = 0 then 1 else 2, lim, none, false, { OS.zero with B := B, sent := 40 * τ }⟩
theorem rS_nx (id lim more τ : Nat) (B : List Nat) (ht : τ < 5) (h1 : 400 ≤ B.length) (hl : 1000 ≤ lim) (hm : 40 ≤ more) : (rS id lim B τ).nx 60 more = (rS id lim B (τ + 1), .piece (40 * τ) 40 false) := by
  have hst : ¬ 5 ≤ (rS id lim B τ).st := by unfold rS; simp only; split <;> omega
  unfold SS.nx
  rw [if_neg hst, if_neg (by omega)]
  have e : (rS id lim B τ).os.nxt ((min (60 : Int) 512 - 20).toNat) (min (rS id lim B τ).lim ((rS id lim B τ).os.sent + min more 1099511627776)) = some (40 * τ, 40, false, (rS id lim B (τ + 1)).os) := by
    rw [show ((min (60 : Int) 512 - 20).toNat) = 40 from by decide]
    have hp : (rS id lim B τ).os.part (min (rS id lim B τ).lim ((rS id lim B τ).os.sent + min more 1099511627776)) = (40 * τ, max (40 * τ) (min (min lim (40 * τ + min more 1099511627776)) B.length)) := rfl
    unfold OS.nxt
    rw [hp]
    simp only
    have ht2 : min (max (40 * τ) (min (min lim (40 * τ + min more 1099511627776)) B.length)) (40 * τ + 40) = 40 * τ + 40 := by omega
    have hB : (rS id lim B τ).os.B = B := rfl
    rw [ht2, if_pos (by omega), hB]
    have hd : decide (40 * τ + 40 = B.length) = false := decide_eq_false (by omega)
    rw [hd]
    simp only [Bool.false_and]
    have hw : (rS id lim B τ).os.went (40 * τ) (40 * τ + 40) = (rS id lim B (τ + 1)).os := by
      unfold OS.went
      rw [hB, hd]
      unfold rS OS.zero cutRaw
      simp only [List.flatMap_nil, Bool.false_and, Bool.or_false, Bool.not_false, Bool.and_true]
      congr 1
      omega
    rw [hw, show 40 * τ + 40 - 40 * τ = 40 from by omega]
  rw [e]
  have hs : max (max (rS id lim B τ).st 2) 0 = (rS id lim B (τ + 1)).st := by
    unfold rS
    simp only
    rw [if_neg (show ¬ τ + 1 = 0 by omega)]
    split <;> rfl
  simp only [if_false, Bool.false_eq_true]
  rw [hs]
  rfl
/-- How many turns stream c of k has had after i calls. -/
def tau (k i c : Nat) : Nat := (i + (k - 1 - c)) / k
theorem tau_step {k i : Nat} (hk : 0 < k) (c : Nat) (hc : c < k) : tau k (i + 1) c = if c = i % k then tau k i c + 1 else tau k i c := by
  unfold tau
  have hq := Nat.div_add_mod i k
  have hm := Nat.mod_lt i hk
  obtain ⟨q, hqe⟩ : ∃ q, i / k = q := ⟨_, rfl⟩
  obtain ⟨m, hme⟩ : ∃ m, i % k = m := ⟨_, rfl⟩
  rw [hqe, hme] at hq
  rw [hme] at hm ⊢
  have key : ∀ r d, r < k → (k * q + (d * k + r)) / k = q + d := fun r d hr => by
    rw [show k * q + (d * k + r) = r + k * (q + d) from by rw [Nat.mul_add, Nat.mul_comm d k]; omega, Nat.add_mul_div_left _ _ hk, Nat.div_eq_of_lt hr]
    omega
  rw [← hq]
  by_cases h : c = m
  · rw [if_pos h]
    have e1 := key 0 1 hk
    have e2 := key (m + (k - 1 - c)) 0 (by omega)
    rw [show k * q + m + 1 + (k - 1 - c) = k * q + (1 * k + 0) from by omega, show k * q + m + (k - 1 - c) = k * q + (0 * k + (m + (k - 1 - c))) from by omega, e1, e2]
  · rw [if_neg h]
    rcases Nat.lt_or_ge c m with hcm | hcm
    · have e1 := key (m + 1 + (k - 1 - c) - k) 1 (by omega)
      have e2 := key (m + (k - 1 - c) - k) 1 (by omega)
      rw [show k * q + m + 1 + (k - 1 - c) = k * q + (1 * k + (m + 1 + (k - 1 - c) - k)) from by omega, show k * q + m + (k - 1 - c) = k * q + (1 * k + (m + (k - 1 - c) - k)) from by omega, e1, e2]
    · have e1 := key (m + 1 + (k - 1 - c)) 0 (by omega)
      have e2 := key (m + (k - 1 - c)) 0 (by omega)
      rw [show k * q + m + 1 + (k - 1 - c) = k * q + (0 * k + (m + 1 + (k - 1 - c))) from by omega, show k * q + m + (k - 1 - c) = k * q + (0 * k + (m + (k - 1 - c))) from by omega, e1, e2]
theorem tau_lt {k i : Nat} (hk : 0 < k) (hi : i < 5 * k) : tau k i (i % k) < 5 := by
  unfold tau
  have hq := Nat.div_add_mod i k
  have hm := Nat.mod_lt i hk
  rw [Nat.div_lt_iff_lt_mul hk]
  have h5 : i / k < 5 := (Nat.div_lt_iff_lt_mul hk).2 hi
  have : k * (i / k) ≤ k * 4 := Nat.mul_le_mul_left k (by omega)
  omega
end Go.Proofs.YtnneoeimgbemfaaGreat

/- DERIVED. narthexlaw18's StreamsRing: the set after i calls of Next; plain. -/
namespace Go.Proofs.YtnneoeimgbemfaaGreat
open Go.RowKit

def rT0 : ST := (ST.new false (pmN 63)).allow (pmN 63)
/-- Stream c of k after i calls of Next. -/
def rH (k i : Nat) (d : List Nat) (c : Nat) : H1 := ⟨4 * c, rS (4 * c) 9999 d (tau k i c), RS.new (4 * c) rT0.mine.msd⟩
def rT (k i : Nat) (d : List Nat) : ST := { rT0 with own := (List.range k).map (rH k i d), last := if i = 0 then 0 else 4 * ((i - 1) % k), told := decide (0 < i) }
theorem rT0_facts : rT0.mine.md = 100000 ∧ rT0.limit = 100000 ∧ rT0.allowed = 100000 ∧ rT0.again = false ∧ rT0.rest = 0 ∧ rT0.others = [] ∧ rT0.own = [] ∧ rT0.theirs.ms = 8 ∧ rT0.theirs.msd = 9999 ∧ rT0.last = 0 ∧ rT0.told = false ∧ rT0.mine.msd = 2048 := by decide +kernel
theorem inter_own {α : Type} (f : Nat → H1) (k : Nat) : ∀ n, n ≤ k → inter true false ((List.range k).map f) [] n = (List.range n).map fun c => (true, c, f c)
  | 0, _ => rfl
  | n + 1, h => by
    rw [inter, inter_own (α := α) f k n (by omega), List.getElem?_map, List.getElem?_range (by omega), List.range_succ, List.map_append]
    simp [one1]
theorem rT_all (k i : Nat) (d : List Nat) : (rT k i d).all = (List.range k).map fun c => (true, c, rH k i d c) := by
  have h := inter_own (α := Nat) (rH k i d) k k (Nat.le_refl _)
  have e1 : (rT k i d).rest = 0 := rT0_facts.2.2.2.2.1
  have e2 : (rT k i d).others = [] := rT0_facts.2.2.2.2.2.1
  have e3 : (rT k i d).own = (List.range k).map (rH k i d) := rfl
  unfold ST.all
  rw [if_pos e1, e2, e3, show max ((List.range k).map (rH k i d)).length ([] : List H1).length = k from by simp, h]
theorem rT_at {k i : Nat} {d : List Nat} {c : Nat} (hc : c < k) : (rT k i d).all[c]? = some (true, c, rH k i d c) := by
  rw [rT_all, List.getElem?_map, List.getElem?_range hc]
  rfl
theorem rT_len (k i : Nat) (d : List Nat) : (rT k i d).all.length = k := by rw [rT_all]; simp
/-- The stream that is told takes its turn. -/
theorem rT_step {k i : Nat} (hk : 0 < k) (d : List Nat) : { (rT k i d).put true (i % k) ⟨4 * (i % k), rS (4 * (i % k)) 9999 d (tau k i (i % k) + 1), RS.new (4 * (i % k)) rT0.mine.msd⟩ with last := 4 * (i % k), told := true } = rT k (i + 1) d := by
  have hm := Nat.mod_lt i hk
  have e : ((List.range k).map (rH k i d)).set (i % k) ⟨4 * (i % k), rS (4 * (i % k)) 9999 d (tau k i (i % k) + 1), RS.new (4 * (i % k)) rT0.mine.msd⟩ = (List.range k).map (rH k (i + 1) d) := by
    apply List.ext_getElem?
    intro c
    rw [List.getElem?_set]
    by_cases hc : c < k
    · rw [List.getElem?_map, List.getElem?_map, List.getElem?_range hc]
      simp only [Option.map_some, List.length_map, List.length_range]
      unfold rH
      rw [tau_step hk c hc]
      by_cases h : i % k = c
      · subst h
        simp [hm]
      · rw [if_neg h, if_neg (fun q => h q.symm)]
    · rw [List.getElem?_eq_none (by simp; omega), List.getElem?_eq_none (by simp; omega)]
      split
      · rw [if_neg (by simp; omega)]
      · rfl
  unfold rT ST.put
  simp only [if_true]
  rw [e, if_neg (show ¬ i + 1 = 0 by omega), Nat.add_sub_cancel, decide_eq_true (show 0 < i + 1 by omega)]
theorem rT_first {k i : Nat} (hk : 0 < k) (d : List Nat) : firstOf (rT k i d) k = if i = 0 then 0 else (i - 1) % k + 1 := by
  have key : ∀ j, j ≤ k → firstOf (rT k i d) j = if i = 0 then 0 else min j ((i - 1) % k + 1) := by
    intro j
    induction j with
    | zero => intro _; unfold firstOf; split <;> omega
    | succ j ih =>
      intro hj
      unfold firstOf
      rw [rT_at (by omega), ih (by omega)]
      simp only
      have hu : (rT k i d).upto (rH k i d j) = (decide (0 < i) && decide (4 * j ≤ (if i = 0 then 0 else 4 * ((i - 1) % k)))) := rfl
      rw [hu]
      by_cases h0 : i = 0
      · subst h0
        simp
      · rw [if_neg h0, if_neg h0, if_neg h0, decide_eq_true (show 0 < i by omega)]
        by_cases hq : j ≤ (i - 1) % k
        · rw [decide_eq_true (show 4 * j ≤ 4 * ((i - 1) % k) by omega)]
          simp only [Bool.and_self, if_true]
          omega
        · rw [decide_eq_false (show ¬ 4 * j ≤ 4 * ((i - 1) % k) by omega)]
          simp only [Bool.and_false, Bool.false_eq_true, if_false]
          omega
  rw [key k (Nat.le_refl _)]
  have hm := Nat.mod_lt (i - 1) hk
  split
  · rfl
  · omega
/-- The next one in the ring. -/
theorem rT_next {k i : Nat} (hk : 0 < k) (d : List Nat) : (firstOf (rT k i d) k + 0) % k = i % k := by
  rw [rT_first hk, Nat.add_zero]
  split
  · rename_i h
    subst h
    rfl
  · rw [Nat.mod_add_mod]
    congr 1
    omega
theorem rT_rcv {k i : Nat} {d : List Nat} {c : Nat} : ((rH k i d c).r.nx 60).2.2 = false := by
  unfold RS.nx
  rw [if_neg (fun q => by have := q.1; cases this), if_pos]
  refine .inr (.inl ?_)
  show (decide (min rT0.mine.msd 2048 + max 1 (min rT0.mine.msd 2048 / 2) ≤ 0 + min rT0.mine.msd 2048) || false) = false
  rw [rT0_facts.2.2.2.2.2.2.2.2.2.2.2]
  decide
theorem sumL_leR {α : Type} (f : α → Nat) (b : Nat) : ∀ l : List α, (∀ x ∈ l, f x ≤ b) → sumL (l.map f) ≤ b * l.length
  | [], _ => by simp [sumL]
  | x :: l, h => by
    have h1 := h x (List.mem_cons_self ..)
    have h2 := sumL_leR f b l (fun y hy => h y (List.mem_cons_of_mem _ hy))
    rw [List.map_cons, List.length_cons, Nat.mul_succ]
    have e : sumL (f x :: l.map f) = f x + sumL (l.map f) := by simp [sumL]
    omega
theorem tau_le {k i c : Nat} (hk : 0 < k) (hi : i ≤ 5 * k) : tau k i c ≤ 5 := by
  unfold tau
  have : (i + (k - 1 - c)) / k < 6 := (Nat.div_lt_iff_lt_mul hk).2 (by omega)
  omega
/-- There is room for another piece. -/
theorem rT_more {k i : Nat} (hk : 0 < k) (hk8 : k ≤ 8) (hi : i ≤ 5 * k) (d : List Nat) : 40 ≤ (rT k i d).more := by
  have ha : (rT k i d).allowed = 100000 := rT0_facts.2.2.1
  have hs : (rT k i d).sentN ≤ 200 * k := by
    have e := sumL_leR (fun x : Bool × Nat × H1 => x.2.2.s.os.sent) 200 (rT k i d).all (fun x hx => by
      rw [rT_all, List.mem_map] at hx
      obtain ⟨c, _, rfl⟩ := hx
      show 40 * tau k i c ≤ 200
      have := tau_le (c := c) hk hi
      omega)
    rw [rT_len] at e
    exact e
  unfold ST.more
  rw [ha]
  omega
theorem rT_cred {k i : Nat} (d : List Nat) : (rT k i d).cred 60 = (rT k i d, zeroF, false) := by
  have ht : (rT k i d).takenN ≤ 0 := by
    have e := sumL_leR (fun x : Bool × Nat × H1 => x.2.2.r.taken) 0 (rT k i d).all (fun x hx => by
      rw [rT_all, List.mem_map] at hx
      obtain ⟨c, _, rfl⟩ := hx
      exact Nat.le_refl 0)
    rw [Nat.zero_mul] at e
    exact e
  have hr : (rT k i d).refuse 60 = true := by
    unfold ST.refuse ST.credL
    have h1 : (rT k i d).mine.md = 100000 := rT0_facts.1
    have h2 : (rT k i d).limit = 100000 := rT0_facts.2.1
    have h3 : (rT k i d).again = false := rT0_facts.2.2.2.1
    rw [h1, h2, h3, decide_eq_true (show 100000 + (rT k i d).takenN < 100000 + max 1 (100000 / 2) by omega)]
    rfl
  unfold ST.cred
  rw [if_pos hr]
/-- What the sender in turn tells. -/
theorem rT_nx {k i : Nat} (hk : 0 < k) (hk8 : k ≤ 8) (hi : i < 5 * k) {d : List Nat} (hd : 400 ≤ d.length) : (rH k i d (i % k)).s.nx 60 (rT k i d).more = (rS (4 * (i % k)) 9999 d (tau k i (i % k) + 1), .piece (40 * tau k i (i % k)) 40 false) :=
  rS_nx _ _ _ _ _ (tau_lt hk hi) hd (by omega) (rT_more hk hk8 (by omega) d)
end Go.Proofs.YtnneoeimgbemfaaGreat

/- DERIVED. narthexlaw18's StreamsRing: how a's streams begin; plain. -/
namespace Go.Proofs.YtnneoeimgbemfaaGreat
open Go.RowKit

theorem tau0 {k c : Nat} (hc : c < k) : tau k 0 c = 0 := by
  unfold tau
  exact Nat.div_eq_of_lt (by omega)
theorem rH0 {k c : Nat} (hc : c < k) (d : List Nat) : rH k 0 d c = ⟨4 * c, ⟨4 * c, 1, 9999, none, false, { OS.zero with B := d }⟩, RS.new (4 * c) rT0.mine.msd⟩ := by
  unfold rH
  rw [tau0 hc]
  rfl
theorem rT_zero (d : List Nat) : rT 0 0 d = rT0 := by
  obtain ⟨_, _, _, _, _, _, h7, _, _, h10, h11, _⟩ := rT0_facts
  unfold rT
  simp only [List.range_zero, List.map_nil, if_true]
  rw [show decide (0 < 0) = false from rfl, ← h7]
  conv => rhs; rw [show rT0 = { rT0 with last := rT0.last, told := rT0.told } from rfl, h10, h11]
theorem rT_own0 (c : Nat) (d : List Nat) : (rT c 0 d).own.length = c := by
  show ((List.range c).map (rH c 0 d)).length = c
  simp
theorem rT_opnV {c : Nat} (hc : c < 8) (d : List Nat) : (rT c 0 d).opnV = (4 * c, 0) := by
  unfold ST.opnV
  have h1 : (rT c 0 d).theirs.ms = 8 := rT0_facts.2.2.2.2.2.2.2.1
  have h2 : (rT c 0 d).rest = 0 := rT0_facts.2.2.2.2.1
  rw [h1, rT_own0, if_neg (by omega)]
  unfold ST.nid ST.rs
  simp only [if_true]
  rw [h2]
  show (4 * (rT c 0 d).own.length + 0, 0) = _
  rw [rT_own0, Nat.add_zero]
def rN (c : Nat) : H1 := ⟨4 * c, ⟨4 * c, 1, 9999, none, false, OS.zero⟩, RS.new (4 * c) rT0.mine.msd⟩
theorem rT_newH (c : Nat) (d : List Nat) : (rT c 0 d).newH true = rN c := by
  have h2 : (rT c 0 d).rest = 0 := rT0_facts.2.2.2.2.1
  have h3 : (rT c 0 d).theirs.msd = 9999 := rT0_facts.2.2.2.2.2.2.2.2.1
  have hn : (rT c 0 d).nid true = 4 * c := by
    unfold ST.nid ST.rs
    simp only [if_true]
    rw [h2]
    show 4 * (rT c 0 d).own.length + 0 = _
    rw [rT_own0, Nat.add_zero]
  unfold ST.newH
  rw [hn, h3]
  rfl
theorem rT_opn {c : Nat} (hc : c < 8) (d : List Nat) : (rT c 0 d).opn = (rT c 0 d).add true (rN c) := by
  unfold ST.opn
  have h1 : (rT c 0 d).theirs.ms = 8 := rT0_facts.2.2.2.2.2.2.2.1
  rw [h1, rT_own0, if_neg (by omega), rT_newH]
theorem rT_find {c : Nat} (hc : c < 8) (d : List Nat) : ((rT c 0 d).opn).find (4 * c) = some (true, c, rN c) := by
  rw [rT_opn hc]
  have h2 : ((rT c 0 d).add true (rN c)).rest = 0 := rT0_facts.2.2.2.2.1
  unfold ST.find ST.sideO
  rw [h2, if_pos (by omega)]
  simp only
  have e : (((rT c 0 d).add true (rN c)).hs true) = (List.range c).map (rH c 0 d) ++ [rN c] := rfl
  rw [e, show 4 * c / 4 = c from by omega, List.getElem?_append_right (by simp)]
  simp
theorem rN_wrN (c n : Nat) (hn : n ≤ 2048) : (rN c).s.wrN n = (n, 0) := by
  unfold SS.wrN
  have h1 : (rN c).s.closed = false := rfl
  have h2 : (rN c).s.os.room = 2048 := rfl
  rw [h1, h2]
  simp only [Bool.false_eq_true, if_false]
  rw [if_neg (by omega), Nat.min_eq_left hn]
theorem rT_wrR {c : Nat} (hc : c < 8) (d : List Nat) (n : Nat) (hn : n ≤ 2048) : ((rT c 0 d).opn).wrR (4 * c) n = (n, 0) := by
  unfold ST.wrR
  rw [rT_find hc]
  exact rN_wrN c n hn
theorem rT_wr {c : Nat} (hc : c < 8) (d : List Nat) (hd : d.length ≤ 2048) : ((rT c 0 d).opn).wr (4 * c) d = rT (c + 1) 0 d := by
  unfold ST.wr
  rw [rT_find hc]
  simp only
  have hw : (rN c).s.wr d = ⟨4 * c, 1, 9999, none, false, { OS.zero with B := d }⟩ := by
    unfold SS.wr
    have h1 : (rN c).s.closed = false := rfl
    rw [h1]
    simp only [Bool.false_eq_true, if_false]
    have h2 : (rN c).s.os.write d = { OS.zero with B := d } := by
      unfold OS.write
      have h2 : (rN c).s.os.room = 2048 := rfl
      have h3 : (rN c).s.os.B = [] := rfl
      rw [h2, h3, Nat.min_eq_left hd, List.take_length, List.nil_append]
      rfl
    rw [h2]
    rfl
  rw [hw, rT_opn hc]
  have e : ((List.range c).map (rH c 0 d) ++ [rN c]).set c ⟨(rN c).id, ⟨4 * c, 1, 9999, none, false, { OS.zero with B := d }⟩, (rN c).r⟩ = (List.range (c + 1)).map (rH (c + 1) 0 d) := by
    rw [List.set_append_right _ _ (by simp), List.range_succ, List.map_append, List.map_singleton, rH0 (by omega)]
    simp only [List.length_map, List.length_range, Nat.sub_self, List.set_cons_zero]
    congr 1
    apply List.map_congr_left
    intro x hx
    have hx := List.mem_range.1 hx
    rw [rH0 hx, rH0 (by omega)]
  have e2 : ∀ X : H1, ((rT c 0 d).add true (rN c)).put true c X = { rT c 0 d with own := ((List.range c).map (rH c 0 d) ++ [rN c]).set c X } := fun X => rfl
  rw [e2, e]
  rfl
theorem rS_gj {id lim τ : Nat} {d : List Nat} (ht : τ ≤ 5) (h1 : 400 ≤ d.length) (h2 : d.length ≤ 450) (hb : Bys d) : GJ (rS id lim d τ).os :=
  ⟨⟨by show d.length ≤ _; omega, Nat.zero_le _, by show 40 * τ ≤ d.length; omega, OS.zero_ok.nx, OS.zero_ok.ny, OS.zero_ok.lx, OS.zero_ok.ly, hb⟩, by show d.length ≤ _; omega, by show d.length ≤ 0 + 2048; omega, fun j q => by simp [rS, OS.zero, mem] at q, fun j q => by simp [rS, OS.zero, mem] at q, fun j q => absurd q (Nat.not_lt_zero _)⟩
end Go.Proofs.YtnneoeimgbemfaaGreat
