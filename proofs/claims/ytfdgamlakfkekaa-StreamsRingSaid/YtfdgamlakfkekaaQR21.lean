/- DERIVED. streams: Allow, where no stream is yet (printed by mkstallow.py). -/
import Derived.Test.YtfdgamlakfkekaaQR13
import Derived.Test.YtfdgamlakfkekaaQR16
import Derived.Test.YtfdgamlakfkekaaQR18
import Derived.Test.YtfdgamlakfkekaaQR19
import Derived.Test.YtfdgamlakfkekaaQR20
set_option linter.all false
namespace Go.Proofs.Ytfdgamlakfkekaa
open Go.RowKit

/-- What the other end allows is taken. -/
def ST.allow (t : ST) (m : Pm) : ST := { t with theirs := { t.theirs with ms := max t.theirs.ms (min m.ms 8), msd := max t.theirs.msd m.msd, md := max t.theirs.md m.md }, allowed := max t.allowed m.md }
structure AlS (w wx : World) (p z a b : Nat) (m : Pm) (t : ST) : Prop where
  hp : wx.heap[p]? = some (.cells (tcells t a b) 80 (0, 0))
  hz : wx.heap[z]? = some (.cells (encPm m).toArray 29 (0, 0))
  lz : w.heap.size ≤ z
  lp : p < w.heap.size
  upd : Upd (fun j => j = p) w wx
theorem AlS.set {w wx : World} {p z a b k : Nat} {m : Pm} {t t' : ST} {v : Value} (h : AlS w wx p z a b m t) (ht : (tcells t a b).setIfInBounds k v = tcells t' a b) : AlS w (wx.setCell ⟨p, k, none⟩ v).drew p z a b m t' := by
  have h1 := h.lz
  have h2 := h.lp
  exact ⟨(set_at h.hp k v).trans (by rw [ht]), ((Upd.refl (fun j => j = p) wx).setCell ⟨p, k, none⟩ (.inl rfl) v).keeps h.hz (fun e => by omega), h1, h2, (h.upd.setCell ⟨p, k, none⟩ (.inl rfl) v).drew⟩
theorem AlS.facts {w wx : World} {p z a b : Nat} {m : Pm} {t : ST} (h : AlS w wx p z a b m t) : (∀ i, wx.cell? ⟨p, i, none⟩ = (tcells t a b)[i]?) ∧ (∀ i, wx.frozen? ⟨p, i, none⟩ = false) ∧ (∀ i, wx.cell? ⟨z, i, none⟩ = (encPm m).toArray[i]?) :=
  ⟨fun i => cell_at h.hp i, fun i => free_at h.hp i, fun i => cell_at h.hz i⟩
theorem imax (x y : Nat) : (if (x : Int) < (y : Int) then (y : Int) else (x : Int)) = (max x y : Nat) := by split <;> omega
theorem imin8 (x : Nat) : (if (8 : Int) < (x : Int) then (8 : Int) else (x : Int)) = (min x 8 : Nat) := by split <;> omega
def ST.al_ms (t : ST) (m : Pm) : ST := { t with theirs := { t.theirs with ms := max t.theirs.ms (min m.ms 8) } }
def ST.al_msd (t : ST) (m : Pm) : ST := { t with theirs := { t.theirs with msd := max t.theirs.msd m.msd } }
def ST.al_md (t : ST) (m : Pm) : ST := { t with theirs := { t.theirs with md := max t.theirs.md m.md } }
def ST.al_al (t : ST) (m : Pm) : ST := { t with allowed := max t.allowed m.md }
theorem ST.al_all (t : ST) (m : Pm) : (((t.al_ms m).al_msd m).al_md m).al_al m = t.allow m := rfl
theorem ST.allow_hs (t : ST) (m : Pm) : (t.allow m).own = t.own ∧ (t.allow m).others = t.others ∧ (t.allow m).rest = t.rest := ⟨rfl, rfl, rfl⟩
theorem ST.allow_ok {t : ST} (h : t.Ok) {m : Pm} (hm : m.Ok) : (t.allow m).Ok := by
  have h1 := hm.md
  have h2 := hm.msd
  have h3 := hm.ms
  have k1 := h.theirs.md
  have k2 := h.theirs.msd
  have k3 := h.theirs.ms
  have k4 := h.allowed
  exact ⟨h.mine, ⟨h.theirs.idle, by show max _ _ < _; omega, by show max _ _ < _; omega, by show max _ _ < _; omega⟩, h.rest, h.own, h.others, h.hown, h.hothers, h.last, h.limit, by show max _ _ < _; omega⟩
set_option maxRecDepth 100000 in
set_option maxHeartbeats 2000000 in
theorem tallow_any (p : Nat) (t : ST) (lab : Nat → Lab) (a b : Nat) (m : Pm) (w : World) (h : StAt w p t lab a b) (hm : m.Ok) (ho : t.own = []) (hoth : t.others = []) :
    Calls Try.prog 9 #[.pointer (some ⟨p, 0, none⟩), .agg (encPm m).toArray] w fun e w' => e = .returned (.tuple #[]) ∧ StAt w' p (t.allow m) lab a b ∧ Upd (fun k => lab k ≠ .out) w w' := by
  have H := Lib.hid h
  have HO := Lib.hid (And.intro ho hoth)
  have HM := Lib.hid hm
  have HB := Lib.hid (show AlS w (w.alloc (.cells (encPm m).toArray 29)) p w.heap.size a b m t from
    ⟨alloc_old h.blk, alloc_at _ _, Nat.le_refl _, heap_lt h.blk, (Upd.refl _ _).alloc _⟩)
  have HEND := Lib.hid (show ∀ wx z, AlS w wx p z a b m (t.allow m) → StAt wx p (t.allow m) lab a b ∧ Upd (fun k => lab k ≠ .out) w wx from fun wx z hx => by
    have hn : ∀ k, lab k ≠ .set → k ≠ p := fun k hk e => hk (e ▸ h.lp)
    refine ⟨⟨hx.hp, h.lp, ?_, ?_, fun k hk => by have := h.lt k hk; have := hx.upd.size; omega, ST.allow_ok h.ok hm⟩, hx.upd.mono (fun k _ hk => by rw [show k = p from hk, h.lp]; simp)⟩
    · refine h.own.keeps hx.upd (fun k hk => ?_)
      rw [show k = p from hk, h.lp]
      simp
    · refine h.others.keeps hx.upd (fun k hk => ?_)
      rw [show k = p from hk, h.lp]
      simp)
  clear h hm ho hoth
  obtain ⟨idle, md, msd, ms, c0, c1, c2, c3, c4, c5, c6, c7⟩ := m
  simp only [encPm]
  go_enter Try.func9, Try.ntmps9
  go_upto_region 2 with fail
  rw [show (w.alloc (.cells #[.int .u64 idle, .int .u64 md, .int .u64 msd, .int .u64 ms, .int .u8 c0, .int .u8 c1, .int .u8 c2, .int .u8 c3, .int .u8 c4, .int .u8 c5, .int .u8 c6, .int .u8 c7] 29)) = w.alloc (.cells (encPm ⟨idle, md, msd, ms, c0, c1, c2, c3, c4, c5, c6, c7⟩).toArray 29) from rfl]
  generalize w.alloc (.cells (encPm ⟨idle, md, msd, ms, c0, c1, c2, c3, c4, c5, c6, c7⟩).toArray 29) = W1 at *
  generalize w.heap.size = z at *
  go_upto_region 2 with fail
  go_cut [] (fun wx => AlS w wx p z a b ⟨idle, md, msd, ms, c0, c1, c2, c3, c4, c5, c6, c7⟩ (t.al_ms ⟨idle, md, msd, ms, c0, c1, c2, c3, c4, c5, c6, c7⟩))
  case first =>
    obtain ⟨f1, f2, f3⟩ := HB.out.facts
    have fc1 : W1.cell? ⟨p, 15, none⟩ = some (.int .u64 t.theirs.ms) := (f1 15).trans rfl
    have e1 := f2 15
    have fc2 : W1.cell? ⟨z, 3, none⟩ = some (.int .u64 ms) := (f3 3).trans rfl
    have HST := Lib.hid (fun v t' ht => HB.out.set (k := 15) (v := v) (t' := t') ht)
    have q1 := imax t.theirs.ms (min ms 8)
    have q2 := imin8 ms
    clear f1 f2 f3 HB HEND H HO HM
    go_still_tail 11, (by kernel_rfl)
    change wpList _ _ _ _ _ W1.drew
    go_wp2_with fail
    all_goals go_meet
    · case rel => exact HST.out _ _ ((congrArg (fun x : Nat => (tcells t a b).setIfInBounds 15 (.int .u64 x)) (show (min ms 8) = max t.theirs.ms (min ms 8) by omega)).trans rfl)
    · case rel => exact HST.out _ _ ((congrArg (fun x : Nat => (tcells t a b).setIfInBounds 15 (.int .u64 x)) (show t.theirs.ms = max t.theirs.ms (min ms 8) by omega)).trans rfl)
  case rest =>
    have HB1 := Lib.hid (show AlS w wc p z a b ⟨idle, md, msd, ms, c0, c1, c2, c3, c4, c5, c6, c7⟩ (t.al_ms ⟨idle, md, msd, ms, c0, c1, c2, c3, c4, c5, c6, c7⟩) from hcut)
    clear HB hcut
    generalize wc = W2 at *
    have HB := HB1
    clear HB1
    go_upto_region 3 with fail
    go_cut [] (fun wx => AlS w wx p z a b ⟨idle, md, msd, ms, c0, c1, c2, c3, c4, c5, c6, c7⟩ ((t.al_ms ⟨idle, md, msd, ms, c0, c1, c2, c3, c4, c5, c6, c7⟩).al_msd ⟨idle, md, msd, ms, c0, c1, c2, c3, c4, c5, c6, c7⟩))
    case first =>
      obtain ⟨f1, f2, f3⟩ := HB.out.facts
      have fc1 : W2.cell? ⟨p, 14, none⟩ = some (.int .u64 (t.al_ms ⟨idle, md, msd, ms, c0, c1, c2, c3, c4, c5, c6, c7⟩).theirs.msd) := (f1 14).trans rfl
      have e1 := f2 14
      have fc2 : W2.cell? ⟨z, 2, none⟩ = some (.int .u64 msd) := (f3 2).trans rfl
      have HST := Lib.hid (fun v t' ht => HB.out.set (k := 14) (v := v) (t' := t') ht)
      have q1 := imax (t.al_ms ⟨idle, md, msd, ms, c0, c1, c2, c3, c4, c5, c6, c7⟩).theirs.msd msd
      clear f1 f2 f3 HB HEND H HO HM
      go_still_tail 10, (by kernel_rfl)
      change wpList _ _ _ _ _ W2.drew
      go_wp2_with fail
      all_goals go_meet
      · case rel => exact HST.out _ _ ((congrArg (fun x : Nat => (tcells (t.al_ms ⟨idle, md, msd, ms, c0, c1, c2, c3, c4, c5, c6, c7⟩) a b).setIfInBounds 14 (.int .u64 x)) (show msd = max (t.al_ms ⟨idle, md, msd, ms, c0, c1, c2, c3, c4, c5, c6, c7⟩).theirs.msd msd by omega)).trans rfl)
      · case rel => exact HST.out _ _ ((congrArg (fun x : Nat => (tcells (t.al_ms ⟨idle, md, msd, ms, c0, c1, c2, c3, c4, c5, c6, c7⟩) a b).setIfInBounds 14 (.int .u64 x)) (show (t.al_ms ⟨idle, md, msd, ms, c0, c1, c2, c3, c4, c5, c6, c7⟩).theirs.msd = max (t.al_ms ⟨idle, md, msd, ms, c0, c1, c2, c3, c4, c5, c6, c7⟩).theirs.msd msd by omega)).trans rfl)
    case rest =>
      have HB1 := Lib.hid (show AlS w wc p z a b ⟨idle, md, msd, ms, c0, c1, c2, c3, c4, c5, c6, c7⟩ ((t.al_ms ⟨idle, md, msd, ms, c0, c1, c2, c3, c4, c5, c6, c7⟩).al_msd ⟨idle, md, msd, ms, c0, c1, c2, c3, c4, c5, c6, c7⟩) from hcut)
      clear HB hcut
      generalize wc = W3 at *
      have HB := HB1
      clear HB1
      go_upto_region 4 with fail
      go_cut [] (fun wx => AlS w wx p z a b ⟨idle, md, msd, ms, c0, c1, c2, c3, c4, c5, c6, c7⟩ (((t.al_ms ⟨idle, md, msd, ms, c0, c1, c2, c3, c4, c5, c6, c7⟩).al_msd ⟨idle, md, msd, ms, c0, c1, c2, c3, c4, c5, c6, c7⟩).al_md ⟨idle, md, msd, ms, c0, c1, c2, c3, c4, c5, c6, c7⟩))
      case first =>
        obtain ⟨f1, f2, f3⟩ := HB.out.facts
        have fc1 : W3.cell? ⟨p, 13, none⟩ = some (.int .u64 ((t.al_ms ⟨idle, md, msd, ms, c0, c1, c2, c3, c4, c5, c6, c7⟩).al_msd ⟨idle, md, msd, ms, c0, c1, c2, c3, c4, c5, c6, c7⟩).theirs.md) := (f1 13).trans rfl
        have e1 := f2 13
        have fc2 : W3.cell? ⟨z, 1, none⟩ = some (.int .u64 md) := (f3 1).trans rfl
        have HST := Lib.hid (fun v t' ht => HB.out.set (k := 13) (v := v) (t' := t') ht)
        have q1 := imax ((t.al_ms ⟨idle, md, msd, ms, c0, c1, c2, c3, c4, c5, c6, c7⟩).al_msd ⟨idle, md, msd, ms, c0, c1, c2, c3, c4, c5, c6, c7⟩).theirs.md md
        clear f1 f2 f3 HB HEND H HO HM
        go_still_tail 10, (by kernel_rfl)
        change wpList _ _ _ _ _ W3.drew
        go_wp2_with fail
        all_goals go_meet
        · case rel => exact HST.out _ _ ((congrArg (fun x : Nat => (tcells ((t.al_ms ⟨idle, md, msd, ms, c0, c1, c2, c3, c4, c5, c6, c7⟩).al_msd ⟨idle, md, msd, ms, c0, c1, c2, c3, c4, c5, c6, c7⟩) a b).setIfInBounds 13 (.int .u64 x)) (show md = max ((t.al_ms ⟨idle, md, msd, ms, c0, c1, c2, c3, c4, c5, c6, c7⟩).al_msd ⟨idle, md, msd, ms, c0, c1, c2, c3, c4, c5, c6, c7⟩).theirs.md md by omega)).trans rfl)
        · case rel => exact HST.out _ _ ((congrArg (fun x : Nat => (tcells ((t.al_ms ⟨idle, md, msd, ms, c0, c1, c2, c3, c4, c5, c6, c7⟩).al_msd ⟨idle, md, msd, ms, c0, c1, c2, c3, c4, c5, c6, c7⟩) a b).setIfInBounds 13 (.int .u64 x)) (show ((t.al_ms ⟨idle, md, msd, ms, c0, c1, c2, c3, c4, c5, c6, c7⟩).al_msd ⟨idle, md, msd, ms, c0, c1, c2, c3, c4, c5, c6, c7⟩).theirs.md = max ((t.al_ms ⟨idle, md, msd, ms, c0, c1, c2, c3, c4, c5, c6, c7⟩).al_msd ⟨idle, md, msd, ms, c0, c1, c2, c3, c4, c5, c6, c7⟩).theirs.md md by omega)).trans rfl)
      case rest =>
        have HB1 := Lib.hid (show AlS w wc p z a b ⟨idle, md, msd, ms, c0, c1, c2, c3, c4, c5, c6, c7⟩ (((t.al_ms ⟨idle, md, msd, ms, c0, c1, c2, c3, c4, c5, c6, c7⟩).al_msd ⟨idle, md, msd, ms, c0, c1, c2, c3, c4, c5, c6, c7⟩).al_md ⟨idle, md, msd, ms, c0, c1, c2, c3, c4, c5, c6, c7⟩) from hcut)
        clear HB hcut
        generalize wc = W4 at *
        have HB := HB1
        clear HB1
        go_upto_region 5 with fail
        go_cut [] (fun wx => AlS w wx p z a b ⟨idle, md, msd, ms, c0, c1, c2, c3, c4, c5, c6, c7⟩ ((((t.al_ms ⟨idle, md, msd, ms, c0, c1, c2, c3, c4, c5, c6, c7⟩).al_msd ⟨idle, md, msd, ms, c0, c1, c2, c3, c4, c5, c6, c7⟩).al_md ⟨idle, md, msd, ms, c0, c1, c2, c3, c4, c5, c6, c7⟩).al_al ⟨idle, md, msd, ms, c0, c1, c2, c3, c4, c5, c6, c7⟩))
        case first =>
          obtain ⟨f1, f2, f3⟩ := HB.out.facts
          have fc1 : W4.cell? ⟨p, 30, none⟩ = some (.int .u64 (((t.al_ms ⟨idle, md, msd, ms, c0, c1, c2, c3, c4, c5, c6, c7⟩).al_msd ⟨idle, md, msd, ms, c0, c1, c2, c3, c4, c5, c6, c7⟩).al_md ⟨idle, md, msd, ms, c0, c1, c2, c3, c4, c5, c6, c7⟩).allowed) := (f1 30).trans rfl
          have e1 := f2 30
          have fc2 : W4.cell? ⟨z, 1, none⟩ = some (.int .u64 md) := (f3 1).trans rfl
          have HST := Lib.hid (fun v t' ht => HB.out.set (k := 30) (v := v) (t' := t') ht)
          have q1 := imax (((t.al_ms ⟨idle, md, msd, ms, c0, c1, c2, c3, c4, c5, c6, c7⟩).al_msd ⟨idle, md, msd, ms, c0, c1, c2, c3, c4, c5, c6, c7⟩).al_md ⟨idle, md, msd, ms, c0, c1, c2, c3, c4, c5, c6, c7⟩).allowed md
          clear f1 f2 f3 HB HEND H HO HM
          go_still_tail 10, (by kernel_rfl)
          change wpList _ _ _ _ _ W4.drew
          go_wp2_with fail
          all_goals go_meet
          · case rel => exact HST.out _ _ ((congrArg (fun x : Nat => (tcells (((t.al_ms ⟨idle, md, msd, ms, c0, c1, c2, c3, c4, c5, c6, c7⟩).al_msd ⟨idle, md, msd, ms, c0, c1, c2, c3, c4, c5, c6, c7⟩).al_md ⟨idle, md, msd, ms, c0, c1, c2, c3, c4, c5, c6, c7⟩) a b).setIfInBounds 30 (.int .u64 x)) (show md = max (((t.al_ms ⟨idle, md, msd, ms, c0, c1, c2, c3, c4, c5, c6, c7⟩).al_msd ⟨idle, md, msd, ms, c0, c1, c2, c3, c4, c5, c6, c7⟩).al_md ⟨idle, md, msd, ms, c0, c1, c2, c3, c4, c5, c6, c7⟩).allowed md by omega)).trans rfl)
          · case rel => exact HST.out _ _ ((congrArg (fun x : Nat => (tcells (((t.al_ms ⟨idle, md, msd, ms, c0, c1, c2, c3, c4, c5, c6, c7⟩).al_msd ⟨idle, md, msd, ms, c0, c1, c2, c3, c4, c5, c6, c7⟩).al_md ⟨idle, md, msd, ms, c0, c1, c2, c3, c4, c5, c6, c7⟩) a b).setIfInBounds 30 (.int .u64 x)) (show (((t.al_ms ⟨idle, md, msd, ms, c0, c1, c2, c3, c4, c5, c6, c7⟩).al_msd ⟨idle, md, msd, ms, c0, c1, c2, c3, c4, c5, c6, c7⟩).al_md ⟨idle, md, msd, ms, c0, c1, c2, c3, c4, c5, c6, c7⟩).allowed = max (((t.al_ms ⟨idle, md, msd, ms, c0, c1, c2, c3, c4, c5, c6, c7⟩).al_msd ⟨idle, md, msd, ms, c0, c1, c2, c3, c4, c5, c6, c7⟩).al_md ⟨idle, md, msd, ms, c0, c1, c2, c3, c4, c5, c6, c7⟩).allowed md by omega)).trans rfl)
        case rest =>
          have HB1 := Lib.hid (show AlS w wc p z a b ⟨idle, md, msd, ms, c0, c1, c2, c3, c4, c5, c6, c7⟩ ((((t.al_ms ⟨idle, md, msd, ms, c0, c1, c2, c3, c4, c5, c6, c7⟩).al_msd ⟨idle, md, msd, ms, c0, c1, c2, c3, c4, c5, c6, c7⟩).al_md ⟨idle, md, msd, ms, c0, c1, c2, c3, c4, c5, c6, c7⟩).al_al ⟨idle, md, msd, ms, c0, c1, c2, c3, c4, c5, c6, c7⟩) from hcut)
          clear HB hcut
          generalize wc = W5 at *
          have HB := HB1
          clear HB1
          have HS5 := Lib.hid (HEND.out _ _ (by exact HB.out))
          clear HB HEND H
          go_wp2_with fail
          refine (tall_any p _ lab a b _ (by exact HS5.out.1)).mono ?_
          have hal : (t.allow ⟨idle, md, msd, ms, c0, c1, c2, c3, c4, c5, c6, c7⟩).all = [] := by unfold ST.all; rw [(ST.allow_hs _ _).1, (ST.allow_hs _ _).2.1, HO.out.1, HO.out.2]; split <;> rfl
          rw [hal]
          rintro e w1 ⟨v, rfl, hmm⟩
          obtain ⟨ov, cv, rfl, hc1, hb1, _⟩ := hmm.shape
          have HB1 := Lib.hid hb1
          clear hmm hb1 hal
          rw [show ([] : List (Bool × Nat × H1)).length = 0 from rfl] at *
          go_wp2_with fail
          go_loopw [54] (fun i wr => i = .int .i64 0 ∧ wr = w1) (fun _ _ => 0)
          case atStart => exact ⟨rfl, rfl⟩
          case round =>
            obtain ⟨rfl, rfl⟩ := hrel
            go_wp2_with fail
            refine bodyPost_end (results_none rfl _ _ _) rfl ?_
            exact ⟨rfl, HS5.out.1.below HB1.out, HS5.out.2.trans (Upd.below HB1.out) (fun _ _ q => q) (fun k hk q => by have := HS5.out.2.size; omega)⟩
end Go.Proofs.Ytfdgamlakfkekaa

/- DERIVED. streams: Write. -/
namespace Go.Proofs.Ytfdgamlakfkekaa
open Go.RowKit

def ST.wrR (t : ST) (id n : Nat) : Nat × Nat := match t.find id with
  | none => (0, 22)
  | some x => x.2.2.s.wrN n
def ST.wr (t : ST) (id : Nat) (d : List Nat) : ST := match t.find id with
  | none => t
  | some x => t.put x.1 x.2.1 ⟨x.2.2.id, x.2.2.s.wr d, x.2.2.r⟩
theorem ST.find_at {t : ST} {id : Nat} {x : Bool × Nat × H1} (h : t.find id = some x) : (t.hs x.1)[x.2.1]? = some x.2.2 := by
  unfold ST.find at h
  cases ho : t.sideO id with
  | none => rw [ho] at h; cases h
  | some o =>
    rw [ho] at h
    simp only [Option.map_eq_some_iff] at h
    obtain ⟨a, h1, rfl⟩ := h
    exact h1
theorem wr_id (s : SS) (d : List Nat) : (s.wr d).id = s.id := by
  unfold SS.wr
  split <;> rfl
set_option maxRecDepth 100000 in
set_option maxHeartbeats 1000000 in
theorem twrite_any (p : Nat) (t : ST) (lab : Nat → Lab) (a b id : Nat) (vd : Value) (dd : List Nat) (w : World) {B : Nat} (h : StAt w p t lab a b) (hid : id < 18446744073709551616) (hd : Vw encB w B vd dd) (hB : B ≤ w.heap.size) (hby : Bys dd) (hl1 : dd.length ≤ 1000000)
    (hr : ∀ x, t.find id = some x → x.2.2.s.os.B.length ≤ x.2.2.s.os.base + 2048 ∧ x.2.2.s.os.B.length ≤ 1000000) :
    Calls Try.prog 20 #[.pointer (some ⟨p, 0, none⟩), .int .u64 id, vd] w fun e w' => e = .returned (.tuple #[.int .i64 (t.wrR id dd.length).1, .int .i64 (t.wrR id dd.length).2]) ∧
      ∃ lab', StAt w' p (t.wr id dd) lab' a b ∧ Went (fun k => lab k ≠ .out) (fun k => lab' k ≠ .out) w w' := by
  have H := Lib.hid h
  obtain ⟨od, capd, rfl, hc1, hc2⟩ := hd.shape
  have HD := Lib.hid (And.intro hd (And.intro hB (And.intro hby hl1)))
  have HR := Lib.hid hr
  obtain ⟨nn, hn⟩ : ∃ nn, dd.length = nn := ⟨_, rfl⟩
  obtain ⟨r1, r2, hrr⟩ : ∃ r1 r2, t.wrR id dd.length = (r1, r2) := ⟨_, _, rfl⟩
  rw [hrr]
  obtain ⟨TN, hTN⟩ : ∃ TN, t.wr id dd = TN := ⟨_, rfl⟩
  rw [hTN]
  have HT := Lib.hid (And.intro hrr hTN)
  clear h hd hB hby hl1 hr hrr hTN hn
  go_enter Try.func20, Try.ntmps20
  go_wp2_with fail
  refine (tfind_q p t lab a b id _ (by exact H.out) hid).mono ?_
  rintro e w1 ⟨v, rfl, hv, n1, rfl⟩
  rcases hv with ⟨hfn, rfl⟩ | ⟨o, i, hh, y, hfn, hya, _, rfl⟩
  · obtain ⟨h1, h2⟩ := HT.out
    unfold ST.wrR at h1
    unfold ST.wr at h2
    rw [hfn] at h1 h2
    cases h1
    subst h2
    have HF := Lib.hid (show ∃ lab', StAt (w.drewN n1) p t lab' a b ∧ Went (fun k => lab k ≠ .out) (fun k => lab' k ≠ .out) w (w.drewN n1) from ⟨lab, H.out.drewN n1, (Went.refl _ _).drewN n1⟩)
    clear hfn
    go_wp2_with fail
    go_ret2
    exact ⟨rfl, HF.out⟩
  · obtain ⟨bs, br, fs, fr, hyb, hsd, hrc, lfs, lfr, tS, tR⟩ := H.out.turn (ST.find_at hfn) hya
    have y1 : w.cell? ⟨y, 1, none⟩ = some (.pointer (some ⟨bs, 0, none⟩)) := (cell_at hyb 1).trans rfl
    have HSD := Lib.hid (hsd.drewN n1)
    have HTS := Lib.hid tS
    have hrf := HR.out _ hfn
    have HRF := Lib.hid hrf
    obtain ⟨h1, h2⟩ := HT.out
    unfold ST.wrR at h1
    unfold ST.wr at h2
    rw [hfn] at h1 h2
    simp only at h1 h2
    have HH := Lib.hid (And.intro h1 h2)
    clear hyb hsd hrc lfs lfr tS tR hfn hya hrf h1 h2 HT
    go_wp2_with fail
    refine (swrite_any bs hh.s fs _ dd _ (by exact HSD.out) (by exact HD.out.1.below (below_drewN (Below.refl _ _) n1)) (by exact HD.out.2.1) HD.out.2.2.1 HRF.out.1 HD.out.2.2.2 HRF.out.2).mono ?_
    rw [HH.out.1]
    rintro e w2 ⟨rfl, hm⟩
    have HF := Lib.hid (show ∃ lab', StAt w2 p TN lab' a b ∧ Went (fun k => lab k ≠ .out) (fun k => lab' k ≠ .out) w w2 from by
      obtain ⟨fp', m1, m2⟩ := hm
      rw [← HH.out.2]
      obtain ⟨lab', q1, q2, _⟩ := HTS.out w2 _ ⟨fp', m1, m2.first (below_drewN (Below.refl _ _) n1)⟩ (wr_id _ _)
      exact ⟨lab', q1, q2⟩)
    clear hm
    go_wp2_with fail
    go_ret2
    exact ⟨rfl, HF.out⟩
end Go.Proofs.Ytfdgamlakfkekaa

/- DERIVED. narthexlaw18's StreamsRing: the set after i calls of Next; plain. -/
namespace Go.Proofs.Ytfdgamlakfkekaa
open Go.RowKit

def rT0 : ST := (ST.new false (pmN 63)).allow (pmN 63)
/-- Stream c of k after i calls of Next. -/
def rH (k i : Nat) (d : List Nat) (c : Nat) : H1 := ⟨4 * c, rS (4 * c) 9999 d (tau k i c), RS.new (4 * c) rT0.mine.msd⟩
def rT (k i : Nat) (d : List Nat) : ST := { rT0 with own := (List.range k).map (rH k i d), last := if i = 0 then 0 else 4 * ((i - 1) % k), told := decide (0 < i) }
theorem rT0_facts : rT0.mine.md = 100000 ∧ rT0.limit = 100000 ∧ rT0.allowed = 100000 ∧ rT0.again = false ∧ rT0.rest = 0 ∧ rT0.others = [] ∧ rT0.own = [] ∧ rT0.theirs.ms = 8 ∧ rT0.theirs.msd = 9999 ∧ rT0.last = 0 ∧ rT0.told = false ∧ rT0.mine.msd = 2048 := by decide +kernel
theorem inter_own {α : Type} (f : Nat → H1) (k : Nat) : ∀ n, n ≤ k → inter true false ((List.range k).map f) [] n = (List.range n).map fun c => (true, c, f c)
  | 0, _ => rfl
  | n + 1, h => by
    rw [inter, inter_own (α := α) f k n (by omega), List.getElem?_map, List.getElem?_range (by omega), List.range_succ, List.map_append]
    simp [one1]
theorem rT_all (k i : Nat) (d : List Nat) : (rT k i d).all = (List.range k).map fun c => (true, c, rH k i d c) := by
  have h := inter_own (α := Nat) (rH k i d) k k (Nat.le_refl _)
  have e1 : (rT k i d).rest = 0 := rT0_facts.2.2.2.2.1
  have e2 : (rT k i d).others = [] := rT0_facts.2.2.2.2.2.1
  have e3 : (rT k i d).own = (List.range k).map (rH k i d) := rfl
  unfold ST.all
  rw [if_pos e1, e2, e3, show max ((List.range k).map (rH k i d)).length ([] : List H1).length = k from by simp, h]
theorem rT_at {k i : Nat} {d : List Nat} {c : Nat} (hc : c < k) : (rT k i d).all[c]? = some (true, c, rH k i d c) := by
  rw [rT_all, List.getElem?_map, List.getElem?_range hc]
  rfl
theorem rT_len (k i : Nat) (d : List Nat) : (rT k i d).all.length = k := by rw [rT_all]; simp
/-- The stream that is told takes its turn. -/
theorem rT_step {k i : Nat} (hk : 0 < k) (d : List Nat) : { (rT k i d).put true (i % k) ⟨4 * (i % k), rS (4 * (i % k)) 9999 d (tau k i (i % k) + 1), RS.new (4 * (i % k)) rT0.mine.msd⟩ with last := 4 * (i % k), told := true } = rT k (i + 1) d := by
  have hm := Nat.mod_lt i hk
  have e : ((List.range k).map (rH k i d)).set (i % k) ⟨4 * (i % k), rS (4 * (i % k)) 9999 d (tau k i (i % k) + 1), RS.new (4 * (i % k)) rT0.mine.msd⟩ = (List.range k).map (rH k (i + 1) d) := by
    apply List.ext_getElem?
    intro c
    rw [List.getElem?_set]
    by_cases hc : c < k
    · rw [List.getElem?_map, List.getElem?_map, List.getElem?_range hc]
      simp only [Option.map_some, List.length_map, List.length_range]
      unfold rH
      rw [tau_step hk c hc]
      by_cases h : i % k = c
      · subst h
        simp [hm]
      · rw [if_neg h, if_neg (fun q => h q.symm)]
    · rw [List.getElem?_eq_none (by simp; omega), List.getElem?_eq_none (by simp; omega)]
      split
      · rw [if_neg (by simp; omega)]
      · rfl
  unfold rT ST.put
  simp only [if_true]
  rw [e, if_neg (show ¬ i + 1 = 0 by omega), Nat.add_sub_cancel, decide_eq_true (show 0 < i + 1 by omega)]
theorem rT_first {k i : Nat} (hk : 0 < k) (d : List Nat) : firstOf (rT k i d) k = if i = 0 then 0 else (i - 1) % k + 1 := by
  have key : ∀ j, j ≤ k → firstOf (rT k i d) j = if i = 0 then 0 else min j ((i - 1) % k + 1) := by
    intro j
    induction j with
    | zero => intro _; unfold firstOf; split <;> omega
    | succ j ih =>
      intro hj
      unfold firstOf
      rw [rT_at (by omega), ih (by omega)]
      simp only
      have hu : (rT k i d).upto (rH k i d j) = (decide (0 < i) && decide (4 * j ≤ (if i = 0 then 0 else 4 * ((i - 1) % k)))) := rfl
      rw [hu]
      by_cases h0 : i = 0
      · subst h0
        simp
      · rw [if_neg h0, if_neg h0, if_neg h0, decide_eq_true (show 0 < i by omega)]
        by_cases hq : j ≤ (i - 1) % k
        · rw [decide_eq_true (show 4 * j ≤ 4 * ((i - 1) % k) by omega)]
          simp only [Bool.and_self, if_true]
          omega
        · rw [decide_eq_false (show ¬ 4 * j ≤ 4 * ((i - 1) % k) by omega)]
          simp only [Bool.and_false, Bool.false_eq_true, if_false]
          omega
  rw [key k (Nat.le_refl _)]
  have hm := Nat.mod_lt (i - 1) hk
  split
  · rfl
  · omega
/-- The next one in the ring. -/
theorem rT_next {k i : Nat} (hk : 0 < k) (d : List Nat) : (firstOf (rT k i d) k + 0) % k = i % k := by
  rw [rT_first hk, Nat.add_zero]
  split
  · rename_i h
    subst h
    rfl
  · rw [Nat.mod_add_mod]
    congr 1
    omega
theorem rT_rcv {k i : Nat} {d : List Nat} {c : Nat} : ((rH k i d c).r.nx 60).2.2 = false := by
  unfold RS.nx
  rw [if_neg (fun q => by have := q.1; cases this), if_pos]
  refine .inr (.inl ?_)
  show (decide (min rT0.mine.msd 2048 + max 1 (min rT0.mine.msd 2048 / 2) ≤ 0 + min rT0.mine.msd 2048) || false) = false
  rw [rT0_facts.2.2.2.2.2.2.2.2.2.2.2]
  decide
theorem sumL_leR {α : Type} (f : α → Nat) (b : Nat) : ∀ l : List α, (∀ x ∈ l, f x ≤ b) → sumL (l.map f) ≤ b * l.length
  | [], _ => by simp [sumL]
  | x :: l, h => by
    have h1 := h x (List.mem_cons_self ..)
    have h2 := sumL_leR f b l (fun y hy => h y (List.mem_cons_of_mem _ hy))
    rw [List.map_cons, List.length_cons, Nat.mul_succ]
    have e : sumL (f x :: l.map f) = f x + sumL (l.map f) := by simp [sumL]
    omega
theorem tau_le {k i c : Nat} (hk : 0 < k) (hi : i ≤ 5 * k) : tau k i c ≤ 5 := by
  unfold tau
  have : (i + (k - 1 - c)) / k < 6 := (Nat.div_lt_iff_lt_mul hk).2 (by omega)
  omega
/-- There is room for another piece. -/
theorem rT_more {k i : Nat} (hk : 0 < k) (hk8 : k ≤ 8) (hi : i ≤ 5 * k) (d : List Nat) : 40 ≤ (rT k i d).more := by
  have ha : (rT k i d).allowed = 100000 := rT0_facts.2.2.1
  have hs : (rT k i d).sentN ≤ 200 * k := by
    have e := sumL_leR (fun x : Bool × Nat × H1 => x.2.2.s.os.sent) 200 (rT k i d).all (fun x hx => by
      rw [rT_all, List.mem_map] at hx
      obtain ⟨c, _, rfl⟩ := hx
      show 40 * tau k i c ≤ 200
      have := tau_le (c := c) hk hi
      omega)
    rw [rT_len] at e
    exact e
  unfold ST.more
  rw [ha]
  omega
theorem rT_cred {k i : Nat} (d : List Nat) : (rT k i d).cred 60 = (rT k i d, zeroF, false) := by
  have ht : (rT k i d).takenN ≤ 0 := by
    have e := sumL_leR (fun x : Bool × Nat × H1 => x.2.2.r.taken) 0 (rT k i d).all (fun x hx => by
      rw [rT_all, List.mem_map] at hx
      obtain ⟨c, _, rfl⟩ := hx
      exact Nat.le_refl 0)
    rw [Nat.zero_mul] at e
    exact e
  have hr : (rT k i d).refuse 60 = true := by
    unfold ST.refuse ST.credL
    have h1 : (rT k i d).mine.md = 100000 := rT0_facts.1
    have h2 : (rT k i d).limit = 100000 := rT0_facts.2.1
    have h3 : (rT k i d).again = false := rT0_facts.2.2.2.1
    rw [h1, h2, h3, decide_eq_true (show 100000 + (rT k i d).takenN < 100000 + max 1 (100000 / 2) by omega)]
    rfl
  unfold ST.cred
  rw [if_pos hr]
/-- What the sender in turn tells. -/
theorem rT_nx {k i : Nat} (hk : 0 < k) (hk8 : k ≤ 8) (hi : i < 5 * k) {d : List Nat} (hd : 400 ≤ d.length) : (rH k i d (i % k)).s.nx 60 (rT k i d).more = (rS (4 * (i % k)) 9999 d (tau k i (i % k) + 1), .piece (40 * tau k i (i % k)) 40 false) :=
  rS_nx _ _ _ _ _ (tau_lt hk hi) hd (by omega) (rT_more hk hk8 (by omega) d)
end Go.Proofs.Ytfdgamlakfkekaa

/- DERIVED. streams: Next's second loop, plain. -/
namespace Go.Proofs.Ytfdgamlakfkekaa
open Go.RowKit

theorem NL.sndTurn {w wA wx : World} {p : Nat} {t : ST} {lab lab' : Nat → Lab} {a b y : Nat} {v : Value} {og : Option Nat} {zs : List (Option Nat)} (h : NL w wA wx p t lab lab' a b y v og zs) {x : Bool × Nat × H1} {yj bs : Nat}
    (hhs : (t.hs x.1)[x.2.1]? = some x.2.2) (hyat : Yat wA (if x.1 then a else b) x.2.1 yj) (hc : wx.cell? ⟨yj, 1, none⟩ = some (.pointer (some ⟨bs, 0, none⟩))) :
    ∃ fs, SdAt wx bs x.2.2.s fs ∧ ∀ w' s', SdM wx w' fs bs s' → s'.id = x.2.2.s.id → ∃ lab2, NL w wA w' p (t.put x.1 x.2.1 ⟨x.2.2.id, s', x.2.2.r⟩) lab lab2 a b y v og zs ∧ Went (fun k => lab' k ≠ .out) (fun k => lab2 k ≠ .out) wx w' ∧ w'.cell? ⟨yj, 1, none⟩ = some (.pointer (some ⟨bs, 0, none⟩)) ∧ w'.cell? ⟨p, 30, none⟩ = some (.int .u64 t.allowed) := by
  obtain ⟨y0, hy0, hst⟩ := h.st.pick hhs
  obtain rfl := hy0.same (h.yk _ _ _ hyat)
  obtain ⟨_, _, _, _, _, hly, _⟩ := hst
  obtain ⟨bs', br, fs, fr, hyb, hsd, hrc, lfs, lfr, tS, tR⟩ := h.st.turn hhs (h.yk _ _ _ hyat)
  obtain rfl : bs' = bs := by
    have q := (cell_at hyb 1).symm.trans hc
    simpa using q
  refine ⟨fs, hsd, fun w' s' hm hid => ?_⟩
  have k := tS w' s' hm hid
  obtain ⟨lab2, k1, k2, k3⟩ := k
  obtain ⟨q1, _⟩ := NL.turn h ⟨lab2, k1, k2, k3⟩
  refine ⟨lab2, ⟨k1, h.went.trans k2, k2.upd.keeps h.hy (fun q => q h.yo), out_went k2 h.yo (heap_lt h.hy), h.yk.trans k3, h.sl.keeps k2.upd (fun g hg q => q (h.so g hg)), fun g hg => out_went k2 (h.so g hg) (h.sl.lt g hg), h.ly⟩, k2, ?_, ?_⟩
  · obtain ⟨fs', _, m2⟩ := hm
    exact (cell_at (m2.upd.keeps hyb (fun q => by have := lfs _ q; rw [hly] at this; cases this)) 1).trans rfl
  · refine (k1.cell 30).trans ?_
    rw [tcells_put]
    rfl
/-- A box for a frame, yet empty. -/
structure NBox (w wx : World) (lb : Nat → Lab) (y z : Nat) : Prop where
  hz : wx.heap[z]? = some (.cells (encF zeroF).toArray 39 (0, 0))
  zo : lb z = .out
  zy : z ≠ y
  zw : w.heap.size ≤ z
theorem NBox.later {w wx wy : World} {lb : Nat → Lab} {y z : Nat} (h : NBox w wx lb y z) (hb : Below wx.heap.size wx wy) : NBox w wy lb y z :=
  ⟨below_keeps hb h.hz (heap_lt h.hz), h.zo, h.zy, h.zw⟩
theorem NBox.went {w wx wy : World} {lb lb' : Nat → Lab} {y z : Nat} (h : NBox w wx lb y z) (k : Went (fun k => lb k ≠ .out) (fun k => lb' k ≠ .out) wx wy) : NBox w wy lb' y z :=
  ⟨k.upd.keeps h.hz (fun q => q h.zo), out_went k h.zo (heap_lt h.hz), h.zy, h.zw⟩
theorem NL.alloc1 {w wA wx wy : World} {p : Nat} {t : ST} {lab lab' : Nat → Lab} {a b y : Nat} {v : Value} {og : Option Nat} {zs : List (Option Nat)} (h : NL w wA wx p t lab lab' a b y v og zs) (hy : wy = wx.alloc (.cells (encF zeroF).toArray 39)) :
    NL w wA wy p t lab lab' a b y v og zs ∧ NBox w wy lab' y wx.heap.size ∧ Below wx.heap.size wx wy := by
  subst hy
  have hb : Below wx.heap.size wx (wx.alloc (.cells (encF zeroF).toArray 39)) := (Below.refl _ _).alloc (Nat.le_refl _) _
  have hyl := heap_lt h.hy
  refine ⟨h.later hb, ⟨alloc_at wx _, ?_, by omega, h.went.upd.size⟩, hb⟩
  cases hq : lab' wx.heap.size with
  | out => rfl
  | _ => have := h.st.lt wx.heap.size (by rw [hq]; simp); omega
/-- What Next tells lies apart. -/
def NDat (w wx : World) (p y : Nat) (vd : Value) (data : List Nat) (F : Nat → Prop) : Prop := ∃ ogd, SlG encB 5 wx vd ogd data ∧ ∀ g, ogd = some g → w.heap.size ≤ g ∧ g ≠ p ∧ g ≠ y ∧ ¬ F g
theorem NDat.first {w wA wx wn : World} {p : Nat} {t : ST} {lab lab' : Nat → Lab} {a b y : Nat} {v : Value} {og : Option Nat} {zs : List (Option Nat)} (h : NL w wA wx p t lab lab' a b y v og zs) {vd : Value} {data : List Nat} {F : Nat → Prop} (hF : ∀ k, F k → k < wx.heap.size)
    (hd : ∃ ogd, SlG encB 5 wn vd ogd data ∧ ∀ g, ogd = some g → wx.heap.size ≤ g) : NDat w wn p y vd data F := by
  obtain ⟨ogd, h1, h2⟩ := hd
  have hp := heap_lt h.st.blk
  have hy := heap_lt h.hy
  have hs := h.went.upd.size
  refine ⟨ogd, h1, fun g hg => ?_⟩
  have q := h2 g hg
  exact ⟨by omega, by omega, by omega, fun e => by have := hF g e; omega⟩
theorem NDat.below {w wx wy : World} {p y : Nat} {vd : Value} {data : List Nat} {F : Nat → Prop} (h : NDat w wx p y vd data F) (hb : Below wx.heap.size wx wy) {z : Nat} (hz : z = wx.heap.size) : NDat w wy p y vd data (fun k => k = z) := by
  obtain ⟨ogd, h1, h2⟩ := h
  refine ⟨ogd, h1.below hb, fun g hg => ?_⟩
  obtain ⟨q1, q2, q3, _⟩ := h2 g hg
  have := h1.lt g hg
  exact ⟨q1, q2, q3, fun e => by omega⟩
theorem NDat.fill {w wx : World} {p y z : Nat} {vd : Value} {data : List Nat} (h : NDat w wx p y vd data (fun k => k = z)) (cs : Array Value) : NDat w (wx.setRow z cs) p y vd data (fun k => k = z) := by
  obtain ⟨ogd, h1, h2⟩ := h
  have hu : Upd (fun j => j = z) wx (wx.setRow z cs) := (Upd.refl (fun j => j = z) wx).setRowN z (.inl rfl) cs
  exact ⟨ogd, h1.keeps hu (fun g hg => (h2 g hg).2.2.2), h2⟩
theorem tcells_last (t : ST) (a b id : Nat) : ((tcells t a b).setIfInBounds 26 (.int .u64 id)).setIfInBounds 27 (.bool true) = tcells { t with last := id, told := true } a b := by
  unfold tcells
  simp only [List.setIfInBounds_toArray, List.set_cons_zero, List.set_cons_succ]
/-- Behind the last stream's mark. -/
structure LastF (w wx : World) (p : Nat) (t : ST) (lab lab' : Nat → Lab) (a b y z id : Nat) (vd : Value) (data : List Nat) (cs : Array Value) : Prop where
  c26 : wx.cell? ⟨p, 26, none⟩ = some (.int .u64 t.last)
  f26 : wx.frozen? ⟨p, 26, none⟩ = false
  f27 : (wx.setCell ⟨p, 26, none⟩ (.int .u64 id)).frozen? ⟨p, 27, none⟩ = false
  c27 : (wx.setCell ⟨p, 26, none⟩ (.int .u64 id)).cell? ⟨p, 27, none⟩ = some (.bool t.told)
  hz : ((wx.setCell ⟨p, 26, none⟩ (.int .u64 id)).setCell ⟨p, 27, none⟩ (.bool true)).heap[z]? = some (.cells cs 39 (0, 0))
  hy : ((wx.setCell ⟨p, 26, none⟩ (.int .u64 id)).setCell ⟨p, 27, none⟩ (.bool true)).heap[y]? = some (.cells (encF zeroF).toArray 39 (0, 0))
  fin : ∀ cs2, StAt (((wx.setCell ⟨p, 26, none⟩ (.int .u64 id)).setCell ⟨p, 27, none⟩ (.bool true)).setRow y cs2) p { t with last := id, told := true } lab' a b ∧
    Went (fun k => lab k ≠ .out) (fun k => lab' k ≠ .out) w (((wx.setCell ⟨p, 26, none⟩ (.int .u64 id)).setCell ⟨p, 27, none⟩ (.bool true)).setRow y cs2) ∧
    ∃ ogd, SlG encB 5 (((wx.setCell ⟨p, 26, none⟩ (.int .u64 id)).setCell ⟨p, 27, none⟩ (.bool true)).setRow y cs2) vd ogd data ∧ ∀ g, ogd = some g → w.heap.size ≤ g
theorem last_facts {w wA wx : World} {p : Nat} {t : ST} {lab lab' : Nat → Lab} {a b y z id : Nat} {v vd : Value} {og : Option Nat} {zs : List (Option Nat)} {data : List Nat} {cs : Array Value} {F : Nat → Prop} (h : NL w wA wx p t lab lab' a b y v og zs)
    (hz : wx.heap[z]? = some (.cells cs 39 (0, 0))) (zo : lab' z = .out) (hd : NDat w wx p y vd data F) (hid : id < 18446744073709551616) : LastF w wx p t lab lab' a b y z id vd data cs := by
  have hst := h.st
  have s1 := set_at hst.blk 26 (.int .u64 id)
  have s2 := set_at s1 27 (.bool true)
  have hpy : p ≠ y := fun e => by have := h.yo; rw [← e, hst.lp] at this; cases this
  have hpz : p ≠ z := fun e => by rw [← e, hst.lp] at zo; cases zo
  have hu : Upd (fun j => j = p) wx ((wx.setCell ⟨p, 26, none⟩ (.int .u64 id)).setCell ⟨p, 27, none⟩ (.bool true)) := ((Upd.refl (fun j => j = p) _).setCell ⟨p, 26, none⟩ (.inl rfl) _).setCell ⟨p, 27, none⟩ (.inl rfl) _
  refine ⟨(hst.cell 26).trans rfl, free_at hst.blk 26, free_at s1 27, ?_, hu.keeps hz (fun e => hpz e.symm), hu.keeps h.hy (fun e => hpy e.symm), fun cs2 => ?_⟩
  · refine (cell_at s1 27).trans ?_
    rw [Array.getElem?_setIfInBounds_ne (by omega)]
    rfl
  · have hu2 : Upd (fun j => j = p ∨ j = y) wx (((wx.setCell ⟨p, 26, none⟩ (.int .u64 id)).setCell ⟨p, 27, none⟩ (.bool true)).setRow y cs2) := (hu.mono (G := fun j => j = p ∨ j = y) (fun k _ q => Or.inl q)).setRowN y (.inl (.inr rfl)) cs2
    have hn : ∀ l k, (k = p ∨ k = y) → l ≠ Lab.set → l ≠ Lab.out → lab' k ≠ l := fun l k hk h1 h2 e => by
      rcases hk with rfl | rfl
      · rw [hst.lp] at e
        exact h1 e.symm
      · rw [h.yo] at e
        exact h2 e.symm
    refine ⟨⟨?_, hst.lp, hst.own.keeps hu2 (fun k hk => ⟨hn _ k hk (by simp) (by simp), hn _ k hk (by simp) (by simp), fun i => ⟨hn _ k hk (by simp) (by simp), hn _ k hk (by simp) (by simp), hn _ k hk (by simp) (by simp)⟩⟩),
      hst.others.keeps hu2 (fun k hk => ⟨hn _ k hk (by simp) (by simp), hn _ k hk (by simp) (by simp), fun i => ⟨hn _ k hk (by simp) (by simp), hn _ k hk (by simp) (by simp), hn _ k hk (by simp) (by simp)⟩⟩), fun k hk => by have := hst.lt k hk; have := hu2.size; omega,
      ⟨hst.ok.mine, hst.ok.theirs, hst.ok.rest, hst.ok.own, hst.ok.others, hst.ok.hown, hst.ok.hothers, hid, hst.ok.limit, hst.ok.allowed⟩⟩, ?_, ?_⟩
    · rw [setRow_other _ _ _ _ (fun e => hpy e)]
      exact s2.trans (by rw [tcells_last])
    · have hpl : lab' p ≠ .out := by rw [hst.lp]; simp
      refine ⟨h.went.upd.trans hu2 (fun k _ q => q) (fun k hk q => ?_), h.went.new⟩
      rcases q with rfl | rfl
      · rcases h.went.new k hpl with q | q
        · exact q
        · omega
      · have := h.ly
        omega
    · obtain ⟨ogd, d1, d2⟩ := hd
      exact ⟨ogd, d1.keeps hu2 (fun g hg q => by
        obtain ⟨_, e2, e3, _⟩ := d2 g hg
        rcases q with q | q
        · exact e2 q
        · exact e3 q), fun g hg => (d2 g hg).1⟩
theorem cells2_below {w wx : World} {a1 b1 o1 o2 : Nat} {v1 v2 : Value} (h : w.cell? ⟨a1, o1, none⟩ = some v1 ∧ w.cell? ⟨b1, o2, none⟩ = some v2) (hb : Below w.heap.size w wx) : wx.cell? ⟨a1, o1, none⟩ = some v1 ∧ wx.cell? ⟨b1, o2, none⟩ = some v2 :=
  ⟨cell_keep hb (cell_lt1 h.1) h.1, cell_keep hb (cell_lt1 h.2) h.2⟩
theorem ST.id_lt {t : ST} (k : t.Ok) {x : Bool × Nat × H1} (hx : (t.hs x.1)[x.2.1]? = some x.2.2) : x.2.2.id < 18446744073709551616 := by
  obtain ⟨o, i, h⟩ := x
  have hr := k.rest
  cases o
  · have hi : i < t.others.length := (List.getElem?_eq_some_iff.1 hx).1
    have := (k.hothers i h hx).id
    have := k.others
    show h.id < _
    omega
  · have hi : i < t.own.length := (List.getElem?_eq_some_iff.1 hx).1
    have := (k.hown i h hx).id
    have := k.own
    show h.id < _
    omega
end Go.Proofs.Ytfdgamlakfkekaa
