/- DERIVED. streams: Allow, where no stream is yet (printed by mkstallow.py). -/
import Derived.Lib.SlBytesConst
import Derived.Test.YtnneoeimgbemfaaGreatQH3
import Derived.Test.YtnneoeimgbemfaaGreatQH13
import Derived.Test.YtnneoeimgbemfaaGreatQH16
set_option linter.all false
namespace Go.Proofs.YtnneoeimgbemfaaGreat
open Go.RowKit

/-- What the other end allows is taken. -/
def ST.allow (t : ST) (m : Pm) : ST := { t with theirs := { t.theirs with ms := max t.theirs.ms (min m.ms 8), msd := max t.theirs.msd m.msd, md := max t.theirs.md m.md }, allowed := max t.allowed m.md }
structure AlS (w wx : World) (p z a b : Nat) (m : Pm) (t : ST) : Prop where
  hp : wx.heap[p]? = some (.cells (tcells t a b) 68 (0, 0))
  hz : wx.heap[z]? = some (.cells (encPm m).toArray 60 (0, 0))
  lz : w.heap.size ≤ z
  lp : p < w.heap.size
  upd : Upd (fun j => j = p) w wx
theorem AlS.set {w wx : World} {p z a b k : Nat} {m : Pm} {t t' : ST} {v : Value} (h : AlS w wx p z a b m t) (ht : (tcells t a b).setIfInBounds k v = tcells t' a b) : AlS w (wx.setCell ⟨p, k, none⟩ v).drew p z a b m t' := by
  have h1 := h.lz
  have h2 := h.lp
  exact ⟨(set_at h.hp k v).trans (by rw [ht]), ((Upd.refl (fun j => j = p) wx).setCell ⟨p, k, none⟩ (.inl rfl) v).keeps h.hz (fun e => by omega), h1, h2, (h.upd.setCell ⟨p, k, none⟩ (.inl rfl) v).drew⟩
theorem AlS.facts {w wx : World} {p z a b : Nat} {m : Pm} {t : ST} (h : AlS w wx p z a b m t) : (∀ i, wx.cell? ⟨p, i, none⟩ = (tcells t a b)[i]?) ∧ (∀ i, wx.frozen? ⟨p, i, none⟩ = false) ∧ (∀ i, wx.cell? ⟨z, i, none⟩ = (encPm m).toArray[i]?) :=
  ⟨fun i => cell_at h.hp i, fun i => free_at h.hp i, fun i => cell_at h.hz i⟩
theorem imax (x y : Nat) : (if (x : Int) < (y : Int) then (y : Int) else (x : Int)) = (max x y : Nat) := by split <;> omega
theorem imin8 (x : Nat) : (if (8 : Int) < (x : Int) then (8 : Int) else (x : Int)) = (min x 8 : Nat) := by split <;> omega
def ST.al_ms (t : ST) (m : Pm) : ST := { t with theirs := { t.theirs with ms := max t.theirs.ms (min m.ms 8) } }
def ST.al_msd (t : ST) (m : Pm) : ST := { t with theirs := { t.theirs with msd := max t.theirs.msd m.msd } }
def ST.al_md (t : ST) (m : Pm) : ST := { t with theirs := { t.theirs with md := max t.theirs.md m.md } }
def ST.al_al (t : ST) (m : Pm) : ST := { t with allowed := max t.allowed m.md }
theorem ST.al_all (t : ST) (m : Pm) : (((t.al_ms m).al_msd m).al_md m).al_al m = t.allow m := rfl
theorem ST.allow_hs (t : ST) (m : Pm) : (t.allow m).own = t.own ∧ (t.allow m).others = t.others ∧ (t.allow m).rest = t.rest := ⟨rfl, rfl, rfl⟩
theorem ST.allow_ok {t : ST} (h : t.Ok) {m : Pm} (hm : m.Ok) : (t.allow m).Ok := by
  have h1 := hm.md
  have h2 := hm.msd
  have h3 := hm.ms
  have k1 := h.theirs.md
  have k2 := h.theirs.msd
  have k3 := h.theirs.ms
  have k4 := h.allowed
  exact ⟨h.mine, ⟨h.theirs.idle, by show max _ _ < _; omega, by show max _ _ < _; omega, by show max _ _ < _; omega⟩, h.rest, h.own, h.others, h.hown, h.hothers, h.last, h.limit, by show max _ _ < _; omega⟩
set_option maxRecDepth 100000 in
set_option maxHeartbeats 2000000 in
theorem tallow_any (p : Nat) (t : ST) (lab : Nat → Lab) (a b : Nat) (m : Pm) (w : World) (h : StAt w p t lab a b) (hm : m.Ok) (ho : t.own = []) (hoth : t.others = []) :
    Calls Tryz.prog 19 #[.pointer (some ⟨p, 0, none⟩), .agg (encPm m).toArray] w fun e w' => e = .returned (.tuple #[]) ∧ StAt w' p (t.allow m) lab a b ∧ Upd (fun k => lab k ≠ .out) w w' := by
  have H := Lib.hid h
  have HO := Lib.hid (And.intro ho hoth)
  have HM := Lib.hid hm
  have HB := Lib.hid (show AlS w (w.alloc (.cells (encPm m).toArray 60)) p w.heap.size a b m t from
    ⟨alloc_old h.blk, alloc_at _ _, Nat.le_refl _, heap_lt h.blk, (Upd.refl _ _).alloc _⟩)
  have HEND := Lib.hid (show ∀ wx z, AlS w wx p z a b m (t.allow m) → StAt wx p (t.allow m) lab a b ∧ Upd (fun k => lab k ≠ .out) w wx from fun wx z hx => by
    have hn : ∀ k, lab k ≠ .set → k ≠ p := fun k hk e => hk (e ▸ h.lp)
    refine ⟨⟨hx.hp, h.lp, ?_, ?_, fun k hk => by have := h.lt k hk; have := hx.upd.size; omega, ST.allow_ok h.ok hm⟩, hx.upd.mono (fun k _ hk => by rw [show k = p from hk, h.lp]; simp)⟩
    · refine h.own.keeps hx.upd (fun k hk => ?_)
      rw [show k = p from hk, h.lp]
      simp
    · refine h.others.keeps hx.upd (fun k hk => ?_)
      rw [show k = p from hk, h.lp]
      simp)
  clear h hm ho hoth
  obtain ⟨idle, md, msd, ms, c0, c1, c2, c3, c4, c5, c6, c7⟩ := m
  simp only [encPm]
  go_enter Tryz.func19, Tryz.ntmps19
  go_upto_region 2 with fail
  rw [show (w.alloc (.cells #[.int .u64 idle, .int .u64 md, .int .u64 msd, .int .u64 ms, .int .u8 c0, .int .u8 c1, .int .u8 c2, .int .u8 c3, .int .u8 c4, .int .u8 c5, .int .u8 c6, .int .u8 c7] 60)) = w.alloc (.cells (encPm ⟨idle, md, msd, ms, c0, c1, c2, c3, c4, c5, c6, c7⟩).toArray 60) from rfl]
  generalize w.alloc (.cells (encPm ⟨idle, md, msd, ms, c0, c1, c2, c3, c4, c5, c6, c7⟩).toArray 60) = W1 at *
  generalize w.heap.size = z at *
  go_upto_region 2 with fail
  go_cut [] (fun wx => AlS w wx p z a b ⟨idle, md, msd, ms, c0, c1, c2, c3, c4, c5, c6, c7⟩ (t.al_ms ⟨idle, md, msd, ms, c0, c1, c2, c3, c4, c5, c6, c7⟩))
  case first =>
    obtain ⟨f1, f2, f3⟩ := HB.out.facts
    have fc1 : W1.cell? ⟨p, 15, none⟩ = some (.int .u64 t.theirs.ms) := (f1 15).trans rfl
    have e1 := f2 15
    have fc2 : W1.cell? ⟨z, 3, none⟩ = some (.int .u64 ms) := (f3 3).trans rfl
    have HST := Lib.hid (fun v t' ht => HB.out.set (k := 15) (v := v) (t' := t') ht)
    have q1 := imax t.theirs.ms (min ms 8)
    have q2 := imin8 ms
    clear f1 f2 f3 HB HEND H HO HM
    go_still_tail 11, (by kernel_rfl)
    change wpList _ _ _ _ _ W1.drew
    go_wp2_with fail
    all_goals go_meet
    · case rel => exact HST.out _ _ ((congrArg (fun x : Nat => (tcells t a b).setIfInBounds 15 (.int .u64 x)) (show (min ms 8) = max t.theirs.ms (min ms 8) by omega)).trans rfl)
    · case rel => exact HST.out _ _ ((congrArg (fun x : Nat => (tcells t a b).setIfInBounds 15 (.int .u64 x)) (show t.theirs.ms = max t.theirs.ms (min ms 8) by omega)).trans rfl)
  case rest =>
    have HB1 := Lib.hid (show AlS w wc p z a b ⟨idle, md, msd, ms, c0, c1, c2, c3, c4, c5, c6, c7⟩ (t.al_ms ⟨idle, md, msd, ms, c0, c1, c2, c3, c4, c5, c6, c7⟩) from hcut)
    clear HB hcut
    generalize wc = W2 at *
    have HB := HB1
    clear HB1
    go_upto_region 3 with fail
    go_cut [] (fun wx => AlS w wx p z a b ⟨idle, md, msd, ms, c0, c1, c2, c3, c4, c5, c6, c7⟩ ((t.al_ms ⟨idle, md, msd, ms, c0, c1, c2, c3, c4, c5, c6, c7⟩).al_msd ⟨idle, md, msd, ms, c0, c1, c2, c3, c4, c5, c6, c7⟩))
    case first =>
      obtain ⟨f1, f2, f3⟩ := HB.out.facts
      have fc1 : W2.cell? ⟨p, 14, none⟩ = some (.int .u64 (t.al_ms ⟨idle, md, msd, ms, c0, c1, c2, c3, c4, c5, c6, c7⟩).theirs.msd) := (f1 14).trans rfl
      have e1 := f2 14
      have fc2 : W2.cell? ⟨z, 2, none⟩ = some (.int .u64 msd) := (f3 2).trans rfl
      have HST := Lib.hid (fun v t' ht => HB.out.set (k := 14) (v := v) (t' := t') ht)
      have q1 := imax (t.al_ms ⟨idle, md, msd, ms, c0, c1, c2, c3, c4, c5, c6, c7⟩).theirs.msd msd
      clear f1 f2 f3 HB HEND H HO HM
      go_still_tail 10, (by kernel_rfl)
      change wpList _ _ _ _ _ W2.drew
      go_wp2_with fail
      all_goals go_meet
      · case rel => exact HST.out _ _ ((congrArg (fun x : Nat => (tcells (t.al_ms ⟨idle, md, msd, ms, c0, c1, c2, c3, c4, c5, c6, c7⟩) a b).setIfInBounds 14 (.int .u64 x)) (show msd = max (t.al_ms ⟨idle, md, msd, ms, c0, c1, c2, c3, c4, c5, c6, c7⟩).theirs.msd msd by omega)).trans rfl)
      · case rel => exact HST.out _ _ ((congrArg (fun x : Nat => (tcells (t.al_ms ⟨idle, md, msd, ms, c0, c1, c2, c3, c4, c5, c6, c7⟩) a b).setIfInBounds 14 (.int .u64 x)) (show (t.al_ms ⟨idle, md, msd, ms, c0, c1, c2, c3, c4, c5, c6, c7⟩).theirs.msd = max (t.al_ms ⟨idle, md, msd, ms, c0, c1, c2, c3, c4, c5, c6, c7⟩).theirs.msd msd by omega)).trans rfl)
    case rest =>
      have HB1 := Lib.hid (show AlS w wc p z a b ⟨idle, md, msd, ms, c0, c1, c2, c3, c4, c5, c6, c7⟩ ((t.al_ms ⟨idle, md, msd, ms, c0, c1, c2, c3, c4, c5, c6, c7⟩).al_msd ⟨idle, md, msd, ms, c0, c1, c2, c3, c4, c5, c6, c7⟩) from hcut)
      clear HB hcut
      generalize wc = W3 at *
      have HB := HB1
      clear HB1
      go_upto_region 4 with fail
      go_cut [] (fun wx => AlS w wx p z a b ⟨idle, md, msd, ms, c0, c1, c2, c3, c4, c5, c6, c7⟩ (((t.al_ms ⟨idle, md, msd, ms, c0, c1, c2, c3, c4, c5, c6, c7⟩).al_msd ⟨idle, md, msd, ms, c0, c1, c2, c3, c4, c5, c6, c7⟩).al_md ⟨idle, md, msd, ms, c0, c1, c2, c3, c4, c5, c6, c7⟩))
      case first =>
        obtain ⟨f1, f2, f3⟩ := HB.out.facts
        have fc1 : W3.cell? ⟨p, 13, none⟩ = some (.int .u64 ((t.al_ms ⟨idle, md, msd, ms, c0, c1, c2, c3, c4, c5, c6, c7⟩).al_msd ⟨idle, md, msd, ms, c0, c1, c2, c3, c4, c5, c6, c7⟩).theirs.md) := (f1 13).trans rfl
        have e1 := f2 13
        have fc2 : W3.cell? ⟨z, 1, none⟩ = some (.int .u64 md) := (f3 1).trans rfl
        have HST := Lib.hid (fun v t' ht => HB.out.set (k := 13) (v := v) (t' := t') ht)
        have q1 := imax ((t.al_ms ⟨idle, md, msd, ms, c0, c1, c2, c3, c4, c5, c6, c7⟩).al_msd ⟨idle, md, msd, ms, c0, c1, c2, c3, c4, c5, c6, c7⟩).theirs.md md
        clear f1 f2 f3 HB HEND H HO HM
        go_still_tail 10, (by kernel_rfl)
        change wpList _ _ _ _ _ W3.drew
        go_wp2_with fail
        all_goals go_meet
        · case rel => exact HST.out _ _ ((congrArg (fun x : Nat => (tcells ((t.al_ms ⟨idle, md, msd, ms, c0, c1, c2, c3, c4, c5, c6, c7⟩).al_msd ⟨idle, md, msd, ms, c0, c1, c2, c3, c4, c5, c6, c7⟩) a b).setIfInBounds 13 (.int .u64 x)) (show md = max ((t.al_ms ⟨idle, md, msd, ms, c0, c1, c2, c3, c4, c5, c6, c7⟩).al_msd ⟨idle, md, msd, ms, c0, c1, c2, c3, c4, c5, c6, c7⟩).theirs.md md by omega)).trans rfl)
        · case rel => exact HST.out _ _ ((congrArg (fun x : Nat => (tcells ((t.al_ms ⟨idle, md, msd, ms, c0, c1, c2, c3, c4, c5, c6, c7⟩).al_msd ⟨idle, md, msd, ms, c0, c1, c2, c3, c4, c5, c6, c7⟩) a b).setIfInBounds 13 (.int .u64 x)) (show ((t.al_ms ⟨idle, md, msd, ms, c0, c1, c2, c3, c4, c5, c6, c7⟩).al_msd ⟨idle, md, msd, ms, c0, c1, c2, c3, c4, c5, c6, c7⟩).theirs.md = max ((t.al_ms ⟨idle, md, msd, ms, c0, c1, c2, c3, c4, c5, c6, c7⟩).al_msd ⟨idle, md, msd, ms, c0, c1, c2, c3, c4, c5, c6, c7⟩).theirs.md md by omega)).trans rfl)
      case rest =>
        have HB1 := Lib.hid (show AlS w wc p z a b ⟨idle, md, msd, ms, c0, c1, c2, c3, c4, c5, c6, c7⟩ (((t.al_ms ⟨idle, md, msd, ms, c0, c1, c2, c3, c4, c5, c6, c7⟩).al_msd ⟨idle, md, msd, ms, c0, c1, c2, c3, c4, c5, c6, c7⟩).al_md ⟨idle, md, msd, ms, c0, c1, c2, c3, c4, c5, c6, c7⟩) from hcut)
        clear HB hcut
        generalize wc = W4 at *
        have HB := HB1
        clear HB1
        go_upto_region 5 with fail
        go_cut [] (fun wx => AlS w wx p z a b ⟨idle, md, msd, ms, c0, c1, c2, c3, c4, c5, c6, c7⟩ ((((t.al_ms ⟨idle, md, msd, ms, c0, c1, c2, c3, c4, c5, c6, c7⟩).al_msd ⟨idle, md, msd, ms, c0, c1, c2, c3, c4, c5, c6, c7⟩).al_md ⟨idle, md, msd, ms, c0, c1, c2, c3, c4, c5, c6, c7⟩).al_al ⟨idle, md, msd, ms, c0, c1, c2, c3, c4, c5, c6, c7⟩))
        case first =>
          obtain ⟨f1, f2, f3⟩ := HB.out.facts
          have fc1 : W4.cell? ⟨p, 30, none⟩ = some (.int .u64 (((t.al_ms ⟨idle, md, msd, ms, c0, c1, c2, c3, c4, c5, c6, c7⟩).al_msd ⟨idle, md, msd, ms, c0, c1, c2, c3, c4, c5, c6, c7⟩).al_md ⟨idle, md, msd, ms, c0, c1, c2, c3, c4, c5, c6, c7⟩).allowed) := (f1 30).trans rfl
          have e1 := f2 30
          have fc2 : W4.cell? ⟨z, 1, none⟩ = some (.int .u64 md) := (f3 1).trans rfl
          have HST := Lib.hid (fun v t' ht => HB.out.set (k := 30) (v := v) (t' := t') ht)
          have q1 := imax (((t.al_ms ⟨idle, md, msd, ms, c0, c1, c2, c3, c4, c5, c6, c7⟩).al_msd ⟨idle, md, msd, ms, c0, c1, c2, c3, c4, c5, c6, c7⟩).al_md ⟨idle, md, msd, ms, c0, c1, c2, c3, c4, c5, c6, c7⟩).allowed md
          clear f1 f2 f3 HB HEND H HO HM
          go_still_tail 10, (by kernel_rfl)
          change wpList _ _ _ _ _ W4.drew
          go_wp2_with fail
          all_goals go_meet
          · case rel => exact HST.out _ _ ((congrArg (fun x : Nat => (tcells (((t.al_ms ⟨idle, md, msd, ms, c0, c1, c2, c3, c4, c5, c6, c7⟩).al_msd ⟨idle, md, msd, ms, c0, c1, c2, c3, c4, c5, c6, c7⟩).al_md ⟨idle, md, msd, ms, c0, c1, c2, c3, c4, c5, c6, c7⟩) a b).setIfInBounds 30 (.int .u64 x)) (show md = max (((t.al_ms ⟨idle, md, msd, ms, c0, c1, c2, c3, c4, c5, c6, c7⟩).al_msd ⟨idle, md, msd, ms, c0, c1, c2, c3, c4, c5, c6, c7⟩).al_md ⟨idle, md, msd, ms, c0, c1, c2, c3, c4, c5, c6, c7⟩).allowed md by omega)).trans rfl)
          · case rel => exact HST.out _ _ ((congrArg (fun x : Nat => (tcells (((t.al_ms ⟨idle, md, msd, ms, c0, c1, c2, c3, c4, c5, c6, c7⟩).al_msd ⟨idle, md, msd, ms, c0, c1, c2, c3, c4, c5, c6, c7⟩).al_md ⟨idle, md, msd, ms, c0, c1, c2, c3, c4, c5, c6, c7⟩) a b).setIfInBounds 30 (.int .u64 x)) (show (((t.al_ms ⟨idle, md, msd, ms, c0, c1, c2, c3, c4, c5, c6, c7⟩).al_msd ⟨idle, md, msd, ms, c0, c1, c2, c3, c4, c5, c6, c7⟩).al_md ⟨idle, md, msd, ms, c0, c1, c2, c3, c4, c5, c6, c7⟩).allowed = max (((t.al_ms ⟨idle, md, msd, ms, c0, c1, c2, c3, c4, c5, c6, c7⟩).al_msd ⟨idle, md, msd, ms, c0, c1, c2, c3, c4, c5, c6, c7⟩).al_md ⟨idle, md, msd, ms, c0, c1, c2, c3, c4, c5, c6, c7⟩).allowed md by omega)).trans rfl)
        case rest =>
          have HB1 := Lib.hid (show AlS w wc p z a b ⟨idle, md, msd, ms, c0, c1, c2, c3, c4, c5, c6, c7⟩ ((((t.al_ms ⟨idle, md, msd, ms, c0, c1, c2, c3, c4, c5, c6, c7⟩).al_msd ⟨idle, md, msd, ms, c0, c1, c2, c3, c4, c5, c6, c7⟩).al_md ⟨idle, md, msd, ms, c0, c1, c2, c3, c4, c5, c6, c7⟩).al_al ⟨idle, md, msd, ms, c0, c1, c2, c3, c4, c5, c6, c7⟩) from hcut)
          clear HB hcut
          generalize wc = W5 at *
          have HB := HB1
          clear HB1
          have HS5 := Lib.hid (HEND.out _ _ (by exact HB.out))
          clear HB HEND H
          go_wp2_with fail
          refine (tall_any p _ lab a b _ (by exact HS5.out.1)).mono ?_
          have hal : (t.allow ⟨idle, md, msd, ms, c0, c1, c2, c3, c4, c5, c6, c7⟩).all = [] := by unfold ST.all; rw [(ST.allow_hs _ _).1, (ST.allow_hs _ _).2.1, HO.out.1, HO.out.2]; split <;> rfl
          rw [hal]
          rintro e w1 ⟨v, rfl, hmm⟩
          obtain ⟨ov, cv, rfl, hc1, hb1, _⟩ := hmm.shape
          have HB1 := Lib.hid hb1
          clear hmm hb1 hal
          rw [show ([] : List (Bool × Nat × H1)).length = 0 from rfl] at *
          go_wp2_with fail
          go_loopw [54] (fun i wr => i = .int .i64 0 ∧ wr = w1) (fun _ _ => 0)
          case atStart => exact ⟨rfl, rfl⟩
          case round =>
            obtain ⟨rfl, rfl⟩ := hrel
            go_wp2_with fail
            refine bodyPost_end (results_none rfl _ _ _) rfl ?_
            exact ⟨rfl, HS5.out.1.below HB1.out, HS5.out.2.trans (Upd.below HB1.out) (fun _ _ q => q) (fun k hk q => by have := HS5.out.2.size; omega)⟩
end Go.Proofs.YtnneoeimgbemfaaGreat

/- DERIVED. A row of bytes that is laid down at once, as a view. -/
namespace Go.Proofs.YtnneoeimgbemfaaGreat
open Go.RowKit

theorem lit_vw {w : World} {g n c : Nat} {cs : Array Value} {t : TypeId} {z : Nat × Nat} {xs : List Nat} (h : w.heap[g]? = some (.cells cs t z)) (hl : cs.toList = flat encB xs) (hn : n = xs.length) (hc : n ≤ c) (hc2 : c ≤ 9223372036854775807) :
    Vw encB w w.heap.size (.slice (some ⟨g, 0, none⟩) n c) xs := (lit_vwa (fp := fun _ => False) h hl (fun q => q) hn hc hc2).vw
end Go.Proofs.YtnneoeimgbemfaaGreat

/- DERIVED. Walk of narthexlaw18's known; sets of one's own. -/
namespace Go.Proofs.YtnneoeimgbemfaaGreat
open Go.RowKit

theorem TMine.below {W w : World} {p : Nat} {t : ST} (h : TMine W w p t) : Below W.heap.size W w := by
  obtain ⟨_, _, _, _, _, h⟩ := h
  exact h
theorem TMine.later {W w w' : World} {p : Nat} {t : ST} (h : TMine W w p t) (hb : Below w.heap.size w w') : TMine W w' p t := by
  obtain ⟨lab, a, b, h1, h2, h3⟩ := h
  exact ⟨lab, a, b, h1.below hb, h2, below_call h3 h3.size hb⟩
theorem TMine.first {W0 W w : World} {p : Nat} {t : ST} (hb : Below W0.heap.size W0 W) (h : TMine W w p t) : TMine W0 w p t := by
  obtain ⟨lab, a, b, h1, h2, h3⟩ := h
  exact ⟨lab, a, b, h1, fun k hk => Nat.le_trans hb.size (h2 k hk), below_call hb hb.size h3⟩
theorem went_mine {W w w' : World} {lab lab' : Nat → Lab} (h2 : ∀ k, lab k ≠ .out → W.heap.size ≤ k) (h3 : Below W.heap.size W w) (hw : Went (fun k => lab k ≠ .out) (fun k => lab' k ≠ .out) w w') : (∀ k, lab' k ≠ .out → W.heap.size ≤ k) ∧ Below W.heap.size W w' := by
  have hs := h3.size
  refine ⟨fun k hk => ?_, Upd.belowOf h3 hw.upd (fun k hk q => by have := h2 k q; omega)⟩
  rcases hw.new k hk with q | q
  · exact h2 k q
  · omega
theorem TMine.open {W w : World} {p : Nat} {t : ST} (h : TMine W w p t) : ∃ lab a b, StAt w p t lab a b ∧ ∀ w' t', (∃ lab', StAt w' p t' lab' a b ∧ Went (fun k => lab k ≠ .out) (fun k => lab' k ≠ .out) w w') → TMine W w' p t' := by
  obtain ⟨lab, a, b, h1, h2, h3⟩ := h
  refine ⟨lab, a, b, h1, fun w' t' ⟨lab', q1, q2⟩ => ?_⟩
  obtain ⟨r1, r2⟩ := went_mine h2 h3 q2
  exact ⟨lab', a, b, q1, r1, r2⟩
theorem Pm.zero_ok : Pm.zero.Ok := ⟨by decide, by decide, by decide, by decide⟩
def kF : Fr := ⟨8, 4, 0, .slice none 0 0, false, 0, 0, 0, 0, 0, .slice none 0 0, 0, 0, 0, 0, 0, 0, 0, 0⟩
theorem kF_ok : FrOk kF := ⟨by decide, by decide, by decide, by decide, by decide, by decide⟩
theorem vwa_none {fp : Nat → Prop} {w : World} : VwA encB fp w (.slice none 0 0) [] := ⟨none, 0, rfl, Nat.le_refl _, by decide, .inl rfl⟩
def kT0 : ST := ST.new false Pm.zero
def kT1 : ST := kT0.allow ⟨0, 0, 0, 1, 0, 0, 0, 0, 0, 0, 0, 0⟩
def kT2 : ST := kT1.opn
theorem kT_facts : kT0.opnV = (0, 31) ∧ kT0.opn = kT0 ∧ kT1.opnV = (0, 0) ∧ kT2.opnV = (0, 31) ∧ kT2.opn = kT2 ∧ kT2.wrR 8 1 = (0, 22) ∧ kT2.wr 8 [97] = kT2 ∧ kT2.may kF 0 = 5 ∧ kT2.find 8 = none ∧ kT0.own.length = 0 ∧ kT1.own.length = 0 ∧ kT2.own.length = 1 ∧ kT2.others.length = 0 ∧ kT2.mine.ms = 0 :=
  ⟨rfl, rfl, rfl, rfl, rfl, rfl, rfl, rfl, rfl, rfl, rfl, rfl, rfl, rfl⟩
set_option maxRecDepth 100000 in
set_option maxHeartbeats 4000000 in
theorem stknown_any (w : World) : Calls Tryz.prog 16 #[] w fun e w' => e = .returned (.bool true) ∧ Below w.heap.size w w' := by
  have hcs := fun (w : World) (C : Array Value) (n c : Nat) => Lib.run_convert_bytes_const (P := Tryz.prog) w 31 5 C n c Tryz.underlying31 Tryz.underlying5
  obtain ⟨k1, k2, k3, k4, k5, k6, k7, k8, k9, k10, k11, k12, k13, k14⟩ := kT_facts
  have K := Lib.hid kT_facts
  clear k1 k2 k3 k4 k5 k6 k7 k8 k9 k10 k11 k12 k13 k14
  go_enter Tryz.func16, Tryz.ntmps16
  go_wp2_with fail
  refine (tnew_any false Pm.zero Pm.zero_ok _).mono ?_
  rintro e w1 ⟨p, rfl, hm⟩
  have HM1 := Lib.hid (show TMine w w1 p kT0 from hm)
  clear hm
  go_wp2_with fail
  obtain ⟨lab, a, b, hs, hgo⟩ := HM1.out.open
  have HG := Lib.hid hgo
  refine (tOpen_any p kT0 lab a b _ hs (by rw [K.out.2.2.2.2.2.2.2.2.2.1]; omega)).mono ?_
  rw [K.out.1, K.out.2.1]
  rintro e w2 ⟨rfl, hr⟩
  have HM2 := Lib.hid (HG.out _ _ hr)
  clear hs hgo hr HG HM1 lab a b
  go_wp2_with fail
  obtain ⟨lab, a, b, hs, hgo⟩ := HM2.out.open
  have HG := Lib.hid hgo
  refine (tallow_any p kT0 lab a b ⟨0, 0, 0, 1, 0, 0, 0, 0, 0, 0, 0, 0⟩ _ hs ⟨by decide, by decide, by decide, by decide⟩ rfl rfl).mono ?_
  rintro e w3 ⟨rfl, hs3, hu3⟩
  have HM3 := Lib.hid (show TMine w w3 p kT1 from HG.out _ _ ⟨lab, hs3, hu3, fun k hk => .inl hk⟩)
  clear hs hgo hs3 hu3 HG HM2 lab a b
  go_wp2_with fail
  obtain ⟨lab, a, b, hs, hgo⟩ := HM3.out.open
  have HG := Lib.hid hgo
  refine (tOpen_any p kT1 lab a b _ hs (by rw [K.out.2.2.2.2.2.2.2.2.2.2.1]; omega)).mono ?_
  rw [K.out.2.2.1]
  rintro e w4 ⟨rfl, hr⟩
  have HM4 := Lib.hid (show TMine w w4 p kT2 from HG.out _ _ hr)
  clear hs hgo hr HG HM3 lab a b
  go_wp2_with fail
  obtain ⟨lab, a, b, hs, hgo⟩ := HM4.out.open
  have HG := Lib.hid hgo
  refine (tOpen_any p kT2 lab a b _ hs (by rw [K.out.2.2.2.2.2.2.2.2.2.2.2.1]; omega)).mono ?_
  rw [K.out.2.2.2.1, K.out.2.2.2.2.1]
  rintro e w5 ⟨rfl, hr⟩
  have HM5 := Lib.hid (HG.out _ _ hr)
  clear hs hgo hr HG HM4 lab a b
  go_wp2_with fail
  obtain ⟨lab, a, b, hs, hgo⟩ := (HM5.out.later ((Below.refl _ _).alloc (Nat.le_refl _) (.cells #[.int .u8 97] 5 (1, 2)))).open
  have HG := Lib.hid hgo
  refine (twrite_any p kT2 lab a b 8 _ [97] _ hs (by omega) (by exact lit_vw (alloc_at _ _) rfl rfl (by omega) (by omega)) (Nat.le_refl _) (by unfold Bys; decide) (by decide) (fun x hx => by rw [K.out.2.2.2.2.2.2.2.2.1] at hx; cases hx)).mono ?_
  rw [show ([97] : List Nat).length = 1 from rfl, K.out.2.2.2.2.2.1, K.out.2.2.2.2.2.2.1]
  rintro e w6 ⟨rfl, hr⟩
  have HM6 := Lib.hid (HG.out _ _ hr)
  clear hs hgo hr HG HM5 lab a b
  go_wp2_with fail
  obtain ⟨lab, a, b, hs, hgo⟩ := HM6.out.open
  have HG := Lib.hid hgo
  refine (ton_str p kT2 lab a b kF none 0 0 [] _ hs kF_ok rfl (.inl rfl) vwa_none (by unfold Bys; decide) rfl (by omega) (by rw [K.out.2.2.2.2.2.2.2.2.2.2.2.2.2]; omega) (by rw [K.out.2.2.2.2.2.2.2.2.2.2.2.2.1]; omega)).mono ?_
  rw [K.out.2.2.2.2.2.2.2.1]
  rintro e w7 ⟨rfl, hr⟩
  have HB := Lib.hid (HG.out _ _ hr).below
  clear hs hgo hr HG HM6 lab a b
  go_wp2_with fail
  go_ret
  exact ⟨rfl, HB.out⟩
end Go.Proofs.YtnneoeimgbemfaaGreat
