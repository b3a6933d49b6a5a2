/- DERIVED. streams: Next (printed by mkstnext.py). -/
import Derived.Test.YtnneoeimgbemfaaGreatQH3
import Derived.Test.YtnneoeimgbemfaaGreatQH26
set_option linter.all false
namespace Go.Proofs.YtnneoeimgbemfaaGreat
open Go.RowKit

/-- What Next leaves, and tells. -/
def NxPost (w w' : World) (p : Nat) (t : ST) (lab : Nat → Lab) (a b : Nat) (room : Int) (e : Ending) : Prop :=
  ((t.cred room).2.2 = true ∧ e = .returned (.tuple #[.agg (encF (t.cred room).2.1).toArray, .bool true]) ∧ ∃ lab', StAt w' p (t.cred room).1 lab' a b ∧ Went (fun k => lab k ≠ .out) (fun k => lab' k ≠ .out) w w') ∨
  ((t.cred room).2.2 = false ∧ ∃ (j : Nat) (x : Bool × Nat × H1), t.all[j]? = some x ∧ (x.2.2.r.nx room).2.2 = true ∧ (∀ k y, k < j → t.all[k]? = some y → (y.2.2.r.nx room).2.2 = false) ∧
    e = .returned (.tuple #[.agg (encF (x.2.2.r.nx room).2.1).toArray, .bool true]) ∧ ∃ lab', StAt w' p (t.put x.1 x.2.1 ⟨x.2.2.id, x.2.2.s, (x.2.2.r.nx room).1⟩) lab' a b ∧ Went (fun k => lab k ≠ .out) (fun k => lab' k ≠ .out) w w') ∨
  ((t.cred room).2.2 = false ∧ (∀ (k : Nat) (y : Bool × Nat × H1), t.all[k]? = some y → (y.2.2.r.nx room).2.2 = false) ∧
    ((∃ (m : Nat) (x : Bool × Nat × H1) (v : Value), m < t.all.length ∧ t.all[(firstOf t t.all.length + m) % t.all.length]? = some x ∧ (x.2.2.s.nx room t.more).2.ok = true ∧
        (∀ (k : Nat) (y : Bool × Nat × H1), k < m → t.all[(firstOf t t.all.length + k) % t.all.length]? = some y → (y.2.2.s.nx room t.more).2.ok = false) ∧
        e = .returned (.tuple #[.agg (encF ((x.2.2.s.nx room t.more).2.fr x.2.2.s.id x.2.2.s.rs v)).toArray, .bool true]) ∧
        (∃ og, SlG encB 5 w' v og ((x.2.2.s.nx room t.more).2.data x.2.2.s.os.B) ∧ ∀ g, og = some g → w.heap.size ≤ g) ∧
        ∃ lab', StAt w' p { t.put x.1 x.2.1 ⟨x.2.2.id, (x.2.2.s.nx room t.more).1, x.2.2.r⟩ with last := x.2.2.id, told := true } lab' a b ∧ Went (fun k => lab k ≠ .out) (fun k => lab' k ≠ .out) w w') ∨
     ((∀ (k : Nat) (y : Bool × Nat × H1), k < t.all.length → t.all[(firstOf t t.all.length + k) % t.all.length]? = some y → (y.2.2.s.nx room t.more).2.ok = false) ∧
        e = .returned (.tuple #[.agg (encF zeroF).toArray, .bool false]) ∧ ∃ lab', StAt w' p t lab' a b ∧ Went (fun k => lab k ≠ .out) (fun k => lab' k ≠ .out) w w')))
theorem box_row {w w1 : World} {p : Nat} {t : ST} {lab : Nat → Lab} {a b y : Nat} (hs : StAt w1 p t lab a b) (hu : Upd (fun k => lab k ≠ .out) w w1) (hy : w1.heap[y]? = some (.cells (encF zeroF).toArray 46 (0, 0))) (cs : Array Value) :
    StAt ((w1.alloc (.cells (encF zeroF).toArray 46)).setRow w1.heap.size cs) p t lab a b ∧ Upd (fun k => lab k ≠ .out) w ((w1.alloc (.cells (encF zeroF).toArray 46)).setRow w1.heap.size cs) ∧ ((w1.alloc (.cells (encF zeroF).toArray 46)).setRow w1.heap.size cs).heap[y]? = some (.cells (encF zeroF).toArray 46 (0, 0)) ∧
      ((w1.alloc (.cells (encF zeroF).toArray 46)).setRow w1.heap.size cs).heap[w1.heap.size]? = some (.cells cs 46 (0, 0)) ∧ lab w1.heap.size = .out ∧ w1.heap.size ≠ y ∧ w.heap.size ≤ w1.heap.size := by
  have hb : Below w1.heap.size w1 ((w1.alloc (.cells (encF zeroF).toArray 46)).setRow w1.heap.size cs) := setRow_belowC ((Below.refl _ _).alloc (Nat.le_refl _) _) (Nat.le_refl _)
  have hyl := heap_lt hy
  refine ⟨hs.below hb, hu.trans (Upd.below hb) (fun _ _ q => q) (fun k hk q => by have := hu.size; omega), below_keeps hb hy hyl, setRow_heap _ _ _ _ _ _ (alloc_at w1 _), ?_, by omega, hu.size⟩
  cases hq : lab w1.heap.size with
  | out => rfl
  | _ => have := hs.lt w1.heap.size (by rw [hq]; simp); omega
theorem NL.box {w wA wx : World} {p : Nat} {t : ST} {lab lab' : Nat → Lab} {a b y : Nat} {v : Value} {og : Option Nat} {zs : List (Option Nat)} (h : NL w wA wx p t lab lab' a b y v og zs) (cs : Array Value) :
    NL w wA ((wx.alloc (.cells (encF zeroF).toArray 46)).setRow wx.heap.size cs) p t lab lab' a b y v og zs ∧ ((wx.alloc (.cells (encF zeroF).toArray 46)).setRow wx.heap.size cs).heap[wx.heap.size]? = some (.cells cs 46 (0, 0)) ∧ lab' wx.heap.size = .out ∧ wx.heap.size ≠ y ∧ w.heap.size ≤ wx.heap.size := by
  have hb : Below wx.heap.size wx ((wx.alloc (.cells (encF zeroF).toArray 46)).setRow wx.heap.size cs) := setRow_belowC ((Below.refl _ _).alloc (Nat.le_refl _) _) (Nat.le_refl _)
  have hyl := heap_lt h.hy
  refine ⟨h.later hb, setRow_heap _ _ _ _ _ _ (alloc_at wx _), ?_, by omega, h.went.upd.size⟩
  cases hq : lab' wx.heap.size with
  | out => rfl
  | _ => have := h.st.lt wx.heap.size (by rw [hq]; simp); omega
theorem cred_no {t T1 : ST} {room : Int} {F1 : Fr} (h : t.cred room = (T1, F1, false)) : T1 = t := by
  unfold ST.cred at h
  split at h
  · cases h
    rfl
  · cases h
set_option maxRecDepth 100000 in
set_option maxHeartbeats 8000000 in
theorem tnext_any (p : Nat) (t : ST) (lab : Nat → Lab) (a b : Nat) (room : Int) (w : World) (h : StAt w p t lab a b) (hmd : t.mine.md ≤ 2199023255552) (hlm : t.limit ≤ 4398046511104) (hr1 : -9223372036854775808 ≤ room) (hr2 : room ≤ 9223372036854775807)
    (hrn : ∀ (x : Bool × Nat × H1), x ∈ t.all → RNx x.2.2.r room) (hgj : ∀ (x : Bool × Nat × H1), x ∈ t.all → GJ x.2.2.s.os ∧ (5 ≤ x.2.2.s.st → x.2.2.s.rq = true → ∃ z, x.2.2.s.rs = some z)) :
    Calls Tryz.prog 8 #[.pointer (some ⟨p, 0, none⟩), .int .i64 room] w fun e w' => NxPost w w' p t lab a b room e := by
  have H := Lib.hid h
  have HRN := Lib.hid hrn
  have HGJ := Lib.hid hgj
  have hal := t.all_len h.ok
  have HLT := Lib.hid h.lt
  obtain ⟨y, hy⟩ : ∃ y, w.heap.size = y := ⟨_, rfl⟩
  have HY := Lib.hid hy
  have HYO := Lib.hid (show lab y = .out from by
    cases hq : lab y with
    | out => rfl
    | _ => have := h.lt y (by rw [hq]; simp); omega)
  obtain ⟨w0, hw0⟩ : ∃ w0, w0 = w.alloc (.cells (encF zeroF).toArray 46) := ⟨_, rfl⟩
  have hb0 : Below w.heap.size w w0 := by rw [hw0]; exact (Below.refl _ _).alloc (Nat.le_refl _) _
  have HB0 := Lib.hid hb0
  have HY0 := Lib.hid (show w0.heap[y]? = some (.cells (encF zeroF).toArray 46 (0, 0)) from by rw [hw0, ← hy]; exact alloc_at _ _)
  have H0 := Lib.hid (h.below hb0)
  obtain ⟨T1, F1, ok1, hcr⟩ : ∃ T1 F1 ok1, t.cred room = (T1, F1, ok1) := ⟨_, _, _, rfl⟩
  have HCR := Lib.hid hcr
  clear h hrn hgj hb0 hy
  go_enter Tryz.func8, Tryz.ntmps8
  go_upto_region 1 with fail
  rw [show w.alloc (.cells #[.int .i64 0, .int .u64 0, .int .u64 0, .slice none 0 0, .bool false, .int .u64 0, .int .u64 0, .int .u64 0, .int .u64 0, .int .u64 0, .slice none 0 0, .int .u8 0, .int .u8 0, .int .u8 0, .int .u8 0, .int .u8 0, .int .u8 0, .int .u8 0, .int .u8 0] 46) = w0 from hw0.symm, HY.out]
  clear hw0
  go_cut [6, 7] (fun v6 v7 wx => ∃ z, v6 = .pointer (some ⟨z, 0, none⟩) ∧ v7 = .bool ok1 ∧ StAt wx p T1 lab a b ∧ Upd (fun k => lab k ≠ .out) w wx ∧ wx.heap[y]? = some (.cells (encF zeroF).toArray 46 (0, 0)) ∧ wx.heap[z]? = some (.cells (encF F1).toArray 46 (0, 0)) ∧ lab z = .out ∧ z ≠ y ∧ w.heap.size ≤ z)
  case first =>
    go_wp2_with fail
    refine (tcred_any p t lab a b room _ (by exact H0.out) hmd hlm hr1 hr2).mono ?_
    rw [hcr]
    rintro e w1 ⟨rfl, hs1, hu1⟩
    have HS1 := Lib.hid hs1
    have HU1 := Lib.hid hu1
    have hone : (encF F1).toArray.all (·.oneCell') = true := by
      have e : F1 = (t.cred room).2.1 := by rw [hcr]
      rw [e]
      unfold ST.cred
      split
      · exact encF_one rfl rfl
      · exact encF_one rfl rfl
    clear hs1 hu1
    go_wp2_with (refine wpList_store_row rfl 46 (.tmp 6) (.tmp 22) rfl _ _ rfl rfl 46 (encF zeroF).toArray (by exact alloc_at w1 _) (by rw [sizeF]; rfl) rfl hone ?_)
    go_meet
    case rel => exact ⟨_, rfl, rfl, box_row HS1.out ((Upd.below HB0.out).trans HU1.out (fun k hk q => by omega) (fun k hk q => q)) (HU1.out.keeps HY0.out (fun q => q HYO.out)) _⟩
  case rest =>
    obtain ⟨z, rfl, rfl, hs1, hu1, hy1, hz1, zo, zy, zw⟩ := hcut
    generalize wc = w1 at *
    have HS1 := Lib.hid hs1
    have HU1 := Lib.hid hu1
    have HY1 := Lib.hid hy1
    have HZ1 := Lib.hid hz1
    have HZO := Lib.hid (And.intro zo (And.intro zy zw))
    clear hs1 hu1 hy1 hz1 zo zy zw HB0 HY0 H0
    cases ok1
    · obtain rfl := cred_no hcr
      have HCF := Lib.hid (show (T1.cred room).2.2 = false by rw [hcr])
      clear hcr HCR
      go_wp2_with fail
      refine (tall_any p T1 lab a b _ (by exact HS1.out)).mono ?_
      rintro e w2 ⟨v, rfl, hm⟩
      obtain ⟨og, zs, hsl, hav, hgn, hb2⟩ := hm.ex
      obtain ⟨ov, cv, rfl, hc1, hc2⟩ := hsl.shape
      obtain ⟨n, hn⟩ : ∃ n, T1.all.length = n := ⟨_, rfl⟩
      have HN := Lib.hid hn
      have hzl : zs.length = n := hav.1.trans hn
      rw [hzl] at hc1 hsl ⊢
      have HAV := Lib.hid hav
      have HNL := Lib.hid (show NL w w1 w2 p T1 lab lab a b y (.slice ov n cv) og zs from
        ⟨HS1.out.below hb2, ⟨HU1.out.trans (Upd.below hb2) (fun _ _ q => q) (fun k hk q => by have := HU1.out.size; omega), fun k hk => .inl hk⟩, below_keeps hb2 HY1.out (heap_lt HY1.out), HYO.out, YK.below a b hb2, hsl, fun g hg => by
          cases hq : lab g with
          | out => rfl
          | _ =>
            have := hgn g hg
            have := HS1.out.lt g (by rw [hq]; simp)
            omega, by have := HY.out; omega⟩)
      have HIX := Lib.hid (show ∀ (j : Nat) (x : Bool × Nat × H1), T1.all[j]? = some x → ∃ yj, zs[j]? = some (some yj) ∧ Yat w1 (if x.1 then a else b) x.2.1 yj ∧ (T1.hs x.1)[x.2.1]? = some x.2.2 from fun j x hx => by
        obtain ⟨yj, q1, q2, _⟩ := hav.2 j x.1 x.2.1 x.2.2 hx
        exact ⟨yj, q1, q2, ST.all_hs (List.mem_of_getElem? hx)⟩)
      rw [hn] at hal
      clear hm hsl hav hgn hb2 hzl hn HAV
      go_wp2_with fail
      go_loopw [9, 30] (fun f i wr => ∃ (j : Nat) (lab' : Nat → Lab), i = .int .i64 j ∧ j ≤ n ∧ f = .int .i64 (firstOf T1 j : Nat) ∧ NL w w1 wr p T1 lab lab' a b y (.slice ov n cv) og zs ∧ ∀ (k : Nat) (x : Bool × Nat × H1), k < j → T1.all[k]? = some x → (x.2.2.r.nx room).2.2 = false) (fun _ i _ => n - (intOf i).toNat)
      case atStart => exact ⟨0, lab, rfl, by omega, rfl, HNL.out, fun k x hk => by omega⟩
      case round =>
        obtain ⟨j, lab', rfl, hj, rfl, hnl, hno⟩ := hrel
        have HL := Lib.hid hnl
        have HNO := Lib.hid hno
        have hfl := firstOf_le T1 j
        clear hnl hno HNL HS1 HU1 HY1
        by_cases hlt : j < n
        · obtain ⟨x, hx⟩ : ∃ x, T1.all[j]? = some x := ⟨_, List.getElem?_eq_getElem (by rw [HN.out]; exact hlt)⟩
          obtain ⟨yj, hz1, hyat, hhs⟩ := HIX.out j x hx
          obtain ⟨g, hog, rfl, hgl, hg1, _⟩ := HL.out.sl.el1 (f := fun y : Option Nat => Value.pointer (y.map fun y => ⟨y, 0, none⟩)) (fun _ => rfl) hz1
          replace hg1 : wr.cell? ⟨g, j, none⟩ = some (.pointer (some ⟨yj, 0, none⟩)) := hg1
          obtain ⟨bs, br, fs, fr, hyb, hsd, hrc, lfs, lfr, tS, tR⟩ := HL.out.st.turn hhs (HL.out.yk _ _ _ hyat)
          have y2 : wr.cell? ⟨yj, 2, none⟩ = some (.pointer (some ⟨br, 0, none⟩)) := (cell_at hyb 2).trans rfl
          have y0 : wr.cell? ⟨yj, 0, none⟩ = some (.int .u64 x.2.2.id) := (cell_at hyb 0).trans rfl
          have HRC := Lib.hid hrc
          have HTR := Lib.hid tR
          have HX := Lib.hid (And.intro hx hhs)
          have hrx := HRN.out x (List.mem_of_getElem? hx)
          have HRX := Lib.hid hrx
          have HYAT := Lib.hid hyat
          obtain ⟨r2, F2, ok2, hnx⟩ : ∃ r2 F2 ok2, x.2.2.r.nx room = (r2, F2, ok2) := ⟨_, _, _, rfl⟩
          have HNX := Lib.hid hnx
          have hone : (encF F2).toArray.all (·.oneCell') = true := by
            have := rnx_one x.2.2.r room
            rw [hnx] at this
            exact this
          have hid2 : r2.id = x.2.2.r.id := by
            have := rnx_id x.2.2.r room
            rw [hnx] at this
            exact this
          have HID2 := Lib.hid hid2
          clear hz1 hog hyb hsd hrc lfs lfr tS tR hx hhs hrx hnx hid2 hyat
          go_upto_region 9 with fail
          go_cut [12, 13] (fun v12 v13 wx => ∃ (z2 : Nat) (lab2 : Nat → Lab), v12 = .pointer (some ⟨z2, 0, none⟩) ∧ v13 = .bool ok2 ∧ NL w w1 wx p (T1.put x.1 x.2.1 ⟨x.2.2.id, x.2.2.s, r2⟩) lab lab2 a b y (.slice (some ⟨g, 0, none⟩) n cv) og zs ∧
            wx.heap[z2]? = some (.cells (encF F2).toArray 46 (0, 0)) ∧ lab2 z2 = .out ∧ z2 ≠ y ∧ w.heap.size ≤ z2)
          case first =>
            go_wp2_with fail
            refine (HRX.out br fr _ (by exact HRC.out)).mono ?_
            rw [HNX.out]
            rintro e w3 ⟨rfl, hm⟩
            have HT3 := Lib.hid (HL.out.turn (HTR.out w3 r2 hm HID2.out))
            clear hm
            go_wp2_with (refine wpList_store_row rfl 46 (.tmp 12) (.tmp 42) rfl _ _ rfl rfl 46 (encF zeroF).toArray (by exact alloc_at w3 _) (by rw [sizeF]; rfl) rfl hone ?_)
            go_meet
            case rel =>
              obtain ⟨lab2, q1, _⟩ := HT3.out
              obtain ⟨q2, q3, q4, q5, q6⟩ := q1.box (encF F2).toArray
              exact ⟨_, lab2, rfl, rfl, q2, q3, q4, q5, q6⟩
          case rest =>
            obtain ⟨z2, lab2, rfl, rfl, hnl2, hz2, z2o, z2y, z2w⟩ := hcut
            generalize wc = w3 at *
            have HL2 := Lib.hid hnl2
            have HZ2 := Lib.hid hz2
            have HZ2O := Lib.hid (And.intro z2o (And.intro z2y z2w))
            clear hnl2 hz2 z2o z2y z2w HRC HTR HRX y2 hg1 hgl
            cases ok2
            · obtain ⟨e1, _⟩ := nx_no (s := x.2.2.r) (room := room) (by rw [HNX.out])
              rw [HNX.out] at e1
              have hT2 : T1.put x.1 x.2.1 ⟨x.2.2.id, x.2.2.s, r2⟩ = T1 := by
                simp only at e1
                rw [e1]
                exact ST.put_self HX.out.2
              rw [hT2] at HL2
              have hfo : firstOf T1 (j + 1) = if T1.upto x.2.2 then j + 1 else firstOf T1 j := by
                conv => lhs; unfold firstOf
                rw [HX.out.1]
              have HFO := Lib.hid hfo
              have HNO2 := Lib.hid (show ∀ (k : Nat) (y : Bool × Nat × H1), k < j + 1 → T1.all[k]? = some y → (y.2.2.r.nx room).2.2 = false from fun k y hk hy => by
                rcases Nat.lt_or_ge k j with q | q
                · exact HNO.out k y q hy
                · obtain rfl : k = j := by omega
                  rw [HX.out.1] at hy
                  cases hy
                  rw [HNX.out])
              obtain ⟨_, _, _, _, hyb, _⟩ := HL2.out.st.turn HX.out.2 (HL2.out.yk _ _ _ HYAT.out)
              have y0' : w3.cell? ⟨yj, 0, none⟩ = some (.int .u64 x.2.2.id) := (cell_at hyb 0).trans rfl
              have p27 : w3.cell? ⟨p, 27, none⟩ = some (.bool T1.told) := (HL2.out.st.cell 27).trans rfl
              have p26 : w3.cell? ⟨p, 26, none⟩ = some (.int .u64 T1.last) := (HL2.out.st.cell 26).trans rfl
              obtain ⟨td, htd⟩ : ∃ td, T1.told = td := ⟨_, rfl⟩
              obtain ⟨ls, hls⟩ : ∃ ls, T1.last = ls := ⟨_, rfl⟩
              obtain ⟨xi, hxi⟩ : ∃ xi, x.2.2.id = xi := ⟨_, rfl⟩
              obtain ⟨up, hup⟩ : ∃ up, T1.upto x.2.2 = up := ⟨_, rfl⟩
              have HUP := Lib.hid (show up = (td && decide (xi ≤ ls)) from by rw [← hup]; unfold ST.upto; rw [htd, hls, hxi])
              rw [htd] at p27
              rw [hls] at p26
              rw [hxi] at y0'
              rw [hup] at HFO
              clear hyb htd hls hxi hup hfo hT2 e1 y0 HZ2 HZ2O HL HX HNX HNO HYAT hone HID2
              go_upto_region 12 with fail
              go_cut [60] (fun v wx => v = .bool up ∧ ∃ q, wx = w3.drewN q)
              case first =>
                cases td
                · go_quiet (fail)
                  go_wp2_with fail
                  go_meet
                  case rel => exact ⟨congrArg Value.bool (by rw [HUP.out]; rfl), _, by first | rfl | exact World.drewN_drewN _ _ _⟩
                · by_cases hle : xi ≤ ls
                  · have hlei : (xi : Int) ≤ (ls : Int) := by omega
                    go_quiet (fail)
                    go_wp2_with fail
                    go_meet
                    case rel => exact ⟨congrArg Value.bool (by rw [HUP.out]; simp [hle]), _, by first | rfl | exact World.drewN_drewN _ _ _⟩
                  · have hlei : ¬ (xi : Int) ≤ (ls : Int) := by omega
                    go_quiet (fail)
                    go_wp2_with fail
                    go_meet
                    case rel => exact ⟨congrArg Value.bool (by rw [HUP.out]; simp [hle]), _, by first | rfl | exact World.drewN_drewN _ _ _⟩
              case rest =>
                obtain ⟨rfl, q, rfl⟩ := hcut
                have HL3 := Lib.hid (HL2.out.later (below_drewN (Below.refl _ _) q))
                generalize w3.drewN q = w4 at *
                clear HL2 y0' p26 p27 HUP
                cases up
                · have HF := Lib.hid (show firstOf T1 (j + 1) = firstOf T1 j from by rw [HFO.out]; rfl)
                  go_wp2_with fail
                  go_roundw
                  case rel => exact ⟨j + 1, lab2, by go_num, by omega, by rw [HF.out], HL3.out, HNO2.out⟩
                  case measure => simp [intOf]; omega
                · have HF := Lib.hid (show firstOf T1 (j + 1) = j + 1 from by rw [HFO.out]; rfl)
                  go_wp2_with fail
                  go_roundw
                  case rel => exact ⟨j + 1, lab2, by go_num, by omega, by rw [HF.out]; go_num, HL3.out, HNO2.out⟩
                  case measure => simp [intOf]; omega
            · have HPOST := Lib.hid (show NxPost w (w3.setRow y (encF F2).toArray) p T1 lab a b room (.returned (.tuple #[.agg (encF F2).toArray, .bool true])) from by
                obtain ⟨q1, q2⟩ := HL2.out.ret (encF F2).toArray
                exact .inr (.inl ⟨HCF.out, j, x, HX.out.1, by rw [HNX.out], fun k y hk hy => HNO.out k y hk hy, by rw [HNX.out], lab2, by rw [HNX.out]; exact q1, q2⟩))
              have HYR := Lib.hid HL2.out.hy
              clear HL2 HL
              go_wp2_with (first
                | refine wpList_load_row rfl 46 (.tmp 12) rfl z2 rfl 46 _ (0, 0) _ (by exact HZ2.out) Tryz.underlying46 rfl (by rw [sizeF]; rfl) ?_
                | refine wpList_store_row rfl 46 (.tmp 4) (.tmp 45) rfl _ _ rfl rfl 46 (encF zeroF).toArray (by exact HYR.out) (by rw [sizeF]; rfl) rfl hone ?_)
              (try simp only [Exit.inBlock, Exit.then])
              refine bodyPost_ret (results_row_tmp rfl _ _ y 46 (encF F2).toArray (0, 0) _ rfl (setRow_heap _ y _ _ _ _ HYR.out) Tryz.underlying46 rfl (by rw [sizeF]; rfl)) rfl ?_
              exact HPOST.out
        · obtain rfl : j = n := by omega
          obtain ⟨fi, hfi⟩ : ∃ fi, firstOf T1 j = fi := ⟨_, rfl⟩
          have HFI := Lib.hid hfi
          rw [hfi] at hfl ⊢
          have HNR := Lib.hid (show ∀ (k : Nat) (y : Bool × Nat × H1), T1.all[k]? = some y → (y.2.2.r.nx room).2.2 = false from fun k y hk => HNO.out k y (by
            have q := (List.getElem?_eq_some_iff.1 hk).1
            rw [HN.out] at q
            exact q) hk)
          clear hfi HNO hlt hj
          generalize wr = wO at *
          go_wp2_with fail
          go_loopw [66] (fun i wr2 => ∃ (m : Nat) (lab2 : Nat → Lab), i = .int .i64 m ∧ m ≤ j ∧ NL w w1 wr2 p T1 lab lab2 a b y (.slice ov j cv) og zs ∧ ∀ (k : Nat) (x : Bool × Nat × H1), k < m → T1.all[(fi + k) % j]? = some x → (x.2.2.s.nx room T1.more).2.ok = false) (fun i _ => j - (intOf i).toNat)
          case atStart => exact ⟨0, lab', rfl, by omega, HL.out, fun k x hk => by omega⟩
          case round =>
            obtain ⟨m, lab2, rfl, hm, hnl2, hnos⟩ := hrel
            have HL2 := Lib.hid hnl2
            have HNS := Lib.hid hnos
            clear hnl2 hnos HL HRN
            by_cases hlt : m < j
            · have hq : (fi + m) % j < j := Nat.mod_lt _ (by omega)
              obtain ⟨x, hx⟩ : ∃ x, T1.all[(fi + m) % j]? = some x := ⟨_, List.getElem?_eq_getElem (by rw [HN.out]; exact hq)⟩
              obtain ⟨yj, hz1, hyat, hhs⟩ := HIX.out _ x hx
              obtain ⟨g, hog, rfl, hgl, hg1, _⟩ := HL2.out.sl.el1 (f := fun y : Option Nat => Value.pointer (y.map fun y => ⟨y, 0, none⟩)) (fun _ => rfl) hz1
              replace hg1 : wr.cell? ⟨g, (fi + m) % j, none⟩ = some (.pointer (some ⟨yj, 0, none⟩)) := hg1
              obtain ⟨bs, br, fs, fr, hyb, hsd, _⟩ := HL2.out.st.turn hhs (HL2.out.yk _ _ _ hyat)
              have y1 : wr.cell? ⟨yj, 1, none⟩ = some (.pointer (some ⟨bs, 0, none⟩)) := (cell_at hyb 1).trans rfl
              have HSX := Lib.hid (HGJ.out x (List.mem_of_getElem? hx))
              have p30 : wr.cell? ⟨p, 30, none⟩ = some (.int .u64 T1.allowed) := (HL2.out.st.cell 30).trans rfl
              have HX := Lib.hid (And.intro hx hhs)
              have HYAT := Lib.hid hyat
              have hw72 : IntKind.i64.wrap ((fi : Int) + (m : Int)) = ((fi + m : Nat) : Int) := by rw [IntWalk.i64_in _ (by omega)]; omega
              have hj0 : ¬ ((j : Int) = 0) := by omega
              have HIB := Lib.hid (show 0 ≤ ((fi : Int) + (m : Int)) % (j : Int) ∧ ((fi : Int) + (m : Int)) % (j : Int) < (j : Int) from by
                have hie : ((fi : Int) + (m : Int)) % (j : Int) = (((fi + m) % j : Nat) : Int) := by rw [Int.natCast_emod, Int.natCast_add]
                rw [hie]
                omega)
              clear hz1 hog hyb hsd hx hhs hyat
              obtain ⟨al, hale⟩ : ∃ al, T1.allowed = al := ⟨_, rfl⟩
              obtain ⟨sn, hsne⟩ : ∃ sn, T1.sentN = sn := ⟨_, rfl⟩
              obtain ⟨mo, hmoe⟩ : ∃ mo, T1.more = mo := ⟨_, rfl⟩
              obtain ⟨mi, hmie⟩ : ∃ mi, min al sn = mi := ⟨_, rfl⟩
              obtain ⟨s2, nf, hnf⟩ : ∃ s2 nf, x.2.2.s.nx room mo = (s2, nf) := ⟨_, _, rfl⟩
              have halb := HL2.out.st.ok.allowed
              rw [hale] at halb p30
              have hmo2 : mo = al - mi := by rw [← hmoe, ← hmie, ← hale, ← hsne]; rfl
              have HSN := Lib.hid hsne
              have HAL := Lib.hid hale
              have HNF := Lib.hid hnf
              have HMO := Lib.hid hmoe
              have HID2 := Lib.hid (show s2.id = x.2.2.s.id from by
                have q := snx_id x.2.2.s room mo
                rw [hnf] at q
                exact q)
              have HMN := Lib.hid (show (if sn < al then (sn : Int) else (al : Int)) = (mi : Int) from by
                split <;> omega)
              have HWR := Lib.hid (show IntKind.u64.wrap ((al : Int) - (mi : Int)) = (mo : Int) from by rw [IntWalk.u64_in _ (by omega)]; omega)
              have HCw9 := Lib.hid (cells2_below (And.intro y1 p30) (Below.refl _ _).drew)
              have HLw9 := Lib.hid (HL2.out.later (Below.refl _ _).drew)
              have hmob : mo < 18446744073709551616 := by omega
              clear hale hsne hmoe hmie hnf hmo2
              go_upto_region 19 with fail
              go_cut [16, 17] (fun v16 v17 wx => ∃ (z3 : Nat) (lab3 : Nat → Lab) (vd : Value), v16 = .pointer (some ⟨z3, 0, none⟩) ∧ v17 = .bool nf.ok ∧ NL w w1 wx p (T1.put x.1 x.2.1 ⟨x.2.2.id, s2, x.2.2.r⟩) lab lab3 a b y (.slice (some ⟨g, 0, none⟩) j cv) og zs ∧
                wx.heap[z3]? = some (.cells (encF (nf.fr x.2.2.s.id x.2.2.s.rs vd)).toArray 46 (0, 0)) ∧ lab3 z3 = .out ∧ NDat w wx p y vd (nf.data x.2.2.s.os.B) (fun k => k = z3))
              case first =>
                clear HIB
                refine wp_region_till (S := fun w' => w'.cell? ⟨yj, 1, none⟩ = some (.pointer (some ⟨bs, 0, none⟩)) ∧ w'.cell? ⟨p, 30, none⟩ = some (.int .u64 al)) [22] (by kernel_rfl) (by exact HCw9.out) (fun hHeld => ?_)
                refine wpTill_take0 (i := 0) (oi := ⟨some 79, _, _, _, _, _⟩) (v := ?_) rfl (by kernel_rfl) (fun _ _ _ h => h) (Or.inl ⟨by rfl, ?_⟩) (fun _ => hHeld) ?_
                rotate_left
                · intro w hSw
                  (try dsimp only at hSw)
                  go_simp
                  try with_reducible rfl
                try simp only [Act.put, List.setIfInBounds_toArray, List.set_cons_zero, List.set_cons_succ]
                refine wpTill_take0 (i := 1) (oi := ⟨some 80, _, _, _, _, _⟩) (v := ?_) rfl (by kernel_rfl) (fun _ _ _ h => h) (Or.inl ⟨by rfl, ?_⟩) (fun _ => hHeld) ?_
                rotate_left
                · intro w hSw
                  (try dsimp only at hSw)
                  go_simp
                  try with_reducible rfl
                try simp only [Act.put, List.setIfInBounds_toArray, List.set_cons_zero, List.set_cons_succ]
                refine wpTill_take0 (i := 2) (oi := ⟨some 81, _, _, _, _, _⟩) (v := ?_) rfl (by kernel_rfl) (fun _ _ _ h => h) (Or.inl ⟨by rfl, ?_⟩) (fun _ => hHeld) ?_
                rotate_left
                · intro w hSw
                  (try dsimp only at hSw)
                  go_simp
                  try with_reducible rfl
                try simp only [Act.put, List.setIfInBounds_toArray, List.set_cons_zero, List.set_cons_succ]
                refine wpTill_take (i := 3) (oi := ⟨some 82, _, _, _, _, _⟩) (v := ?_) rfl (by kernel_rfl) (fun _ _ _ h => h) (Or.inl ⟨by rfl, ?_⟩) (by exact hHeld) ?_
                rotate_left
                · intro w hSw
                  (try dsimp only at hSw)
                  go_simp
                  try with_reducible rfl
                try simp only [Act.put, List.setIfInBounds_toArray, List.set_cons_zero, List.set_cons_succ]
                refine wpTill_take0 (i := 4) (oi := ⟨some 83, _, _, _, _, _⟩) (v := ?_) rfl (by kernel_rfl) (fun _ _ _ h => h) (Or.inl ⟨by rfl, ?_⟩) (fun _ => hHeld) ?_
                rotate_left
                · intro w hSw
                  (try dsimp only at hSw)
                  go_simp
                  try with_reducible rfl
                try simp only [Act.put, List.setIfInBounds_toArray, List.set_cons_zero, List.set_cons_succ]
                refine wpTill_take0 (i := 5) (oi := ⟨some 84, _, _, _, _, _⟩) (v := ?_) rfl (by kernel_rfl) (fun _ _ _ h => h) (Or.inl ⟨by rfl, ?_⟩) (fun _ => hHeld) ?_
                rotate_left
                · intro w hSw
                  (try dsimp only at hSw)
                  go_simp
                  try with_reducible rfl
                try simp only [Act.put, List.setIfInBounds_toArray, List.set_cons_zero, List.set_cons_succ]
                refine wpTill_take0 (i := 6) (oi := ⟨some 85, _, _, _, _, _⟩) (v := ?_) rfl (by kernel_rfl) (fun _ _ _ h => h) (Or.inl ⟨by rfl, ?_⟩) (fun _ => hHeld) ?_
                rotate_left
                · intro w hSw
                  (try dsimp only at hSw)
                  go_simp
                  try with_reducible rfl
                try simp only [Act.put, List.setIfInBounds_toArray, List.set_cons_zero, List.set_cons_succ]
                refine wpTill_take0 (i := 7) (oi := ⟨some 86, _, _, _, _, _⟩) (v := ?_) rfl (by kernel_rfl) (fun _ _ _ h => h) (Or.inl ⟨by rfl, ?_⟩) (fun _ => hHeld) ?_
                rotate_left
                · intro w hSw
                  (try dsimp only at hSw)
                  go_simp
                  try with_reducible rfl
                try simp only [Act.put, List.setIfInBounds_toArray, List.set_cons_zero, List.set_cons_succ]
                refine wpTill_take (i := 8) (oi := ⟨some 87, _, _, _, _, _⟩) (v := ?_) rfl (by kernel_rfl) (fun _ _ _ h => h) (Or.inl ⟨by rfl, ?_⟩) (by exact hHeld) ?_
                rotate_left
                · intro w hSw
                  (try dsimp only at hSw)
                  go_simp
                  try with_reducible rfl
                try simp only [Act.put, List.setIfInBounds_toArray, List.set_cons_zero, List.set_cons_succ]
                refine wpTill_take0 (i := 9) (oi := ⟨some 88, _, _, _, _, _⟩) (v := ?_) rfl (by kernel_rfl) (fun _ _ _ h => h) (Or.inl ⟨by rfl, ?_⟩) (fun _ => hHeld) ?_
                rotate_left
                · intro w hSw
                  (try dsimp only at hSw)
                  go_simp
                  try with_reducible rfl
                try simp only [Act.put, List.setIfInBounds_toArray, List.set_cons_zero, List.set_cons_succ]
                refine wpTill_take0 (i := 10) (oi := ⟨some 89, _, _, _, _, _⟩) (v := ?_) rfl (by kernel_rfl) (fun _ _ _ h => h) (Or.inl ⟨by rfl, ?_⟩) (fun _ => hHeld) ?_
                rotate_left
                · intro w hSw
                  (try dsimp only at hSw)
                  go_simp
                  try with_reducible rfl
                try simp only [Act.put, List.setIfInBounds_toArray, List.set_cons_zero, List.set_cons_succ]
                refine wpTill_take0 (i := 11) (oi := ⟨some 90, _, _, _, _, _⟩) (v := ?_) rfl (by kernel_rfl) (fun _ _ _ h => h) (Or.inl ⟨by rfl, ?_⟩) (fun _ => hHeld) ?_
                rotate_left
                · intro w hSw
                  (try dsimp only at hSw)
                  go_simp
                  try with_reducible rfl
                try simp only [Act.put, List.setIfInBounds_toArray, List.set_cons_zero, List.set_cons_succ]
                refine wpTill_take (i := 12) (oi := ⟨some 91, _, _, _, _, _⟩) (v := ?_) rfl (by kernel_rfl) (fun _ _ _ h => h) (Or.inl ⟨by rfl, ?_⟩) (by exact hHeld) ?_
                rotate_left
                · intro w hSw
                  (try dsimp only at hSw)
                  go_simp
                  try with_reducible rfl
                try simp only [Act.put, List.setIfInBounds_toArray, List.set_cons_zero, List.set_cons_succ]
                refine wpTill_take0 (i := 13) (oi := ⟨some 92, _, _, _, _, _⟩) (v := ?_) rfl (by kernel_rfl) (fun _ _ _ h => h) (Or.inl ⟨by rfl, ?_⟩) (fun _ => hHeld) ?_
                rotate_left
                · intro w hSw
                  (try dsimp only at hSw)
                  go_simp
                  try with_reducible rfl
                try simp only [Act.put, List.setIfInBounds_toArray, List.set_cons_zero, List.set_cons_succ]
                refine wpTill_ready (rs := [14, 21]) (by kernel_rfl) (by simp) ?_
                refine AllTill.cons (o := ⟨some 93, _, _, _, _, _⟩) rfl (fun K hK => ?_) ?_
                · rw [if_pos (show Region.wanted _ _ = true from rfl)]
                  generalize wr.drew = w9 at *
                  go_simp
                  go_at_call 14
                  refine (tsent_any p T1 lab2 a b _ (by exact HLw9.out.st)).mono ?_
                  rw [HSN.out]
                  rintro e wS ⟨rfl, _, hbS⟩
                  have HLwS := Lib.hid (HLw9.out.later hbS)
                  have HCwS := Lib.hid (cells2_below HCw9.out hbS)
                  clear hbS
                  go_simp
                  refine hK.out _ _ (by exact HCwS.out) (fun hHeld => ?_)
                  clear hK K
                  try simp only [Act.put, List.setIfInBounds_toArray, List.set_cons_zero, List.set_cons_succ]
                  refine wpTill_take0 (i := 15) (oi := ⟨some 94, _, _, _, _, _⟩) (v := .int .u64 mi) rfl (by kernel_rfl) (fun _ _ _ h => h) (Or.inl ⟨by rfl, ?_⟩) (fun _ => hHeld) ?_
                  · intro w hSw
                    go_simp
                    rw [HMN.out]
                  try simp only [Act.put, List.setIfInBounds_toArray, List.set_cons_zero, List.set_cons_succ]
                  refine wpTill_take0 (i := 16) (oi := ⟨some 95, _, _, _, _, _⟩) (v := .int .u64 mo) rfl (by kernel_rfl) (fun _ _ _ h => h) (Or.inl ⟨by rfl, ?_⟩) (fun _ => hHeld) ?_
                  · intro w hSw
                    go_simp
                    rw [HWR.out]
                  try simp only [Act.put, List.setIfInBounds_toArray, List.set_cons_zero, List.set_cons_succ]
                  refine wpTill_ready (rs := [17, 21]) (by kernel_rfl) (by simp) ?_
                  refine AllTill.cons (o := ⟨some 96, _, _, _, _, _⟩) rfl (fun K hK => ?_) ?_
                  · rw [if_pos (show Region.wanted _ _ = true from rfl)]
                    go_simp
                    go_at_call 26
                    obtain ⟨fs2, hsd2, htn⟩ := HLwS.out.sndTurn HX.out.2 HYAT.out HCwS.out.1
                    have HTN := Lib.hid htn
                    refine (snx_any bs x.2.2.s fs2 room mo _ hsd2 HSX.out.1 HSX.out.2 hmob hr1 hr2).mono ?_
                    rw [HNF.out]
                    clear htn hsd2
                    rintro e wN ⟨vd, rfl, hm, hsl⟩
                    obtain ⟨lab3, hl3, hk3, hk4, hk5⟩ := HTN.out wN s2 hm HID2.out
                    have HCwN := Lib.hid (And.intro hk4 (hk5.trans (by rw [HAL.out])))
                    have HLwN := Lib.hid hl3
                    have HDwN := Lib.hid (NDat.first HLwS.out (F := fun _ => False) (fun k hk => hk.elim) hsl)
                    have HONE := Lib.hid (show (encF (nf.fr x.2.2.s.id x.2.2.s.rs vd)).toArray.all (·.oneCell') = true from by
                      obtain ⟨_, q, _⟩ := hsl
                      obtain ⟨_, _, q, _⟩ := q.shape
                      exact nf_one nf _ _ q)
                    clear hm hsl hl3 hk3 hk4 hk5 HTN
                    go_simp
                    refine hK.out _ _ (by exact HCwN.out) (fun hHeld => ?_)
                    clear hK K
                    try simp only [Act.put, List.setIfInBounds_toArray, List.set_cons_zero, List.set_cons_succ]
                    refine wpTill_take0 (i := 18) (oi := ⟨some 78, _, _, _, _, _⟩) (v := ?_) rfl (by kernel_rfl) (fun _ _ _ h => h) (Or.inl ⟨by rfl, ?_⟩) (fun _ => hHeld) ?_
                    rotate_left
                    · intro w hSw
                      (try dsimp only at hSw)
                      go_simp
                      try with_reducible rfl
                    try simp only [Act.put, List.setIfInBounds_toArray, List.set_cons_zero, List.set_cons_succ]
                    refine wpTill_take0 (i := 19) (oi := ⟨some 97, _, _, _, _, _⟩) (v := ?_) rfl (by kernel_rfl) (fun _ _ _ h => h) (Or.inl ⟨by rfl, ?_⟩) (fun _ => hHeld) ?_
                    rotate_left
                    · intro w hSw
                      (try dsimp only at hSw)
                      go_simp
                      try with_reducible rfl
                    try simp only [Act.put, List.setIfInBounds_toArray, List.set_cons_zero, List.set_cons_succ]
                    refine wpTill_take0 (i := 20) (oi := ⟨some 98, _, _, _, _, _⟩) (v := ?_) rfl (by kernel_rfl) (fun _ _ _ h => h) (Or.inl ⟨by rfl, ?_⟩) (fun _ => hHeld) ?_
                    rotate_left
                    · intro w hSw
                      (try dsimp only at hSw)
                      go_simp
                      try with_reducible rfl
                    try simp only [Act.put, List.setIfInBounds_toArray, List.set_cons_zero, List.set_cons_succ]
                    refine wpTill_ready (rs := [21]) (by kernel_rfl) (by simp) ?_
                    refine AllTill.cons (o := ⟨some 16, _, _, _, _, _⟩) rfl (fun K hK => ?_) AllTill.nil
                    rw [if_pos (show Region.wanted _ _ = true from rfl)]
                    obtain ⟨wA, hwA⟩ : ∃ wA, wA = wN.alloc (.cells (encF zeroF).toArray 46) := ⟨_, rfl⟩
                    obtain ⟨q1, q2, q3⟩ := HLwN.out.alloc1 hwA
                    have HLwA := Lib.hid q1
                    have HBwA := Lib.hid q2
                    have HDwA := Lib.hid (HDwN.out.below q3 rfl)
                    have HCwA := Lib.hid (cells2_below HCwN.out q3)
                    clear q1 q2 q3
                    go_simp
                    rw [show wN.alloc (.cells #[.int .i64 0, .int .u64 0, .int .u64 0, .slice none 0 0, .bool false, .int .u64 0, .int .u64 0, .int .u64 0, .int .u64 0, .int .u64 0, .slice none 0 0, .int .u8 0, .int .u8 0, .int .u8 0, .int .u8 0, .int .u8 0, .int .u8 0, .int .u8 0, .int .u8 0] 46) = wA from hwA.symm]
                    clear hwA
                    refine hK.out _ _ (by exact HCwA.out) (fun hHeld => ?_)
                    clear hK K
                    try simp only [Act.put, List.setIfInBounds_toArray, List.set_cons_zero, List.set_cons_succ]
                    refine wpTill_ready (rs := [22]) (by kernel_rfl) (by simp) ?_
                    refine AllTill.consD (o := ⟨none, _, _, _, _, _⟩) rfl (by kernel_rfl) (fun K hK => ?_) AllTill.nil
                    rw [if_pos (show Region.wanted _ _ = true from rfl)]
                    refine wp_store_row 46 (.tmp 16) (.tmp 97) rfl _ _ rfl rfl 46 (encF zeroF).toArray (by exact HBwA.out.hz) (by rw [sizeF]; rfl) rfl HONE.out ?_
                    refine hK.out _ _ ?_
                    clear hK K
                    try simp only [Act.put, List.setIfInBounds_toArray, List.set_cons_zero, List.set_cons_succ]
                    refine wpTill_take0 (i := 23) (oi := ⟨some 17, _, _, _, _, _⟩) (v := ?_) rfl (by kernel_rfl) (fun _ _ _ h => h) (Or.inl ⟨by rfl, ?_⟩) (fun h => Bool.noConfusion (h.symm.trans (show _ = true by kernel_rfl))) ?_
                    rotate_left
                    · intro w hSw
                      (try dsimp only at hSw)
                      go_simp
                      try with_reducible rfl
                    try simp only [Act.put, List.setIfInBounds_toArray, List.set_cons_zero, List.set_cons_succ]
                    refine wpTill_done (by kernel_rfl) ?_ _
                    go_wp2_with fail
                    go_meet
                    case rel =>
                      obtain ⟨r1, r2⟩ := HLwA.out.fill HBwA.out.hz HBwA.out.zo HBwA.out.zy HBwA.out.zw (encF (nf.fr x.2.2.s.id x.2.2.s.rs vd)).toArray
                      exact ⟨_, lab3, vd, rfl, rfl, r1, r2, HBwA.out.zo, HDwA.out.fill _⟩
                  refine AllTill.cons (o := ⟨some 16, _, _, _, _, _⟩) rfl (fun K hK => ?_) ?_
                  · rw [if_pos (show Region.wanted _ _ = true from rfl)]
                    obtain ⟨wA, hwA⟩ : ∃ wA, wA = wS.alloc (.cells (encF zeroF).toArray 46) := ⟨_, rfl⟩
                    obtain ⟨q1, q2, q3⟩ := HLwS.out.alloc1 hwA
                    have HLwA := Lib.hid q1
                    have HBwA := Lib.hid q2
                    have HCwA := Lib.hid (cells2_below HCwS.out q3)
                    clear q1 q2 q3
                    go_simp
                    rw [show wS.alloc (.cells #[.int .i64 0, .int .u64 0, .int .u64 0, .slice none 0 0, .bool false, .int .u64 0, .int .u64 0, .int .u64 0, .int .u64 0, .int .u64 0, .slice none 0 0, .int .u8 0, .int .u8 0, .int .u8 0, .int .u8 0, .int .u8 0, .int .u8 0, .int .u8 0, .int .u8 0] 46) = wA from hwA.symm]
                    clear hwA
                    refine hK.out _ _ (by exact HCwA.out) (fun hHeld => ?_)
                    clear hK K
                    try simp only [Act.put, List.setIfInBounds_toArray, List.set_cons_zero, List.set_cons_succ]
                    refine wpTill_ready (rs := [17]) (by kernel_rfl) (by simp) ?_
                    refine AllTill.cons (o := ⟨some 96, _, _, _, _, _⟩) rfl (fun K hK => ?_) AllTill.nil
                    rw [if_pos (show Region.wanted _ _ = true from rfl)]
                    go_simp
                    go_at_call 26
                    obtain ⟨fs2, hsd2, htn⟩ := HLwA.out.sndTurn HX.out.2 HYAT.out HCwA.out.1
                    have HTN := Lib.hid htn
                    refine (snx_any bs x.2.2.s fs2 room mo _ hsd2 HSX.out.1 HSX.out.2 hmob hr1 hr2).mono ?_
                    rw [HNF.out]
                    clear htn hsd2
                    rintro e wN ⟨vd, rfl, hm, hsl⟩
                    obtain ⟨lab3, hl3, hk3, hk4, hk5⟩ := HTN.out wN s2 hm HID2.out
                    have HCwN := Lib.hid (And.intro hk4 (hk5.trans (by rw [HAL.out])))
                    have HLwN := Lib.hid hl3
                    have HDwN := Lib.hid (NDat.first HLwA.out (F := fun k => k = wS.heap.size) (fun k hk => by rw [show k = _ from hk]; exact heap_lt HBwA.out.hz) hsl)
                    have HONE := Lib.hid (show (encF (nf.fr x.2.2.s.id x.2.2.s.rs vd)).toArray.all (·.oneCell') = true from by
                      obtain ⟨_, q, _⟩ := hsl
                      obtain ⟨_, _, q, _⟩ := q.shape
                      exact nf_one nf _ _ q)
                    have HBwN := Lib.hid (HBwA.out.went hk3)
                    clear hm hsl hl3 hk3 hk4 hk5 HTN
                    go_simp
                    refine hK.out _ _ (by exact HCwN.out) (fun hHeld => ?_)
                    clear hK K
                    try simp only [Act.put, List.setIfInBounds_toArray, List.set_cons_zero, List.set_cons_succ]
                    refine wpTill_take0 (i := 18) (oi := ⟨some 78, _, _, _, _, _⟩) (v := ?_) rfl (by kernel_rfl) (fun _ _ _ h => h) (Or.inl ⟨by rfl, ?_⟩) (fun _ => hHeld) ?_
                    rotate_left
                    · intro w hSw
                      (try dsimp only at hSw)
                      go_simp
                      try with_reducible rfl
                    try simp only [Act.put, List.setIfInBounds_toArray, List.set_cons_zero, List.set_cons_succ]
                    refine wpTill_take0 (i := 19) (oi := ⟨some 97, _, _, _, _, _⟩) (v := ?_) rfl (by kernel_rfl) (fun _ _ _ h => h) (Or.inl ⟨by rfl, ?_⟩) (fun _ => hHeld) ?_
                    rotate_left
                    · intro w hSw
                      (try dsimp only at hSw)
                      go_simp
                      try with_reducible rfl
                    try simp only [Act.put, List.setIfInBounds_toArray, List.set_cons_zero, List.set_cons_succ]
                    refine wpTill_take0 (i := 20) (oi := ⟨some 98, _, _, _, _, _⟩) (v := ?_) rfl (by kernel_rfl) (fun _ _ _ h => h) (Or.inl ⟨by rfl, ?_⟩) (fun _ => hHeld) ?_
                    rotate_left
                    · intro w hSw
                      (try dsimp only at hSw)
                      go_simp
                      try with_reducible rfl
                    try simp only [Act.put, List.setIfInBounds_toArray, List.set_cons_zero, List.set_cons_succ]
                    refine wpTill_ready (rs := [22]) (by kernel_rfl) (by simp) ?_
                    refine AllTill.consD (o := ⟨none, _, _, _, _, _⟩) rfl (by kernel_rfl) (fun K hK => ?_) AllTill.nil
                    rw [if_pos (show Region.wanted _ _ = true from rfl)]
                    refine wp_store_row 46 (.tmp 16) (.tmp 97) rfl _ _ rfl rfl 46 (encF zeroF).toArray (by exact HBwN.out.hz) (by rw [sizeF]; rfl) rfl HONE.out ?_
                    refine hK.out _ _ ?_
                    clear hK K
                    try simp only [Act.put, List.setIfInBounds_toArray, List.set_cons_zero, List.set_cons_succ]
                    refine wpTill_take0 (i := 23) (oi := ⟨some 17, _, _, _, _, _⟩) (v := ?_) rfl (by kernel_rfl) (fun _ _ _ h => h) (Or.inl ⟨by rfl, ?_⟩) (fun h => Bool.noConfusion (h.symm.trans (show _ = true by kernel_rfl))) ?_
                    rotate_left
                    · intro w hSw
                      (try dsimp only at hSw)
                      go_simp
                      try with_reducible rfl
                    try simp only [Act.put, List.setIfInBounds_toArray, List.set_cons_zero, List.set_cons_succ]
                    refine wpTill_done (by kernel_rfl) ?_ _
                    go_wp2_with fail
                    go_meet
                    case rel =>
                      obtain ⟨r1, r2⟩ := HLwN.out.fill HBwN.out.hz HBwN.out.zo HBwN.out.zy HBwN.out.zw (encF (nf.fr x.2.2.s.id x.2.2.s.rs vd)).toArray
                      exact ⟨_, lab3, vd, rfl, rfl, r1, r2, HBwN.out.zo, HDwN.out.fill _⟩
                  exact AllTill.nil
                refine AllTill.cons (o := ⟨some 16, _, _, _, _, _⟩) rfl (fun K hK => ?_) ?_
                · rw [if_pos (show Region.wanted _ _ = true from rfl)]
                  generalize wr.drew = w9 at *
                  obtain ⟨wA, hwA⟩ : ∃ wA, wA = w9.alloc (.cells (encF zeroF).toArray 46) := ⟨_, rfl⟩
                  obtain ⟨q1, q2, q3⟩ := HLw9.out.alloc1 hwA
                  have HLwA := Lib.hid q1
                  have HBwA := Lib.hid q2
                  have HCwA := Lib.hid (cells2_below HCw9.out q3)
                  clear q1 q2 q3
                  go_simp
                  rw [show w9.alloc (.cells #[.int .i64 0, .int .u64 0, .int .u64 0, .slice none 0 0, .bool false, .int .u64 0, .int .u64 0, .int .u64 0, .int .u64 0, .int .u64 0, .slice none 0 0, .int .u8 0, .int .u8 0, .int .u8 0, .int .u8 0, .int .u8 0, .int .u8 0, .int .u8 0, .int .u8 0] 46) = wA from hwA.symm]
                  clear hwA
                  refine hK.out _ _ (by exact HCwA.out) (fun hHeld => ?_)
                  clear hK K
                  try simp only [Act.put, List.setIfInBounds_toArray, List.set_cons_zero, List.set_cons_succ]
                  refine wpTill_ready (rs := [14]) (by kernel_rfl) (by simp) ?_
                  refine AllTill.cons (o := ⟨some 93, _, _, _, _, _⟩) rfl (fun K hK => ?_) AllTill.nil
                  rw [if_pos (show Region.wanted _ _ = true from rfl)]
                  go_simp
                  go_at_call 14
                  refine (tsent_any p T1 lab2 a b _ (by exact HLwA.out.st)).mono ?_
                  rw [HSN.out]
                  rintro e wS ⟨rfl, _, hbS⟩
                  have HLwS := Lib.hid (HLwA.out.later hbS)
                  have HCwS := Lib.hid (cells2_below HCwA.out hbS)
                  have HBwS := Lib.hid (HBwA.out.later hbS)
                  clear hbS
                  go_simp
                  refine hK.out _ _ (by exact HCwS.out) (fun hHeld => ?_)
                  clear hK K
                  try simp only [Act.put, List.setIfInBounds_toArray, List.set_cons_zero, List.set_cons_succ]
                  refine wpTill_take0 (i := 15) (oi := ⟨some 94, _, _, _, _, _⟩) (v := .int .u64 mi) rfl (by kernel_rfl) (fun _ _ _ h => h) (Or.inl ⟨by rfl, ?_⟩) (fun _ => hHeld) ?_
                  · intro w hSw
                    go_simp
                    rw [HMN.out]
                  try simp only [Act.put, List.setIfInBounds_toArray, List.set_cons_zero, List.set_cons_succ]
                  refine wpTill_take0 (i := 16) (oi := ⟨some 95, _, _, _, _, _⟩) (v := .int .u64 mo) rfl (by kernel_rfl) (fun _ _ _ h => h) (Or.inl ⟨by rfl, ?_⟩) (fun _ => hHeld) ?_
                  · intro w hSw
                    go_simp
                    rw [HWR.out]
                  try simp only [Act.put, List.setIfInBounds_toArray, List.set_cons_zero, List.set_cons_succ]
                  refine wpTill_ready (rs := [17]) (by kernel_rfl) (by simp) ?_
                  refine AllTill.cons (o := ⟨some 96, _, _, _, _, _⟩) rfl (fun K hK => ?_) AllTill.nil
                  rw [if_pos (show Region.wanted _ _ = true from rfl)]
                  go_simp
                  go_at_call 26
                  obtain ⟨fs2, hsd2, htn⟩ := HLwS.out.sndTurn HX.out.2 HYAT.out HCwS.out.1
                  have HTN := Lib.hid htn
                  refine (snx_any bs x.2.2.s fs2 room mo _ hsd2 HSX.out.1 HSX.out.2 hmob hr1 hr2).mono ?_
                  rw [HNF.out]
                  clear htn hsd2
                  rintro e wN ⟨vd, rfl, hm, hsl⟩
                  obtain ⟨lab3, hl3, hk3, hk4, hk5⟩ := HTN.out wN s2 hm HID2.out
                  have HCwN := Lib.hid (And.intro hk4 (hk5.trans (by rw [HAL.out])))
                  have HLwN := Lib.hid hl3
                  have HDwN := Lib.hid (NDat.first HLwS.out (F := fun k => k = w9.heap.size) (fun k hk => by rw [show k = _ from hk]; exact heap_lt HBwS.out.hz) hsl)
                  have HONE := Lib.hid (show (encF (nf.fr x.2.2.s.id x.2.2.s.rs vd)).toArray.all (·.oneCell') = true from by
                    obtain ⟨_, q, _⟩ := hsl
                    obtain ⟨_, _, q, _⟩ := q.shape
                    exact nf_one nf _ _ q)
                  have HBwN := Lib.hid (HBwS.out.went hk3)
                  clear hm hsl hl3 hk3 hk4 hk5 HTN
                  go_simp
                  refine hK.out _ _ (by exact HCwN.out) (fun hHeld => ?_)
                  clear hK K
                  try simp only [Act.put, List.setIfInBounds_toArray, List.set_cons_zero, List.set_cons_succ]
                  refine wpTill_take0 (i := 18) (oi := ⟨some 78, _, _, _, _, _⟩) (v := ?_) rfl (by kernel_rfl) (fun _ _ _ h => h) (Or.inl ⟨by rfl, ?_⟩) (fun _ => hHeld) ?_
                  rotate_left
                  · intro w hSw
                    (try dsimp only at hSw)
                    go_simp
                    try with_reducible rfl
                  try simp only [Act.put, List.setIfInBounds_toArray, List.set_cons_zero, List.set_cons_succ]
                  refine wpTill_take0 (i := 19) (oi := ⟨some 97, _, _, _, _, _⟩) (v := ?_) rfl (by kernel_rfl) (fun _ _ _ h => h) (Or.inl ⟨by rfl, ?_⟩) (fun _ => hHeld) ?_
                  rotate_left
                  · intro w hSw
                    (try dsimp only at hSw)
                    go_simp
                    try with_reducible rfl
                  try simp only [Act.put, List.setIfInBounds_toArray, List.set_cons_zero, List.set_cons_succ]
                  refine wpTill_take0 (i := 20) (oi := ⟨some 98, _, _, _, _, _⟩) (v := ?_) rfl (by kernel_rfl) (fun _ _ _ h => h) (Or.inl ⟨by rfl, ?_⟩) (fun _ => hHeld) ?_
                  rotate_left
                  · intro w hSw
                    (try dsimp only at hSw)
                    go_simp
                    try with_reducible rfl
                  try simp only [Act.put, List.setIfInBounds_toArray, List.set_cons_zero, List.set_cons_succ]
                  refine wpTill_ready (rs := [22]) (by kernel_rfl) (by simp) ?_
                  refine AllTill.consD (o := ⟨none, _, _, _, _, _⟩) rfl (by kernel_rfl) (fun K hK => ?_) AllTill.nil
                  rw [if_pos (show Region.wanted _ _ = true from rfl)]
                  refine wp_store_row 46 (.tmp 16) (.tmp 97) rfl _ _ rfl rfl 46 (encF zeroF).toArray (by exact HBwN.out.hz) (by rw [sizeF]; rfl) rfl HONE.out ?_
                  refine hK.out _ _ ?_
                  clear hK K
                  try simp only [Act.put, List.setIfInBounds_toArray, List.set_cons_zero, List.set_cons_succ]
                  refine wpTill_take0 (i := 23) (oi := ⟨some 17, _, _, _, _, _⟩) (v := ?_) rfl (by kernel_rfl) (fun _ _ _ h => h) (Or.inl ⟨by rfl, ?_⟩) (fun h => Bool.noConfusion (h.symm.trans (show _ = true by kernel_rfl))) ?_
                  rotate_left
                  · intro w hSw
                    (try dsimp only at hSw)
                    go_simp
                    try with_reducible rfl
                  try simp only [Act.put, List.setIfInBounds_toArray, List.set_cons_zero, List.set_cons_succ]
                  refine wpTill_done (by kernel_rfl) ?_ _
                  go_wp2_with fail
                  go_meet
                  case rel =>
                    obtain ⟨r1, r2⟩ := HLwN.out.fill HBwN.out.hz HBwN.out.zo HBwN.out.zy HBwN.out.zw (encF (nf.fr x.2.2.s.id x.2.2.s.rs vd)).toArray
                    exact ⟨_, lab3, vd, rfl, rfl, r1, r2, HBwN.out.zo, HDwN.out.fill _⟩
                exact AllTill.nil
              case rest =>
                obtain ⟨z3, lab3, vd, rfl, rfl, hnl3, hz3, z3o, hnd⟩ := hcut
                generalize wc = w3 at *
                obtain ⟨okb, hok⟩ : ∃ okb, nf.ok = okb := ⟨_, rfl⟩
                rw [hok]
                have HOK := Lib.hid hok
                have HL3 := Lib.hid hnl3
                have HZ3 := Lib.hid (And.intro hz3 z3o)
                have HND := Lib.hid hnd
                have hone : (encF (nf.fr x.2.2.s.id x.2.2.s.rs vd)).toArray.all (·.oneCell') = true := by
                  obtain ⟨_, q, _⟩ := hnd
                  obtain ⟨_, _, q, _⟩ := q.shape
                  exact nf_one nf _ _ q
                have HONE := Lib.hid hone
                clear hnl3 hz3 z3o hnd hok HIB y1 p30 hg1 hgl HCw9 HLw9 hone HWR HMN hmob
                cases okb
                · have hnl4 := HL3.out
                  have hT2 : T1.put x.1 x.2.1 ⟨x.2.2.id, s2, x.2.2.r⟩ = T1 := by
                    have e1 := snx_no (s := x.2.2.s) (room := room) (more := mo) (by rw [HNF.out]; exact HOK.out)
                    rw [HNF.out] at e1
                    simp only at e1
                    rw [e1]
                    exact ST.put_self HX.out.2
                  rw [hT2] at hnl4
                  have HL4 := Lib.hid hnl4
                  have HNS2 := Lib.hid (show ∀ (k : Nat) (y : Bool × Nat × H1), k < m + 1 → T1.all[(fi + k) % j]? = some y → (y.2.2.s.nx room T1.more).2.ok = false from fun k y hk hy => by
                    rcases Nat.lt_or_ge k m with q | q
                    · exact HNS.out k y q hy
                    · obtain rfl : k = m := by omega
                      rw [HX.out.1] at hy
                      cases hy
                      rw [HMO.out, HNF.out]
                      exact HOK.out)
                  clear hnl4 hT2 HL3 HZ3 HND HX HNF HONE
                  go_wp2_with fail
                  go_roundw
                  case rel => exact ⟨m + 1, lab3, by go_num, by omega, HL4.out, HNS2.out⟩
                  case measure => simp [intOf]; omega
                · obtain ⟨T2, hT2⟩ : ∃ T2, T1.put x.1 x.2.1 ⟨x.2.2.id, s2, x.2.2.r⟩ = T2 := ⟨_, rfl⟩
                  have HT2 := Lib.hid hT2
                  have hnl4 := HL3.out
                  rw [hT2] at hnl4
                  have hhs2 : (T2.hs x.1)[x.2.1]? = some ⟨x.2.2.id, s2, x.2.2.r⟩ := by
                    rw [← hT2, (ST.put_hs _ _ _ _).1, List.getElem?_set_self (List.getElem?_eq_some_iff.1 HX.out.2).1]
                  obtain ⟨_, _, _, _, hyb, _⟩ := hnl4.st.turn hhs2 (hnl4.yk _ _ _ HYAT.out)
                  obtain ⟨xi, hxi⟩ : ∃ xi, x.2.2.id = xi := ⟨_, rfl⟩
                  have y0' : w3.cell? ⟨yj, 0, none⟩ = some (.int .u64 xi) := by rw [← hxi]; exact (cell_at hyb 0).trans rfl
                  have hlf := last_facts (id := xi) hnl4 HZ3.out.1 HZ3.out.2 HND.out (by rw [← hxi]; exact ST.id_lt HL2.out.st.ok HX.out.2)
                  have c26 := hlf.c26
                  have f26 := hlf.f26
                  have c27 : w3.cell? ⟨p, 27, none⟩ = some (.bool T2.told) := (hnl4.st.cell 27).trans rfl
                  have f27 : w3.frozen? ⟨p, 27, none⟩ = false := free_at hnl4.st.blk 27
                  have f27' := hlf.f27
                  have c27' := hlf.c27
                  have HLF := Lib.hid hlf
                  have HPOST := Lib.hid (show NxPost w (((w3.setCell ⟨p, 26, none⟩ (.int .u64 xi)).setCell ⟨p, 27, none⟩ (.bool true)).setRow y (encF (nf.fr x.2.2.s.id x.2.2.s.rs vd)).toArray) p T1 lab a b room (.returned (.tuple #[.agg (encF (nf.fr x.2.2.s.id x.2.2.s.rs vd)).toArray, .bool true])) from by
                    have hnf2 : x.2.2.s.nx room T1.more = (s2, nf) := by rw [HMO.out]; exact HNF.out
                    unfold NxPost
                    rw [HN.out, HFI.out]
                    refine .inr (.inr ⟨HCF.out, HNR.out, .inl ⟨m, x, vd, hlt, HX.out.1, ?_, HNS.out, ?_⟩⟩)
                    · rw [hnf2]
                      exact HOK.out
                    · rw [hnf2]
                      obtain ⟨q1, q2, q3⟩ := HLF.out.fin (encF (nf.fr x.2.2.s.id x.2.2.s.rs vd)).toArray
                      simp only
                      rw [hT2, hxi]
                      exact ⟨by first | trivial | rfl, q3, lab3, q1, q2⟩)
                  obtain ⟨CS, hcs⟩ : ∃ CS, (encF (nf.fr x.2.2.s.id x.2.2.s.rs vd)).toArray = CS := ⟨_, rfl⟩
                  have HCSZ := Lib.hid (show CS.size = 19 by rw [← hcs]; rfl)
                  rw [hcs] at HPOST HLF HONE
                  have HZ5 := Lib.hid HLF.out.hz
                  have HY5 := Lib.hid HLF.out.hy
                  clear hyb hlf hnl4 hhs2 hxi hcs hT2 HT2 HL3 HZ3 HND HX HNF HLF HL2 HNS HNR HIX HYAT HSX HGJ HMO HSN HID2 HOK
                  go_wp2_with (first
                    | refine wpList_load_row rfl 46 (.tmp 16) rfl z3 rfl 46 _ (0, 0) _ (by exact HZ5.out) Tryz.underlying46 rfl (by rw [sizeF, HCSZ.out]) ?_
                    | refine wpList_store_row rfl 46 (.tmp 4) (.tmp 110) rfl _ _ rfl rfl 46 (encF zeroF).toArray (by exact HY5.out) (by rw [sizeF, HCSZ.out]) (by rw [HCSZ.out]; rfl) HONE.out ?_)
                  (try simp only [Exit.inBlock, Exit.then])
                  refine bodyPost_ret (results_row_tmp rfl _ _ y 46 CS (0, 0) _ rfl (setRow_heap _ y _ _ _ _ HY5.out) Tryz.underlying46 rfl (by rw [sizeF, HCSZ.out])) rfl ?_
                  exact HPOST.out
            · obtain rfl : m = j := by omega
              have HPOST := Lib.hid (show NxPost w (wr.setRow y (encF zeroF).toArray) p T1 lab a b room (.returned (.tuple #[.agg (encF zeroF).toArray, .bool false])) from by
                obtain ⟨q1, q2⟩ := HL2.out.ret (encF zeroF).toArray
                unfold NxPost
                rw [HN.out, HFI.out]
                exact .inr (.inr ⟨HCF.out, HNR.out, .inr ⟨HNS.out, rfl, lab2, q1, q2⟩⟩))
              have HYR := Lib.hid HL2.out.hy
              clear HL2 HNS HNR HGJ HIX
              go_wp2_with (refine wpList_store_row rfl 46 (.tmp 4) (.tmp 112) rfl _ _ rfl rfl 46 (encF zeroF).toArray (by exact HYR.out) (by rw [sizeF]; rfl) rfl (by simp [Value.oneCell']) ?_)
              (try simp only [Exit.inBlock, Exit.then])
              refine bodyPost_ret (results_row_tmp rfl _ _ y 46 (encF zeroF).toArray (0, 0) _ rfl (setRow_heap _ y _ _ _ _ HYR.out) Tryz.underlying46 rfl (by rw [sizeF]; rfl)) rfl ?_
              exact HPOST.out
    · have hc1 : (t.cred room).2.2 = true := by rw [hcr]
      have hc2 : (t.cred room).2.1 = F1 := by rw [hcr]
      have hc3 : (t.cred room).1 = T1 := by rw [hcr]
      have hone : (encF F1).toArray.all (·.oneCell') = true := by
        rw [← hc2]
        unfold ST.cred
        split
        · exact encF_one rfl rfl
        · exact encF_one rfl rfl
      have HPOST := Lib.hid (show NxPost w (w1.setRow y (encF F1).toArray) p t lab a b room (.returned (.tuple #[.agg (encF F1).toArray, .bool true])) from by
        have hu : Upd (fun j => j = y) w1 (w1.setRow y (encF F1).toArray) := (Upd.refl (fun j => j = y) w1).setRowN y (.inl rfl) _
        refine .inl ⟨hc1, by rw [hc2], lab, ?_, ⟨HU1.out.trans hu (fun _ _ q => q) (fun k hk q => ?_), fun k hk => .inl hk⟩⟩
        · rw [hc3]
          exact HS1.out.keeps hu (fun k hk => by rw [show k = y from hk]; exact HYO.out)
        · have := HY.out
          have q : k = y := q
          omega)
      clear hc1 hc2 hc3 hcr HCR HS1 HU1
      go_wp2_with (first
        | refine wpList_load_row rfl 46 (.tmp 6) rfl z rfl 46 _ (0, 0) _ (by exact HZ1.out) Tryz.underlying46 rfl (by rw [sizeF]; rfl) ?_
        | refine wpList_store_row rfl 46 (.tmp 4) (.tmp 25) rfl _ _ rfl rfl 46 (encF zeroF).toArray (by exact HY1.out) (by rw [sizeF]; rfl) rfl hone ?_)
      (try simp only [Exit.inBlock, Exit.then])
      refine bodyPost_ret (results_row_tmp rfl _ _ y 46 (encF F1).toArray (0, 0) _ rfl (setRow_heap _ y _ _ _ _ HY1.out) Tryz.underlying46 rfl (by rw [sizeF]; rfl)) rfl ?_
      exact HPOST.out
end Go.Proofs.YtnneoeimgbemfaaGreat
