/- DERIVED. Walk of inbuf's Add. -/
import Derived.Test.YtebiebcpdjipjaaHas
import Derived.Test.YtebiebcpdjipjaaInbRd
import Derived.Test.YtebiebcpdjipjaaVwa
import Derived.Test.YtebiebcpdjipjaaAdd
import Derived.Deep.CutBlock
import Derived.Deep.DeepCutAuto
namespace Go.Proofs.Ytebiebcpdjipjaa
open Go.RowKit

/-- In the middle of Add: the first i bytes are laid. -/
structure AddMid (fp : Nat → Prop) (w wr : World) (b : Nat) (s : IB) (c : Nat) (og : Option Nat) (xs : List Rg) (off : Nat) (d : List Nat) (i : Nat) (cs : Array Value) : Prop where
  blk : wr.heap[b]? = some (.cells cs 84 (0, 0))
  size : cs.size = 2053
  c0 : cs[0]? = some (.int .u64 s.rd)
  c1 : cs[1]? = some (.int .u64 s.hi)
  c2 : cs[2]? = some (.int .u64 s.fin)
  c3 : cs[3]? = some (.bool s.kn)
  ring : ∀ j v, gt (putN s.rd off s.L (d.take i)) j = some v → cs[4 + (s.rd + j) % 2048]? = some (.int .u8 v)
  c5 : cs[2052]? = some (.pointer (some ⟨c, 0, none⟩))
  came : SetAt wr c 2048 og xs
  upd : Upd fp w wr
  sub : ∀ k, (k = b ∨ k = c ∨ og = some k) → fp k ∨ w.heap.size ≤ k
theorem BufAt.mid {w : World} {b : Nat} {s : IB} {c : Nat} {og : Option Nat} {xs : List Rg} {cs : Array Value} (h : BufAt w b s c og xs cs) (off : Nat) (d : List Nat) {fp : Nat → Prop} (hfp : fp = fun j => j = b ∨ j = c ∨ og = some j) : AddMid fp w w b s c og xs off d 0 cs :=
  ⟨h.blk, h.size, h.c0, h.c1, h.c2, h.c3, by simpa [putN_nil] using h.ring, h.c5, h.came, Upd.refl _ _, fun k hk => .inl (by rw [hfp]; exact hk)⟩
theorem AddMid.later {fp : Nat → Prop} {w wr w2 : World} {b : Nat} {s : IB} {c : Nat} {og : Option Nat} {xs : List Rg} {off : Nat} {d : List Nat} {i : Nat} {cs : Array Value} (h : AddMid fp w wr b s c og xs off d i cs) (hb : Below wr.heap.size wr w2) : AddMid fp w w2 b s c og xs off d i cs :=
  ⟨below_keeps hb h.blk (heap_lt h.blk), h.size, h.c0, h.c1, h.c2, h.c3, h.ring, h.c5, h.came.below hb, h.upd.trans (Upd.below hb) (fun _ _ x => x) (fun j hj x => by have := h.upd.size; omega), h.sub⟩
theorem take_snoc {d : List Nat} {k x : Nat} (h : d[k]? = some x) : d.take (k + 1) = d.take k ++ [x] ∧ (d.take k).length = k := by
  rw [List.getElem?_eq_some_iff] at h
  obtain ⟨h1, h2⟩ := h
  refine ⟨by rw [List.take_add_one, List.getElem?_eq_getElem h1, h2]; rfl, by rw [List.length_take]; omega⟩
theorem AddMid.keep_read {fp : Nat → Prop} {w wr : World} {b : Nat} {s : IB} {c : Nat} {og : Option Nat} {xs : List Rg} {off : Nat} {d : List Nat} {i x z : Nat} {cs : Array Value} (h : AddMid fp w wr b s c og xs off d i cs) (hx : d[i]? = some x) (hz : off + i = z) (h1 : z < s.rd) :
    AddMid fp w wr b s c og xs off d (i + 1) cs := by
  obtain ⟨e1, e2⟩ := take_snoc hx
  refine ⟨h.blk, h.size, h.c0, h.c1, h.c2, h.c3, ?_, h.c5, h.came, h.upd, h.sub⟩
  intro j v hv
  rw [e1, putN_snoc, e2, if_pos (by omega)] at hv
  exact h.ring j v hv
theorem CameIs.at {s : IB} {xs : List Rg} (h : CameIs s xs) {z : Nat} (h1 : s.rd ≤ z) : (gt s.L (z - s.rd)).isSome = mem xs z := by
  rw [h.2 z]
  have : ¬ z < s.rd := by omega
  simp [IB.came, this]
theorem AddMid.keep_came {fp : Nat → Prop} {w wr : World} {b : Nat} {s : IB} {c : Nat} {og : Option Nat} {xs : List Rg} {off : Nat} {d : List Nat} {i x z : Nat} {cs : Array Value} (h : AddMid fp w wr b s c og xs off d i cs) (hi : CameIs s xs) (hx : d[i]? = some x) (hz : off + i = z) (h1 : s.rd ≤ z)
    (hm : mem xs z = true) : AddMid fp w wr b s c og xs off d (i + 1) cs := by
  obtain ⟨e1, e2⟩ := take_snoc hx
  have hg := hi.at h1
  rw [hm] at hg
  refine ⟨h.blk, h.size, h.c0, h.c1, h.c2, h.c3, ?_, h.c5, h.came, h.upd, h.sub⟩
  intro j v hv
  rw [e1, putN_snoc, e2, if_neg (by omega), gt_put1, hz] at hv
  have hp : gt (putN s.rd off s.L (d.take i)) (z - s.rd) = gt s.L (z - s.rd) := by rw [gt_putN, if_pos hg]
  by_cases e : j = z - s.rd
  · subst e
    rw [if_pos rfl, hp, if_pos hg] at hv
    exact h.ring _ v (by rw [hp]; exact hv)
  · rw [if_neg e] at hv
    exact h.ring j v hv
theorem AddMid.store {fp : Nat → Prop} {w wr : World} {b : Nat} {s : IB} {c : Nat} {og : Option Nat} {xs : List Rg} {off : Nat} {d : List Nat} {i x z : Nat} {cs : Array Value} (h : AddMid fp w wr b s c og xs off d i cs) (hi : CameIs s xs) (hL : s.L.length ≤ 2048) (hne : c ≠ b ∧ og ≠ some b) (hx : d[i]? = some x) (hz : off + i = z) (h1 : s.rd ≤ z) (h2 : z < s.rd + 2048)
    (hm : mem xs z = false) : ∃ cs', AddMid fp w (wr.setCell ⟨b, 4 + z % 2048, none⟩ (.int .u8 x)) b s c og xs off d (i + 1) cs' := by
  obtain ⟨e1, e2⟩ := take_snoc hx
  have hg := hi.at h1
  rw [hm] at hg
  have hu : Upd (fun j => j = b) wr (wr.setCell ⟨b, 4 + z % 2048, none⟩ (.int .u8 x)) := Upd.setCell (Upd.refl (fun j => j = b) wr) ⟨b, 4 + z % 2048, none⟩ (.inl rfl) _
  have far : ∀ q, (q < 4 ∨ q = 2052) → (cs.setIfInBounds (4 + z % 2048) (.int .u8 x))[q]? = cs[q]? := by
    intro q hq
    rw [Array.getElem?_setIfInBounds, if_neg (by omega)]
  refine ⟨_, set_at h.blk _ _, by simpa using h.size, by rw [far 0 (by omega)]; exact h.c0, by rw [far 1 (by omega)]; exact h.c1, by rw [far 2 (by omega)]; exact h.c2, by rw [far 3 (by omega)]; exact h.c3, ?_, by rw [far 2052 (by omega)]; exact h.c5, ?_, ?_, h.sub⟩
  · intro j v hv
    have hjl : j < 2048 := by
      rcases Nat.lt_or_ge j (putN s.rd off s.L (d.take (i + 1))).length with hj | hj
      · rw [putN_len] at hj
        split at hj
        · omega
        · rw [e1, List.length_append, e2] at hj
          simp at hj
          omega
      · rw [gt_ge hj] at hv
        cases hv
    rw [e1, putN_snoc, e2, if_neg (by omega), gt_put1, hz] at hv
    have hp : gt (putN s.rd off s.L (d.take i)) (z - s.rd) = none := by
      rw [gt_putN, if_neg (by rw [hg]; simp)]
      split
      · rw [List.getElem?_eq_none (by rw [e2]; omega)]
      · rfl
    rw [Array.getElem?_setIfInBounds]
    by_cases e : j = z - s.rd
    · subst e
      rw [if_pos rfl, hp] at hv
      simp at hv
      subst hv
      rw [if_pos (by rw [show s.rd + (z - s.rd) = z by omega]), if_pos (by rw [h.size]; omega)]
    · rw [if_neg e] at hv
      rw [if_neg (by omega)]
      exact h.ring j v hv
  · exact h.came.keeps hu (by rintro rfl; exact hne.1 rfl) (by rintro g hg' rfl; exact hne.2 hg')
  · exact h.upd.trans hu (fun _ _ x => x) (fun j hj x => by
      subst x
      rcases h.sub _ (.inl rfl) with q | q
      · exact q
      · omega)
theorem AddMid.turned {fp : Nat → Prop} {w wr w' : World} {b : Nat} {s : IB} {c : Nat} {og : Option Nat} {xs ys : List Rg} {off : Nat} {d : List Nat} {i : Nat} {cs : Array Value} (h : AddMid fp w wr b s c og xs off d i cs) (hne : c ≠ b ∧ og ≠ some b) (t : Turned wr c 2048 og ys w') :
    ∃ og', AddMid fp w w' b s c og' ys off d i cs ∧ og' ≠ some b := by
  obtain ⟨og', h1, h2, h3⟩ := t
  have hb := heap_lt h.blk
  refine ⟨og', ⟨h3.keeps h.blk ?_, h.size, h.c0, h.c1, h.c2, h.c3, h.ring, h.c5, h1, h.upd.trans h3 (fun _ _ x => x) ?_, ?_⟩, ?_⟩
  · rintro (x | x)
    · exact hne.1 x.symm
    · exact hne.2 x
  · intro j hj x
    rcases h.sub j (.inr x) with q | q
    · exact q
    · omega
  · intro k hk
    rcases hk with hk | hk | hk
    · exact h.sub k (.inl hk)
    · exact h.sub k (.inr (.inl hk))
    · rcases h2 with rfl | rfl | ⟨g, rfl, h4⟩
      · exact h.sub k (.inr (.inr hk))
      · cases hk
      · cases hk
        right
        have := h.upd.size
        omega
  · rcases h2 with rfl | rfl | ⟨g, rfl, h4⟩
    · exact hne.2
    · simp
    · intro e
      cases e
      omega
theorem came_put {s : IB} {xs : List Rg} {off E : Nat} {d : List Nat} {f : Bool} (h : CameIs s xs) (ho : s.Ok) (hE : off + d.length = E) (hb : E ≤ 4611686018427387904) :
    ∃ ys, (if off < E ∧ E ≤ 4611686018427387904 then addL 2048 xs off E else xs) = ys ∧ CameIs (s.put off d f) ys := by
  refine ⟨_, rfl, ?_⟩
  by_cases hl : off < E
  · rw [if_pos ⟨hl, hb⟩]
    have h1 := h.few ho
    have h2 := addN_len xs (off, E)
    have e : addL 2048 xs off E = addN xs (off, E) := by
      unfold addL
      rw [addRaw_is hl xs h.1, trim_all (by omega)]
    rw [e, ← hE]
    exact h.put (by omega) (by omega)
  · rw [if_neg (by omega)]
    have : d = [] := List.eq_nil_of_length_eq_zero (by omega)
    subst this
    exact h.put_nil
/-- The numbers behind the bytes. -/
def stored (f : Bool) (b m E : Nat) (w : World) : World := if f then ((w.setCell ⟨b, 1, none⟩ (.int .u64 m)).setCell ⟨b, 2, none⟩ (.int .u64 E)).setCell ⟨b, 3, none⟩ (.bool true) else w.setCell ⟨b, 1, none⟩ (.int .u64 m)
theorem AddMid.fin {fp : Nat → Prop} {w wr : World} {b : Nat} {s : IB} {c : Nat} {og : Option Nat} {ys : List Rg} {off E m : Nat} {d : List Nat} {f : Bool} {cs : Array Value} (h : AddMid fp w wr b s c og ys off d d.length cs) (hne : c ≠ b ∧ og ≠ some b) (hi : CameIs (s.put off d f) ys)
    (hok : (s.put off d f).Ok) (hE : off + d.length = E) (hm : m = max s.hi E) : ∃ fp', IbAt (stored f b m E wr) b (s.put off d f) fp' ∧ Went fp fp' w (stored f b m E wr) := by
  have hr : ∀ j v, gt (putN s.rd off s.L d) j = some v → cs[4 + (s.rd + j) % 2048]? = some (.int .u8 v) := by
    have := h.ring
    rw [List.take_length] at this
    exact this
  have hu : Upd (fun j => j = b) wr (stored f b m E wr) := by
    unfold stored
    split
    · exact Upd.setCell (Upd.setCell (Upd.setCell (Upd.refl (fun j => j = b) wr) ⟨b, 1, none⟩ (.inl rfl) _) ⟨b, 2, none⟩ (.inl rfl) _) ⟨b, 3, none⟩ (.inl rfl) _
    · exact Upd.setCell (Upd.refl (fun j => j = b) wr) ⟨b, 1, none⟩ (.inl rfl) _
  refine ⟨fun j => j = b ∨ j = c ∨ og = some j, ⟨c, og, ys, if f then ((cs.setIfInBounds 1 (.int .u64 m)).setIfInBounds 2 (.int .u64 E)).setIfInBounds 3 (.bool true) else cs.setIfInBounds 1 (.int .u64 m), ?_, rfl⟩, h.upd.trans hu (fun _ _ x => x) (fun j hj x => by
    subst x
    rcases h.sub _ (.inl rfl) with q | q
    · exact q
    · omega), h.sub⟩
  have hc := h.came.keeps hu (by rintro rfl; exact hne.1 rfl) (by rintro g hg' rfl; exact hne.2 hg')
  have hsz := h.size
  cases f
  · refine ⟨set_at h.blk 1 _, by simpa using h.size, ?_, ?_, ?_, ?_, ?_, ?_, hc, hi, hok, hne.1, hne.2⟩
    · simp [h.c0, IB.put]
    · simp [IB.put, hE, hm, hsz]
    · simp [h.c2, IB.put]
    · simp [h.c3, IB.put]
    · intro j v hv
      simp only [IB.put, Bool.false_eq_true, if_false] at hv ⊢
      rw [Array.getElem?_setIfInBounds, if_neg (by omega)]
      exact hr j v hv
    · simp [h.c5]
  · refine ⟨set_at (set_at (set_at h.blk 1 _) 2 _) 3 _, by simpa using h.size, ?_, ?_, ?_, ?_, ?_, ?_, hc, hi, hok, hne.1, hne.2⟩
    · simp [h.c0, IB.put]
    · simp [IB.put, hE, hm, hsz]
    · simp [IB.put, hE, hsz]
    · simp [IB.put, hsz]
    · intro j v hv
      simp only [IB.put, if_true] at hv ⊢
      rw [Array.getElem?_setIfInBounds, if_neg (by omega), Array.getElem?_setIfInBounds, if_neg (by omega), Array.getElem?_setIfInBounds, if_neg (by omega)]
      exact hr j v hv
    · simp [h.c5]
theorem shas_mem (b : Nat) (most : Int) (og : Option Nat) (xs : List Rg) (n : Nat) (w : World) (h : SetAt w b most og xs) {v : Bool} (hv : mem xs n = v) :
    Calls Try.prog 43 #[.pointer (some ⟨b, 0, none⟩), .int .u64 n] w fun e w' => e = .returned (.bool v) ∧ Below w.heap.size w w' := by
  subst hv
  exact shas_any b most og xs n w h

set_option maxRecDepth 100000 in
set_option maxHeartbeats 1000000 in
theorem badd_ok (b : Nat) (s : IB) (fp : Nat → Prop) (off : Nat) (vd : Value) (d : List Nat) (f : Bool) (w : World) (h : IbAt w b s fp) (hd : VwA encB fp w vd d) (hb : Bys d) (hoff : off < 18446744073709551616) (he : s.err off d.length f = 0) :
    Calls Try.prog 23 #[.pointer (some ⟨b, 0, none⟩), .int .u64 off, vd, .bool f] w fun e w' => e = .returned (.int .i64 0) ∧ ∃ fp', IbAt w' b (s.put off d f) fp' ∧ Went fp fp' w w' := by
  obtain ⟨⟨he1, he2⟩, he3, he4⟩ := IB.err_zero he
  obtain ⟨c0, c1, c2, c3⟩ := h.cells
  obtain ⟨hb1, hb3, hb4, hb2⟩ := h.bd
  obtain ⟨oa, cap, rfl, hcap1, hcap2⟩ := hd.shape
  have H := Lib.hid h
  have HD := Lib.hid hd
  have HB := Lib.hid hb
  have HE3 := Lib.hid he
  clear h hd hb he
  generalize hn : d.length = len at *
  have HN := Lib.hid hn
  clear hn
  obtain ⟨E, hE, hE2⟩ : ∃ E : Nat, (off : Int) + (len : Int) = (E : Int) ∧ off + len = E := ⟨off + len, by omega, rfl⟩
  have HE := Lib.hid hE2
  have hE3 : E ≤ s.rd + 2048 := by omega
  rw [hE2] at he3 he4
  clear hE2
  go_enter Try.func23, Try.ntmps23
  go_upto_block 0 with fail
  go_cut [] (fun wx => wx = w)
  case first =>
    unfold IB.finErr at he3
    generalize s.kn = kn at *
    cases kn
    · cases f
      · go_wp2_with fail
        go_meet
        case rel => rfl
      · have q1 : ¬ E < s.hi := by simpa using he3
        go_wp2_with fail
        go_meet
        case rel => rfl
    · cases f
      · have q1 : ¬ s.fin < E := by simpa using he3
        go_wp2_with fail
        go_meet
        case rel => rfl
      · have q1 : E = s.fin ∧ ¬ E < s.hi := by
          simp at he3
          omega
        obtain ⟨q1, q2⟩ := q1
        have q3 : ¬ s.fin < E := by omega
        have q4 : ((E : Int) == (s.fin : Int)) = true := by rw [q1]; simp
        have q5 : ((E : Int) != (s.fin : Int)) = false := by rw [q1]; simp
        clear q1
        go_wp2_with fail
        go_meet
        case rel => rfl
  case rest =>
    subst hcut
    obtain ⟨c, og, xs, cs0, hbuf, hfp⟩ := H.out
    have HM0 := Lib.hid (show ∃ cs, AddMid fp wc wc b s c og xs off d 0 cs from ⟨cs0, hbuf.mid off d hfp⟩)
    have HI := Lib.hid hbuf.is
    have HO := Lib.hid hbuf.ok
    have HNE := Lib.hid (show c ≠ b ∧ og ≠ some b from ⟨hbuf.ne, hbuf.apart⟩)
    have HFP := Lib.hid hfp
    clear hbuf hfp c0 c1 c2 c3
    go_upto_block 1 with fail
    go_wp2_with fail
    go_loopw [68] (fun i wr => ∃ k : Nat, i = .int .i64 k ∧ k ≤ len ∧ ∃ cs, AddMid fp wc wr b s c og xs off d k cs) (fun i _ => len - (intOf i).toNat)
    case atStart => exact ⟨0, rfl, by omega, HM0.out⟩
    case round =>
      obtain ⟨k, rfl, hk, cs, hm⟩ := hrel
      have HM := Lib.hid hm
      clear hm HM0
      by_cases hlt : k < len
      · obtain ⟨x, hx⟩ : ∃ x, d[k]? = some x := ⟨_, List.getElem?_eq_getElem (by rw [HN.out]; exact hlt)⟩
        have hdw := HD.out.upd HM.out.upd (fun j hj => hj)
        obtain ⟨bd, od, rfl, hcell⟩ := hdw.byte hx
        have HX := Lib.hid hx
        have hx256 : x < 256 := HB.out x (List.mem_of_getElem? hx)
        clear hdw hx
        obtain ⟨at_, hat, hat2⟩ : ∃ z : Nat, (off : Int) + (k : Int) = (z : Int) ∧ off + k = z := ⟨off + k, by omega, rfl⟩
        have HAT := Lib.hid hat2
        have hat3 : at_ < s.rd + 2048 := by omega
        have hat4 : at_ ≤ 1099511628288 := by omega
        clear hat2
        have c0 : wr.cell? ⟨b, 0, none⟩ = some (.int .u64 s.rd) := by rw [cell_at HM.out.blk, HM.out.c0]
        have c5 : wr.cell? ⟨b, 2052, none⟩ = some (.pointer (some ⟨c, 0, none⟩)) := by rw [cell_at HM.out.blk, HM.out.c5]
        by_cases h1 : s.rd ≤ at_
        · cases hmm : mem xs at_
          · obtain ⟨m, hm, hm2, hm3⟩ : ∃ m : Nat, (at_ : Int).tmod 2048 = (m : Int) ∧ at_ % 2048 = m ∧ m < 2048 := ⟨at_ % 2048, by rw [Int.tmod_eq_emod_of_nonneg (by omega)]; omega, rfl, by omega⟩
            have HMM := Lib.hid hm2
            clear hm2
            go_wp2_with fail
            refine (shas_mem c 2048 og xs at_ _ (by exact HM.out.came) hmm).mono ?_
            rintro e w2 ⟨rfl, hb⟩
            have HM2 := Lib.hid (HM.out.later hb)
            clear hb HM c0 c5
            obtain ⟨u, hu⟩ : ∃ u, cs[4 + m]? = some u := ⟨_, Array.getElem?_eq_getElem (by rw [HM2.out.size]; omega)⟩
            have e0 : w2.cell? ⟨b, 4 + m, none⟩ = some u := by rw [cell_at HM2.out.blk, hu]
            have e1 := free_at HM2.out.blk (4 + m)
            clear hu
            go_wp2_with fail
            go_roundw
            case rel =>
              obtain ⟨cs2, h2⟩ := HM2.out.store HI.out HO.out.len HNE.out HX.out HAT.out h1 hat3 hmm
              rw [HMM.out] at h2
              exact ⟨k + 1, by go_num, by omega, cs2, h2⟩
            case measure => simp [intOf]; omega
          · go_wp2_with fail
            refine (shas_mem c 2048 og xs at_ _ (by exact HM.out.came) hmm).mono ?_
            rintro e w2 ⟨rfl, hb⟩
            have HM2 := Lib.hid ((HM.out.keep_came HI.out HX.out HAT.out h1 hmm).later hb)
            clear hb HM c0 c5
            go_wp2_with fail
            go_roundw
            case rel => exact ⟨k + 1, by go_num, by omega, cs, HM2.out⟩
            case measure => simp [intOf]; omega
        · go_wp2_with fail
          go_roundw
          case rel => exact ⟨k + 1, by go_num, by omega, cs, HM.out.keep_read HX.out HAT.out (by omega)⟩
          case measure => simp [intOf]; omega
      · obtain rfl : k = len := by omega
        have c5 : wr.cell? ⟨b, 2052, none⟩ = some (.pointer (some ⟨c, 0, none⟩)) := by rw [cell_at HM.out.blk, HM.out.c5]
        have hfew := HI.out.few HO.out
        go_wp2_with fail
        refine (add_any c 2048 og xs off E _ (by exact HM.out.came) (by omega) (by omega) (by omega)).mono ?_
        rintro e w2 ⟨rfl, ht⟩
        have HPO := Lib.hid (IB.put_ok HO.out (f := f) (by rw [HN.out]; exact HE3.out) HB.out)
        have hres : ∃ ys, (if off < E ∧ E ≤ 4611686018427387904 then addL 2048 xs off E else xs) = ys ∧ CameIs (s.put off d f) ys := came_put HI.out HO.out (by rw [HN.out]; exact HE.out) (by omega)
        obtain ⟨ys, hys, hcy⟩ := hres
        rw [hys] at ht
        obtain ⟨og2, hm2, hne2⟩ := HM.out.turned HNE.out ht
        have HM2 := Lib.hid hm2
        have HN2 := Lib.hid (show c ≠ b ∧ og2 ≠ some b from ⟨HNE.out.1, hne2⟩)
        have HCY := Lib.hid hcy
        clear ht hys hcy hm2 hne2 HM c5 hfew
        have e1 : w2.cell? ⟨b, 1, none⟩ = some (.int .u64 s.hi) := by rw [cell_at HM2.out.blk, HM2.out.c1]
        have e2 : w2.cell? ⟨b, 2, none⟩ = some (.int .u64 s.fin) := by rw [cell_at HM2.out.blk, HM2.out.c2]
        have e3 : w2.cell? ⟨b, 3, none⟩ = some (.bool s.kn) := by rw [cell_at HM2.out.blk, HM2.out.c3]
        have f1 := free_at HM2.out.blk 1
        have f2 := free_at HM2.out.blk 2
        have f3 := free_at HM2.out.blk 3
        by_cases hmx : s.hi < E
        all_goals cases f
        all_goals go_wp2_with fail
        all_goals go_ret
        all_goals refine ⟨rfl, ?_⟩
        all_goals exact AddMid.fin (E := E) (by rw [HN.out]; exact HM2.out) HN2.out HCY.out HPO.out (by rw [HN.out]; exact HE.out) (by omega)
end Go.Proofs.Ytebiebcpdjipjaa
