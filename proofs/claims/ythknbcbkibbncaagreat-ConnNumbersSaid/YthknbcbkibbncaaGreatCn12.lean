/- DERIVED. slices.Replace taken whole does what the evaluator says. -/
import Derived.Test.YthknbcbkibbncaaGreatCn5
import Derived.Test.YthknbcbkibbncaaGreatCn9
import Derived.Test.YthknbcbkibbncaaGreatCn10
import Derived.Test.YthknbcbkibbncaaGreatCn11
set_option linter.all false
set_option linter.unusedVariables false
namespace Go.Proofs.YthknbcbkibbncaaGreat
namespace Ev
open Go.RowKit
theorem nat64_vr {β : Id → CA} {D : Id → Prop} {x : AV} {n : Nat} {X : Value} (h : nat64 x = some n) (hx : VR β D x X) : X = .int .i64 n := by
  unfold nat64 at h
  split at h
  · cases h
    simp only [VR] at hx
    exact hx
  · cases h
theorem rd_how {id : Id} {lo m : Nat} {l : List AV} {s s' : S} (h : M.rd id lo m s = some (l, s')) : (m = 0 ∧ l = []) ∨ ∃ k, s.h id = some k ∧ lo + m ≤ k.c.length ∧ l = (k.c.drop lo).take m := by
  unfold M.rd at h
  cases h0 : Nat.beq m 0 <;> rw [h0] at h <;> simp only at h
  · split at h
    · cases h
    · rename_i k hk
      split at h
      · rename_i hle
        cases h
        exact .inr ⟨k, hk, Nat.le_of_ble_eq_true hle, rfl⟩
      · cases h
  · obtain ⟨rfl, rfl⟩ := pure_some h
    exact .inl ⟨Nat.eq_of_beq_eq_true h0, rfl⟩
theorem put_put (h : Heap) (i : Id) (b : Option Blk) : Heap.put (Heap.put h i none) i b = Heap.put h i b := by
  funext j
  unfold Heap.put
  by_cases e : j.num = i.num
  · rw [if_pos e, if_pos e]
  · rw [if_neg e, if_neg e, if_neg e]
theorem repl_end {β : Id → CA} {D : Id → Prop} {B : Nat} {h : Heap} {W w w' : World} (hr : Rel β D B W h w) {id nid : Id} (hdn : ¬ D nid) {og : Option Nat}
    (hog : ∀ g, og = some g → h id ≠ none ∧ g = (β id).blk) {ys : List Rg} {l : List AV} (hl : VRs β D l (flat encR ys)) (h1 : ∀ v ∈ l, v.one = true) (hy : ys ≠ []) {z : Zf} (hzm : z.m = none) (hzs : z.s = false) (hzt : z.t = false)
    {e : Ending} (hR : Repl w og ys e w') :
    ∃ β' D' V, e = .returned V ∧ Ext β D β' D' nid.num (nid.num + 1) ∧ Rel β' D' B W (Heap.put (Heap.put h id none) nid (some ⟨z, l⟩)) w' ∧ VR β' D' (.so nid 0 ys.length ys.length 2) V := by
  obtain ⟨v', og', E, rfl, hs, hg, hu⟩ := hR
  rcases hs with ⟨_, e, _⟩ | ⟨g, zs, rfl, rfl, hrow, hcap⟩
  · exact absurd e hy
  have hid : ∀ g, og = some g → B ≤ g := fun g e => by
    obtain ⟨a, b⟩ := hog g e
    rw [b]
    cases hk : h id with
    | none => exact absurd hk a
    | some k => exact hr.hr.old id (hr.hr.live id k hk).1
  have hBg : B ≤ g := by
    rcases hg with e | ⟨g', e, hb⟩
    · exact hid g e.symm
    · cases e
      exact Nat.le_trans hr.hr.size hb
  have hsize : (flat encR (ys ++ zs)).toArray.size = (ys.length + zs.length) * 2 := by simp [flat_length encR_len]
  have hll : l.length = (flat encR ys).length := hl.length.symm
  have hm := HR.moved hr.hr (id := id) (nid := nid) (w' := w') hdn (a := ⟨g, 0, (ys.length + zs.length) * 2⟩) (k := ⟨z, l⟩) hzm
    ⟨(flat encR (ys ++ zs)).toArray, E, (0, 0), hrow, hsize, by rw [hzs]; rfl, ⟨by rw [hsize, hll, flat_length encR_len]; simp only; omega, h1, fun j v hv => by
        obtain ⟨V, hV, hvr⟩ := hl.get j v hv
        refine ⟨V, ?_, hvr⟩
        have hj : j < (flat encR ys).length := (List.getElem?_eq_some_iff.1 hV).1
        simp only [Nat.zero_add, List.getElem?_toArray, flat_append]
        rw [List.getElem?_append_left hj]
        exact hV⟩, fun _ => rfl, fun e => by rw [hzt] at e; cases e⟩ hBg
    (fun j kk hk hne => by
      obtain ⟨hdj, hlj⟩ := hr.hr.live j kk hk
      obtain ⟨_, hb⟩ := hlj.there
      have hlt := heap_lt hb
      have hno : ∀ g0, og = some g0 → (β j).blk ≠ g0 := fun g0 e => by
        obtain ⟨a, b⟩ := hog g0 e
        rw [b]
        exact fun x => hne (hr.hr.inj j id (by rw [hk]; simp) a x)
      refine ⟨?_, hu.block _ hlt fun e => hno _ e rfl⟩
      rcases hg with e | ⟨g', e, hb'⟩
      · exact hno g e.symm
      · cases e
        simp only
        omega) hu.size
  refine ⟨_, _, _, rfl, named_ext β _ hdn, ⟨hm, Upd.onto hr.bel hu hr.hr.size fun k hk e => ?_⟩, ?_⟩
  · have := hid k e
    omega
  · simp only [VR]
    rw [named_same]
    refine ⟨by simp, Nat.le_refl _, 0, ys.length + zs.length, rfl, ⟨by omega, hcap⟩, ?_, ?_⟩
    · simp
    · first | trivial | (simp only; omega) | omega

theorem replOk : OwnOk Tryz.prog replF 0 383 := by
  intro l s v s' h β D B W w L hL hr hf
  match l, hL, h with
  | [], _, h => simp only [replF, M.no] at h; cases h
  | [_], _, h => simp only [replF, M.no] at h; cases h
  | [_, _], _, h => simp only [replF, M.no] at h; cases h
  | [_, _, _], _, h => simp only [replF, M.no] at h; cases h
  | _ :: _ :: _ :: _ :: _ :: _, _, h => simp only [replF, M.no] at h; cases h
  | [sv, iv, jv, ev], hL, h =>
    simp only [VRs] at hL
    obtain ⟨S, _, rfl, hS, I, _, rfl, hI, J, _, rfl, hJ, V, _, rfl, hV, rfl⟩ := hL
    simp only [replF] at h
    cases ev <;> first | (simp only [replV, M.no] at h; cases h; done) | skip
    rename_i vid off n c
    simp only [replV] at h
    have h0 := ifB_some h
    clear h
    obtain ⟨hg, h⟩ := h0
    have h0 := ofO_some h
    clear h
    obtain ⟨i, hi, h⟩ := h0
    have h0 := ofO_some h
    clear h
    obtain ⟨j, hj, h⟩ := h0
    have h0 := bind_some h
    clear h
    obtain ⟨zv, u1, h1, h⟩ := h0
    have h0 := ifB_some h
    clear h
    obtain ⟨hz, h⟩ := h0
    have h0 := bind_some h
    clear h
    obtain ⟨vs, u2, h2, h⟩ := h0
    obtain rfl := nat64_vr hi hI
    obtain rfl := nat64_vr hj hJ
    simp only [Bool.and_eq_true] at hg hz
    obtain rfl := Nat.eq_of_beq_eq_true hg.1
    obtain rfl := Nat.eq_of_beq_eq_true hg.2.1
    obtain rfl := Nat.eq_of_beq_eq_true hg.2.2
    obtain ⟨⟨z1, z2⟩, z3, z4⟩ := hz
    have z2' := Nat.eq_of_beq_eq_true z2
    have z1' : zv.1.s = false := by simpa using z1
    obtain ⟨e1, e2, kv, hkv, e3, e4, ekm⟩ := ends_ok h1
    rw [← e3] at z1' z3 z4
    obtain ⟨e5, e6, e7, _⟩ := rd_ok (w := w) (by rw [e1]; exact hr.hr) h2
    have hzk : Zok kv.z (β vid) kv.c.length := by obtain ⟨_, _, _, _, _, _, _, _, x⟩ := hr.hr.cells hkv ekm; exact x
    have hb0 := hzk.b z3
    have ht0 := hzk.t z4
    obtain ⟨rv, Ev, hrowv, hlenv, _, hcellsv⟩ := row_of hr.hr hkv ekm z1' z3 (m := 1) (by omega)
    obtain ⟨r, rfl⟩ : ∃ r, rv = [r] := by
      match rv, hlenv with
      | [r], _ => exact ⟨r, rfl⟩
    have hvs : vs = kv.c.take (1 * 2) := by
      rcases rd_how h2 with ⟨x, _⟩ | ⟨k, hk, _, e⟩
      · cases x
      · rw [e1, hkv] at hk
        cases hk
        simpa using e
    have hvv : VRs β D vs (flat encR [r]) := by
      rw [hvs]
      exact take_vrs hcellsv (n := 1) (by omega)
    have hvo : ∀ v ∈ vs, v.one = true := fun v hv => hcellsv.one v (List.mem_of_mem_take (by rw [hvs] at hv; exact hv))
    have hro : Go.Proofs.YthknbcbkibbncaaGreat.oneR r := take_one hcellsv (n := 1) (by omega) r (by simp)
    simp only [VR] at hV
    obtain ⟨hdv, rfl⟩ := hV
    rw [hb0]
    have hh : u2.h = s.h := by rw [e5, e1]
    have hn : u2.n = s.n := by rw [e6, e2]
    have hr2 : Rel β D B W u2.h w := by rw [hh]; exact hr
    cases sv <;> first | (simp only [replB, M.no] at h; cases h; done) | skip
    · simp only [replB] at h
      have h0 := ifB_some h
      clear h
      obtain ⟨hg, h⟩ := h0
      have h0 := bind_some h
      clear h
      obtain ⟨nid, u3, h3, h⟩ := h0
      obtain ⟨rfl, rfl⟩ := pure_some h
      simp only [Bool.and_eq_true] at hg
      obtain rfl := Nat.eq_of_beq_eq_true hg.1
      obtain rfl := Nat.eq_of_beq_eq_true hg.2
      obtain ⟨rfl, n2, n3⟩ := new_ok hr2.hr h3
      simp only [VR] at hS
      subst hS
      have hdn : ¬ D u2.n := hf _ (by rw [hn]; exact Nat.le_refl _) (by omega)
      refine (replace_any (E := Ev) (.slice none 0 0) none [] 0 0 (β vid).blk r w (.inl ⟨rfl, rfl, rfl⟩) (by simp) hro (Nat.le_refl _) (Nat.le_refl _) hrowv (by simp) (by simp)).mono fun e w' hR => ?_
      obtain ⟨β', D', V, x1, x2, x3, x4⟩ := repl_end hr2 (id := u2.n) hdn (by simp) (l := vs) (by simpa using hvv) hvo (by simp) (z := (zc false true false)) rfl rfl rfl hR
      rw [put_put] at x3
      exact ⟨β', D', V, x1, by rw [n2, ← hn]; exact x2, by rw [n3]; exact x3, x4⟩
    · rename_i id off n q w2
      simp only [replB] at h
      have h0 := ifB_some h
      clear h
      obtain ⟨hg, h⟩ := h0
      have h0 := bind_some h
      clear h
      obtain ⟨zz, u3, h3, h⟩ := h0
      have h0 := ifB_some h
      clear h
      obtain ⟨hz2, h⟩ := h0
      have h0 := bind_some h
      clear h
      obtain ⟨old, u4, h4, h⟩ := h0
      have h0 := bind_some h
      clear h
      obtain ⟨nid, u5, h5, h⟩ := h0
      obtain ⟨rfl, rfl⟩ := pure_some h
      simp only [Bool.and_eq_true] at hg hz2
      obtain ⟨⟨⟨g1, g2⟩, g3⟩, g4, g5, g6, g7⟩ := hg
      obtain rfl := Nat.eq_of_beq_eq_true g1
      obtain rfl := Nat.eq_of_beq_eq_true g3
      have g2' : 1 ≤ q := Nat.le_of_ble_eq_true g2
      have g4' : i ≤ j := Nat.le_of_ble_eq_true g4
      have g5' : j ≤ n := Nat.le_of_ble_eq_true g5
      have g6' : n ≤ 1048576 := Nat.le_of_ble_eq_true g6
      have hne : id ≠ vid := fun e => by subst e; simp at g7
      have q1 : zz.s = false := by simpa using hz2.1
      obtain ⟨k1, k2, k, hk, rfl, ekk⟩ := shared_ok h3
      obtain ⟨m1, m2, m3, _⟩ := rd_ok (w := w) (by rw [k1]; exact hr2.hr) h4
      obtain ⟨rfl, n2, k', hk', hle, _, n3⟩ := over_ok h5
      rw [m1, k1, hk] at hk'
      cases hk'
      have hold : n * 2 ≤ k.c.length ∧ old = k.c.take (n * 2) := by
        rcases rd_how h4 with ⟨x, y⟩ | ⟨k', hk', y, e⟩
        · rw [x, y]; simp
        · rw [k1, hk] at hk'
          cases hk'
          exact ⟨by omega, by simpa using e⟩
      obtain ⟨hnk, rfl⟩ := hold
      simp only [VR] at hS
      obtain ⟨hdi, hlk, x, cap, rfl, ⟨hqc, hcm⟩, hx, hlim⟩ := hS
      obtain rfl : x = (β id).base + 0 := hx.resolve_left (by omega)
      have hzk2 : Zok k.z (β id) k.c.length := by rw [hh] at hk; obtain ⟨_, _, _, _, _, _, _, _, x⟩ := hr.hr.cells hk ekk; exact x
      have hb2 := hzk2.b hz2.2
      obtain ⟨rs, E, hrow, hlen, _, hcells⟩ := row_of hr2.hr hk ekk q1 hz2.2 (m := cap) (by omega)
      have hdn : ¬ D u4.n := hf _ (by rw [m2, k2, hn]; exact Nat.le_refl _) (by omega)
      have hxl : (rs.take n).length = n := by rw [List.length_take, hlen]; omega
      rw [hb2]
      refine (replace_any (E := E) (E' := Ev) (.slice (some ⟨(β id).blk, 0 + 0, none⟩) n cap) (some (β id).blk) (rs.take n) i j (β vid).blk r w
        (.inr ⟨_, rs.drop n, rfl, by rw [hxl, List.length_drop, hlen]; congr 1; omega, by rw [List.take_append_drop]; exact hrow, by rw [hxl, List.length_drop, hlen]; omega⟩)
        (take_one hcells hnk) hro g4' (by rw [hxl]; exact g5') hrowv
        (fun e => hne (hr2.hr.inj id vid (by rw [hk]; simp) (by rw [hh, hkv]; simp) (by simpa using e))) (by rw [hxl]; omega)).mono fun e w' hR => ?_
      have hyl : ((rs.take n).take i ++ r :: (rs.take n).drop j).length = i + 1 + (n - j) := by
        rw [List.length_append, List.length_cons, List.length_take, List.length_drop, hxl]; omega
      have hvr : VRs β D ((k.c.drop 0).take (i * 2) ++ (vs ++ (k.c.take (n * 2)).drop (j * 2))) (flat encR ((rs.take n).take i ++ r :: (rs.take n).drop j)) := by
        rw [flat_append, flat_cons]
        refine VRs.append ?_ (VRs.append ?_ ?_)
        · rw [List.take_take, Nat.min_eq_left (by omega), List.drop_zero]
          exact take_vrs hcells (by omega)
        · have := hvv
          rw [flat_cons, flat_nil, List.append_nil] at this
          exact this
        · rw [← flat_drop encR_len]
          exact (take_vrs hcells hnk).drop _
      have hone : ∀ v ∈ (k.c.drop 0).take (i * 2) ++ (vs ++ (k.c.take (n * 2)).drop (j * 2)), v.one = true := by
        intro v hv
        rcases List.mem_append.1 hv with hv | hv
        · exact hcells.one v (List.mem_of_mem_drop (List.mem_of_mem_take hv))
        · rcases List.mem_append.1 hv with hv | hv
          · exact hvo v hv
          · exact hcells.one v (List.mem_of_mem_take (List.mem_of_mem_drop hv))
      obtain ⟨β', D', V, x1, x2, x3, x4⟩ := repl_end hr2 (id := id) (nid := u4.n) hdn (by rintro g ⟨⟩; exact ⟨by rw [hk]; simp, rfl⟩) hvr hone (by simp) (z := k.z.over 0) rfl q1 rfl hR
      rw [hyl] at x4
      exact ⟨β', D', V, x1, by rw [n2, ← hn, ← k2, ← m2]; exact x2, by rw [n3, m1, k1]; exact x3, x4⟩
end Ev
end Go.Proofs.YthknbcbkibbncaaGreat

/- DERIVED. A run in more memory: the same run, beside what is more. -/
set_option linter.unusedVariables false
namespace Go.Proofs.YthknbcbkibbncaaGreat
namespace Ev
def uni (F h : Heap) : Heap := fun id => match F id with
  | some k => some k
  | none => h id
def wide (F : Heap) (s : S) : S := ⟨s.tr, uni F s.h, s.n, s.r, s.w⟩
def Dis (F h : Heap) : Prop := ∀ id, F id ≠ none → h id = none
def Sim {α : Type} (m : M α) : Prop := ∀ s a s', m s = some (a, s') → s.n.num ≤ s'.n.num ∧ ∀ (F : Heap) (N : Nat), Dis F s.h → (∀ id : Id, F id ≠ none → id.num < s.n.num ∨ N ≤ id.num) → s'.n.num ≤ N →
  m (wide F s) = some (a, wide F s') ∧ Dis F s'.h
theorem uni_none {F h : Heap} {id : Id} (hF : F id = none) : uni F h id = h id := by simp [uni, hF]
theorem Dis.none {F h : Heap} (hd : Dis F h) {id : Id} {k : Blk} (hk : h id = some k) : F id = none := by
  cases hF : F id with
  | none => rfl
  | some q => rw [hd id (by rw [hF]; simp)] at hk; cases hk
theorem uni_some {F h : Heap} (hd : Dis F h) {id : Id} {k : Blk} (hk : h id = some k) : uni F h id = some k := by rw [uni_none (hd.none hk), hk]
theorem uni_put {F h : Heap} {id : Id} (hF : F id = none) (b : Option Blk) : Heap.put (uni F h) id b = uni F (Heap.put h id b) := by
  funext j
  unfold Heap.put uni
  by_cases e : j.num = id.num
  · obtain rfl := Id.num_inj e
    simp [hF]
  · simp only [if_neg e]
theorem Dis.put {F h : Heap} (hd : Dis F h) {id : Id} (hF : F id = .none) (b : Option Blk) : Dis F (Heap.put h id b) := by
  intro j hj
  unfold Heap.put
  by_cases e : j.num = id.num
  · obtain rfl := Id.num_inj e
    exact absurd hF hj
  · rw [if_neg e]; exact hd j hj
theorem wide_logR (F : Heap) (s : S) (id : Id) (lo m : Nat) : M.logR (wide F s) id lo m = wide F (M.logR s id lo m) := by
  obtain ⟨tr, h, n, r, w⟩ := s
  cases tr <;> rfl
theorem wide_logW (F : Heap) (s : S) (id : Id) (lo m : Nat) : M.logW (wide F s) id lo m = wide F (M.logW s id lo m) := by
  obtain ⟨tr, h, n, r, w⟩ := s
  cases tr <;> rfl
theorem Sim.pure {α : Type} (x : α) : Sim (M.pure x) := by
  intro s a s' h
  simp only [M.pure, Option.some.injEq, Prod.mk.injEq] at h
  obtain ⟨rfl, rfl⟩ := h
  exact ⟨Nat.le_refl _, fun F N hd _ _ => ⟨rfl, hd⟩⟩
theorem Sim.no {α : Type} : Sim (M.no : M α) := by
  intro s a s' h
  simp [M.no] at h
theorem Sim.ofO {α γ : Type} {o : Option α} {f : α → M γ} (hf : ∀ x, Sim (f x)) : Sim (M.ofO o f) := by
  cases o with
  | none => exact Sim.no
  | some x => exact hf x
theorem Sim.ifB {α : Type} {b : Bool} {m : M α} (h : Sim m) : Sim (M.ifB b m) := by
  cases b
  · exact Sim.no
  · exact h
theorem Sim.bind {α γ : Type} {m : M α} {f : α → M γ} (hm : Sim m) (hf : ∀ x, Sim (f x)) : Sim (M.bind m f) := by
  intro s y s' h
  simp only [M.bind] at h
  cases hms : m s with
  | none => rw [hms] at h; cases h
  | some xu =>
    obtain ⟨x, u⟩ := xu
    rw [hms] at h
    simp only at h
    obtain ⟨a1, a2⟩ := hm s x u hms
    obtain ⟨b1, b2⟩ := hf x u y s' h
    refine ⟨Nat.le_trans a1 b1, fun F N hd hb hN => ?_⟩
    obtain ⟨c1, c2⟩ := a2 F N hd hb (Nat.le_trans b1 hN)
    obtain ⟨d1, d2⟩ := b2 F N c2 (fun id hid => by rcases hb id hid with h | h; exact .inl (by omega); exact .inr h) hN
    exact ⟨by simp only [M.bind, c1]; exact d1, d2⟩
theorem Sim.apart {α : Type} {m : M α} (hm : Sim m) : Sim (M.apart m) := by
  intro s y s' h
  simp only [M.apart] at h
  cases hms : m ⟨true, s.h, s.n, [], []⟩ with
  | none => rw [hms] at h; cases h
  | some xu =>
    obtain ⟨x, u⟩ := xu
    rw [hms] at h
    simp only at h
    obtain ⟨a1, a2⟩ := hm ⟨true, s.h, s.n, [], []⟩ x u hms
    have key : ∀ F N, Dis F s.h → (∀ id : Id, F id ≠ none → id.num < s.n.num ∨ N ≤ id.num) → u.n.num ≤ N → m ⟨true, uni F s.h, s.n, [], []⟩ = some (x, wide F u) ∧ Dis F u.h := fun F N hd hb hN => a2 F N hd hb hN
    cases htr : s.tr <;> rw [htr] at h <;> simp only at h <;> cases h
    · refine ⟨a1, fun F N hd hb hN => ?_⟩
      obtain ⟨c1, c2⟩ := key F N hd hb hN
      refine ⟨?_, c2⟩
      simp only [M.apart, wide, c1, htr]
    · refine ⟨a1, fun F N hd hb hN => ?_⟩
      obtain ⟨c1, c2⟩ := key F N hd hb hN
      refine ⟨?_, c2⟩
      simp only [M.apart, wide, c1, htr]
theorem Sim.rd (id : Id) (lo m : Nat) : Sim (M.rd id lo m) := by
  unfold M.rd
  cases h0 : Nat.beq m 0
  · intro s a s' h
    simp only at h
    cases hk : s.h id with
    | none => rw [hk] at h; cases h
    | some k =>
      rw [hk] at h
      simp only at h
      cases hb : Nat.ble (lo + m) k.c.length <;> rw [hb] at h <;> simp only at h <;> cases h
      obtain ⟨l1, l2⟩ := logR_h s id lo m
      refine ⟨by rw [l2]; exact Nat.le_refl _, fun F N hd _ _ => ⟨?_, by rw [l1]; exact hd⟩⟩
      have hu : (wide F s).h id = some k := uni_some hd hk
      simp only [hu, hb, wide_logR]
  · exact Sim.pure _
theorem Sim.shared (id : Id) : Sim (M.shared id) := by
  intro s a s' h
  unfold M.shared at h
  cases hk : s.h id with
  | none => rw [hk] at h; cases h
  | some k =>
    rw [hk] at h
    simp only at h
    cases hm : k.z.m with
    | some x => rw [hm] at h; cases h
    | none =>
      rw [hm] at h
      simp only at h
      cases h
      obtain ⟨l1, l2⟩ := logR_h s id k.c.length 1
      refine ⟨by rw [l2]; exact Nat.le_refl _, fun F N hd _ _ => ⟨?_, by rw [l1]; exact hd⟩⟩
      have hu : (wide F s).h id = some k := uni_some hd hk
      simp only [M.shared, hu, hm, wide_logR]
theorem Sim.ends (id : Id) : Sim (M.ends id) := by
  intro s a s' h
  unfold M.ends at h
  cases hk : s.h id with
  | none => rw [hk] at h; cases h
  | some k =>
    rw [hk] at h
    simp only at h
    cases hm : k.z.m with
    | some x => rw [hm] at h; cases h
    | none =>
      rw [hm] at h
      simp only at h
      cases h
      obtain ⟨l1, l2⟩ := logR_h s id k.c.length 1
      refine ⟨by rw [l2]; exact Nat.le_refl _, fun F N hd _ _ => ⟨?_, by rw [l1]; exact hd⟩⟩
      have hu : (wide F s).h id = some k := uni_some hd hk
      simp only [M.ends, hu, hm, wide_logR]
theorem Sim.rdM (id : Id) : Sim (M.rdM id) := by
  intro s a s' h
  unfold M.rdM at h
  cases hk : s.h id with
  | none => rw [hk] at h; cases h
  | some k =>
    rw [hk] at h
    simp only at h
    cases hm : k.z.m with
    | none => rw [hm] at h; cases h
    | some x =>
      rw [hm] at h
      simp only at h
      cases h
      obtain ⟨l1, l2⟩ := logR_h s id k.c.length 1
      refine ⟨by rw [l2]; exact Nat.le_refl _, fun F N hd _ _ => ⟨?_, by rw [l1]; exact hd⟩⟩
      have hu : (wide F s).h id = some k := uni_some hd hk
      simp only [M.rdM, hu, hm, wide_logR]
theorem Sim.wrM (id : Id) (l : List AV) : Sim (M.wrM id l) := by
  intro s a s' h
  unfold M.wrM at h
  cases hk : s.h id with
  | none => rw [hk] at h; cases h
  | some k =>
    rw [hk] at h
    simp only at h
    cases hm : k.z.m with
    | none => rw [hm] at h; cases h
    | some x =>
      rw [hm] at h
      simp only at h
      cases h
      obtain ⟨l1, l2⟩ := logR_h ⟨s.tr, Heap.put s.h id (some ⟨⟨k.z.s, k.z.b, k.z.t, some l⟩, k.c⟩), s.n, s.r, s.w⟩ id k.c.length 1
      obtain ⟨l3, l4⟩ := logW_h (M.logR ⟨s.tr, Heap.put s.h id (some ⟨⟨k.z.s, k.z.b, k.z.t, some l⟩, k.c⟩), s.n, s.r, s.w⟩ id k.c.length 1) id k.c.length 1
      refine ⟨by rw [l4, l2]; exact Nat.le_refl _, fun F N hd _ _ => ⟨?_, by rw [l3, l1]; exact hd.put (hd.none hk) _⟩⟩
      have hu : (wide F s).h id = some k := uni_some hd hk
      simp only [M.wrM, hu, hm]
      rw [← wide_logW, ← wide_logR]
      simp only [wide]
      rw [uni_put (hd.none hk)]
theorem Sim.wr (id : Id) (lo : Nat) (l : List AV) : Sim (M.wr id lo l) := by
  unfold M.wr
  cases h0 : l.isEmpty
  · intro s a s' h
    simp only at h
    cases hk : s.h id with
    | none => rw [hk] at h; cases h
    | some k =>
      rw [hk] at h
      simp only at h
      cases hb : Nat.ble (lo + l.length) k.c.length <;> rw [hb] at h <;> simp only at h <;> cases h
      obtain ⟨l1, l2⟩ := logW_h ⟨s.tr, Heap.put s.h id (some ⟨k.z, k.c.take lo ++ (l ++ k.c.drop (lo + l.length))⟩), s.n, s.r, s.w⟩ id lo l.length
      refine ⟨by rw [l2]; exact Nat.le_refl _, fun F N hd _ _ => ⟨?_, by rw [l1]; exact hd.put (hd.none hk) _⟩⟩
      have hu : (wide F s).h id = some k := uni_some hd hk
      simp only [hu, hb]
      rw [← wide_logW]
      simp only [wide]
      rw [uni_put (hd.none hk)]
  · exact Sim.pure _
theorem Sim.new (z : Zf) (l : List AV) : Sim (M.new z l) := by
  intro s a s' h
  unfold M.new at h
  cases hn : s.n.inc with
  | none => rw [hn] at h; cases h
  | some n =>
    rw [hn] at h
    simp only at h
    cases h
    have hnum := Id.inc_num hn
    obtain ⟨l1, l2⟩ := logW_h ⟨s.tr, Heap.put s.h s.n (some ⟨z, l⟩), n, s.r, s.w⟩ s.n 0 (l.length + 1)
    refine ⟨by rw [l2]; simp only; omega, fun F N hd hb hN => ?_⟩
    rw [l2] at hN
    simp only at hN
    have hF : F s.n = none := by
      cases hF : F s.n with
      | none => rfl
      | some q => have := hb s.n (by rw [hF]; simp); omega
    refine ⟨?_, by rw [l1]; exact hd.put hF _⟩
    have hw : (wide F s).n = s.n := rfl
    simp only [M.new, hw, hn]
    rw [← wide_logW]
    simp only [wide]
    rw [uni_put hF]
theorem Sim.over (id : Id) (lo m : Nat) (l : List AV) : Sim (M.over id lo m l) := by
  intro s a s' h
  unfold M.over at h
  cases hk : s.h id with
  | none => rw [hk] at h; cases h
  | some k =>
    rw [hk] at h
    simp only at h
    cases hb : (k.z.m.isNone && Nat.ble (lo + m) k.c.length) <;> rw [hb] at h <;> simp only at h
    · cases h
    cases hn : s.n.inc with
    | none => rw [hn] at h; cases h
    | some n =>
      rw [hn] at h
      simp only at h
      cases h
      have hnum := Id.inc_num hn
      have g1 := fun (u : S) => logW_h (M.logW (M.logR u id 0 (k.c.length + 1)) id 0 (k.c.length + 1)) s.n 0 (m + l.length + 1)
      have g2 := fun (u : S) => logW_h (M.logR u id 0 (k.c.length + 1)) id 0 (k.c.length + 1)
      have g3 := fun (u : S) => logR_h u id 0 (k.c.length + 1)
      refine ⟨by rw [(g1 _).2, (g2 _).2, (g3 _).2]; simp only; omega, fun F N hd hbd hN => ?_⟩
      rw [(g1 _).2, (g2 _).2, (g3 _).2] at hN
      simp only at hN
      have hF : F s.n = none := by
        cases hF : F s.n with
        | none => rfl
        | some q => have := hbd s.n (by rw [hF]; simp); omega
      refine ⟨?_, by rw [(g1 _).1, (g2 _).1, (g3 _).1]; exact (hd.put (hd.none hk) _).put hF _⟩
      have hu : (wide F s).h id = some k := uni_some hd hk
      have hw : (wide F s).n = s.n := rfl
      simp only [M.over, hu, hb, hw, hn]
      rw [← wide_logW, ← wide_logW, ← wide_logR]
      simp only [wide]
      rw [uni_put (hd.none hk), uni_put hF]
theorem Sim.firstL (w n : Nat) (v : AV) : Sim (firstL w n v) := by
  cases v <;> simp only [Ev.firstL] <;> first | exact Sim.pure _ | exact Sim.rd _ _ _ | exact Sim.ifB (Sim.pure _) | exact Sim.no
theorem Sim.grow (z : Bool) (w : Nat) (s : AV) (n : Nat) (new : List AV) : Sim (grow z w s n new) := by
  cases s <;> simp only [Ev.grow] <;> first | exact Sim.no | skip
  · cases Nat.beq n 0
    · exact Sim.bind (Sim.new _ _) fun _ => Sim.pure _
    · exact Sim.pure _
  · cases Nat.ble _ _
    · exact Sim.ifB (Sim.bind (Sim.rd _ _ _) fun _ => Sim.bind (Sim.new _ _) fun _ => Sim.pure _)
    · exact Sim.bind (Sim.wr _ _ _) fun _ => Sim.pure _
  · refine Sim.ifB ?_
    cases Nat.ble _ _
    · exact Sim.ifB (Sim.bind (Sim.over _ _ _ _) fun _ => Sim.pure _)
    · exact Sim.bind (Sim.wr _ _ _) fun _ => Sim.pure _
theorem Sim.cpyF (w : Nat) (d x : AV) : Sim (cpyF w d x) := by
  refine Sim.ofO fun m => ?_
  cases d <;> first
    | exact Sim.no
    | exact Sim.pure _
    | exact Sim.bind (Sim.firstL _ _ _) fun _ => Sim.bind (Sim.wr _ _ _) fun _ => Sim.pure _
theorem Sim.clrF (cs : List AV) (d : AV) : Sim (clrF cs d) := by
  cases d <;> first
    | exact Sim.no
    | exact Sim.pure _
    | exact Sim.bind (Sim.wr _ _ _) fun _ => Sim.pure _
theorem Sim.eqP (i : Id) (p : Nat) (j : Id) (q : Nat) : Sim (eqP i p j q) := by
  unfold Ev.eqP
  cases Nat.beq _ _
  · exact Sim.bind (Sim.shared _) fun _ => Sim.bind (Sim.shared _) fun _ => Sim.ifB (Sim.pure _)
  · exact Sim.pure _
theorem Sim.eqK (kd : Nat) (x y : AV) : Sim (eqK kd x y) := by
  unfold Ev.eqK
  split
  · cases x <;> first | exact Sim.no | (cases y <;> first | exact Sim.no | exact Sim.pure _)
  · cases x <;> first | exact Sim.no | (cases y <;> first | exact Sim.no | exact Sim.pure _ | exact Sim.eqP _ _ _ _)
  · cases x <;> first | exact Sim.no | (cases y <;> first | exact Sim.no | exact Sim.pure _)
  · cases x <;> first | exact Sim.no | (cases y <;> first | exact Sim.no | exact Sim.pure _)
  · cases x <;> first | exact Sim.no | skip
    cases y <;> first | exact Sim.no | skip
    unfold Ev.eqG
    dsimp only
    cases Nat.beq _ _
    · exact Sim.no
    · exact Sim.ofO fun _ => Sim.pure _
theorem Sim.strF (o : BinOp) (x : List Nat) (y : AV) : Sim (strF o x y) := by
  cases y <;> first | exact Sim.no | skip
  cases o <;> first | exact Sim.no | exact Sim.pure _ | exact Sim.ifB (Sim.pure _)
theorem Sim.intF (o : BinOp) (k : IntKind) (x : Int) (k' : IntKind) (y : Int) : Sim (intF o k x k' y) := by
  cases o <;> first | exact Sim.ofO fun _ => Sim.pure _ | exact Sim.ifB (Sim.ofO fun _ => Sim.pure _)
theorem Sim.binF (o : BinOp) (x y : AV) : Sim (binF o x y) := by
  cases x <;> first | exact Sim.no | exact Sim.strF _ _ _ | skip
  cases y <;> first | exact Sim.no | exact Sim.intF _ _ _ _ _
theorem Sim.cvtL (l : List AV) : Sim (cvtL l) := Sim.ofO fun _ => Sim.pure _
theorem Sim.cvtF (x : AV) : Sim (cvtF x) := by
  cases x <;> first | exact Sim.no | exact Sim.pure _ | exact Sim.bind (Sim.rd _ _ _) fun _ => Sim.cvtL _
theorem Sim.cvmF (x : AV) : Sim (cvmF x) := by
  cases x <;> first | exact Sim.no | exact Sim.bind (Sim.shared _) fun _ => Sim.ifB (Sim.pure _)
theorem Sim.cvbF (x : AV) : Sim (cvbF x) := by
  cases x <;> first | exact Sim.no | exact Sim.ifB (Sim.bind (Sim.new _ _) fun _ => Sim.pure _)
theorem Sim.mksF (z : Bool) (cs : List AV) (l c : AV) : Sim (mksF z cs l c) :=
  Sim.ofO fun _ => Sim.ofO fun _ => Sim.ifB (Sim.bind (Sim.new _ _) fun _ => Sim.pure _)
theorem Sim.ixaF (n w : Nat) (x i : AV) : Sim (ixaF n w x i) := Sim.ofO fun _ => by
  cases x <;> first | exact Sim.no | exact Sim.ifB (Sim.pure _)
theorem Sim.ixsF (w : Nat) (x i : AV) : Sim (ixsF w x i) := Sim.ofO fun _ => by
  cases x <;> first | exact Sim.no | exact Sim.ifB (Sim.pure _)
theorem Sim.ldF (x : AV) : Sim (ldF x) := by
  cases x <;> first | exact Sim.no | skip
  refine Sim.bind (Sim.rd _ _ _) fun l => ?_
  split
  · exact Sim.pure _
  · exact Sim.no
theorem Sim.ldnF (m : Nat) (x : AV) : Sim (ldnF m x) := by
  cases x <;> first | exact Sim.no | exact Sim.bind (Sim.rd _ _ _) fun _ => Sim.pure _
theorem Sim.stF (m : Nat) (x v : AV) : Sim (stF m x v) := by
  cases x <;> first | exact Sim.no | exact Sim.ofO fun _ => Sim.ifB (Sim.bind (Sim.wr _ _ _) fun _ => Sim.pure _)
theorem Sim.fadF (off : Nat) (x : AV) : Sim (fadF off x) := by
  cases x <;> first | exact Sim.no | exact Sim.pure _
theorem Sim.lkF (q : Option Nat) (z : AV) (ok : Bool) (x k : AV) : Sim (lkF q z ok x k) := by
  refine Sim.ifB ?_
  cases x <;> first
    | exact Sim.no
    | exact Sim.pure _
    | exact Sim.bind (Sim.rdM _) fun l => Sim.ofO fun nl => Sim.ofO fun r => by cases r <;> exact Sim.pure _
theorem Sim.mupF (q : Option Nat) (x k v : AV) : Sim (mupF q x k v) := by
  refine Sim.ifB ?_
  cases x <;> first
    | exact Sim.no
    | exact Sim.bind (Sim.rdM _) fun l => Sim.ofO fun nl => Sim.ofO fun r => Sim.bind (Sim.wrM _ _) fun _ => Sim.pure _
theorem Sim.menF (q : Option Nat) (z x k : AV) : Sim (menF q z x k) := by
  refine Sim.ifB ?_
  cases x <;> first
    | exact Sim.no
    | exact Sim.bind (Sim.rdM _) fun l => Sim.ofO fun nl => Sim.ofO fun r => by cases r <;> exact Sim.bind (Sim.wrM _ _) fun _ => Sim.pure _
theorem Sim.mesF (x b v : AV) : Sim (mesF x b v) := by
  cases x <;> first
    | exact Sim.no
    | exact Sim.bind (Sim.rdM _) fun l => Sim.ofO fun nl => Sim.ofO fun r => Sim.bind (Sim.wrM _ _) fun _ => Sim.pure _
theorem Sim.delF (q : Option Nat) (x k : AV) : Sim (delF q x k) := by
  refine Sim.ifB ?_
  cases x <;> first
    | exact Sim.no
    | exact Sim.pure _
    | exact Sim.bind (Sim.rdM _) fun l => Sim.ofO fun nl => Sim.ofO fun r => by
        cases r
        · exact Sim.pure _
        · exact Sim.bind (Sim.wrM _ _) fun _ => Sim.pure _
theorem Sim.lnmF (x : AV) : Sim (lnmF x) := by
  cases x <;> first
    | exact Sim.no
    | exact Sim.pure _
    | exact Sim.bind (Sim.rdM _) fun l => Sim.ofO fun nl => Sim.pure _
theorem Sim.fldF (off m : Nat) (ag : Bool) (x : AV) : Sim (fldF off m ag x) := by
  unfold Ev.fldF
  cases x <;> first | exact Sim.no | skip
  rename_i xs
  dsimp only
  cases Nat.ble (off + m) xs.length
  · exact Sim.no
  · cases ag
    · exact Sim.ofO fun _ => Sim.pure _
    · exact Sim.pure _
theorem Sim.idxF (n w : Nat) (ag : Bool) (x i : AV) : Sim (idxF n w ag x i) := Sim.ofO fun _ => Sim.ifB (Sim.fldF _ _ _ _)
theorem Sim.ixtF (x i : AV) : Sim (ixtF x i) := Sim.ofO fun _ => by
  cases x <;> first | exact Sim.no | exact Sim.ofO fun _ => Sim.pure _
theorem Sim.sapF (n : Nat) (x : AV) : Sim (sapF n x) := by
  cases x <;> first | exact Sim.no | exact Sim.ifB (Sim.pure _)
theorem Sim.mkmF : Sim mkmF := Sim.bind (Sim.new _ _) fun _ => Sim.pure _
theorem Sim.nilF (x : AV) : Sim (nilF x) := by
  cases x <;> first | exact Sim.no | exact Sim.pure _
theorem Sim.extF (x : AV) (j : Nat) : Sim (extF x j) := by
  cases x <;> first | exact Sim.no | exact Sim.ofO fun _ => Sim.pure _
theorem Sim.pickF (c x y : AV) : Sim (pickF c x y) := by
  cases c <;> first | exact Sim.no | skip
  rename_i t
  cases t <;> exact Sim.pure _
theorem Sim.cviF (k : IntKind) (x : AV) : Sim (cviF k x) := by
  cases x <;> first | exact Sim.no | exact Sim.pure _
theorem Sim.cvsF (x : AV) : Sim (cvsF x) := by
  cases x <;> first | exact Sim.no | exact Sim.pure _
theorem Sim.newF (z : Bool) (l : List AV) : Sim (newF z l) := Sim.bind (Sim.new _ _) fun _ => Sim.pure _

structure SimF (F : Fns) : Prop where
  fn : ∀ f l, Sim (F.fn f l)
theorem Sim.callF {F : Fns} (hF : SimF F) (f : AV) (l : List AV) : Sim (callF F f l) := by
  cases f <;> first | exact Sim.no | exact hF.fn _ _
theorem Sim.poR {F : Fns} (hF : SimF F) (o : PO) (e : Env) : Sim (poR o F e) := by
  cases o <;> first
    | exact Sim.pure _
    | exact Sim.pickF _ _ _
    | exact Sim.newF _ _
    | exact Sim.ofO fun _ => Sim.newF _ _
    | exact Sim.ofO fun _ => Sim.pure _
    | exact Sim.ofO fun _ => Sim.bind (Sim.new _ _) fun _ => Sim.pure _
    | exact Sim.ldF _
    | exact Sim.ldnF _ _
    | exact Sim.stF _ _ _
    | exact Sim.nilF _
    | exact Sim.binF _ _ _
    | exact Sim.bind (Sim.eqK _ _ _) fun _ => Sim.pure _
    | exact Sim.cviF _ _
    | exact Sim.cvsF _
    | exact Sim.cvbF _
    | exact Sim.cvtF _
    | exact Sim.cvmF _
    | exact Sim.mksF _ _ _ _
    | exact Sim.fadF _ _
    | exact Sim.ixaF _ _ _ _
    | exact Sim.ixsF _ _ _
    | exact Sim.extF _ _
    | exact Sim.callF hF _ _
    | exact Sim.ofO fun _ => Sim.ifB (Sim.bind (Sim.firstL _ _ _) fun _ => Sim.grow _ _ _ _ _)
    | exact Sim.ofO fun _ => Sim.ifB (Sim.grow _ _ _ _ _)
    | exact Sim.cpyF _ _ _
    | exact Sim.clrF _ _
    | exact Sim.mkmF
    | exact Sim.lkF _ _ _ _ _
    | exact Sim.mupF _ _ _ _
    | exact Sim.delF _ _ _
    | exact Sim.lnmF _
    | exact Sim.menF _ _ _ _
    | exact Sim.mesF _ _ _
    | exact Sim.fldF _ _ _ _
    | exact Sim.idxF _ _ _ _ _
    | exact Sim.ixtF _ _
    | exact Sim.sapF _ _
    | exact Sim.no
theorem Sim.psV {F : Fns} (hF : SimF F) (o : PS) (e : Env) : Sim (psV o F e) := by
  unfold Ev.psV
  cases wanted o.g e
  · exact Sim.pure _
  · exact Sim.poR hF _ _
theorem Sim.psR {F : Fns} (hF : SimF F) (o : PS) (e : Env) : Sim (psR o F e) := Sim.bind (Sim.psV hF o e) fun _ => Sim.pure _
theorem Sim.opsR {F : Fns} (hF : SimF F) : ∀ (ops : List PS) (e : Env), Sim (opsR F ops e)
  | [], e => Sim.pure _
  | o :: l, e => Sim.bind (Sim.psR hF o e) fun e => Sim.opsR hF l e
theorem Sim.drwR {F : Fns} (hF : SimF F) : ∀ (ops : List PS) (ms : List Nat) (acc : List Ft) (i : Nat) (e : Env), Sim (drwR F ops ms acc i e)
  | [], _, _, _, e => Sim.pure _
  | o :: l, [], _, _, _ => Sim.no
  | o :: l, m :: ms, acc, i, e => by
    refine Sim.bind (Sim.apart (Sim.psR hF o e)) fun x => ?_
    cases acc.any _
    · exact Sim.drwR hF l ms _ _ _
    · exact Sim.no
theorem Sim.iter {b : Env → M (Option Ex × Env)} (hb : ∀ e, Sim (b e)) : ∀ (n : Nat) (e : Env), Sim (iter n b e)
  | 0, e => Sim.no
  | n + 1, e => by
    refine Sim.bind (hb e) fun r => ?_
    obtain ⟨ex, e1⟩ := r
    cases ex
    · exact Sim.iter hb n e1
    · exact Sim.pure _
theorem Sim.coR {F : Fns} (hF : SimF F) : ∀ (c : PC) (e : Env), Sim (coR F c e)
  | .skip, e => Sim.pure _
  | .ret, e => Sim.pure _
  | .exit id, e => Sim.pure _
  | .seq x y, e => by
    refine Sim.bind (Sim.coR hF x e) fun r => ?_
    obtain ⟨ex, e1⟩ := r
    cases ex
    · exact Sim.coR hF y e1
    · exact Sim.pure _
  | .cond c x y, e => by
    unfold Ev.coR
    cases arg c e <;> first | exact Sim.no | skip
    rename_i t
    cases t
    · exact Sim.coR hF y e
    · exact Sim.coR hF x e
  | .block id b, e => by
    refine Sim.bind (Sim.coR hF b e) fun r => ?_
    obtain ⟨ex, e1⟩ := r
    cases ex with
    | none => exact Sim.pure _
    | some ex =>
      cases ex with
      | ret => exact Sim.pure _
      | exit j =>
        simp only
        cases Nat.beq j id <;> exact Sim.pure _
  | .loop b, e => Sim.iter (fun e => Sim.coR hF b e) _ _
  | .reg ops, e => Sim.bind (Sim.opsR hF ops e) fun _ => Sim.pure _
  | .drw ops ms, e => Sim.bind (Sim.drwR hF ops ms [] 0 e) fun _ => Sim.pure _
theorem Sim.resL (e : Env) : ∀ l : List PR, Sim (resL e l)
  | [] => Sim.pure _
  | r :: l => by
    cases r
    · exact Sim.bind (Sim.resL e l) fun _ => Sim.pure _
    · exact Sim.bind (Sim.ldF _) fun _ => Sim.bind (Sim.resL e l) fun _ => Sim.pure _
    · exact Sim.bind (Sim.ldnF _ _) fun _ => Sim.bind (Sim.resL e l) fun _ => Sim.pure _
theorem Sim.run {own : Nat → List AV → M AV} (ho : ∀ k l, Sim (own k l)) (X : Nat → Option PF) : ∀ n, SimF (run own X n)
  | 0 => ⟨fun _ _ => Sim.no⟩
  | n + 1 => by
    have ih := Sim.run ho X n
    refine ⟨fun f l => ?_⟩
    show Sim (fnR own X (Ev.run own X n) f l)
    unfold fnR
    split
    · exact Sim.no
    · exact ho _ _
    · refine Sim.bind (Sim.coR ih _ _) fun r => ?_
      split
      · exact Sim.no
      · exact Sim.bind (Sim.resL _ _) fun _ => Sim.pure _
theorem Sim.replB (vid : Id) (i j : Nat) (v : List AV) (s : AV) : Sim (replB vid i j v s) := by
  cases s <;> first
    | exact Sim.no
    | exact Sim.ifB (Sim.bind (Sim.new _ _) fun _ => Sim.pure _)
    | exact Sim.ifB (Sim.bind (Sim.shared _) fun _ => Sim.ifB (Sim.bind (Sim.rd _ _ _) fun _ => Sim.bind (Sim.over _ _ _ _) fun _ => Sim.pure _))
theorem Sim.replV (s i j v : AV) : Sim (replV s i j v) := by
  cases v <;> first
    | exact Sim.no
    | exact Sim.ifB (Sim.ofO fun _ => Sim.ofO fun _ => Sim.bind (Sim.ends _) fun _ => Sim.ifB (Sim.bind (Sim.rd _ _ _) fun _ => Sim.replB _ _ _ _ _))
theorem Sim.replF (k : Nat) (l : List AV) : Sim (replF k l) := by
  match l with
  | [] => exact Sim.no
  | [_] => exact Sim.no
  | [_, _] => exact Sim.no
  | [_, _, _] => exact Sim.no
  | [s, i, j, v] => exact Sim.replV s i j v
  | _ :: _ :: _ :: _ :: _ :: _ => exact Sim.no
theorem Sim.memoF : ∀ (t : List Memo) (l : List AV), Sim (Ev.memoF t l)
  | [], l => Sim.no
  | m :: t, l => by
    simp only [Ev.memoF]
    cases ceqs m.a l with
    | none => exact Sim.memoF t l
    | some b =>
      cases b with
      | false => exact Sim.memoF t l
      | true => exact Sim.pure _
end Ev
end Go.Proofs.YthknbcbkibbncaaGreat

/- DERIVED. Calls answered once by a run of their own, with what they read and leave in memory: taken whole. -/
set_option linter.unusedVariables false
namespace Go.Proofs.YthknbcbkibbncaaGreat
namespace Ev
open Go.RowKit
structure PB where
  id : Id
  b : Blk
noncomputable def layP (l : List PB) (h : Heap) : Heap := match l with
  | [] => h
  | p :: l => Heap.put (layP l h) p.id (some p.b)
noncomputable def dropP (l : List PB) (h : Heap) : Heap := match l with
  | [] => h
  | p :: l => Heap.put (dropP l h) p.id none
noncomputable def heapOf (l : List PB) : Heap := layP l fun _ => none
theorem layP_eq (l : List PB) (h : Heap) (id : Id) : layP l h id = match heapOf l id with
    | some b => some b
    | none => h id := by
  unfold heapOf
  induction l with
  | nil => rfl
  | cons p l ih =>
    simp only [layP, Heap.put]
    by_cases e : id.num = p.id.num
    · simp only [if_pos e]
    · simp only [if_neg e]; exact ih
theorem heapOf_cons (p : PB) (l : List PB) (id : Id) : heapOf (p :: l) id = if id.num = p.id.num then some p.b else heapOf l id := rfl
theorem dropP_eq (l : List PB) (h : Heap) (id : Id) : dropP l h id = match heapOf l id with
    | some _ => none
    | none => h id := by
  induction l with
  | nil => rfl
  | cons p l ih =>
    rw [heapOf_cons]
    simp only [dropP, Heap.put]
    by_cases e : id.num = p.id.num
    · simp only [if_pos e]
    · simp only [if_neg e]; exact ih
theorem heapOf_mem : ∀ {l : List PB} {id : Id} {k : Blk}, heapOf l id = some k → ∃ p ∈ l, p.id = id ∧ p.b = k
  | [], _, _, h => by cases h
  | p :: l, id, k, h => by
    rw [heapOf_cons] at h
    by_cases e : id.num = p.id.num
    · rw [if_pos e] at h
      cases h
      exact ⟨p, by simp, (Id.num_inj e).symm, rfl⟩
    · rw [if_neg e] at h
      obtain ⟨q, hq, h1, h2⟩ := heapOf_mem h
      exact ⟨q, by simp [hq], h1, h2⟩
theorem heapOf_in {p : PB} : ∀ l : List PB, p ∈ l → heapOf l p.id ≠ none := by
  intro l
  induction l with
  | nil => intro h; cases h
  | cons q l ih =>
    intro h
    rw [heapOf_cons]
    by_cases e : p.id.num = q.id.num
    · rw [if_pos e]; simp
    · rw [if_neg e]
      rcases List.mem_cons.1 h with h | h
      · rw [h] at e; exact absurd rfl e
      · exact ih h

/- are values the same -/
def vlF (d : Dg) : Nat := match d with
  | .d0 => 0 | .d1 => 1 | .d2 => 2 | .d3 => 3 | .d4 => 4 | .d5 => 5 | .d6 => 6 | .d7 => 7
noncomputable def idB (i j : Id) : Bool := Nat.beq (Kq.nmQ i) (Kq.nmQ j)
theorem idB_eq {i j : Id} (h : idB i j = true) : i = j := by
  have := Nat.eq_of_beq_eq_true h
  rw [Kq.nmQ_eq, Kq.nmQ_eq] at this
  exact Id.num_inj this
noncomputable def eqA (x y : AV) : Bool := match x with
  | .b a => match y with
    | .b b => match a with
      | true => b
      | false => !b
    | _ => false
  | .i k a => match y with
    | .i k' b => match keq k k' with
      | true => ieq a b
      | false => false
    | _ => false
  | .s a => match y with
    | .s b => eqL a b
    | _ => false
  | .p0 => match y with
    | .p0 => true
    | _ => false
  | .p i o => match y with
    | .p j q => match idB i j with
      | true => Nat.beq o q
      | false => false
    | _ => false
  | .s0 => match y with
    | .s0 => true
    | _ => false
  | .sl i o l c => match y with
    | .sl j q m d => match idB i j with
      | true => Nat.beq o q && (Nat.beq l m && Nat.beq c d)
      | false => false
    | _ => false
  | .so i o l c w => match y with
    | .so j q m d v => match idB i j with
      | true => Nat.beq o q && (Nat.beq l m && (Nat.beq c d && Nat.beq w v))
      | false => false
    | _ => false
  | .f0 => match y with
    | .f0 => true
    | _ => false
  | .f fn a c => match a with
    | [] => match c with
      | [] => match y with
        | .f fn' a' c' => match a' with
          | [] => match c' with
            | [] => Nat.beq fn fn'
            | _ :: _ => false
          | _ :: _ => false
        | _ => false
      | _ :: _ => false
    | _ :: _ => false
  | .i0 => match y with
    | .i0 => true
    | _ => false
  | .m0 => match y with
    | .m0 => true
    | _ => false
  | .m i => match y with
    | .m j => idB i j
    | _ => false
  | _ => false
noncomputable def eqAs (l m : List AV) : Bool := match l with
  | [] => match m with
    | [] => true
    | _ :: _ => false
  | x :: l => match m with
    | [] => false
    | y :: m => match eqA x y with
      | true => eqAs l m
      | false => false
noncomputable def eqV (x y : AV) : Bool := match x with
  | .ag xs => match y with
    | .ag ys => eqAs xs ys
    | _ => false
  | x => eqA x y
noncomputable def eqVs (l m : List AV) : Bool := match l with
  | [] => match m with
    | [] => true
    | _ :: _ => false
  | x :: l => match m with
    | [] => false
    | y :: m => match eqV x y with
      | true => eqVs l m
      | false => false
noncomputable def eqR (x y : AV) : Bool := match x with
  | .tu xs => match y with
    | .tu ys => eqVs xs ys
    | _ => false
  | x => eqV x y
theorem ieq_eq {x y : Int} (h : ieq x y = true) : x = y := by
  rw [ieq_beq] at h
  simpa using h
theorem eqA_eq {x y : AV} (h : eqA x y = true) : x = y := by
  cases x with
  | b a =>
    cases y <;> simp only [eqA] at h <;> first | (cases h; done) | skip
    cases a <;> simp_all
  | i k a =>
    cases y <;> simp only [eqA] at h <;> first | (cases h; done) | skip
    rename_i k' b
    cases hk : keq k k' with
    | false => rw [hk] at h; cases h
    | true => rw [hk] at h; rw [keq_eq hk, ieq_eq h]
  | s a =>
    cases y <;> simp only [eqA] at h <;> first | (cases h; done) | skip
    rw [eqL_ok] at h
    rw [of_decide_eq_true h]
  | p i o =>
    cases y <;> simp only [eqA] at h <;> first | (cases h; done) | skip
    rename_i j q
    cases hi : idB i j with
    | false => rw [hi] at h; cases h
    | true => rw [hi] at h; rw [idB_eq hi, Nat.eq_of_beq_eq_true h]
  | sl i o l c =>
    cases y <;> simp only [eqA] at h <;> first | (cases h; done) | skip
    rename_i j q m d
    cases hi : idB i j with
    | false => rw [hi] at h; cases h
    | true =>
      rw [hi] at h
      simp only [Bool.and_eq_true] at h
      rw [idB_eq hi, Nat.eq_of_beq_eq_true h.1, Nat.eq_of_beq_eq_true h.2.1, Nat.eq_of_beq_eq_true h.2.2]
  | so i o l c w =>
    cases y <;> simp only [eqA] at h <;> first | (cases h; done) | skip
    rename_i j q m d v
    cases hi : idB i j with
    | false => rw [hi] at h; cases h
    | true =>
      rw [hi] at h
      simp only [Bool.and_eq_true] at h
      rw [idB_eq hi, Nat.eq_of_beq_eq_true h.1, Nat.eq_of_beq_eq_true h.2.1, Nat.eq_of_beq_eq_true h.2.2.1, Nat.eq_of_beq_eq_true h.2.2.2]
  | f fn a c =>
    cases a <;> cases c <;> simp only [eqA] at h <;> first | (cases h; done) | skip
    cases y <;> simp only at h <;> first | (cases h; done) | skip
    rename_i fn' a' c'
    cases a' <;> cases c' <;> simp only at h <;> first | (cases h; done) | skip
    rw [Nat.eq_of_beq_eq_true h]
  | m i =>
    cases y <;> simp only [eqA] at h <;> first | (cases h; done) | skip
    rw [idB_eq h]
  | p0 => cases y <;> simp only [eqA] at h <;> first | (cases h; done) | rfl
  | s0 => cases y <;> simp only [eqA] at h <;> first | (cases h; done) | rfl
  | f0 => cases y <;> simp only [eqA] at h <;> first | (cases h; done) | rfl
  | i0 => cases y <;> simp only [eqA] at h <;> first | (cases h; done) | rfl
  | m0 => cases y <;> simp only [eqA] at h <;> first | (cases h; done) | rfl
  | ag xs => cases h
  | tu xs => cases h
theorem eqAs_eq : ∀ {l m : List AV}, eqAs l m = true → l = m
  | [], [], _ => rfl
  | [], _ :: _, h => by cases h
  | _ :: _, [], h => by cases h
  | x :: l, y :: m, h => by
    simp only [eqAs] at h
    cases hx : eqA x y with
    | false => rw [hx] at h; cases h
    | true => rw [hx] at h; rw [eqA_eq hx, eqAs_eq h]
theorem eqV_eq {x y : AV} (h : eqV x y = true) : x = y := by
  cases x with
  | ag xs =>
    cases y <;> simp only [eqV] at h <;> first | (cases h; done) | skip
    rw [eqAs_eq h]
  | _ => exact eqA_eq h
theorem eqVs_eq : ∀ {l m : List AV}, eqVs l m = true → l = m
  | [], [], _ => rfl
  | [], _ :: _, h => by cases h
  | _ :: _, [], h => by cases h
  | x :: l, y :: m, h => by
    simp only [eqVs] at h
    cases hx : eqV x y with
    | false => rw [hx] at h; cases h
    | true => rw [hx] at h; rw [eqV_eq hx, eqVs_eq h]
theorem eqR_eq {x y : AV} (h : eqR x y = true) : x = y := by
  cases x with
  | tu xs =>
    cases y <;> simp only [eqR] at h <;> first | (cases h; done) | skip
    rw [eqVs_eq h]
  | _ => exact eqV_eq h

structure SM where
  a : List AV
  n : Id
  pre : List PB
  r : AV
  n' : Id
  post : List PB
noncomputable def pickS (t : List SM) (l : List AV) (n : Id) : Option SM := match t with
  | [] => none
  | m :: t => match idB m.n n with
    | true => match eqVs m.a l with
      | true => some m
      | false => pickS t l n
    | false => pickS t l n
theorem pickS_some : ∀ {t : List SM} {l : List AV} {n : Id} {m : SM}, pickS t l n = some m → m ∈ t ∧ l = m.a ∧ n = m.n
  | [], _, _, _, h => by cases h
  | q :: t, l, n, m, h => by
    simp only [pickS] at h
    have rest : pickS t l n = some m → m ∈ q :: t ∧ l = m.a ∧ n = m.n := fun h => by
      obtain ⟨h1, h2⟩ := pickS_some h
      exact ⟨by simp [h1], h2⟩
    cases h1 : idB q.n n with
    | false => rw [h1] at h; exact rest h
    | true =>
      rw [h1] at h
      simp only at h
      cases h2 : eqVs q.a l with
      | false => rw [h2] at h; exact rest h
      | true =>
        rw [h2] at h
        cases h
        exact ⟨by simp, (eqVs_eq h2).symm, (idB_eq h1).symm⟩
def SM.fresh (m : SM) (id : Id) : Prop := m.n.num ≤ id.num ∧ id.num < m.n'.num
structure SM.Fits (m : SM) (h : Heap) : Prop where
  le : m.n.num ≤ m.n'.num
  pre : ∀ id k, heapOf m.pre id = some k → h id = some k
  post : ∀ p ∈ m.post, heapOf m.pre p.id ≠ none ∨ m.fresh p.id
noncomputable def SM.over (m : SM) (h : Heap) : Heap := layP m.post (dropP m.pre h)
open Classical in
noncomputable def smF (t : List SM) (l : List AV) : M AV := fun s => match s.tr with
  | true => none
  | false => match pickS t l s.n with
    | none => none
    | some m => if m.Fits s.h then some (m.r, ⟨false, m.over s.h, m.n', s.r, s.w⟩) else none
theorem smF_some {t : List SM} {l : List AV} {s s' : S} {v : AV} (h : smF t l s = some (v, s')) :
    ∃ m, pickS t l s.n = some m ∧ s.tr = false ∧ m.Fits s.h ∧ v = m.r ∧ s' = ⟨false, m.over s.h, m.n', s.r, s.w⟩ := by
  unfold smF at h
  cases htr : s.tr with
  | true => rw [htr] at h; cases h
  | false =>
    rw [htr] at h
    simp only at h
    cases hp : pickS t l s.n with
    | none => rw [hp] at h; cases h
    | some m =>
      rw [hp] at h
      simp only at h
      by_cases hf : m.Fits s.h
      · rw [if_pos hf] at h
        cases h
        exact ⟨m, rfl, rfl, hf, rfl, rfl⟩
      · rw [if_neg hf] at h; cases h
theorem smF_run {t : List SM} {l : List AV} {s : S} {m : SM} (hp : pickS t l s.n = some m) (htr : s.tr = false) (hf : m.Fits s.h) : smF t l s = some (m.r, ⟨false, m.over s.h, m.n', s.r, s.w⟩) := by
  unfold smF
  rw [htr]
  simp only
  rw [hp]
  simp only
  rw [if_pos hf]
theorem SM.over_eq {m : SM} {h : Heap} (id : Id) : m.over h id = match heapOf m.post id with
    | some b => some b
    | none => match heapOf m.pre id with
      | some _ => none
      | none => h id := by
  unfold SM.over
  rw [layP_eq, dropP_eq]
theorem Sim.smF (t : List SM) (l : List AV) : Sim (Ev.smF t l) := by
  intro s a s' h
  obtain ⟨m, hp, htr, hf, rfl, rfl⟩ := smF_some h
  obtain ⟨_, _, hn⟩ := pickS_some hp
  refine ⟨by rw [hn]; exact hf.le, fun F N hd hb hN => ?_⟩
  have hfr : ∀ id, F id ≠ none → heapOf m.pre id = none ∧ heapOf m.post id = none := fun id hF => by
    have h0 := hd id hF
    have hpre : heapOf m.pre id = none := by
      cases hq : heapOf m.pre id with
      | none => rfl
      | some k => rw [hf.pre id k hq] at h0; cases h0
    refine ⟨hpre, ?_⟩
    cases hq : heapOf m.post id with
    | none => rfl
    | some k =>
      obtain ⟨p, hp1, rfl, _⟩ := heapOf_mem hq
      rcases hf.post p hp1 with h1 | h1
      · exact absurd hpre h1
      · rcases hb p.id hF with h2 | h2
        · rw [hn] at h2; have := h1.1; omega
        · have := h1.2; simp only at hN; omega
  have hfit : m.Fits (uni F s.h) := ⟨hf.le, fun id k hk => uni_some hd (hf.pre id k hk), hf.post⟩
  have hover : m.over (uni F s.h) = uni F (m.over s.h) := by
    funext id
    cases hF : F id with
    | none => rw [uni_none hF, SM.over_eq, SM.over_eq, uni_none hF]
    | some q =>
      obtain ⟨e1, e2⟩ := hfr id (by rw [hF]; simp)
      rw [SM.over_eq, e2, e1]
      simp only [uni, hF]
  refine ⟨?_, fun id hF => ?_⟩
  · rw [smF_run (s := wide F s) (m := m) hp htr hfit]
    simp only [wide, hover]
  · obtain ⟨e1, e2⟩ := hfr id hF
    show m.over s.h id = none
    rw [SM.over_eq, e2, e1]
    exact hd id hF
def rangesOf (l : List PB) : List Rng := l.map fun p => ⟨p.id, 0, p.b.c.length + 1⟩
theorem cov_of {l : List PB} {id : Id} {k : Blk} (h : heapOf l id = some k) {j : Nat} (hj : j < k.c.length + 1) : cov (rangesOf l) id j := by
  obtain ⟨p, hp, h1, h2⟩ := heapOf_mem h
  subst h1 h2
  exact ⟨_, List.mem_map.2 ⟨p, hp, rfl⟩, rfl, Nat.zero_le _, by simpa using hj⟩
theorem Loc.smF (t : List SM) (l : List AV) : Loc (Ev.smF t l) := by
  intro s a s' h
  obtain ⟨m, hp, htr, hf, rfl, rfl⟩ := smF_some h
  obtain ⟨_, _, hn⟩ := pickS_some hp
  refine ⟨htr.symm, by rw [hn]; exact hf.le, fun id hid => ?_, fun hfree => ⟨[], rangesOf m.pre ++ rangesOf m.post, ⟨fun h => (by rw [htr] at h; cases h), fun id j hc => ?_, fun u u1 u2 u3 => ?_⟩⟩⟩
  · show m.over s.h id = none ∨ _
    rw [SM.over_eq]
    have hpre : heapOf m.pre id = none := by
      cases hq : heapOf m.pre id with
      | none => rfl
      | some k => rw [hf.pre id k hq] at hid; cases hid
    cases hq : heapOf m.post id with
    | none => left; rw [hpre]; exact hid
    | some k =>
      obtain ⟨p, hp1, rfl, _⟩ := heapOf_mem hq
      rcases hf.post p hp1 with h1 | h1
      · exact absurd hpre h1
      · right; rw [hn]; exact h1
  · rw [cov_append, not_or] at hc
    have key : ∀ H : Heap, (∀ id k, heapOf m.pre id = some k → H id = some k) → (∀ k, heapOf m.post id = some k → heapOf m.pre id = none → H id = none) → look (m.over H) id j = look H id j := fun H h1 h2 => by
      unfold look
      rw [SM.over_eq]
      cases hq : heapOf m.post id with
      | some b =>
        have hj : b.c.length < j := by
          rcases Nat.lt_or_ge b.c.length j with h | h
          · exact h
          · exact absurd (cov_of hq (by omega)) hc.2
        simp only
        rw [if_neg (by omega), if_neg (by omega)]
        cases hr : heapOf m.pre id with
        | some k =>
          have hj' : k.c.length < j := by
            rcases Nat.lt_or_ge k.c.length j with h | h
            · exact h
            · exact absurd (cov_of hr (by omega)) hc.1
          rw [h1 id k hr]
          simp only
          rw [if_neg (by omega), if_neg (by omega)]
        | none => rw [h2 b hq hr]
      | none =>
        simp only
        cases hr : heapOf m.pre id with
        | some k =>
          have hj' : k.c.length < j := by
            rcases Nat.lt_or_ge k.c.length j with h | h
            · exact h
            · exact absurd (cov_of hr (by omega)) hc.1
          rw [h1 id k hr]
          simp only
          rw [if_neg (by omega), if_neg (by omega)]
        | none => rfl
    refine key s.h hf.pre fun k hk hr => ?_
    obtain ⟨p, hp1, rfl, _⟩ := heapOf_mem hk
    rcases hf.post p hp1 with h1 | h1
    · exact absurd hr h1
    · exact hfree p.id (by rw [hn]; exact h1.1) h1.2
  · have hag : ∀ id j, cov (rangesOf m.pre) id j ∨ cov (rangesOf m.post) id j → look u.h id j = look s.h id j := fun id j h => u3 id j (.inr (by rw [cov_append]; exact h))
    have hpre : ∀ id k, heapOf m.pre id = some k → u.h id = some k := fun id k hk => blk_same (hf.pre id k hk) fun j hj => hag id j (.inl (cov_of hk hj))
    have hnew : ∀ id k, heapOf m.post id = some k → heapOf m.pre id = none → u.h id = none ∧ s.h id = none := fun id k hk hr => by
      have hs : s.h id = none := by
        obtain ⟨p, hp1, rfl, _⟩ := heapOf_mem hk
        rcases hf.post p hp1 with h1 | h1
        · exact absurd hr h1
        · exact hfree p.id (by rw [hn]; exact h1.1) h1.2
      refine ⟨?_, hs⟩
      rw [← look_none, hag id 0 (.inr (cov_of hk (by omega))), look_none]
      exact hs
    refine ⟨⟨false, m.over u.h, m.n', u.r, u.w⟩, smF_run (by rw [u2]; exact hp) (u1.trans htr) ⟨hf.le, hpre, hf.post⟩, rfl, htr.symm, fun h => (by rw [htr] at h; cases h), fun id j hc => ?_, fun id j hc => ?_⟩
    · rw [cov_append] at hc
      show look (m.over u.h) id j = look (m.over s.h) id j
      have hsame := hag id j hc
      unfold look at hsame ⊢
      rw [SM.over_eq, SM.over_eq]
      cases heapOf m.post id with
      | some b => rfl
      | none =>
        cases heapOf m.pre id with
        | some k => rfl
        | none => exact hsame
    · rw [cov_append, not_or] at hc
      show look (m.over u.h) id j = look u.h id j
      unfold look
      rw [SM.over_eq]
      cases hq : heapOf m.post id with
      | some b =>
        have hj : b.c.length < j := by
          rcases Nat.lt_or_ge b.c.length j with h | h
          · exact h
          · exact absurd (cov_of hq (by omega)) hc.2
        simp only
        rw [if_neg (by omega), if_neg (by omega)]
        cases hr : heapOf m.pre id with
        | some k =>
          have hj' : k.c.length < j := by
            rcases Nat.lt_or_ge k.c.length j with h | h
            · exact h
            · exact absurd (cov_of hr (by omega)) hc.1
          rw [hpre id k hr]
          simp only
          rw [if_neg (by omega), if_neg (by omega)]
        | none => rw [(hnew id b hq hr).1]
      | none =>
        simp only
        cases hr : heapOf m.pre id with
        | some k =>
          have hj' : k.c.length < j := by
            rcases Nat.lt_or_ge k.c.length j with h | h
            · exact h
            · exact absurd (cov_of hr (by omega)) hc.1
          rw [hpre id k hr]
          simp only
          rw [if_neg (by omega), if_neg (by omega)]
        | none => rfl
theorem Rel.sub {β : Id → CA} {D : Id → Prop} {B : Nat} {h h' : Heap} {W w : World} (hr : Rel β D B W h w) (hs : ∀ id k, h' id = some k → h id = some k) : Rel β D B W h' w := by
  have al : ∀ i, h' i ≠ none → h i ≠ none := fun i hi => by
    cases hq : h' i with
    | none => exact absurd hq hi
    | some k => rw [hs i k hq]; simp
  exact ⟨⟨fun id k hk => hr.hr.live id k (hs id k hk), fun i j hi hj e => hr.hr.inj i j (al i hi) (al j hj) e, hr.hr.old, hr.hr.size⟩, hr.bel⟩
def SmOk (own : Nat → List AV → M AV) (X : Nat → Option PF) (f : Nat) (t : List SM) : Prop := ∀ m ∈ t, ∃ N s1, (run own X N).fn f m.a ⟨false, heapOf m.pre, m.n, [], []⟩ = some (m.r, s1) ∧ s1.n = m.n' ∧ ∀ id k, heapOf m.post id = some k → s1.h id = some k
theorem sm_ok {P : Program} {Y : Ty} {own : Nat → List AV → M AV} {X : Nat → Option PF} (hY : TyOk P Y) (hmix : P.follows .mixedOrders = true) (hown : ∀ k l, Loc (own k l)) (hsim : ∀ k l, Sim (own k l)) (hX : TabOk P Y own X)
    {f : Nat} {t : List SM} (ht : SmOk own X f t) {own' : Nat → List AV → M AV} {k : Nat} (hk : own' k = smF t) : OwnOk P own' k f := by
  intro l s v s' h β D B W w L hL hr hfr
  rw [hk] at h
  obtain ⟨m, hp, htr, hf, rfl, rfl⟩ := smF_some h
  obtain ⟨hm, hl, hn⟩ := pickS_some hp
  subst hl
  obtain ⟨N, s1, h3, h4, h5⟩ := ht m hm
  let F : Heap := fun id => match heapOf m.pre id with
    | some _ => none
    | none => s.h id
  have hFn : ∀ id k, heapOf m.pre id = some k → F id = none := fun id k hq => by simp only [F, hq]
  have hFs : ∀ id, heapOf m.pre id = none → F id = s.h id := fun id hq => by simp only [F, hq]
  have hs0 : uni F (heapOf m.pre) = s.h := by
    funext id
    cases hq : heapOf m.pre id with
    | some k => rw [uni_none (hFn id k hq), hq, hf.pre id k hq]
    | none =>
      unfold uni
      rw [hFs id hq]
      cases s.h id with
      | some k => rfl
      | none => exact hq
  have hdis : Dis F (heapOf m.pre) := fun id hF => by
    cases hq : heapOf m.pre id with
    | none => rfl
    | some k => exact absurd (hFn id k hq) hF
  have hlive : ∀ id, s.h id ≠ none → D id := fun id hid => by
    cases hq : s.h id with
    | none => exact absurd hq hid
    | some k => exact (hr.hr.live id k hq).1
  have hbound : ∀ id : Id, F id ≠ none → id.num < m.n.num ∨ m.n'.num ≤ id.num := fun id hF => by
    have hid : s.h id ≠ none := by
      cases hq : heapOf m.pre id with
      | some k => exact absurd (hFn id k hq) hF
      | none => rw [hFs id hq] at hF; exact hF
    rcases Nat.lt_or_ge id.num m.n.num with h1 | h1
    · exact .inl h1
    · rcases Nat.lt_or_ge id.num m.n'.num with h2 | h2
      · exact absurd (hlive id hid) (hfr id (by rw [hn]; exact h1) h2)
      · exact .inr h2
  obtain ⟨_, hw⟩ := (Sim.run hsim X N).fn f m.a _ _ _ h3
  obtain ⟨hw1, hw2⟩ := hw F m.n'.num hdis hbound (by rw [h4]; exact Nat.le_refl _)
  have hrel : Rel β D B W (wide F ⟨false, heapOf m.pre, m.n, [], []⟩).h w := by
    show Rel β D B W (uni F (heapOf m.pre)) w
    rw [hs0]; exact hr
  have hfr' : Fresh D m.n.num s1.n.num := by rw [h4, ← hn]; exact hfr
  have hc := (run_ok hY hmix hown hX N N (Nat.le_refl _) f m.a _ _ _ hw1 β D B W w L hL hrel hfr').2
  refine hc.mono ?_
  rintro e w' ⟨β', D', V, rfl, hx, hr', hv⟩
  refine ⟨β', D', V, rfl, ?_, hr'.sub fun id k hk => ?_, hv⟩
  · have : Ext β D β' D' m.n.num s1.n.num := hx
    rw [h4, ← hn] at this
    exact this
  · change m.over s.h id = some k at hk
    show uni F s1.h id = some k
    rw [SM.over_eq] at hk
    cases hq : heapOf m.post id with
    | some b =>
      rw [hq] at hk
      cases hk
      have hFi : F id = none := by
        cases hr2 : heapOf m.pre id with
        | some k2 => exact hFn id k2 hr2
        | none =>
          rw [hFs id hr2]
          obtain ⟨p, hp1, rfl, _⟩ := heapOf_mem hq
          rcases hf.post p hp1 with h1 | h1
          · exact absurd hr2 h1
          · cases hs2 : s.h p.id with
            | none => rfl
            | some k2 => exact absurd (hlive p.id (by rw [hs2]; simp)) (hfr p.id (by rw [hn]; exact h1.1) h1.2)
      rw [uni_none hFi]
      exact h5 id k hq
    | none =>
      rw [hq] at hk
      simp only at hk
      cases hr2 : heapOf m.pre id with
      | some k2 => rw [hr2] at hk; cases hk
      | none =>
        rw [hr2] at hk
        simp only at hk
        unfold uni
        rw [hFs id hr2, hk]
end Ev
end Go.Proofs.YthknbcbkibbncaaGreat

/- DERIVED. Calls answered once with their memory: the quick evaluator's side. -/
set_option linter.unusedVariables false
namespace Go.Proofs.YthknbcbkibbncaaGreat
namespace Ev
namespace Kq
noncomputable def cellsB (c : List AV) (t : Tr) (i : Nat) : Bool := match c with
  | [] => true
  | v :: c => match eqA v (getT t i) with
    | true => cellsB c t (Nat.succ i)
    | false => false
def bqB (a b : Bool) : Bool := match a with
  | true => b
  | false => !b
noncomputable def zB (z z' : Zf) : Bool := match bqB z.s z'.s && (bqB z.b z'.b && bqB z.t z'.t) with
  | false => false
  | true => match z.m with
    | none => match z'.m with
      | none => true
      | some _ => false
    | some l => match z'.m with
      | none => false
      | some l' => eqVs l l'
noncomputable def preQ (l : List PB) (h : H6) : Bool := match l with
  | [] => true
  | p :: l => match Kq.look p.id h with
    | none => false
    | some b => match zB p.b.z b.z with
      | false => false
      | true => match Nat.beq (lnL p.b.c) b.n with
        | false => false
        | true => match cellsB p.b.c b.t 0 with
          | false => false
          | true => preQ l h
noncomputable def dropK (l : List PB) (h : H6) (k : H6 → Bool) : Bool := match l with
  | [] => k h
  | p :: l => dropK l h fun h => lay p.id none h k
noncomputable def layK (l : List PB) (h : H6) (k : H6 → Bool) : Bool := match l with
  | [] => k h
  | p :: l => layK l h fun h => toT p.b.c fun t => match Nat.ble (lnL p.b.c) (capT t) with
    | true => lay p.id (some ⟨p.b.z, lnL p.b.c, t⟩) h k
    | false => false
noncomputable def okQ (l : List PB) (h0 h1 : H6) (n n' : Nat) : Bool := match l with
  | [] => true
  | p :: l => match Nat.ble n (nmQ p.id) && Nat.blt (nmQ p.id) n' with
    | true => okQ l h0 h1 n n'
    | false => match Kq.look p.id h0 with
      | none => false
      | some _ => match Kq.look p.id h1 with
        | none => okQ l h0 h1 n n'
        | some _ => false
noncomputable def smQ (t : List SM) (l : List AV) : M AV := fun s k => match s.tr with
  | true => false
  | false => match pickS t l s.n with
    | none => false
    | some m => match Nat.ble (nmQ m.n) (nmQ m.n') with
      | false => false
      | true => match preQ m.pre s.h with
        | false => false
        | true => dropK m.pre s.h fun h1 => match okQ m.post s.h h1 (nmQ m.n) (nmQ m.n') with
          | false => false
          | true => layK m.post h1 fun h2 => k m.r ⟨false, h2, m.n', s.r, s.w⟩
theorem cellsB_ok {t : Tr} : ∀ {c : List AV} {i : Nat}, cellsB c t i = true → ∀ j, j < c.length → getT t (i + j) = c[j]?.getD und
  | [], _, _, j, hj => by simp at hj
  | v :: c, i, h, j, hj => by
    simp only [cellsB] at h
    cases he : eqA v (getT t i) with
    | false => rw [he] at h; cases h
    | true =>
      rw [he] at h
      cases j with
      | zero => simp only [Nat.add_zero, List.getElem?_cons_zero, Option.getD_some]; exact (eqA_eq he).symm
      | succ j =>
        have := cellsB_ok h j (by simpa using hj)
        rw [show i + (j + 1) = Nat.succ i + j by omega, List.getElem?_cons_succ]
        exact this
theorem bqB_eq {a b : Bool} (h : bqB a b = true) : a = b := by cases a <;> cases b <;> first | rfl | cases h
theorem zB_eq {z z' : Zf} (h : zB z z' = true) : z = z' := by
  obtain ⟨s, b, t, m⟩ := z
  obtain ⟨s', b', t', m'⟩ := z'
  simp only [zB] at h
  cases he : (bqB s s' && (bqB b b' && bqB t t')) with
  | false => rw [he] at h; cases h
  | true =>
    rw [he] at h
    simp only [Bool.and_eq_true] at he
    rw [bqB_eq he.1, bqB_eq he.2.1, bqB_eq he.2.2]
    cases m <;> cases m' <;> simp only at h <;> first | rfl | (cases h; done) | skip
    rw [eqVs_eq h]
theorem preQ_ok {h : H6} {H : Heap} (hr : RH h H) : ∀ {l : List PB}, preQ l h = true → ∀ p ∈ l, H p.id = some p.b
  | [], _, p, hp => by cases hp
  | q :: l, hq, p, hp => by
    simp only [preQ] at hq
    cases hl : Kq.look q.id h with
    | none => rw [hl] at hq; cases hq
    | some b =>
      rw [hl] at hq
      simp only at hq
      cases hz : zB q.b.z b.z with
      | false => rw [hz] at hq; cases hq
      | true =>
        rw [hz] at hq
        simp only at hq
        cases hn : Nat.beq (lnL q.b.c) b.n with
        | false => rw [hn] at hq; cases hq
        | true =>
          rw [hn] at hq
          simp only at hq
          cases hc : cellsB q.b.c b.t 0 with
          | false => rw [hc] at hq; cases hq
          | true =>
            rw [hc] at hq
            simp only at hq
            rcases List.mem_cons.1 hp with rfl | hp
            · rw [hr.some hl]
              have hn' := Nat.eq_of_beq_eq_true hn
              rw [lnL_eq] at hn'
              congr 1
              obtain ⟨id, z, c⟩ := p
              simp only at hz hc hn' ⊢
              unfold Bk.pl
              rw [zB_eq hz, getL_of hn' fun j hj => ?_]
              have := cellsB_ok hc j (by omega)
              rw [Nat.zero_add] at this
              exact this
            · exact preQ_ok hr hq p hp
theorem dropK_ok {h : H6} {H : Heap} (hr : RH h H) : ∀ {l : List PB} {k : H6 → Bool}, dropK l h k = true → ∃ h1, RH h1 (dropP l H) ∧ k h1 = true
  | [], k, hk => ⟨h, hr, hk⟩
  | p :: l, k, hk => by
    obtain ⟨h1, h2, h3⟩ := dropK_ok hr (l := l) hk
    rw [lay_eq] at h3
    exact ⟨_, h2.put p.id none (by rintro k' ⟨⟩), h3⟩
theorem layK_ok {h : H6} {H : Heap} (hr : RH h H) : ∀ {l : List PB} {k : H6 → Bool}, layK l h k = true → ∃ h1, RH h1 (layP l H) ∧ k h1 = true
  | [], k, hk => ⟨h, hr, hk⟩
  | p :: l, k, hk => by
    obtain ⟨h1, h2, h3⟩ := layK_ok hr (l := l) hk
    rw [toT_eq, lnL_eq] at h3
    cases hb : Nat.ble p.b.c.length (capT (clT p.b.c)) with
    | false => rw [hb] at h3; cases h3
    | true =>
      rw [hb] at h3
      simp only at h3
      rw [lay_eq] at h3
      have hle := Nat.le_of_ble_eq_true hb
      have := h2.put p.id (some ⟨p.b.z, p.b.c.length, clT p.b.c⟩) (by rintro k' ⟨⟩; exact hle)
      refine ⟨_, ?_, h3⟩
      have e : (some (⟨p.b.z, p.b.c.length, clT p.b.c⟩ : Bk)).map Bk.pl = some p.b := by
        simp only [Option.map_some, Bk.pl, toT_ok p.b.c hle]
      rw [e] at this
      exact this
theorem okQ_ok {h0 h1 : H6} {H0 H1 : Heap} (r0 : RH h0 H0) (r1 : RH h1 H1) {n n' : Nat} : ∀ {l : List PB}, okQ l h0 h1 n n' = true → ∀ p ∈ l, (n ≤ p.id.num ∧ p.id.num < n') ∨ (H0 p.id ≠ none ∧ H1 p.id = none)
  | [], _, p, hp => by cases hp
  | q :: l, hq, p, hp => by
    simp only [okQ] at hq
    rw [nmQ_eq] at hq
    cases hb : (Nat.ble n q.id.num && Nat.blt q.id.num n') with
    | true =>
      rw [hb] at hq
      rcases List.mem_cons.1 hp with rfl | hp
      · simp only [Bool.and_eq_true] at hb
        exact .inl ⟨Nat.le_of_ble_eq_true hb.1, Nat.le_of_ble_eq_true hb.2⟩
      · exact okQ_ok r0 r1 hq p hp
    | false =>
      rw [hb] at hq
      simp only at hq
      cases hl : Kq.look q.id h0 with
      | none => rw [hl] at hq; cases hq
      | some b =>
        rw [hl] at hq
        simp only at hq
        cases hm : Kq.look q.id h1 with
        | some b' => rw [hm] at hq; cases hq
        | none =>
          rw [hm] at hq
          rcases List.mem_cons.1 hp with rfl | hp
          · right
            refine ⟨by rw [r0.some hl]; simp, ?_⟩
            rw [← r1.at_, hm]
            rfl
          · exact okQ_ok r0 r1 hq p hp
theorem Ref.smQ (t : List SM) (l : List AV) : Ref Eq (Kq.smQ t l) (Ev.smF t l) := by
  intro u s k hs hk
  unfold Kq.smQ at hk
  cases htr : u.tr with
  | true => rw [htr] at hk; cases hk
  | false =>
    rw [htr] at hk
    simp only at hk
    rw [hs.n] at hk
    cases hp : pickS t l s.n with
    | none => rw [hp] at hk; cases hk
    | some m =>
      rw [hp] at hk
      simp only at hk
      rw [nmQ_eq, nmQ_eq] at hk
      cases hle : Nat.ble m.n.num m.n'.num with
      | false => rw [hle] at hk; cases hk
      | true =>
        rw [hle] at hk
        simp only at hk
        cases hpre : preQ m.pre u.h with
        | false => rw [hpre] at hk; cases hk
        | true =>
          rw [hpre] at hk
          simp only at hk
          obtain ⟨h1, r1, hk⟩ := dropK_ok hs.h hk
          cases hok : okQ m.post u.h h1 m.n.num m.n'.num with
          | false => rw [hok] at hk; cases hk
          | true =>
            rw [hok] at hk
            simp only at hk
            obtain ⟨h2, r2, hk⟩ := layK_ok r1 hk
            have hmem := preQ_ok hs.h hpre
            have hfit : m.Fits s.h := by
              refine ⟨Nat.le_of_ble_eq_true hle, fun id b hb => ?_, fun p hp => ?_⟩
              · obtain ⟨p, hp, rfl, rfl⟩ := heapOf_mem hb
                exact hmem p hp
              · rcases okQ_ok hs.h r1 hok p hp with h | ⟨ha, hb⟩
                · exact .inr h
                · left
                  intro hn
                  rw [dropP_eq, hn] at hb
                  exact ha hb
            exact ⟨m.r, m.r, ⟨false, h2, m.n', u.r, u.w⟩, ⟨false, m.over s.h, m.n', s.r, s.w⟩, smF_run hp (hs.tr ▸ htr) hfit, rfl, ⟨rfl, r2, rfl, hs.r, hs.w⟩, hk⟩
noncomputable def askS (own : Nat → List AV → M AV) (X : Nat → Option PF) (n f : Nat) (m : SM) : Bool := layK m.pre h6 fun h => (runQ own X n).fn f m.a ⟨false, h, m.n, [], []⟩ fun v s => match eqR m.r v with
  | false => false
  | true => match idB m.n' s.n with
    | false => false
    | true => preQ m.post s.h
theorem askS_ok {oq : Nat → List AV → M AV} {os : Nat → List AV → Ev.M AV} (ho : ∀ k l, Ref Eq (oq k l) (os k l)) {X : Nat → Option PF} {n f : Nat} {m : SM} (h : askS oq X n f m = true) :
    ∃ s1, (run os X n).fn f m.a ⟨false, heapOf m.pre, m.n, [], []⟩ = some (m.r, s1) ∧ s1.n = m.n' ∧ ∀ id k, heapOf m.post id = some k → s1.h id = some k := by
  have r0 : RH h6 (fun _ => none) := ⟨fun id => by simp [look_h6], fun id b hb => by rw [look_h6] at hb; cases hb⟩
  obtain ⟨h1, r1, hk⟩ := layK_ok r0 h
  obtain ⟨a, b, t', s', g1, g2, g3, g4⟩ := runQ_ok ho X n f m.a ⟨false, h1, m.n, [], []⟩ ⟨false, heapOf m.pre, m.n, [], []⟩ _ ⟨rfl, r1, rfl, rfl, rfl⟩ hk
  subst g2
  cases he : eqR m.r a with
  | false => rw [he] at g4; cases g4
  | true =>
    rw [he] at g4
    simp only at g4
    cases hi : idB m.n' t'.n with
    | false => rw [hi] at g4; cases g4
    | true =>
      rw [hi] at g4
      simp only at g4
      rw [← eqR_eq he] at g1
      refine ⟨s', g1, by rw [← g3.n]; exact (idB_eq hi).symm, fun id k hk => ?_⟩
      obtain ⟨p, hp, rfl, rfl⟩ := heapOf_mem hk
      exact preQ_ok g3.h g4 p hp
end Kq
end Ev
end Go.Proofs.YthknbcbkibbncaaGreat

/- DERIVED. Functions taken whole, level upon level: slices.Replace; calls that were answered once, of numbers alone, or with memory. -/
set_option linter.unusedVariables false
namespace Go.Proofs.YthknbcbkibbncaaGreat
namespace Ev
open Go.RowKit
structure OB where
  p : List AV → M AV
  q : List AV → Kq.M AV
  hr : ∀ l, Kq.Ref Eq (q l) (p l)
  hl : ∀ l, Loc (p l)
  hs : ∀ l, Sim (p l)
noncomputable def findB (L : List (Nat × OB)) (f : Nat) : Option OB := match L with
  | [] => none
  | x :: L => match Nat.beq f x.1 with
    | true => some x.2
    | false => findB L f
noncomputable def ownF (L : List (Nat × OB)) (k : Nat) (l : List AV) : M AV := match findB L k with
  | none => M.no
  | some b => b.p l
noncomputable def ownQ (L : List (Nat × OB)) (k : Nat) (l : List AV) : Kq.M AV := match findB L k with
  | none => Kq.M.no
  | some b => b.q l
noncomputable def owL (L : List (Nat × OB)) (f : Nat) : Option Nat := match L with
  | [] => none
  | x :: L => match Nat.beq f x.1 with
    | true => some f
    | false => owL L f
theorem owL_eq : ∀ {L : List (Nat × OB)} {f k : Nat}, owL L f = some k → k = f ∧ ∃ b, findB L f = some b
  | [], _, _, h => by simp [owL] at h
  | x :: L, f, k, h => by
    simp only [owL] at h
    simp only [findB]
    cases hb : Nat.beq f x.1 with
    | true =>
      rw [hb] at h
      cases h
      exact ⟨rfl, _, rfl⟩
    | false =>
      rw [hb] at h
      exact owL_eq h
structure Lv where
  L : List (Nat × OB)
  ok : ∀ f b, findB L f = some b → OwnOk Tryz.prog (fun _ => b.p) 0 f
noncomputable def Lv.q (v : Lv) : Nat → List AV → Kq.M AV := ownQ v.L
noncomputable def Lv.p (v : Lv) : Nat → List AV → M AV := ownF v.L
noncomputable def Lv.x (v : Lv) : Nat → Option PF := XW (owL v.L)
theorem Lv.hr (v : Lv) (k : Nat) (l : List AV) : Kq.Ref Eq (v.q k l) (v.p k l) := by
  unfold Lv.q Lv.p ownQ ownF
  cases findB v.L k with
  | none => exact Kq.Ref.no
  | some b => exact b.hr l
theorem Lv.hl (v : Lv) (k : Nat) (l : List AV) : Loc (v.p k l) := by
  unfold Lv.p ownF
  cases findB v.L k with
  | none => exact Loc.no
  | some b => exact b.hl l
theorem Lv.hs (v : Lv) (k : Nat) (l : List AV) : Sim (v.p k l) := by
  unfold Lv.p ownF
  cases findB v.L k with
  | none => exact Sim.no
  | some b => exact b.hs l
theorem Lv.tab (v : Lv) : TabOk Tryz.prog YT v.p v.x := tabOk v.p (fun f k h => by
  obtain ⟨rfl, b, hb⟩ := owL_eq h
  have := v.ok k b hb
  intro l s w s' hw
  refine this l s w s' ?_
  have e : v.p k l = b.p l := by unfold Lv.p ownF; rw [hb]
  show b.p l s = _
  rw [← e]
  exact hw)
def Lv.nil : Lv := ⟨[], fun f b h => by cases h⟩
def Lv.push (v : Lv) (f : Nat) (b : OB) (h : OwnOk Tryz.prog (fun _ => b.p) 0 f) : Lv := ⟨(f, b) :: v.L, fun g c hc => by
  simp only [findB] at hc
  cases hb : Nat.beq g f with
  | true =>
    rw [hb] at hc
    cases hc
    rw [Nat.eq_of_beq_eq_true hb]
    exact h
  | false =>
    rw [hb] at hc
    exact v.ok g c hc⟩
noncomputable def OB.repl : OB := ⟨replF 0, Kq.replQ 0, Kq.Ref.replQ 0, Loc.replF 0, Sim.replF 0⟩
noncomputable def OB.memo (t : List Memo) : OB := ⟨memoF t, Kq.memoQ t, Kq.Ref.memoQ t, Loc.memoF t, Sim.memoF t⟩
noncomputable def swF (t : List SM) (G : List AV → M AV) (l : List AV) : M AV := fun s => match s.tr with
  | true => G l s
  | false => match pickS t l s.n with
    | none => G l s
    | some _ => smF t l s
noncomputable def Kq.swQ (t : List SM) (G : List AV → Kq.M AV) (l : List AV) : Kq.M AV := fun s k => match s.tr with
  | true => G l s k
  | false => match pickS t l s.n with
    | none => G l s k
    | some _ => Kq.smQ t l s k
theorem swF_eq {t : List SM} {G : List AV → M AV} {l : List AV} (s : S) : (swF t G l s = G l s ∧ ∀ u : S, u.tr = s.tr → u.n = s.n → swF t G l u = G l u) ∨ (swF t G l s = smF t l s ∧ ∀ u : S, u.tr = s.tr → u.n = s.n → swF t G l u = smF t l u) := by
  unfold swF
  cases htr : s.tr with
  | true => exact .inl ⟨rfl, fun u hu _ => by rw [hu]⟩
  | false =>
    cases hp : pickS t l s.n with
    | none => exact .inl ⟨rfl, fun u hu hn => by rw [hu, hn]; simp only [hp]⟩
    | some m => exact .inr ⟨rfl, fun u hu hn => by rw [hu, hn]; simp only [hp]⟩
theorem Loc.swF {t : List SM} {G : List AV → M AV} (hG : ∀ l, Loc (G l)) (l : List AV) : Loc (Ev.swF t G l) := by
  intro s a s' h
  rcases swF_eq (t := t) (G := G) (l := l) s with ⟨e1, e2⟩ | ⟨e1, e2⟩
  · rw [e1] at h
    obtain ⟨a1, a2, a3, a4⟩ := hG l s a s' h
    refine ⟨a1, a2, a3, fun hf => ?_⟩
    obtain ⟨R, W, r⟩ := a4 hf
    exact ⟨R, W, ⟨r.log, r.off, fun u u1 u2 u3 => by rw [e2 u u1 u2]; exact r.also u u1 u2 u3⟩⟩
  · rw [e1] at h
    obtain ⟨a1, a2, a3, a4⟩ := Loc.smF t l s a s' h
    refine ⟨a1, a2, a3, fun hf => ?_⟩
    obtain ⟨R, W, r⟩ := a4 hf
    exact ⟨R, W, ⟨r.log, r.off, fun u u1 u2 u3 => by rw [e2 u u1 u2]; exact r.also u u1 u2 u3⟩⟩
theorem Sim.swF {t : List SM} {G : List AV → M AV} (hG : ∀ l, Sim (G l)) (l : List AV) : Sim (Ev.swF t G l) := by
  intro s a s' h
  rcases swF_eq (t := t) (G := G) (l := l) s with ⟨e1, e2⟩ | ⟨e1, e2⟩
  · rw [e1] at h
    obtain ⟨a1, a2⟩ := hG l s a s' h
    exact ⟨a1, fun F N hd hb hN => by rw [e2 (wide F s) rfl rfl]; exact a2 F N hd hb hN⟩
  · rw [e1] at h
    obtain ⟨a1, a2⟩ := Sim.smF t l s a s' h
    exact ⟨a1, fun F N hd hb hN => by rw [e2 (wide F s) rfl rfl]; exact a2 F N hd hb hN⟩
theorem Kq.Ref.swQ {t : List SM} {G : List AV → Kq.M AV} {G' : List AV → Ev.M AV} (hG : ∀ l, Kq.Ref Eq (G l) (G' l)) (l : List AV) : Kq.Ref Eq (Kq.swQ t G l) (Ev.swF t G' l) := by
  intro u s k hs hk
  unfold Kq.swQ at hk
  unfold Ev.swF
  rw [← hs.tr, ← hs.n]
  cases htr : u.tr with
  | true => rw [htr] at hk; exact hG l u s k hs hk
  | false =>
    rw [htr] at hk
    simp only at hk ⊢
    cases hp : pickS t l u.n with
    | none => rw [hp] at hk; exact hG l u s k hs hk
    | some m => rw [hp] at hk; exact Kq.Ref.smQ t l u s k hs hk
noncomputable def OB.sw (v : Lv) (n f : Nat) (t : List SM) : OB := ⟨swF t fun l => (run v.p v.x n).fn f l, Kq.swQ t fun l => (Kq.runQ v.q v.x n).fn f l, Kq.Ref.swQ fun l => Kq.runQ_ok v.hr v.x n f l, Loc.swF fun l => (Loc.run v.hl v.x n).fn f l, Sim.swF fun l => (Sim.run v.hs v.x n).fn f l⟩
theorem Lv.memo_ok (v : Lv) {n f : Nat} {t : List Memo} (h : ∀ m ∈ t, scal m.r = true ∧ m.a.all scal = true ∧ Kq.askR v.q v.x n f m = true) : OwnOk Tryz.prog (fun _ => (OB.memo t).p) 0 f :=
  Ev.memo_ok tyOk mixOk v.hl v.tab (fun m hm => ⟨(h m hm).1, (h m hm).2.1, n, Kq.askR_ok v.hr (h m hm).2.2⟩) rfl
theorem Lv.sw_ok (v : Lv) {n f : Nat} {t : List SM} (h : ∀ m ∈ t, Kq.askS v.q v.x n f m = true) : OwnOk Tryz.prog (fun _ => (OB.sw v n f t).p) 0 f := by
  have h1 : OwnOk Tryz.prog (fun _ => smF t) 0 f := sm_ok tyOk mixOk v.hl v.hs v.tab (fun m hm => ⟨n, Kq.askS_ok v.hr (h m hm)⟩) rfl
  intro l s w s' hw
  change swF t (fun l => (run v.p v.x n).fn f l) l s = some (w, s') at hw
  rcases swF_eq (t := t) (G := fun l => (run v.p v.x n).fn f l) (l := l) s with ⟨e1, _⟩ | ⟨e1, _⟩
  · rw [e1] at hw
    intro β D B W ww L hL hr hfr
    exact (run_ok tyOk mixOk v.hl v.tab n n (Nat.le_refl _) f l s w s' hw β D B W ww L hL hr hfr).2
  · rw [e1] at hw
    exact h1 l s w s' hw
theorem Lv.closed (v : Lv) {n f : Nat} (h : Kq.ask v.q v.x n f = true) (w : World) :
    Calls Tryz.prog f #[] w fun e w' => e = .returned (.bool true) ∧ Below w.heap.size w w' := by
  obtain ⟨s', hs⟩ := Kq.ask_ok v.hr h
  exact closed_ok tyOk mixOk v.hl v.tab hs w
noncomputable def lv0 : Lv := Lv.nil.push 383 OB.repl replOk
def nU (n : Nat) : AV := .i .u64 (.ofNat n)
end Ev
end Go.Proofs.YthknbcbkibbncaaGreat

/- DERIVED. Short words for memory written out. -/
namespace Go.Proofs.YthknbcbkibbncaaGreat
namespace Ev
namespace Lt
abbrev d0 : Dg := .d0
abbrev d1 : Dg := .d1
abbrev d2 : Dg := .d2
abbrev d3 : Dg := .d3
abbrev d4 : Dg := .d4
abbrev d5 : Dg := .d5
abbrev d6 : Dg := .d6
abbrev d7 : Dg := .d7
def u (n : Nat) : AV := .i .u8 (.ofNat n)
def w (n : Nat) : AV := .i .u64 (.ofNat n)
def i (n : Nat) : AV := .i .i64 (.ofNat n)
def j (n : Nat) : AV := .i .i64 (.negSucc n)
def t : AV := .b true
def f : AV := .b false
def p0 : AV := .p0
def s0 : AV := .s0
noncomputable def R (n : Nat) (v : AV) (l : List AV) : List AV := Nat.rec l (fun _ l => v :: l) n
noncomputable def C (x l : List AV) : List AV := List.rec l (fun v _ l => v :: l) x
end Lt
end Ev
end Go.Proofs.YthknbcbkibbncaaGreat
