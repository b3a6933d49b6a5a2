/- DERIVED. slices.Replace taken whole does what the evaluator says. -/
import Derived.Test.YtijnjnncgkhabaaVOwn
set_option linter.unusedVariables false
namespace Go.Proofs.Ytijnjnncgkhabaa
namespace Ev
open Go.RowKit
theorem nat64_vr {β : Id → CA} {D : Id → Prop} {x : AV} {n : Nat} {X : Value} (h : nat64 x = some n) (hx : VR β D x X) : X = .int .i64 n := by
  unfold nat64 at h
  split at h
  · cases h
    simp only [VR] at hx
    exact hx
  · cases h
theorem rd_how {id : Id} {lo m : Nat} {l : List AV} {s s' : S} (h : M.rd id lo m s = some (l, s')) : (m = 0 ∧ l = []) ∨ ∃ k, s.h id = some k ∧ lo + m ≤ k.c.length ∧ l = (k.c.drop lo).take m := by
  unfold M.rd at h
  cases h0 : Nat.beq m 0 <;> rw [h0] at h <;> simp only at h
  · split at h
    · cases h
    · rename_i k hk
      split at h
      · rename_i hle
        cases h
        exact .inr ⟨k, hk, Nat.le_of_ble_eq_true hle, rfl⟩
      · cases h
  · obtain ⟨rfl, rfl⟩ := pure_some h
    exact .inl ⟨Nat.eq_of_beq_eq_true h0, rfl⟩
theorem put_put (h : Heap) (i : Id) (b : Option Blk) : Heap.put (Heap.put h i none) i b = Heap.put h i b := by
  funext j
  unfold Heap.put
  by_cases e : j.num = i.num
  · rw [if_pos e, if_pos e]
  · rw [if_neg e, if_neg e, if_neg e]
/-- After the call: a row of pairs where the block was, or new. -/
theorem repl_end {β : Id → CA} {D : Id → Prop} {B : Nat} {h : Heap} {W w w' : World} (hr : Rel β D B W h w) {id nid : Id} (hdn : ¬ D nid) {og : Option Nat}
    (hog : ∀ g, og = some g → h id ≠ none ∧ g = (β id).blk) {ys : List Rg} {l : List AV} (hl : VRs β D l (flat encR ys)) (h1 : ∀ v ∈ l, v.one = true) (hy : ys ≠ []) {z : Zf} (hzs : z.s = false) (hzt : z.t = false)
    {e : Ending} (hR : Repl w og ys e w') :
    ∃ β' D' V, e = .returned V ∧ Ext β D β' D' nid.num (nid.num + 1) ∧ Rel β' D' B W (Heap.put (Heap.put h id none) nid (some ⟨z, l⟩)) w' ∧ VR β' D' (.so nid 0 ys.length ys.length 2) V := by
  obtain ⟨v', og', E, rfl, hs, hg, hu⟩ := hR
  rcases hs with ⟨_, e, _⟩ | ⟨g, zs, rfl, rfl, hrow, hcap⟩
  · exact absurd e hy
  have hid : ∀ g, og = some g → B ≤ g := fun g e => by
    obtain ⟨a, b⟩ := hog g e
    rw [b]
    cases hk : h id with
    | none => exact absurd hk a
    | some k => exact hr.hr.old id (hr.hr.live id k hk).1
  have hBg : B ≤ g := by
    rcases hg with e | ⟨g', e, hb⟩
    · exact hid g e.symm
    · cases e
      exact Nat.le_trans hr.hr.size hb
  have hsize : (flat encR (ys ++ zs)).toArray.size = (ys.length + zs.length) * 2 := by simp [flat_length encR_len]
  have hll : l.length = (flat encR ys).length := hl.length.symm
  have hm := HR.moved hr.hr (id := id) (nid := nid) (w' := w') hdn (a := ⟨g, 0, (ys.length + zs.length) * 2⟩) (k := ⟨z, l⟩)
    ⟨(flat encR (ys ++ zs)).toArray, E, (0, 0), hrow, hsize, by rw [hzs]; rfl, ⟨by rw [hsize, hll, flat_length encR_len]; simp only; omega, h1, fun j v hv => by
        obtain ⟨V, hV, hvr⟩ := hl.get j v hv
        refine ⟨V, ?_, hvr⟩
        have hj : j < (flat encR ys).length := (List.getElem?_eq_some_iff.1 hV).1
        simp only [Nat.zero_add, List.getElem?_toArray, flat_append]
        rw [List.getElem?_append_left hj]
        exact hV⟩, fun _ => rfl, fun e => by rw [hzt] at e; cases e⟩ hBg
    (fun j kk hk hne => by
      obtain ⟨hdj, c, el, fz, hb, _⟩ := hr.hr.live j kk hk
      have hlt := heap_lt hb
      have hno : ∀ g0, og = some g0 → (β j).blk ≠ g0 := fun g0 e => by
        obtain ⟨a, b⟩ := hog g0 e
        rw [b]
        exact fun x => hne (hr.hr.inj j id (by rw [hk]; simp) a x)
      refine ⟨?_, hu.block _ hlt fun e => hno _ e rfl⟩
      rcases hg with e | ⟨g', e, hb'⟩
      · exact hno g e.symm
      · cases e
        simp only
        omega) hu.size
  refine ⟨_, _, _, rfl, named_ext β _ hdn, ⟨hm, Upd.onto hr.bel hu hr.hr.size fun k hk e => ?_⟩, ?_⟩
  · have := hid k e
    omega
  · simp only [VR]
    rw [named_same]
    refine ⟨by simp, Nat.le_refl _, 0, ys.length + zs.length, rfl, ⟨by omega, hcap⟩, ?_, ?_⟩
    · simp
    · first | trivial | (simp only; omega) | omega

theorem replOk : OwnOk Try.prog replF 0 155 := by
  intro l s v s' h β D B W w L hL hr hf
  match l, hL, h with
  | [], _, h => simp only [replF, M.no] at h; cases h
  | [_], _, h => simp only [replF, M.no] at h; cases h
  | [_, _], _, h => simp only [replF, M.no] at h; cases h
  | [_, _, _], _, h => simp only [replF, M.no] at h; cases h
  | _ :: _ :: _ :: _ :: _ :: _, _, h => simp only [replF, M.no] at h; cases h
  | [sv, iv, jv, ev], hL, h =>
    simp only [VRs] at hL
    obtain ⟨S, _, rfl, hS, I, _, rfl, hI, J, _, rfl, hJ, V, _, rfl, hV, rfl⟩ := hL
    simp only [replF] at h
    cases ev <;> first | (simp only [replV, M.no] at h; cases h; done) | skip
    rename_i vid off n c
    simp only [replV] at h
    have h0 := ifB_some h
    clear h
    obtain ⟨hg, h⟩ := h0
    have h0 := ofO_some h
    clear h
    obtain ⟨i, hi, h⟩ := h0
    have h0 := ofO_some h
    clear h
    obtain ⟨j, hj, h⟩ := h0
    have h0 := bind_some h
    clear h
    obtain ⟨zv, u1, h1, h⟩ := h0
    have h0 := ifB_some h
    clear h
    obtain ⟨hz, h⟩ := h0
    have h0 := bind_some h
    clear h
    obtain ⟨vs, u2, h2, h⟩ := h0
    obtain rfl := nat64_vr hi hI
    obtain rfl := nat64_vr hj hJ
    simp only [Bool.and_eq_true] at hg hz
    obtain rfl := Nat.eq_of_beq_eq_true hg.1
    obtain rfl := Nat.eq_of_beq_eq_true hg.2.1
    obtain rfl := Nat.eq_of_beq_eq_true hg.2.2
    obtain ⟨⟨z1, z2⟩, z3, z4⟩ := hz
    have z2' := Nat.eq_of_beq_eq_true z2
    have z1' : zv.1.s = false := by simpa using z1
    obtain ⟨e1, e2, kv, hkv, e3, e4⟩ := ends_ok h1
    rw [← e3] at z1' z3 z4
    obtain ⟨e5, e6, e7, _⟩ := rd_ok (w := w) (by rw [e1]; exact hr.hr) h2
    have hzk : Zok kv.z (β vid) kv.c.length := by obtain ⟨_, _, _, _, _, _, _, _, x⟩ := hr.hr.live vid kv hkv; exact x
    have hb0 := hzk.b z3
    have ht0 := hzk.t z4
    obtain ⟨rv, Ev, hrowv, hlenv, _, hcellsv⟩ := row_of hr.hr hkv z1' z3 (m := 1) (by omega)
    obtain ⟨r, rfl⟩ : ∃ r, rv = [r] := by
      match rv, hlenv with
      | [r], _ => exact ⟨r, rfl⟩
    have hvs : vs = kv.c.take (1 * 2) := by
      rcases rd_how h2 with ⟨x, _⟩ | ⟨k, hk, _, e⟩
      · cases x
      · rw [e1, hkv] at hk
        cases hk
        simpa using e
    have hvv : VRs β D vs (flat encR [r]) := by
      rw [hvs]
      exact take_vrs hcellsv (n := 1) (by omega)
    have hvo : ∀ v ∈ vs, v.one = true := fun v hv => hcellsv.one v (List.mem_of_mem_take (by rw [hvs] at hv; exact hv))
    have hro : Go.Proofs.Ytijnjnncgkhabaa.oneR r := take_one hcellsv (n := 1) (by omega) r (by simp)
    simp only [VR] at hV
    obtain ⟨hdv, rfl⟩ := hV
    rw [hb0]
    have hh : u2.h = s.h := by rw [e5, e1]
    have hn : u2.n = s.n := by rw [e6, e2]
    have hr2 : Rel β D B W u2.h w := by rw [hh]; exact hr
    cases sv <;> first | (simp only [replB, M.no] at h; cases h; done) | skip
    · simp only [replB] at h
      have h0 := ifB_some h
      clear h
      obtain ⟨hg, h⟩ := h0
      have h0 := bind_some h
      clear h
      obtain ⟨nid, u3, h3, h⟩ := h0
      obtain ⟨rfl, rfl⟩ := pure_some h
      simp only [Bool.and_eq_true] at hg
      obtain rfl := Nat.eq_of_beq_eq_true hg.1
      obtain rfl := Nat.eq_of_beq_eq_true hg.2
      obtain ⟨rfl, n2, n3⟩ := new_ok hr2.hr h3
      simp only [VR] at hS
      subst hS
      have hdn : ¬ D u2.n := hf _ (by rw [hn]; exact Nat.le_refl _) (by omega)
      refine (replace_any (E := Ev) (.slice none 0 0) none [] 0 0 (β vid).blk r w (.inl ⟨rfl, rfl, rfl⟩) (by simp) hro (Nat.le_refl _) (Nat.le_refl _) hrowv (by simp) (by simp)).mono fun e w' hR => ?_
      obtain ⟨β', D', V, x1, x2, x3, x4⟩ := repl_end hr2 (id := u2.n) hdn (by simp) (l := vs) (by simpa using hvv) hvo (by simp) (z := ⟨false, true, false⟩) rfl rfl hR
      rw [put_put] at x3
      exact ⟨β', D', V, x1, by rw [n2, ← hn]; exact x2, by rw [n3]; exact x3, x4⟩
    · rename_i id off n q w2
      simp only [replB] at h
      have h0 := ifB_some h
      clear h
      obtain ⟨hg, h⟩ := h0
      have h0 := bind_some h
      clear h
      obtain ⟨zz, u3, h3, h⟩ := h0
      have h0 := ifB_some h
      clear h
      obtain ⟨hz2, h⟩ := h0
      have h0 := bind_some h
      clear h
      obtain ⟨old, u4, h4, h⟩ := h0
      have h0 := bind_some h
      clear h
      obtain ⟨nid, u5, h5, h⟩ := h0
      obtain ⟨rfl, rfl⟩ := pure_some h
      simp only [Bool.and_eq_true] at hg hz2
      obtain ⟨⟨⟨g1, g2⟩, g3⟩, g4, g5, g6, g7⟩ := hg
      obtain rfl := Nat.eq_of_beq_eq_true g1
      obtain rfl := Nat.eq_of_beq_eq_true g3
      have g2' : 1 ≤ q := Nat.le_of_ble_eq_true g2
      have g4' : i ≤ j := Nat.le_of_ble_eq_true g4
      have g5' : j ≤ n := Nat.le_of_ble_eq_true g5
      have g6' : n ≤ 1048576 := Nat.le_of_ble_eq_true g6
      have hne : id ≠ vid := fun e => by subst e; simp at g7
      have q1 : zz.s = false := by simpa using hz2.1
      obtain ⟨k1, k2, k, hk, rfl⟩ := shared_ok h3
      obtain ⟨m1, m2, m3, _⟩ := rd_ok (w := w) (by rw [k1]; exact hr2.hr) h4
      obtain ⟨rfl, n2, k', hk', hle, n3⟩ := over_ok h5
      rw [m1, k1, hk] at hk'
      cases hk'
      have hold : n * 2 ≤ k.c.length ∧ old = k.c.take (n * 2) := by
        rcases rd_how h4 with ⟨x, y⟩ | ⟨k', hk', y, e⟩
        · rw [x, y]; simp
        · rw [k1, hk] at hk'
          cases hk'
          exact ⟨by omega, by simpa using e⟩
      obtain ⟨hnk, rfl⟩ := hold
      simp only [VR] at hS
      obtain ⟨hdi, hlk, x, cap, rfl, ⟨hqc, hcm⟩, hx, hlim⟩ := hS
      obtain rfl : x = (β id).base + 0 := hx.resolve_left (by omega)
      have hzk2 : Zok k.z (β id) k.c.length := by rw [hh] at hk; obtain ⟨_, _, _, _, _, _, _, _, x⟩ := hr.hr.live id k hk; exact x
      have hb2 := hzk2.b hz2.2
      obtain ⟨rs, E, hrow, hlen, _, hcells⟩ := row_of hr2.hr hk q1 hz2.2 (m := cap) (by omega)
      have hdn : ¬ D u4.n := hf _ (by rw [m2, k2, hn]; exact Nat.le_refl _) (by omega)
      have hxl : (rs.take n).length = n := by rw [List.length_take, hlen]; omega
      rw [hb2]
      refine (replace_any (E := E) (E' := Ev) (.slice (some ⟨(β id).blk, 0 + 0, none⟩) n cap) (some (β id).blk) (rs.take n) i j (β vid).blk r w
        (.inr ⟨_, rs.drop n, rfl, by rw [hxl, List.length_drop, hlen]; congr 1; omega, by rw [List.take_append_drop]; exact hrow, by rw [hxl, List.length_drop, hlen]; omega⟩)
        (take_one hcells hnk) hro g4' (by rw [hxl]; exact g5') hrowv
        (fun e => hne (hr2.hr.inj id vid (by rw [hk]; simp) (by rw [hh, hkv]; simp) (by simpa using e))) (by rw [hxl]; omega)).mono fun e w' hR => ?_
      have hyl : ((rs.take n).take i ++ r :: (rs.take n).drop j).length = i + 1 + (n - j) := by
        rw [List.length_append, List.length_cons, List.length_take, List.length_drop, hxl]; omega
      have hvr : VRs β D ((k.c.drop 0).take (i * 2) ++ (vs ++ (k.c.take (n * 2)).drop (j * 2))) (flat encR ((rs.take n).take i ++ r :: (rs.take n).drop j)) := by
        rw [flat_append, flat_cons]
        refine VRs.append ?_ (VRs.append ?_ ?_)
        · rw [List.take_take, Nat.min_eq_left (by omega), List.drop_zero]
          exact take_vrs hcells (by omega)
        · have := hvv
          rw [flat_cons, flat_nil, List.append_nil] at this
          exact this
        · rw [← flat_drop encR_len]
          exact (take_vrs hcells hnk).drop _
      have hone : ∀ v ∈ (k.c.drop 0).take (i * 2) ++ (vs ++ (k.c.take (n * 2)).drop (j * 2)), v.one = true := by
        intro v hv
        rcases List.mem_append.1 hv with hv | hv
        · exact hcells.one v (List.mem_of_mem_drop (List.mem_of_mem_take hv))
        · rcases List.mem_append.1 hv with hv | hv
          · exact hvo v hv
          · exact hcells.one v (List.mem_of_mem_take (List.mem_of_mem_drop hv))
      obtain ⟨β', D', V, x1, x2, x3, x4⟩ := repl_end hr2 (id := id) (nid := u4.n) hdn (by rintro g ⟨⟩; exact ⟨by rw [hk]; simp, rfl⟩) hvr hone (by simp) (z := k.z.over 0) q1 rfl hR
      rw [hyl] at x4
      exact ⟨β', D', V, x1, by rw [n2, ← hn, ← k2, ← m2]; exact x2, by rw [n3, m1, k1]; exact x3, x4⟩
end Ev
end Go.Proofs.Ytijnjnncgkhabaa
