/- DERIVED. The evaluator's append, copy and clear against the model's. -/
import Derived.Test.YtijnjnncgkhabaaEvQ6
namespace Go.Proofs.Ytijnjnncgkhabaa
namespace Ev
open Go.RowKit

section
variable {P : Program} {Y : Ty} {β : Id → CA} {D : Id → Prop} {B N : Nat} {W w : World} {s s' : S} {e : Env} {a : Act}

/-- What append does, in two ways: where there is room, and where there is none. -/
structure Apps (P : Program) (el : TypeId) (z : Nat) (zv : Array Value) (w : World) (n : Nat) (News : List Value) (m : Value → Sem Value) : Prop where
  room : ∀ (base : Option Addr) (sLen sCap : Nat) (w' : World), sLen + n ≤ sCap → (∀ a, base = some a → (storeCells (a.add (sLen * z)) News).run P w = .ok () w') → (base = none → w' = w) →
    (m (.slice base sLen sCap)).run P w = .ok (.slice base (sLen + n) sCap) w'
  grow : ∀ (base : Option Addr) (sLen sCap : Nat) (Old : List Value), sCap < sLen + n → sLen ≤ 1048576 → (Builtin.firstCells z sLen (.slice base sLen sCap)).run P w.drew = .ok Old.toArray w.drew →
    (m (.slice base sLen sCap)).run P w = .ok (.slice (some ⟨w.heap.size, 0, none⟩) (sLen + n) (grownCap w (sLen + n) sCap el))
      (w.drew.alloc (.cells (Old.toArray ++ News.toArray ++ Builtin.zeroCells zv (grownCap w (sLen + n) sCap el - (sLen + n))) el))

theorem over_ok {id : Id} {lo m : Nat} {l : List AV} {nid : Id} (h : M.over id lo m l s = some (nid, s')) :
    nid = s.n ∧ s'.n.num = s.n.num + 1 ∧ ∃ k, s.h id = some k ∧ lo + m ≤ k.c.length ∧ s'.h = Heap.put (Heap.put s.h id none) s.n (some ⟨k.z.over lo, (k.c.drop lo).take m ++ l⟩) := by
  unfold M.over at h
  split at h
  · cases h
  · rename_i k hk
    split at h
    · cases h
    · rename_i hb
      split at h
      · cases h
      · rename_i n hn
        cases h
        refine ⟨rfl, ?_, k, hk, Nat.le_of_ble_eq_true hb, ?_⟩
        · rw [(logW_h _ _ _ _).2, (logW_h _ _ _ _).2, (logR_h _ _ _ _).2]
          exact Id.inc_num hn
        · rw [(logW_h _ _ _ _).1, (logW_h _ _ _ _).1, (logR_h _ _ _ _).1]

theorem grow_ok (hr : Rel β D B W s.h w) {zb : Bool} {z n : Nat} {x v : AV} {X : Value} {new : List AV} {el : TypeId} {zv : Array Value} {News : List Value} {m : Value → Sem Value} (hz : 1 ≤ z) (hzv : zv.size = z)
    (h : grow zb z x n new s = some (v, s')) (hx : VR β D x X) (hnew : VRs β D new News) (h1 : ∀ y ∈ new, y.one = true) (hlen : new.length = n * z) (hnl : n ≤ 1048576) (hA : Apps P el z zv w n News m) (hf : Fresh D s.n.num s'.n.num) : Gives P β D B W s s' v (m X) w := by
  have hNl : News.length = n * z := by rw [hnew.length, hlen]
  -- the row that is made
  have fresh : ∀ {old : List AV} {Old : List Value} {base : Option Addr} {sLen sCap : Nat} {id : Id} {t : S}, M.new ⟨zb, true, false⟩ (old ++ new) s = some (id, t) → t = s' → VRs β D old Old → (∀ y ∈ old, y.one = true) → old.length = sLen * z → sCap < sLen + n → sLen ≤ 1048576 →
      (Builtin.firstCells z sLen (.slice base sLen sCap)).run P w.drew = .ok Old.toArray w.drew → v = .so id 0 (sLen + n) (sLen + n) z → X = .slice base sLen sCap → Gives P β D B W s s' v (m X) w := by
    intro old Old base sLen sCap id t h2 ht ho h1o hol hg hl hold hv hX
    subst hX hv ht
    have hOl : Old.length = sLen * z := by rw [ho.length, hol]
    have hid := (new_ok hr.hr h2).1
    have hge := grownCap_ge w (sLen + n) sCap el
    have hrun := hA.grow base sLen sCap Old hg hl hold
    have hcs : (Old.toArray ++ News.toArray ++ Builtin.zeroCells zv (grownCap w (sLen + n) sCap el - (sLen + n))).size = grownCap w (sLen + n) sCap el * z := by
      simp only [Array.size_append, List.size_toArray, size_zeroCells, hzv, hOl, hNl]
      rw [← Nat.add_mul, ← Nat.add_mul]
      congr 1
      omega
    have hall := ho.append hnew
    refine Gives.fresh hr h2 hf (.inr rfl) _ el (0, 0) (fzok_zero _ _) (Cells.ofVRs (o := 0) hall (fun y hy => by rcases List.mem_append.1 hy with hy | hy; exact h1o y hy; exact h1 y hy) (fun j U hU => ?_) ?_) (fun e => by simp at e) hrun ?_
    · rw [Nat.zero_add]
      have hj : j < (Old ++ News).length := by
        rcases Nat.lt_or_ge j (Old ++ News).length with h' | h'
        · exact h'
        · rw [List.getElem?_eq_none h'] at hU; cases hU
      rw [Array.getElem?_append_left (by simpa using hj)]
      simpa using hU
    · rw [hcs, Nat.zero_add, List.length_append, hol, hlen, ← Nat.add_mul]
      exact Nat.mul_le_mul_right _ hge
    · simp only [VR]
      subst hid
      rw [named_same]
      refine ⟨.inr rfl, Nat.le_refl _, _, _, rfl, ⟨hge, grownCap_le_maxLen _ _ _ _ (show _ ≤ 9223372036854775807 by omega)⟩, .inr rfl, ?_⟩
      simp only [hcs]
      omega
  cases x <;> first | (simp only [grow, M.no] at h; cases h; done) | skip
  · -- nil
    simp only [VR] at hx
    subst hx
    simp only [grow] at h
    cases hb : Nat.beq n 0 <;> rw [hb] at h <;> simp only at h
    · have hn : n ≠ 0 := fun e => by subst e; simp at hb
      obtain ⟨id, u, h2, h3⟩ := bind_some h
      obtain ⟨rfl, rfl⟩ := pure_some h3
      exact fresh (old := []) (Old := []) (base := none) (sLen := 0) (sCap := 0) h2 rfl VRs.nil (by simp) (by simp) (by omega) (by omega) (by simp [Builtin.firstCells]) (by simp) rfl
    · obtain rfl : n = 0 := Nat.eq_of_beq_eq_true hb
      obtain ⟨rfl, rfl⟩ := pure_some h
      exact Gives.same hr (V := .slice none 0 0) (by simp only [VR]) (hA.room none 0 0 w (by omega) (by simp) (fun _ => rfl))
  · -- closed
    rename_i id off len cap
    simp only [VR] at hx
    obtain ⟨hd, rfl⟩ := hx
    simp only [grow] at h
    cases hb : Nat.ble (len + n) cap <;> rw [hb] at h <;> simp only at h
    · have hn : cap < len + n := by
        rcases Nat.lt_or_ge cap (len + n) with h' | h'
        · exact h'
        · rw [Nat.ble_eq_true_of_le h'] at hb; cases hb
      obtain ⟨hl, h⟩ := ifB_some h
      have hl' : len ≤ 1048576 := Nat.le_of_ble_eq_true hl
      obtain ⟨old, u, h2, h3⟩ := bind_some h
      obtain ⟨id2, u2, h4, h5⟩ := bind_some h3
      obtain ⟨rfl, rfl⟩ := pure_some h5
      obtain ⟨g1, g2, g3, Vs, g4, g5, g6, g7, g8⟩ := rd_ok hr.hr h2
      have hload := run_loadCells_list (P := P) w.drew ⟨(β id).blk, (β id).base + off, none⟩ Vs (fun j V hV => by
        rw [add_at]
        exact g6 j V hV)
      rw [g5] at hload
      obtain ⟨n1, n2, n3⟩ := new_ok (s := u) (by rw [g1]; exact hr.hr) h4
      have hOl : Vs.length = len * z := g5
      have hge := grownCap_ge w (len + n) cap el
      have hcs : (Vs.toArray ++ News.toArray ++ Builtin.zeroCells zv (grownCap w (len + n) cap el - (len + n))).size = grownCap w (len + n) cap el * z := by
        simp only [Array.size_append, List.size_toArray, size_zeroCells, hzv, hOl, hNl]
        rw [← Nat.add_mul, ← Nat.add_mul]
        congr 1
        omega
      have hcells : Cells β D (Vs.toArray ++ News.toArray ++ Builtin.zeroCells zv (grownCap w (len + n) cap el - (len + n))) 0 (old ++ new) := by
        refine Cells.ofVRs (o := 0) (g4.append hnew) (fun y hy => by rcases List.mem_append.1 hy with hy | hy; exact g8 y hy; exact h1 y hy) (fun j U hU => ?_) ?_
        · rw [Nat.zero_add]
          have hj : j < (Vs ++ News).length := by
            rcases Nat.lt_or_ge j (Vs ++ News).length with h' | h'
            · exact h'
            · rw [List.getElem?_eq_none h'] at hU; cases hU
          rw [Array.getElem?_append_left (by simpa using hj)]
          simpa using hU
        · rw [hcs, Nat.zero_add, List.length_append, g3, hlen, ← Nat.add_mul]
          exact Nat.mul_le_mul_right _ hge
      have hvr : VR (named β u.n ⟨w.heap.size, 0, (Vs.toArray ++ News.toArray ++ Builtin.zeroCells zv (grownCap w (len + n) cap el - (len + n))).size⟩) (fun j => D j ∨ j = u.n) (.so id2 0 (len + n) (len + n) z) (.slice (some ⟨w.heap.size, 0, none⟩) (len + n) (grownCap w (len + n) cap el)) := by
        simp only [VR]
        rw [n1, named_same]
        refine ⟨.inr rfl, Nat.le_refl _, _, _, rfl, ⟨hge, grownCap_le_maxLen _ _ _ _ (show _ ≤ 9223372036854775807 by omega)⟩, .inr rfl, ?_⟩
        simp only [hcs]
        omega
      have hru : Rel β D B W u.h w := ⟨by rw [g1]; exact hr.hr, hr.bel⟩
      have hfu : Fresh D u.n.num s'.n.num := by rw [g2]; exact hf
      obtain ⟨β', D', w', V, x1, x2, x3, x4⟩ := Gives.fresh hru h4 hfu (.inr rfl) _ el (0, 0) (fzok_zero _ _) hcells (fun e => by simp at e) (hA.grow (some ⟨(β id).blk, (β id).base + off, none⟩) len cap Vs hn hl' (by simpa only [Builtin.firstCells] using hload)) hvr
      exact ⟨β', D', w', V, by rw [← g2]; exact x1, x2, x3, x4⟩
    · obtain ⟨u0, t, h2, h3⟩ := bind_some h
      obtain ⟨rfl, rfl⟩ := pure_some h3
      obtain ⟨g1, g2, g3, g4⟩ := wr_ok (P := P) hr.hr hnew h1 h2
      have hle : len + n ≤ cap := Nat.le_of_ble_eq_true hb
      refine ⟨β, D, _, .slice (some ⟨(β id).blk, (β id).base + off, none⟩) (len + n) cap, by rw [g1]; exact Ext.refl _ _ _, ⟨g2, setCells_below _ _ (hr.hr.old id hd) _ _ _ _ hr.bel⟩, by simp only [VR]; first | exact ⟨hd, rfl⟩ | exact ⟨hd, trivial⟩, ?_⟩
      refine hA.room _ len cap _ hle (fun a ha => ?_) (by simp)
      cases ha
      rw [add_at, Nat.add_assoc]
      exact g4
  · -- open
    rename_i id off len k w'
    simp only [VR] at hx
    obtain ⟨hd, hlk, q, cap, rfl, hkc, hq, hlim⟩ := hx
    simp only [grow] at h
    have h0 := ifB_some h
    clear h
    obtain ⟨hwz, h⟩ := h0
    obtain rfl := Nat.eq_of_beq_eq_true hwz
    clear hwz
    cases hb : Nat.ble (len + n) k <;> rw [hb] at h <;> simp only at h
    · have hn : k < len + n := by
        rcases Nat.lt_or_ge k (len + n) with h' | h'
        · exact h'
        · rw [Nat.ble_eq_true_of_le h'] at hb; cases hb
      obtain ⟨hl, h⟩ := ifB_some h
      have hl' : len ≤ 1048576 := Nat.le_of_ble_eq_true hl
      obtain ⟨id2, u, h2, h3⟩ := bind_some h
      obtain ⟨rfl, rfl⟩ := pure_some h3
      obtain ⟨n1, n2, kk, hkk, hkl, hh⟩ := over_ok h2
      have hdn : ¬ D s.n := hf s.n (Nat.le_refl _) (by omega)
      by_cases hroom : len + n ≤ cap
      · -- in its place
        obtain rfl : q = (β id).base + off := hq.resolve_left (by omega)
        obtain ⟨did, c, el', fz, hb2, hs2, hf2, hc2, hzk2⟩ := hr.hr.live id kk hkk
        have hfit : (β id).base + off + len * z + new.length ≤ (β id).lim := by
          rw [hlen, ← hlim]
          have : len * z + n * z ≤ cap * z := by rw [← Nat.add_mul]; exact Nat.mul_le_mul_right _ hroom
          omega
        have hon := hr.hr.onto hdn hkk off (len * z) hkl hnew h1 hfit
        have hone : ∀ V ∈ News, V.oneCell' = true := fun V hV => by
          obtain ⟨j, hj⟩ := List.getElem?_of_mem hV
          obtain ⟨x, hx, hv⟩ := hnew.back j V hj
          exact hv.one (h1 x (List.mem_of_getElem? hx))
        have hst := run_storeCells_cells (P := P) (β id).blk ((β id).base + off + len * z) News 0 w
          (fun j hj => (hr.hr.there hkk _ (by rw [hnew.length] at hj; omega)).1) (fun j hj => (hr.hr.there hkk _ (by rw [hnew.length] at hj; omega)).2) hone
        refine ⟨_, _, _, .slice (some ⟨(β id).blk, (β id).base + off, none⟩) (len + n) cap, ?_, ⟨by rw [hh]; exact hon, setCells_below _ _ (hr.hr.old id hd) _ _ _ _ hr.bel⟩, ?_, ?_⟩
        · rw [n2]; exact named_ext β _ hdn
        · simp only [VR]
          subst n1
          rw [named_same]
          refine ⟨.inr rfl, Nat.le_refl _, _, _, rfl, ⟨hroom, hkc.2⟩, .inr rfl, ?_⟩
          simp only
          omega
        · refine hA.room _ len cap _ hroom (fun a ha => ?_) (by simp)
          cases ha
          rw [add_at]
          simpa using hst
      · -- a new row
        have hrm : cap < len + n := by omega
        obtain ⟨Vs, v1, v2, v3, v4, v5⟩ := hr.hr.read hkk off (len * z) hkl
        have hload := run_loadCells_list (P := P) w.drew ⟨(β id).blk, q, none⟩ Vs (fun j V hV => by
          have hj : j < Vs.length := by
            rcases Nat.lt_or_ge j Vs.length with h' | h'
            · exact h'
            · rw [List.getElem?_eq_none h'] at hV; cases hV
          have hlen0 : len ≠ 0 := fun e => by rw [e, Nat.zero_mul] at v2; omega
          rw [add_at, hq.resolve_left (by omega)]
          exact v3 j V hV)
        rw [v2] at hload
        have hrun := hA.grow (some ⟨(β id).blk, q, none⟩) len cap Vs hrm hl' (by simpa only [Builtin.firstCells] using hload)
        have hge := grownCap_ge w (len + n) cap el
        have hcs : (Vs.toArray ++ News.toArray ++ Builtin.zeroCells zv (grownCap w (len + n) cap el - (len + n))).size = grownCap w (len + n) cap el * z := by
          simp only [Array.size_append, List.size_toArray, size_zeroCells, hzv, v2, hNl]
          rw [← Nat.add_mul, ← Nat.add_mul]
          congr 1
          omega
        have hcells : Cells β D (Vs.toArray ++ News.toArray ++ Builtin.zeroCells zv (grownCap w (len + n) cap el - (len + n))) 0 ((kk.c.drop off).take (len * z) ++ new) := by
          refine Cells.ofVRs (o := 0) (v1.append hnew) (fun y hy => by rcases List.mem_append.1 hy with hy | hy; exact v5 y hy; exact h1 y hy) (fun j U hU => ?_) ?_
          · rw [Nat.zero_add]
            have hj : j < (Vs ++ News).length := by
              rcases Nat.lt_or_ge j (Vs ++ News).length with h' | h'
              · exact h'
              · rw [List.getElem?_eq_none h'] at hU; cases hU
            rw [Array.getElem?_append_left (by simpa using hj)]
            simpa using hU
          · rw [hcs, Nat.zero_add, List.length_append, hlen, List.length_take, List.length_drop, Nat.min_eq_left (by omega), ← Nat.add_mul]
            exact Nat.mul_le_mul_right _ hge
        have hgone : HR β D B (Heap.put s.h id none) w.drew := Ext.drew_heap (hr.hr.gone id) rfl
        have hfr := hgone.fresh hdn (kk.z.over off) _ el (0, 0) (fzok_zero _ _) hcells (fun e => by simp [Zf.over] at e)
        refine ⟨_, _, _, _, ?_, ⟨by rw [hh]; exact hfr, hr.bel.drew.alloc hr.hr.size _⟩, ?_, hrun⟩
        · rw [n2]; exact named_ext β _ hdn
        · simp only [VR]
          subst n1
          rw [named_same]
          refine ⟨.inr rfl, Nat.le_refl _, _, _, rfl, ⟨hge, grownCap_le_maxLen _ _ _ _ (show _ ≤ 9223372036854775807 by omega)⟩, .inr rfl, ?_⟩
          simp only [hcs]
          omega
    · obtain ⟨u0, t, h2, h3⟩ := bind_some h
      obtain ⟨rfl, rfl⟩ := pure_some h3
      have hle : len + n ≤ k := Nat.le_of_ble_eq_true hb
      obtain ⟨g1, g2, g3, g4⟩ := wr_ok (P := P) hr.hr hnew h1 h2
      refine ⟨β, D, _, .slice (some ⟨(β id).blk, q, none⟩) (len + n) cap, by rw [g1]; exact Ext.refl _ _ _, ⟨g2, setCells_below _ _ (hr.hr.old id hd) _ _ _ _ hr.bel⟩, by simp only [VR]; exact ⟨hd, hle, q, cap, rfl, hkc, hq, hlim⟩, ?_⟩
      refine hA.room _ len cap _ (by omega) (fun a ha => ?_) (by simp)
      cases ha
      by_cases hn0 : n = 0
      · subst hn0
        have : News = [] := List.eq_nil_of_length_eq_zero (by simpa using hNl)
        subst this
        rfl
      · rw [add_at, hq.resolve_left (by omega), Nat.add_assoc]
        exact g4
end
end Ev
end Go.Proofs.Ytijnjnncgkhabaa
