/- DERIVED. The quick evaluator's memory, against the plain one's. -/
import Derived.Test.YtijnjnncgkhabaaEvK
import Derived.Test.YtijnjnncgkhabaaEvR
set_option linter.unusedVariables false
namespace Go.Proofs.Ytijnjnncgkhabaa
namespace Ev
namespace Kq

theorem gt_up {α : Type} (d : Dg) (f : α → α) (t : N8 α) : gt d (up d f t) = f (gt d t) := by
  cases d <;> cases t <;> rfl
theorem gt_up_ne {α : Type} {d d' : Dg} (f : α → α) (t : N8 α) (h : d' ≠ d) : gt d' (up d f t) = gt d' t := by
  cases d <;> cases d' <;> first | exact absurd rfl h | (cases t; rfl)
theorem gt_all {α : Type} (d : Dg) (x : α) : gt d (N8.all x) = x := by cases d <;> rfl
section
variable (d : Dg)
theorem g0_eq : g0 d = gt d := by cases d <;> rfl
theorem g1_eq : g1 d = gt d := by cases d <;> rfl
theorem g2_eq : g2 d = gt d := by cases d <;> rfl
theorem g3_eq : g3 d = gt d := by cases d <;> rfl
theorem u0_eq : u0 d = up d := by cases d <;> rfl
theorem u1_eq : u1 d = up d := by cases d <;> rfl
theorem u2_eq : u2 d = up d := by cases d <;> rfl
theorem u3_eq : u3 d = up d := by cases d <;> rfl
theorem gB_eq : gB d = gt d := by cases d <;> rfl
theorem gH1_eq : gH1 d = gt d := by cases d <;> rfl
theorem gH2_eq : gH2 d = gt d := by cases d <;> rfl
theorem gH3_eq : gH3 d = gt d := by cases d <;> rfl
theorem gH4_eq : gH4 d = gt d := by cases d <;> rfl
theorem gH5_eq : gH5 d = gt d := by cases d <;> rfl
theorem uB_eq : uB d = up d := by cases d <;> rfl
theorem uH1_eq : uH1 d = up d := by cases d <;> rfl
theorem uH2_eq : uH2 d = up d := by cases d <;> rfl
theorem uH3_eq : uH3 d = up d := by cases d <;> rfl
theorem uH4_eq : uH4 d = up d := by cases d <;> rfl
theorem uH5_eq : uH5 d = up d := by cases d <;> rfl
end
theorem look_eq (id : Id) (h : H6) : look id h = gt id.f (gt id.e (gt id.d (gt id.c (gt id.b (gt id.a h))))) := by
  simp only [look, gB_eq, gH1_eq, gH2_eq, gH3_eq, gH4_eq, gH5_eq]
theorem lay_eq (id : Id) (b : OB) (h : H6) : lay id b h = up id.a (up id.b (up id.c (up id.d (up id.e (up id.f fun _ => b))))) h := by
  simp only [lay, uB_eq, uH1_eq, uH2_eq, uH3_eq, uH4_eq, uH5_eq]
theorem look_lay (id : Id) (b : OB) (h : H6) : look id (lay id b h) = b := by
  simp only [look_eq, lay_eq, gt_up]
theorem look_lay_ne {id j : Id} (b : OB) (h : H6) (hn : j ≠ id) : look j (lay id b h) = look j h := by
  obtain ⟨a1, b1, c1, g1, e1, f1⟩ := id
  obtain ⟨a2, b2, c2, g2, e2, f2⟩ := j
  simp only [look_eq, lay_eq]
  by_cases ha : a2 = a1
  · subst ha
    rw [gt_up]
    by_cases hb : b2 = b1
    · subst hb
      rw [gt_up]
      by_cases hc : c2 = c1
      · subst hc
        rw [gt_up]
        by_cases hd : g2 = g1
        · subst hd
          rw [gt_up]
          by_cases he : e2 = e1
          · subst he
            rw [gt_up]
            by_cases hf : f2 = f1
            · subst hf
              exact absurd rfl hn
            · rw [gt_up_ne _ _ hf]
          · rw [gt_up_ne _ _ he]
        · rw [gt_up_ne _ _ hd]
      · rw [gt_up_ne _ _ hc]
    · rw [gt_up_ne _ _ hb]
  · rw [gt_up_ne _ _ ha]
theorem look_h6 (id : Id) : look id h6 = none := by
  simp only [look_eq, h6, h5, h4, h3, h2, h1, gt_all]

/- lists -/
theorem lnL_eq : ∀ l : List AV, lnL l = l.length
  | [] => rfl
  | _ :: l => congrArg Nat.succ (lnL_eq l)
theorem apL_eq : ∀ l m : List AV, apL l m = l ++ m
  | [], _ => rfl
  | v :: l, m => congrArg (v :: ·) (apL_eq l m)
theorem hdL_eq (l : List AV) : hdL l = l[0]?.getD und := by cases l <;> rfl
theorem tlL_eq (l : List AV) : tlL l = l.drop 1 := by cases l <;> rfl
theorem tl8_eq (l : List AV) : tl8 l = l.drop 8 := by simp only [tl8, tlL_eq, List.drop_drop]
theorem pk_get (l : List AV) (d : Dg) : gt d (pk l) = l[d.val]?.getD und := by
  cases d <;> simp only [gt, sl, pk, hdL_eq, tlL_eq, List.drop_drop, List.getElem?_drop] <;> rfl

/- digits of a cell's number -/
theorem dig_val : ∀ x, x < 8 → (dig x).val = x
  | 0, _ => rfl | 1, _ => rfl | 2, _ => rfl | 3, _ => rfl | 4, _ => rfl | 5, _ => rfl | 6, _ => rfl | 7, _ => rfl
  | _ + 8, h => by omega
theorem e0_val (i : Nat) : (e0 i).val = i % 8 := dig_val _ (Nat.mod_lt _ (by omega))
theorem e1_val (i : Nat) : (e1 i).val = i / 8 % 8 := dig_val _ (Nat.mod_lt _ (by omega))
theorem e2_val (i : Nat) : (e2 i).val = i / 64 % 8 := dig_val _ (Nat.mod_lt _ (by omega))
theorem e3_val (i : Nat) : (e3 i).val = i / 512 % 8 := dig_val _ (Nat.mod_lt _ (by omega))
theorem getT_t1 (c : L1) (i : Nat) : getT (.t1 c) i = gt (e0 i) c := by rw [← g0_eq]; rfl
theorem getT_t2 (c : L2) (i : Nat) : getT (.t2 c) i = gt (e0 i) (gt (e1 i) c) := by rw [← g0_eq, ← g1_eq]; rfl
theorem getT_t3 (c : L3) (i : Nat) : getT (.t3 c) i = gt (e0 i) (gt (e1 i) (gt (e2 i) c)) := by rw [← g0_eq, ← g1_eq, ← g2_eq]; rfl
theorem getT_t4 (c : L4) (i : Nat) : getT (.t4 c) i = gt (e0 i) (gt (e1 i) (gt (e2 i) (gt (e3 i) c))) := by rw [← g0_eq, ← g1_eq, ← g2_eq, ← g3_eq]; rfl
theorem setT_t1 (c : L1) (i : Nat) (v : AV) : setT (.t1 c) i v = .t1 (up (e0 i) (fun _ => v) c) := by rw [← u0_eq]; rfl
theorem setT_t2 (c : L2) (i : Nat) (v : AV) : setT (.t2 c) i v = .t2 (up (e1 i) (up (e0 i) fun _ => v) c) := by rw [← u0_eq, ← u1_eq]; rfl
theorem setT_t3 (c : L3) (i : Nat) (v : AV) : setT (.t3 c) i v = .t3 (up (e2 i) (up (e1 i) (up (e0 i) fun _ => v)) c) := by rw [← u0_eq, ← u1_eq, ← u2_eq]; rfl
theorem setT_t4 (c : L4) (i : Nat) (v : AV) : setT (.t4 c) i v = .t4 (up (e3 i) (up (e2 i) (up (e1 i) (up (e0 i) fun _ => v))) c) := by rw [← u0_eq, ← u1_eq, ← u2_eq, ← u3_eq]; rfl
theorem capT_set (t : Tr) (i : Nat) (v : AV) : capT (setT t i v) = capT t := by cases t <;> rfl
theorem getT_set {t : Tr} {i j : Nat} {v : AV} (hi : i < capT t) (hj : j < capT t) : getT (setT t i v) j = if j = i then v else getT t j := by
  have a0 := e0_val i; have a1 := e1_val i; have a2 := e2_val i; have a3 := e3_val i
  have b0 := e0_val j; have b1 := e1_val j; have b2 := e2_val j; have b3 := e3_val j
  cases t with
  | t0 c =>
    have hi' : i < 1 := hi
    have hj' : j < 1 := hj
    rw [if_pos (by omega)]; rfl
  | t1 c =>
    have hi' : i < 8 := hi
    have hj' : j < 8 := hj
    rw [setT_t1, getT_t1, getT_t1]
    by_cases h0 : e0 j = e0 i
    · rw [h0] at b0
      rw [h0, gt_up, if_pos (by omega)]
    · rw [gt_up_ne _ _ h0, if_neg (fun e => h0 (by rw [e]))]
  | t2 c =>
    have hi' : i < 64 := hi
    have hj' : j < 64 := hj
    rw [setT_t2, getT_t2, getT_t2]
    by_cases h1 : e1 j = e1 i
    · rw [h1] at b1
      rw [h1, gt_up]
      by_cases h0 : e0 j = e0 i
      · rw [h0] at b0
        rw [h0, gt_up, if_pos (by omega)]
      · rw [gt_up_ne _ _ h0, if_neg (fun e => h0 (by rw [e]))]
    · rw [gt_up_ne _ _ h1, if_neg (fun e => h1 (by rw [e]))]
  | t3 c =>
    have hi' : i < 512 := hi
    have hj' : j < 512 := hj
    rw [setT_t3, getT_t3, getT_t3]
    by_cases h2 : e2 j = e2 i
    · rw [h2] at b2
      rw [h2, gt_up]
      by_cases h1 : e1 j = e1 i
      · rw [h1] at b1
        rw [h1, gt_up]
        by_cases h0 : e0 j = e0 i
        · rw [h0] at b0
          rw [h0, gt_up, if_pos (by omega)]
        · rw [gt_up_ne _ _ h0, if_neg (fun e => h0 (by rw [e]))]
      · rw [gt_up_ne _ _ h1, if_neg (fun e => h1 (by rw [e]))]
    · rw [gt_up_ne _ _ h2, if_neg (fun e => h2 (by rw [e]))]
  | t4 c =>
    have hi' : i < 4096 := hi
    have hj' : j < 4096 := hj
    rw [setT_t4, getT_t4, getT_t4]
    by_cases h3 : e3 j = e3 i
    · rw [h3] at b3
      rw [h3, gt_up]
      by_cases h2 : e2 j = e2 i
      · rw [h2] at b2
        rw [h2, gt_up]
        by_cases h1 : e1 j = e1 i
        · rw [h1] at b1
          rw [h1, gt_up]
          by_cases h0 : e0 j = e0 i
          · rw [h0] at b0
            rw [h0, gt_up, if_pos (by omega)]
          · rw [gt_up_ne _ _ h0, if_neg (fun e => h0 (by rw [e]))]
        · rw [gt_up_ne _ _ h1, if_neg (fun e => h1 (by rw [e]))]
      · rw [gt_up_ne _ _ h2, if_neg (fun e => h2 (by rw [e]))]
    · rw [gt_up_ne _ _ h3, if_neg (fun e => h3 (by rw [e]))]
theorem dz {d : Dg} (h : d.val = 0) : d = .d0 := Dg.val_inj (by rw [h]; rfl)
theorem capT_wrap (t : Tr) : capT t ≤ capT (wrapT t) := by
  cases t with
  | t0 c => show 1 ≤ 8; omega
  | t1 c => show 8 ≤ 64; omega
  | t2 c => show 64 ≤ 512; omega
  | t3 c => show 512 ≤ 4096; omega
  | t4 c => exact Nat.le_refl _
theorem getT_wrap {t : Tr} {i : Nat} (hi : i < capT t) : getT (wrapT t) i = getT t i := by
  have a0 := e0_val i; have a1 := e1_val i; have a2 := e2_val i; have a3 := e3_val i
  cases t with
  | t0 c =>
    have hi' : i < 1 := hi
    show getT (.t1 ⟨c, _, _, _, _, _, _, _⟩) i = c
    rw [getT_t1, dz (d := e0 i) (by omega)]; rfl
  | t1 c =>
    have hi' : i < 8 := hi
    show getT (.t2 ⟨c, _, _, _, _, _, _, _⟩) i = _
    rw [getT_t2, dz (d := e1 i) (by omega), getT_t1]; rfl
  | t2 c =>
    have hi' : i < 64 := hi
    show getT (.t3 ⟨c, _, _, _, _, _, _, _⟩) i = _
    rw [getT_t3, dz (d := e2 i) (by omega), getT_t2]; rfl
  | t3 c =>
    have hi' : i < 512 := hi
    show getT (.t4 ⟨c, _, _, _, _, _, _, _⟩) i = _
    rw [getT_t4, dz (d := e3 i) (by omega), getT_t3]; rfl
  | t4 c => rfl
theorem fitT_succ (f : Nat) (t : Tr) (n : Nat) : fitT (f + 1) t n = Bool.rec (motive := fun _ => Tr) (fitT f (wrapT t) n) t (Nat.ble n (capT t)) := by
  show Bool.rec (motive := fun _ => (Tr → Nat → Tr) → Tr → Nat → Tr) _ _ (Nat.ble n (capT t)) _ t n = _
  cases Nat.ble n (capT t) <;> rfl
theorem fitT_ok : ∀ (f : Nat) (t : Tr) (n : Nat), capT t ≤ capT (fitT f t n) ∧ ∀ i, i < capT t → getT (fitT f t n) i = getT t i
  | 0, t, n => ⟨Nat.le_refl _, fun _ _ => rfl⟩
  | f + 1, t, n => by
    rw [fitT_succ]
    cases Nat.ble n (capT t)
    · obtain ⟨h1, h2⟩ := fitT_ok f (wrapT t) n
      have h3 := capT_wrap t
      exact ⟨Nat.le_trans h3 h1, fun i hi => (h2 i (Nat.lt_of_lt_of_le hi h3)).trans (getT_wrap hi)⟩
    · exact ⟨Nat.le_refl _, fun _ _ => rfl⟩
theorem capT_put : ∀ (l : List AV) (t : Tr) (i : Nat), capT (putL l t i) = capT t
  | [], _, _ => rfl
  | v :: l, t, i => (capT_put l (setT t i v) (i + 1)).trans (capT_set t i v)
theorem getT_put : ∀ (l : List AV) (t : Tr) (i j : Nat), i + l.length ≤ capT t → j < capT t → getT (putL l t i) j = if i ≤ j ∧ j < i + l.length then l[j - i]?.getD und else getT t j
  | [], t, i, j, _, _ => by
    rw [if_neg (by simp only [List.length_nil]; omega)]; rfl
  | v :: l, t, i, j, hi, hj => by
    have hl : (v :: l).length = l.length + 1 := rfl
    show getT (putL l (setT t i v) (i + 1)) j = _
    rw [getT_put l _ _ _ (by rw [capT_set]; omega) (by rw [capT_set]; exact hj), getT_set (by omega) hj]
    by_cases h1 : j = i
    · subst h1
      rw [if_neg (by omega), if_pos rfl, if_pos (by omega), Nat.sub_self]
      rfl
    · by_cases h2 : i ≤ j ∧ j < i + (v :: l).length
      · rw [if_pos (by omega), if_pos h2]
        obtain ⟨k, rfl⟩ : ∃ k, j = i + 1 + k := ⟨j - (i + 1), by omega⟩
        rw [show i + 1 + k - (i + 1) = k by omega, show i + 1 + k - i = k + 1 by omega]
        rfl
      · rw [if_neg (by omega), if_neg h1, if_neg h2]
theorem getL_length : ∀ (m : Nat) (t : Tr) (i : Nat), (getL m t i).length = m
  | 0, _, _ => rfl
  | m + 1, t, i => congrArg Nat.succ (getL_length m t (i + 1))
theorem getL_get : ∀ (m : Nat) (t : Tr) (i j : Nat), (getL m t i)[j]? = if j < m then some (getT t (i + j)) else none
  | 0, t, i, j => by rw [if_neg (by omega)]; rfl
  | m + 1, t, i, 0 => by rw [if_pos (by omega)]; rfl
  | m + 1, t, i, j + 1 => by
    show (getL m t (i + 1))[j]? = _
    rw [getL_get m t (i + 1) j, show i + 1 + j = i + (j + 1) by omega]
    by_cases h : j < m
    · rw [if_pos h, if_pos (by omega)]
    · rw [if_neg h, if_neg (by omega)]
theorem getL_part {n : Nat} {t : Tr} {lo m : Nat} (h : lo + m ≤ n) : ((getL n t 0).drop lo).take m = getL m t lo := by
  apply List.ext_getElem?
  intro j
  rw [List.getElem?_take, List.getElem?_drop, getL_get, getL_get, Nat.zero_add]
  by_cases hj : j < m
  · rw [if_pos hj, if_pos hj, if_pos (by omega)]
  · rw [if_neg hj, if_neg hj]
theorem getL_put {n : Nat} {t : Tr} {lo : Nat} {l : List AV} (hn : n ≤ capT t) (h : lo + l.length ≤ n) : getL n (putL l t lo) 0 = (getL n t 0).take lo ++ (l ++ (getL n t 0).drop (lo + l.length)) := by
  apply List.ext_getElem?
  intro j
  have hlen : ((getL n t 0).take lo).length = lo := by rw [List.length_take, getL_length]; omega
  rw [getL_get, Nat.zero_add]
  by_cases h1 : j < lo
  · rw [List.getElem?_append_left (by omega), List.getElem?_take, if_pos h1, getL_get, Nat.zero_add, if_pos (by omega), if_pos (by omega), getT_put _ _ _ _ (by omega) (by omega), if_neg (by omega)]
  · rw [List.getElem?_append_right (by omega), hlen]
    by_cases h2 : j < lo + l.length
    · rw [List.getElem?_append_left (by omega), if_pos (by omega), getT_put _ _ _ _ (by omega) (by omega), if_pos (by omega)]
      rw [List.getElem?_eq_getElem (by omega)]
      rfl
    · rw [List.getElem?_append_right (by omega), List.getElem?_drop, getL_get, Nat.zero_add, show lo + l.length + (j - lo - l.length) = j by omega]
      by_cases h3 : j < n
      · rw [if_pos h3, if_pos h3, getT_put _ _ _ _ (by omega) (by omega), if_neg (by omega)]
      · rw [if_neg h3, if_neg h3]
theorem getL_of {n : Nat} {t : Tr} {l : List AV} (hl : l.length = n) (h : ∀ j, j < n → getT t j = l[j]?.getD und) : getL n t 0 = l := by
  apply List.ext_getElem?
  intro j
  rw [getL_get, Nat.zero_add]
  by_cases hj : j < n
  · rw [if_pos hj, h j hj, List.getElem?_eq_getElem (by omega)]
    rfl
  · rw [if_neg hj, List.getElem?_eq_none (by omega)]
theorem all1 (v : AV) (j : Nat) : getT (.t1 (N8.all v)) j = v := by rw [getT_t1, gt_all]
theorem all2 (v : AV) (j : Nat) : getT (.t2 (N8.all (N8.all v))) j = v := by rw [getT_t2, gt_all, gt_all]
theorem all3 (v : AV) (j : Nat) : getT (.t3 (N8.all (N8.all (N8.all v)))) j = v := by rw [getT_t3, gt_all, gt_all, gt_all]
theorem all4 (v : AV) (j : Nat) : getT (.t4 (N8.all (N8.all (N8.all (N8.all v))))) j = v := by rw [getT_t4, gt_all, gt_all, gt_all, gt_all]
theorem getT_all (n : Nat) (v : AV) (j : Nat) : getT (allT n v) j = v := by
  unfold allT
  cases h1 : Nat.ble n 1 <;> dsimp only
  · cases h2 : Nat.ble n 8 <;> dsimp only
    · cases h3 : Nat.ble n 64 <;> dsimp only
      · cases h4 : Nat.ble n 512 <;> dsimp only
        · exact all4 v j
        · exact all3 v j
      · exact all2 v j
    · exact all1 v j
  · rfl
theorem toT_ok (l : List AV) (h : l.length ≤ capT (toT l)) : getL l.length (toT l) 0 = l := by
  refine getL_of rfl fun j hj => ?_
  unfold toT at h ⊢
  rw [lnL_eq] at h ⊢
  cases h1 : Nat.ble l.length 1 <;> rw [h1] at h <;> dsimp only at h ⊢
  · rw [lnL_eq] at h ⊢
    cases h2 : Nat.ble l.length 8 <;> rw [h2] at h <;> dsimp only at h ⊢
    · rw [capT_put] at h
      rw [lnL_eq] at h ⊢
      rw [getT_put _ _ _ _ (by omega) (by omega), if_pos (by omega)]
      simp
    · have := Nat.le_of_ble_eq_true h2
      have hv := e0_val j
      rw [getT_t1, pk_get, hv, Nat.mod_eq_of_lt (by omega)]
  · have := Nat.le_of_ble_eq_true h1
    obtain rfl : j = 0 := by omega
    exact hdL_eq l

/-- the plain block -/
noncomputable def Bk.pl (b : Bk) : Blk := ⟨b.z, getL b.n b.t 0⟩
/-- memory agrees -/
structure RH (t : H6) (h : Heap) : Prop where
  at_ : ∀ id, (look id t).map Bk.pl = h id
  cap : ∀ id b, look id t = some b → b.n ≤ capT b.t
theorem RH.some {t : H6} {h : Heap} (hr : RH t h) {id : Id} {b : Bk} (hl : look id t = some b) : h id = some b.pl := by
  rw [← hr.at_, hl]; rfl
theorem RH.put {t : H6} {h : Heap} (hr : RH t h) (id : Id) (b : OB) (hb : ∀ k, b = Option.some k → k.n ≤ capT k.t) : RH (lay id b t) (Heap.put h id (b.map Bk.pl)) := by
  refine ⟨fun j => ?_, fun j k hk => ?_⟩
  · unfold Heap.put
    by_cases hj : j = id
    · subst hj
      rw [look_lay, if_pos rfl]
    · rw [look_lay_ne _ _ hj, if_neg (fun e => hj (Id.num_inj e)), hr.at_]
  · by_cases hj : j = id
    · subst hj
      rw [look_lay] at hk
      exact hb k hk
    · rw [look_lay_ne _ _ hj] at hk
      exact hr.cap j k hk
structure RS (t : St) (s : S) : Prop where
  tr : t.tr = s.tr
  h : RH t.h s.h
  n : t.n = s.n
  r : t.r = s.r
  w : t.w = s.w
/-- WHAT THE QUICK ONE FINDS TRUE, THE PLAIN ONE GIVES. -/
def Ref {α β : Type} (R : α → β → Prop) (q : M α) (m : Ev.M β) : Prop := ∀ t s k, RS t s → q t k = true → ∃ a b t' s', m s = some (b, s') ∧ R a b ∧ RS t' s' ∧ k a t' = true

section
variable {α β γ δ : Type} {R : α → β → Prop} {Q : γ → δ → Prop}
theorem Ref.pure {a : α} {b : β} (h : R a b) : Ref R (M.pure a) (Ev.M.pure b) := fun t s k hs hk => ⟨a, b, t, s, rfl, h, hs, hk⟩
theorem Ref.no {m : Ev.M β} : Ref R (M.no : M α) m := fun t s k hs hk => by simp [M.no] at hk
theorem Ref.bind {q : M α} {m : Ev.M β} {f : α → M γ} {g : β → Ev.M δ} (h : Ref R q m) (hf : ∀ a b, R a b → Ref Q (f a) (g b)) : Ref Q (M.bind q f) (Ev.M.bind m g) := by
  intro t s k hs hk
  obtain ⟨a, b, t1, s1, h1, h2, h3, h4⟩ := h t s _ hs hk
  obtain ⟨c, d, t2, s2, g1, g2, g3, g4⟩ := hf a b h2 t1 s1 k h3 h4
  exact ⟨c, d, t2, s2, by simp only [Ev.M.bind, h1, g1], g2, g3, g4⟩
theorem Ref.ofO {o : Option α} {f : α → M γ} {g : α → Ev.M δ} (hf : ∀ a, o = some a → Ref Q (f a) (g a)) : Ref Q (M.ofO o f) (Ev.M.ofO o g) := by
  cases o with
  | none => exact Ref.no
  | some a => exact hf a rfl
theorem Ref.ifB {b : Bool} {q : M γ} {m : Ev.M δ} (h : Ref Q q m) : Ref Q (M.ifB b q) (Ev.M.ifB b m) := by
  cases b with
  | false => exact Ref.no
  | true => exact h
end

def logR (s : St) (id : Id) (lo m : Nat) : St := ⟨s.tr, s.h, s.n, match s.tr with | true => ⟨id, lo, m⟩ :: s.r | false => s.r, s.w⟩
def logW (s : St) (id : Id) (lo m : Nat) : St := ⟨s.tr, s.h, s.n, s.r, match s.tr with | true => ⟨id, lo, m⟩ :: s.w | false => s.w⟩
theorem lgR_eq (s : St) (id : Id) (lo m : Nat) (k : St → Bool) : lgR s id lo m k = k (logR s id lo m) := by
  obtain ⟨tr, h, n, r, w⟩ := s
  cases tr <;> rfl
theorem lgW_eq (s : St) (id : Id) (lo m : Nat) (k : St → Bool) : lgW s id lo m k = k (logW s id lo m) := by
  obtain ⟨tr, h, n, r, w⟩ := s
  cases tr <;> rfl
theorem RS.logR {t : St} {s : S} (h : RS t s) (id : Id) (lo m : Nat) : RS (logR t id lo m) (Ev.M.logR s id lo m) := by
  obtain ⟨tr, hh, n, r, w⟩ := t
  obtain ⟨tr', hh', n', r', w'⟩ := s
  obtain ⟨h1, h2, h3, h4, h5⟩ := h
  simp only at h1 h3 h4 h5
  subst h1 h3 h4 h5
  cases tr
  · exact ⟨rfl, h2, rfl, rfl, rfl⟩
  · exact ⟨rfl, h2, rfl, rfl, rfl⟩
theorem RS.logW {t : St} {s : S} (h : RS t s) (id : Id) (lo m : Nat) : RS (logW t id lo m) (Ev.M.logW s id lo m) := by
  obtain ⟨tr, hh, n, r, w⟩ := t
  obtain ⟨tr', hh', n', r', w'⟩ := s
  obtain ⟨h1, h2, h3, h4, h5⟩ := h
  simp only at h1 h3 h4 h5
  subst h1 h3 h4 h5
  cases tr
  · exact ⟨rfl, h2, rfl, rfl, rfl⟩
  · exact ⟨rfl, h2, rfl, rfl, rfl⟩
theorem RS.heap {t : St} {s : S} (h : RS t s) {n n' : Id} {t' : H6} {h' : Heap} (hn : n = n') (hr : RH t' h') : RS ⟨t.tr, t', n, t.r, t.w⟩ ⟨s.tr, h', n', s.r, s.w⟩ := ⟨h.tr, hr, hn, h.r, h.w⟩
theorem hasB_some {id : Id} {top : Nat} {s : St} {k : Bk → Bool} (h : hasB id top s k = true) : ∃ b, look id s.h = some b ∧ top ≤ b.n ∧ k b = true := by
  unfold hasB at h
  cases hl : look id s.h with
  | none => rw [hl] at h; cases h
  | some b =>
    rw [hl] at h
    dsimp only at h
    cases hb : Nat.ble top b.n with
    | false => rw [hb] at h; cases h
    | true => rw [hb] at h; exact ⟨b, rfl, Nat.le_of_ble_eq_true hb, h⟩
theorem turn_eq (b : Bk) (f : Tr → Tr) (k : Bk → Bool) : turn b f k = k ⟨b.z, b.n, f b.t⟩ := by
  obtain ⟨z, n, t⟩ := b
  unfold turn
  dsimp only
  cases f t <;> rfl
theorem incA_some {a : Dg} {k : Id → Bool} (h : incA a k = true) : ∃ j, Id.inc ⟨a, .d7, .d7, .d7, .d7, .d7⟩ = some j ∧ k j = true := by
  cases a <;> first | exact ⟨_, rfl, h⟩ | cases h
theorem incB_some {a b : Dg} {k : Id → Bool} (h : incB a b k = true) : ∃ j, Id.inc ⟨a, b, .d7, .d7, .d7, .d7⟩ = some j ∧ k j = true := by
  cases b <;> first | exact ⟨_, rfl, h⟩ | exact incA_some h
theorem incC_some {a b c : Dg} {k : Id → Bool} (h : incC a b c k = true) : ∃ j, Id.inc ⟨a, b, c, .d7, .d7, .d7⟩ = some j ∧ k j = true := by
  cases c <;> first | exact ⟨_, rfl, h⟩ | exact incB_some h
theorem incD_some {a b c d : Dg} {k : Id → Bool} (h : incD a b c d k = true) : ∃ j, Id.inc ⟨a, b, c, d, .d7, .d7⟩ = some j ∧ k j = true := by
  cases d <;> first | exact ⟨_, rfl, h⟩ | exact incC_some h
theorem incE_some {a b c d e : Dg} {k : Id → Bool} (h : incE a b c d e k = true) : ∃ j, Id.inc ⟨a, b, c, d, e, .d7⟩ = some j ∧ k j = true := by
  cases e <;> first | exact ⟨_, rfl, h⟩ | exact incD_some h
theorem incQ_some {i : Id} {k : Id → Bool} (h : incQ i k = true) : ∃ j, i.inc = some j ∧ k j = true := by
  obtain ⟨a, b, c, d, e, f⟩ := i
  have h' : incF a b c d e f k = true := h
  cases f <;> first | exact ⟨_, rfl, h'⟩ | exact incE_some h'

theorem rd_eval {s : S} {id : Id} {k : Blk} (hk : s.h id = some k) {lo m : Nat} (hm : Nat.beq m 0 = false) (hle : lo + m ≤ k.c.length) : Ev.M.rd id lo m s = some ((k.c.drop lo).take m, Ev.M.logR s id lo m) := by
  unfold Ev.M.rd
  rw [hm]
  dsimp only
  rw [hk]
  dsimp only
  rw [Nat.ble_eq_true_of_le hle]
theorem Ref.rd (id : Id) (lo m : Nat) : Ref Eq (Kq.rd id lo m) (Ev.M.rd id lo m) := by
  unfold Kq.rd
  cases hm : Nat.beq m 0 with
  | true =>
    unfold Ev.M.rd
    rw [hm]
    exact Ref.pure rfl
  | false =>
    intro t s k hs hk
    obtain ⟨b, hl, hle, hk⟩ := hasB_some hk
    rw [lgR_eq] at hk
    have hle' : lo + m ≤ b.n := hle
    refine ⟨_, _, _, _, rd_eval (hs.h.some hl) hm (by simp only [Bk.pl, getL_length]; exact hle'), ?_, hs.logR id lo m, hk⟩
    exact (getL_part hle').symm
theorem Ref.rd1 (id : Id) (off : Nat) : Ref Eq (Kq.rd1 id off) (Ev.ldF (.p id off)) := by
  intro t s k hs hk
  obtain ⟨b, hl, hle, hk⟩ := hasB_some hk
  rw [lgR_eq] at hk
  have hle' : off + 1 ≤ b.n := hle
  refine ⟨_, _, _, _, ?_, rfl, hs.logR id off 1, hk⟩
  show Ev.M.bind (Ev.M.rd id off 1) _ s = _
  unfold Ev.M.bind
  rw [rd_eval (hs.h.some hl) rfl (by simp only [Bk.pl, getL_length]; exact hle')]
  simp only [Bk.pl]
  rw [getL_part hle']
  rfl
theorem Ref.wrN (id : Id) (lo : Nat) (l : List AV) (hl0 : l.isEmpty = false) : Ref Eq (Kq.wrN id lo l.length l) (Ev.M.wr id lo l) := by
  intro t s k hs hk
  obtain ⟨b, hl, hle, hk⟩ := hasB_some hk
  rw [turn_eq] at hk
  have hle' : lo + l.length ≤ b.n := hle
  have hcap := hs.h.cap id b hl
  change lgW ⟨t.tr, lay id (some ⟨b.z, b.n, Kq.putL l b.t lo⟩) t.h, t.n, t.r, t.w⟩ id lo l.length (k ()) = true at hk
  rw [lgW_eq] at hk
  refine ⟨(), (), _, _, ?_, rfl, ((hs.heap hs.n (hs.h.put id (some ⟨b.z, b.n, Kq.putL l b.t lo⟩) ?_)).logW id lo l.length), hk⟩
  · unfold Ev.M.wr
    rw [hl0]
    dsimp only
    rw [hs.h.some hl]
    simp only [Bk.pl, getL_length]
    rw [Nat.ble_eq_true_of_le hle']
    simp only [Option.map_some, Bk.pl]
    rw [getL_put hcap hle']
  · rintro k' ⟨⟩
    dsimp only
    rw [capT_put]; exact hcap
theorem Ref.wr (id : Id) (lo : Nat) (l : List AV) : Ref Eq (Kq.wr id lo l) (Ev.M.wr id lo l) := by
  unfold Kq.wr
  cases l with
  | nil => exact Ref.pure rfl
  | cons v l =>
    have := Ref.wrN id lo (v :: l) rfl
    rw [← lnL_eq] at this
    exact this
theorem Ref.wr1 (id : Id) (off : Nat) {v : AV} (hv : v.cells = some [v]) : Ref Eq (Kq.wr1 id off v) (Ev.stF 1 (.p id off) v) := by
  have h1 : Ref Eq (M.bind (Kq.wrN id off 1 [v]) fun _ => M.pure und) (Ev.M.bind (Ev.M.wr id off [v]) fun _ => Ev.M.pure und) :=
    Ref.bind (R := Eq) (Ref.wrN id off [v] rfl) fun _ _ _ => Ref.pure rfl
  have h2 : Ev.stF 1 (.p id off) v = Ev.M.bind (Ev.M.wr id off [v]) fun _ => Ev.M.pure und := by
    simp only [Ev.stF, hv]
    rfl
  rw [h2]
  exact h1
theorem Ref.newT {z : Zf} {n : Nat} {t : Tr} {l : List AV} (hn : n = l.length) (hl : n ≤ capT t → getL n t 0 = l) : Ref Eq (Kq.newT z n t) (Ev.M.new z l) := by
  intro u s k hs hk
  unfold Kq.newT at hk
  cases hb : Nat.ble n (capT t) with
  | false => rw [hb] at hk; cases hk
  | true =>
    rw [hb] at hk
    dsimp only at hk
    have hle := Nat.le_of_ble_eq_true hb
    obtain ⟨j, hj, hk⟩ := incQ_some hk
    change lgW ⟨u.tr, lay u.n (some ⟨z, n, t⟩) u.h, j, u.r, u.w⟩ u.n 0 (n + 1) (k u.n) = true at hk
    rw [lgW_eq] at hk
    rw [hs.n] at hj
    have h1 := ((hs.heap (n := j) rfl (hs.h.put u.n (some ⟨z, n, t⟩) (by rintro k' ⟨⟩; exact hle))).logW u.n 0 (n + 1))
    refine ⟨_, _, _, _, ?_, hs.n, h1, hk⟩
    unfold Ev.M.new
    rw [hj]
    simp only [Option.map_some, Bk.pl]
    rw [hl hle, hn, hs.n]
theorem Ref.new (z : Zf) (l : List AV) : Ref Eq (Kq.new z l) (Ev.M.new z l) := by
  unfold Kq.new
  rw [lnL_eq]
  exact Ref.newT rfl (toT_ok l)
theorem Ref.over (id : Id) (lo m : Nat) (l : List AV) : Ref Eq (Kq.over id lo m l) (Ev.M.over id lo m l) := by
  intro t s k hs hk
  obtain ⟨b, hl, hle, hk⟩ := hasB_some hk
  have hle' : lo + m ≤ b.n := hle
  obtain ⟨j, hj, hk⟩ := incQ_some hk
  have hcap := hs.h.cap id b hl
  rw [hs.n] at hj
  have key : ∀ T : Tr, (m + l.length ≤ capT T → getL (m + l.length) T 0 = (((getL b.n b.t 0).drop lo).take m) ++ l) → over2 j id lo m l b t k T = true →
      ∃ a b' t' s', Ev.M.over id lo m l s = some (b', s') ∧ a = b' ∧ RS t' s' ∧ k a t' = true := by
    intro T hT hk
    unfold over2 at hk
    rw [lnL_eq] at hk
    cases hb : Nat.ble (Nat.add m l.length) (capT T) with
    | false => rw [hb] at hk; cases hk
    | true =>
      rw [hb] at hk
      dsimp only at hk
      rw [lnL_eq] at hk
      have hT' := Nat.le_of_ble_eq_true hb
      change lgR ⟨t.tr, lay t.n (some ⟨b.z.over lo, m + l.length, T⟩) (lay id none t.h), j, t.r, t.w⟩ id 0 (b.n + 1) _ = true at hk
      rw [lgR_eq, lgW_eq, lgW_eq] at hk
      have h1 := (((hs.heap (n := j) rfl ((hs.h.put id none (by rintro k' ⟨⟩)).put t.n (some ⟨b.z.over lo, m + l.length, T⟩) (by rintro k' ⟨⟩; exact hT'))).logR id 0 (b.n + 1)).logW id 0 (b.n + 1)).logW t.n 0 (m + l.length + 1)
      refine ⟨_, _, _, _, ?_, hs.n, h1, hk⟩
      unfold Ev.M.over
      rw [hs.h.some hl]
      simp only [Bk.pl, getL_length]
      rw [Nat.ble_eq_true_of_le hle']
      dsimp only
      rw [hj]
      simp only [Option.map_some, Option.map_none, Bk.pl]
      rw [hT hT', hs.n]
  cases h0 : Nat.beq lo 0 with
  | true =>
    rw [h0] at hk
    obtain rfl := Nat.eq_of_beq_eq_true h0
    refine key _ (fun hc => ?_) hk
    rw [lnL_eq] at hc ⊢
    obtain ⟨f1, f2⟩ := fitT_ok 4 b.t (Nat.add m l.length)
    rw [capT_put] at hc
    have hmc : m ≤ capT b.t := by omega
    refine getL_of ?_ fun q hq => ?_
    · rw [List.length_append, List.length_take, List.length_drop, getL_length]; omega
    · rw [getT_put _ _ _ _ hc (by omega)]
      have hlen : (((getL b.n b.t 0).drop 0).take m).length = m := by rw [List.length_take, List.length_drop, getL_length]; omega
      by_cases h1 : q < m
      · rw [if_neg (by omega), List.getElem?_append_left (by omega), List.drop_zero, List.getElem?_take, if_pos h1, getL_get, if_pos (by omega), Nat.zero_add, f2 q (by omega)]
        rfl
      · rw [if_pos (by omega), List.getElem?_append_right (by omega), hlen]
  | false =>
    rw [h0] at hk
    dsimp only at hk
    rw [apL_eq, ← getL_part hle'] at hk
    refine key _ (fun hc => ?_) hk
    have hlen : ((((getL b.n b.t 0).drop lo).take m) ++ l).length = m + l.length := by rw [List.length_append, List.length_take, List.length_drop, getL_length]; omega
    have := toT_ok ((((getL b.n b.t 0).drop lo).take m) ++ l)
    rw [hlen] at this
    exact this hc
theorem Ref.shared (id : Id) : Ref Eq (Kq.shared id) (Ev.M.shared id) := by
  intro t s k hs hk
  obtain ⟨b, hl, hle, hk⟩ := hasB_some hk
  rw [lgR_eq] at hk
  refine ⟨_, _, _, _, ?_, rfl, hs.logR id b.n 1, hk⟩
  unfold Ev.M.shared
  rw [hs.h.some hl]
  simp only [Bk.pl, getL_length]
theorem Ref.ends (id : Id) : Ref Eq (Kq.ends id) (Ev.M.ends id) := by
  intro t s k hs hk
  obtain ⟨b, hl, hle, hk⟩ := hasB_some hk
  rw [lgR_eq] at hk
  refine ⟨_, _, _, _, ?_, rfl, hs.logR id b.n 1, hk⟩
  unfold Ev.M.ends
  rw [hs.h.some hl]
  simp only [Bk.pl, getL_length]
end Kq
end Ev
end Go.Proofs.Ytijnjnncgkhabaa
