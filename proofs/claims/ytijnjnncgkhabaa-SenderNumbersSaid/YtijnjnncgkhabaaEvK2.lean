/- DERIVED. The quick evaluator's operations, against the plain one's. -/
import Derived.Test.YtijnjnncgkhabaaEvK1
set_option linter.unusedVariables false
namespace Go.Proofs.Ytijnjnncgkhabaa
namespace Ev
namespace Kq
theorem Ref.eqv {α β : Type} {q : M α} {m : Ev.M α} {f : α → M β} {g : α → Ev.M β} (h : Ref Eq q m) (hf : ∀ a, Ref Eq (f a) (g a)) : Ref Eq (M.bind q f) (Ev.M.bind m g) := Ref.bind h fun a b e => e ▸ hf a
theorem Ref.ret {α : Type} (a : α) : Ref Eq (M.pure a) (Ev.M.pure a) := Ref.pure rfl
theorem Ref.opt {α : Type} (o : Option α) : Ref Eq (M.ofO o M.pure) (Ev.M.ofO o Ev.M.pure) := Ref.ofO fun a _ => Ref.ret a
theorem Ref.firstL (w n : Nat) (v : AV) : Ref Eq (Kq.firstL w n v) (Ev.firstL w n v) := by
  cases v <;> simp only [Kq.firstL, Ev.firstL] <;> first | exact Ref.ret _ | exact Ref.rd _ _ _ | exact Ref.ifB (Ref.ret _) | exact Ref.no
theorem Ref.grow (z : Bool) (w : Nat) (s : AV) (n : Nat) (new : List AV) : Ref Eq (Kq.grow z w s n new) (Ev.grow z w s n new) := by
  cases s <;> simp only [Kq.grow, Ev.grow] <;> first | exact Ref.no | skip
  · cases Nat.beq n 0
    · exact Ref.eqv (Ref.new _ _) fun _ => Ref.ret _
    · exact Ref.ret _
  · cases Nat.ble _ _
    · exact Ref.ifB (Ref.eqv (Ref.rd _ _ _) fun _ => Ref.eqv (Ref.new _ _) fun _ => Ref.ret _)
    · exact Ref.eqv (Ref.wr _ _ _) fun _ => Ref.ret _
  · refine Ref.ifB ?_
    cases Nat.ble _ _
    · exact Ref.ifB (Ref.eqv (Ref.over _ _ _ _) fun _ => Ref.ret _)
    · exact Ref.eqv (Ref.wr _ _ _) fun _ => Ref.ret _
theorem Ref.cpyF (w : Nat) (d x : AV) : Ref Eq (Kq.cpyF w d x) (Ev.cpyF w d x) := by
  refine Ref.ofO fun m _ => ?_
  cases d <;> first
    | exact Ref.no
    | exact Ref.ret _
    | exact Ref.eqv (Ref.firstL _ _ _) fun _ => Ref.eqv (Ref.wr _ _ _) fun _ => Ref.ret _
theorem Ref.clrF (cs : List AV) (d : AV) : Ref Eq (Kq.clrF cs d) (Ev.clrF cs d) := by
  cases d <;> first
    | exact Ref.no
    | exact Ref.ret _
    | exact Ref.eqv (Ref.wr _ _ _) fun _ => Ref.ret _
theorem vlQ_eq (d : Dg) : vlQ d = d.val := by cases d <;> rfl
theorem nmQ_eq (i : Id) : nmQ i = i.num := by
  simp only [nmQ, vlQ_eq]
  rfl
theorem Ref.eqP (i : Id) (p : Nat) (j : Id) (q : Nat) : Ref Eq (Kq.eqP i p j q) (Ev.eqP i p j q) := by
  unfold Kq.eqP Ev.eqP
  rw [nmQ_eq, nmQ_eq]
  cases Nat.beq _ _
  · exact Ref.eqv (Ref.shared _) fun _ => Ref.eqv (Ref.shared _) fun _ => Ref.ifB (Ref.ret _)
  · exact Ref.ret _
theorem Ref.eqK (kd : Nat) (x y : AV) : Ref Eq (Kq.eqK kd x y) (Ev.eqK kd x y) := by
  unfold Kq.eqK Ev.eqK
  split
  · cases x <;> first | exact Ref.no | (cases y <;> first | exact Ref.no | exact Ref.ret _)
  · cases x <;> first | exact Ref.no | (cases y <;> first | exact Ref.no | exact Ref.ret _ | exact Ref.eqP _ _ _ _)
  · cases x <;> first | exact Ref.no | (cases y <;> first | exact Ref.no | exact Ref.ret _)
  · cases x <;> first | exact Ref.no | (cases y <;> first | exact Ref.no | exact Ref.ret _)
  · cases x <;> first | exact Ref.no | skip
    cases y <;> first | exact Ref.no | skip
    unfold Kq.eqG Ev.eqG
    dsimp only
    cases Nat.beq _ _
    · exact Ref.no
    · exact Ref.ofO fun _ _ => Ref.ret _
theorem Ref.eqN (kd : Nat) (ng : Bool) (x y : AV) : Ref Eq (Kq.eqN kd ng x y) (Ev.eqN kd ng x y) := Ref.eqv (Ref.eqK _ _ _) fun _ => Ref.ret _
theorem Ref.strF (o : BinOp) (x : List Nat) (y : AV) : Ref Eq (Kq.strF o x y) (Ev.strF o x y) := by
  cases y <;> first | exact Ref.no | skip
  cases o <;> first | exact Ref.no | exact Ref.ret _ | exact Ref.ifB (Ref.ret _)
theorem Ref.intF (o : BinOp) (k : IntKind) (x : Int) (k' : IntKind) (y : Int) : Ref Eq (Kq.intF o k x k' y) (Ev.intF o k x k' y) := by
  cases o <;> first | exact Ref.ofO fun _ _ => Ref.ret _ | exact Ref.ifB (Ref.ofO fun _ _ => Ref.ret _)
theorem Ref.binF (o : BinOp) (x y : AV) : Ref Eq (Kq.binF o x y) (Ev.binF o x y) := by
  cases x <;> first | exact Ref.no | exact Ref.strF _ _ _ | skip
  cases y <;> first | exact Ref.no | exact Ref.intF _ _ _ _ _
/- numbers -/
theorem sbN_eq (a b : Nat) : sbN a b = Int.subNatNat a b := by
  rw [Int.subNatNat_eq_coe]
  unfold sbN
  cases h : Nat.ble b a with
  | false =>
    have : a < b := by
      rcases Nat.lt_or_ge a b with h' | h'
      · exact h'
      · rw [Nat.ble_eq_true_of_le h'] at h; cases h
    show Int.negSucc (b - a - 1) = _
    rw [Int.negSucc_eq]
    omega
  | true =>
    have := Nat.le_of_ble_eq_true h
    show Int.ofNat (a - b) = _
    show ((a - b : Nat) : Int) = _
    omega
theorem addI_eq (x y : Int) : addI x y = Int.add x y := by
  cases x <;> cases y <;> first | rfl | exact sbN_eq _ _
theorem subI_eq (x y : Int) : subI x y = Int.sub x y := by
  cases x with
  | ofNat a =>
    cases y with
    | ofNat b =>
      show sbN a b = _
      rw [sbN_eq, Int.subNatNat_eq_coe]; rfl
    | negSucc b => rfl
  | negSucc a =>
    cases y with
    | ofNat b =>
      show Int.negSucc (a + b) = Int.sub (.negSucc a) (.ofNat b)
      have h : Int.sub (.negSucc a) (.ofNat b) = Int.negSucc a - (b : Int) := rfl
      rw [h, Int.negSucc_eq, Int.negSucc_eq]
      omega
    | negSucc b =>
      show sbN b a = _
      rw [sbN_eq, Int.subNatNat_eq_coe]
      have h : Int.sub (.negSucc a) (.negSucc b) = Int.negSucc a - Int.negSucc b := rfl
      rw [h, Int.negSucc_eq, Int.negSucc_eq]
      omega
theorem leI_eq (x y : Int) : leI x y = ile x y := by cases x <;> cases y <;> rfl
theorem eqI_eq (x y : Int) : eqI x y = ieq x y := by cases x <;> cases y <;> rfl
theorem kxQ_eq (k : IntKind) : kxQ k = kix k := by cases k <;> rfl
theorem wu_eq {M a : Nat} (hM : 0 < M) {α : Type} (f : Int → α) : (match Nat.blt a M with | true => f (.ofNat a) | false => f (.ofNat (Nat.mod a M))) = f (.ofNat (Nat.mod a M)) := by
  cases h : Nat.blt a M with
  | false => rfl
  | true =>
    have : a < M := Nat.le_of_ble_eq_true h
    show f (.ofNat a) = f (.ofNat (a % M))
    rw [Nat.mod_eq_of_lt this]
theorem ws_eq {M a : Nat} (hM : 0 < M) {α : Type} (f : Int → α) : (match Nat.blt a (Nat.div M 2) with | true => f (.ofNat a) | false => f (wrapS M (Nat.mod a M))) = f (wrapS M (Nat.mod a M)) := by
  cases h : Nat.blt a (Nat.div M 2) with
  | false => rfl
  | true =>
    have h1 : a < M / 2 := Nat.le_of_ble_eq_true h
    have h2 : M / 2 ≤ M := Nat.div_le_self _ _
    have h3 : Nat.mod a M = a := Nat.mod_eq_of_lt (by omega)
    show f (.ofNat a) = f (wrapS M (Nat.mod a M))
    rw [h3]
    unfold wrapS
    cases h4 : Nat.ble (Nat.div M 2) a with
    | false => rfl
    | true =>
      have h5 : M / 2 ≤ a := Nat.le_of_ble_eq_true h4
      omega
theorem wn_eq {M a : Nat} (hM : 1 < M) (h2 : M % 2 = 0) {α : Type} (f : Int → α) : (match Nat.blt a (Nat.div M 2) with | true => f (.negSucc a) | false => f (wrapS M (Nat.sub (Nat.sub M 1) (Nat.mod a M)))) = f (wrapS M (Nat.sub (Nat.sub M 1) (Nat.mod a M))) := by
  cases h : Nat.blt a (Nat.div M 2) with
  | false => rfl
  | true =>
    have h1 : a < M / 2 := Nat.le_of_ble_eq_true h
    have h3 : Nat.mod a M = a := Nat.mod_eq_of_lt (by omega)
    show f (.negSucc a) = f (wrapS M (Nat.sub (Nat.sub M 1) (Nat.mod a M)))
    rw [h3]
    unfold wrapS
    have h5 : M / 2 ≤ M - 1 - a := by omega
    have h6 : Nat.ble (Nat.div M 2) (Nat.sub (Nat.sub M 1) a) = true := Nat.ble_eq_true_of_le h5
    rw [h6]
    show f (.negSucc a) = f (.negSucc (M - 1 - (M - 1 - a)))
    congr 2
    omega
theorem wrK_eq (kk : IntKind) (x : Int) (s : St) (k : AV → St → Bool) : wrK kk x s k = k (.i kk (wrapF kk x)) s := by
  cases kk <;> cases x <;> rename_i a
  · exact Eq.trans (by cases h : Nat.blt a 128 <;> simp only [wrK, h] <;> rfl) (ws_eq (M := 256) (a := a) (by decide) fun v => k (.i .i8 v) s)
  · exact Eq.trans (by cases h : Nat.blt a 128 <;> simp only [wrK, h] <;> rfl) (wn_eq (M := 256) (a := a) (by decide) (by decide) fun v => k (.i .i8 v) s)
  · exact Eq.trans (by cases h : Nat.blt a 32768 <;> simp only [wrK, h] <;> rfl) (ws_eq (M := 65536) (a := a) (by decide) fun v => k (.i .i16 v) s)
  · exact Eq.trans (by cases h : Nat.blt a 32768 <;> simp only [wrK, h] <;> rfl) (wn_eq (M := 65536) (a := a) (by decide) (by decide) fun v => k (.i .i16 v) s)
  · exact Eq.trans (by cases h : Nat.blt a 2147483648 <;> simp only [wrK, h] <;> rfl) (ws_eq (M := 4294967296) (a := a) (by decide) fun v => k (.i .i32 v) s)
  · exact Eq.trans (by cases h : Nat.blt a 2147483648 <;> simp only [wrK, h] <;> rfl) (wn_eq (M := 4294967296) (a := a) (by decide) (by decide) fun v => k (.i .i32 v) s)
  · exact Eq.trans (by cases h : Nat.blt a 9223372036854775808 <;> simp only [wrK, h] <;> rfl) (ws_eq (M := 18446744073709551616) (a := a) (by decide) fun v => k (.i .i64 v) s)
  · exact Eq.trans (by cases h : Nat.blt a 9223372036854775808 <;> simp only [wrK, h] <;> rfl) (wn_eq (M := 18446744073709551616) (a := a) (by decide) (by decide) fun v => k (.i .i64 v) s)
  · exact Eq.trans (by cases h : Nat.blt a 256 <;> simp only [wrK, h]) (wu_eq (M := 256) (a := a) (by decide) fun v => k (.i .u8 v) s)
  · rfl
  · exact Eq.trans (by cases h : Nat.blt a 65536 <;> simp only [wrK, h]) (wu_eq (M := 65536) (a := a) (by decide) fun v => k (.i .u16 v) s)
  · rfl
  · exact Eq.trans (by cases h : Nat.blt a 4294967296 <;> simp only [wrK, h]) (wu_eq (M := 4294967296) (a := a) (by decide) fun v => k (.i .u32 v) s)
  · rfl
  · exact Eq.trans (by cases h : Nat.blt a 18446744073709551616 <;> simp only [wrK, h]) (wu_eq (M := 18446744073709551616) (a := a) (by decide) fun v => k (.i .u64 v) s)
  · rfl
theorem wrK_pure (kk : IntKind) (x : Int) : (fun s k => wrK kk x s k) = (M.pure (.i kk (wrapF kk x)) : M AV) := by
  funext s k
  exact wrK_eq kk x s k
theorem boK_pure (b : Bool) : (fun s k => boK b s k) = (M.pure (.b b) : M AV) := by
  funext s k
  cases b <;> rfl
theorem boN_pure (b : Bool) : (fun s k => boN b s k) = (M.pure (.b (!b)) : M AV) := by
  funext s k
  cases b <;> rfl
theorem Ref.wrK (kk : IntKind) {x y : Int} (h : x = y) : Ref Eq (fun s k => Kq.wrK kk x s k) (Ev.M.pure (.i kk (wrapF kk y))) := by
  subst h
  rw [wrK_pure]
  exact Ref.ret _
theorem Ref.boK {a b : Bool} (h : a = b) : Ref Eq (fun s k => Kq.boK a s k) (Ev.M.pure (.b b)) := by
  subst h
  rw [boK_pure]
  exact Ref.ret _
theorem Ref.boN {a b : Bool} (h : a = b) : Ref Eq (fun s k => Kq.boN a s k) (Ev.M.pure (.b (!b))) := by
  subst h
  rw [boN_pure]
  exact Ref.ret _
/-- two of one kind -/
theorem Ref.kind {k k' : IntKind} {q : M AV} {o : Option AV} {v : AV} (ho : o = some v) (h : Ref Eq q (Ev.M.pure v)) :
    Ref Eq (fun s x => Bool.rec (motive := fun _ => Bool) false (q s x) (Nat.beq (kxQ k) (kxQ k'))) (Ev.M.ifB (keq k k') (Ev.M.ofO o Ev.M.pure)) := by
  unfold keq
  rw [kxQ_eq, kxQ_eq, ho]
  cases Nat.beq (kix k) (kix k') with
  | false => exact Ref.no
  | true => exact h
theorem Ref.addF (x y : AV) : Ref Eq (Kq.addF x y) (Ev.binF .add x y) := by
  cases x <;> first | exact Ref.no | (rename_i x; exact Ref.strF .add x y) | skip
  cases y <;> first | exact Ref.no | skip
  rename_i k a k' b
  intro t s kk hs hk
  refine Ref.kind (k := k) (k' := k') (o := ari .add k a b) rfl (Ref.wrK k (addI_eq a b)) t s kk hs ?_
  revert hk
  show (Bool.rec (motive := fun _ => IntKind → Int → Int → St → (AV → St → Bool) → Bool) _ _ (Nat.beq (kxQ k) (kxQ k')) k a b t kk) = true → _
  cases Nat.beq (kxQ k) (kxQ k') <;> exact fun h => h
theorem Ref.subF (x y : AV) : Ref Eq (Kq.subF x y) (Ev.binF .sub x y) := by
  cases x <;> first | exact Ref.no | (rename_i x; exact Ref.strF .sub x y) | skip
  cases y <;> first | exact Ref.no | skip
  rename_i k a k' b
  intro t s kk hs hk
  refine Ref.kind (k := k) (k' := k') (o := ari .sub k a b) rfl (Ref.wrK k (subI_eq a b)) t s kk hs ?_
  revert hk
  show (Bool.rec (motive := fun _ => IntKind → Int → Int → St → (AV → St → Bool) → Bool) _ _ (Nat.beq (kxQ k) (kxQ k')) k a b t kk) = true → _
  cases Nat.beq (kxQ k) (kxQ k') <;> exact fun h => h
theorem Ref.eqlF (x y : AV) : Ref Eq (Kq.eqlF x y) (Ev.binF .eql x y) := by
  cases x <;> first | exact Ref.no | (rename_i x; exact Ref.strF .eql x y) | skip
  cases y <;> first | exact Ref.no | skip
  rename_i k a k' b
  intro t s kk hs hk
  refine Ref.kind (k := k) (k' := k') (o := ari .eql k a b) rfl (Ref.boK (eqI_eq a b)) t s kk hs ?_
  revert hk
  show (Bool.rec (motive := fun _ => IntKind → Int → Int → St → (AV → St → Bool) → Bool) _ _ (Nat.beq (kxQ k) (kxQ k')) k a b t kk) = true → _
  cases Nat.beq (kxQ k) (kxQ k') <;> exact fun h => h
theorem Ref.neqF (x y : AV) : Ref Eq (Kq.neqF x y) (Ev.binF .neq x y) := by
  cases x <;> first | exact Ref.no | (rename_i x; exact Ref.strF .neq x y) | skip
  cases y <;> first | exact Ref.no | skip
  rename_i k a k' b
  intro t s kk hs hk
  refine Ref.kind (k := k) (k' := k') (o := ari .neq k a b) rfl (Ref.boN (eqI_eq a b)) t s kk hs ?_
  revert hk
  show (Bool.rec (motive := fun _ => IntKind → Int → Int → St → (AV → St → Bool) → Bool) _ _ (Nat.beq (kxQ k) (kxQ k')) k a b t kk) = true → _
  cases Nat.beq (kxQ k) (kxQ k') <;> exact fun h => h
theorem Ref.lssF (x y : AV) : Ref Eq (Kq.lssF x y) (Ev.binF .lss x y) := by
  cases x <;> first | exact Ref.no | (rename_i x; exact Ref.strF .lss x y) | skip
  cases y <;> first | exact Ref.no | skip
  rename_i k a k' b
  intro t s kk hs hk
  refine Ref.kind (k := k) (k' := k') (o := ari .lss k a b) rfl (Ref.boN (leI_eq b a)) t s kk hs ?_
  revert hk
  show (Bool.rec (motive := fun _ => IntKind → Int → Int → St → (AV → St → Bool) → Bool) _ _ (Nat.beq (kxQ k) (kxQ k')) k a b t kk) = true → _
  cases Nat.beq (kxQ k) (kxQ k') <;> exact fun h => h
theorem Ref.leqF (x y : AV) : Ref Eq (Kq.leqF x y) (Ev.binF .leq x y) := by
  cases x <;> first | exact Ref.no | (rename_i x; exact Ref.strF .leq x y) | skip
  cases y <;> first | exact Ref.no | skip
  rename_i k a k' b
  intro t s kk hs hk
  refine Ref.kind (k := k) (k' := k') (o := ari .leq k a b) rfl (Ref.boK (leI_eq a b)) t s kk hs ?_
  revert hk
  show (Bool.rec (motive := fun _ => IntKind → Int → Int → St → (AV → St → Bool) → Bool) _ _ (Nat.beq (kxQ k) (kxQ k')) k a b t kk) = true → _
  cases Nat.beq (kxQ k) (kxQ k') <;> exact fun h => h
theorem Ref.gtrF (x y : AV) : Ref Eq (Kq.gtrF x y) (Ev.binF .gtr x y) := by
  cases x <;> first | exact Ref.no | (rename_i x; exact Ref.strF .gtr x y) | skip
  cases y <;> first | exact Ref.no | skip
  rename_i k a k' b
  intro t s kk hs hk
  refine Ref.kind (k := k) (k' := k') (o := ari .gtr k a b) rfl (Ref.boN (leI_eq a b)) t s kk hs ?_
  revert hk
  show (Bool.rec (motive := fun _ => IntKind → Int → Int → St → (AV → St → Bool) → Bool) _ _ (Nat.beq (kxQ k) (kxQ k')) k a b t kk) = true → _
  cases Nat.beq (kxQ k) (kxQ k') <;> exact fun h => h
theorem Ref.geqF (x y : AV) : Ref Eq (Kq.geqF x y) (Ev.binF .geq x y) := by
  cases x <;> first | exact Ref.no | (rename_i x; exact Ref.strF .geq x y) | skip
  cases y <;> first | exact Ref.no | skip
  rename_i k a k' b
  intro t s kk hs hk
  refine Ref.kind (k := k) (k' := k') (o := ari .geq k a b) rfl (Ref.boK (leI_eq b a)) t s kk hs ?_
  revert hk
  show (Bool.rec (motive := fun _ => IntKind → Int → Int → St → (AV → St → Bool) → Bool) _ _ (Nat.beq (kxQ k) (kxQ k')) k a b t kk) = true → _
  cases Nat.beq (kxQ k) (kxQ k') <;> exact fun h => h
theorem Ref.dB (o : BinOp) (x y : AV) : Ref Eq ((dB o).v x y) (Ev.binF o x y) := by
  cases o <;> first
    | exact Ref.addF x y | exact Ref.subF x y | exact Ref.eqlF x y | exact Ref.neqF x y | exact Ref.lssF x y | exact Ref.leqF x y | exact Ref.gtrF x y | exact Ref.geqF x y
    | exact Ref.binF _ x y
theorem Ref.notF (x : AV) : Ref Eq (Kq.notF x) (Ev.M.ofO (unF .not x) Ev.M.pure) := by
  cases x <;> first | exact Ref.no | exact Ref.boN rfl
theorem Ref.cvtL (l : List AV) : Ref Eq (Kq.cvtL l) (Ev.cvtL l) := Ref.ofO fun _ _ => Ref.ret _
theorem Ref.cvtF (x : AV) : Ref Eq (Kq.cvtF x) (Ev.cvtF x) := by
  cases x <;> first | exact Ref.no | exact Ref.ret _ | exact Ref.eqv (Ref.rd _ _ _) fun _ => Ref.cvtL _
theorem Ref.cvmF (x : AV) : Ref Eq (Kq.cvmF x) (Ev.cvmF x) := by
  cases x <;> first | exact Ref.no | exact Ref.eqv (Ref.shared _) fun _ => Ref.ifB (Ref.ret _)
theorem Ref.cvbF (x : AV) : Ref Eq (Kq.cvbF x) (Ev.cvbF x) := by
  cases x <;> first | exact Ref.no | exact Ref.ifB (Ref.eqv (Ref.new _ _) fun _ => Ref.ret _)
theorem repL_one (v : AV) : ∀ n, repL [v] n = List.replicate n v
  | 0 => rfl
  | n + 1 => by
    show v :: repL [v] n = _
    rw [repL_one v n]
    rfl
theorem Ref.mkT (z : Zf) (cs : List AV) (c : Nat) : Ref Eq (Kq.mkT z cs c) (Ev.M.new z (repL cs c)) := by
  unfold Kq.mkT
  split
  · rename_i v
    refine Ref.newT ?_ fun _ => getL_of ?_ fun j hj => ?_
    · rw [repL_one, List.length_replicate]
    · rw [repL_one, List.length_replicate]
    · rw [getT_all, repL_one, List.getElem?_replicate, if_pos hj]
      rfl
  · exact Ref.new _ _
theorem Ref.mksF (z : Bool) (cs : List AV) (l c : AV) : Ref Eq (Kq.mksF z cs l c) (Ev.mksF z cs l c) :=
  Ref.ofO fun _ _ => Ref.ofO fun _ _ => Ref.ifB (Ref.eqv (Ref.mkT _ _ _) fun _ => Ref.ret _)
theorem ixs3_ok (w a len : Nat) (id : Id) (off : Nat) : Ref Eq (Kq.ixs3 w a len id off) (Ev.M.ifB (Nat.blt a len) (Ev.M.pure (.p id (Nat.add off (Nat.mul a w))))) := by
  intro t s k hs hk
  unfold Kq.ixs3 at hk
  cases h : Nat.blt a len with
  | false => rw [h] at hk; cases hk
  | true => rw [h] at hk; exact Ref.ret _ t s k hs hk
theorem Ref.ixaF (n w : Nat) (x i : AV) : Ref Eq (Kq.ixaF n w x i) (Ev.ixaF n w x i) := by
  cases i <;> first | exact Ref.no | skip
  rename_i k v
  cases v <;> first | exact Ref.no | skip
  cases x <;> first | exact Ref.no | exact ixs3_ok _ _ _ _ _
theorem Ref.ixsF (w : Nat) (x i : AV) : Ref Eq (Kq.ixsF w x i) (Ev.ixsF w x i) := by
  cases i <;> first | exact Ref.no | skip
  rename_i k v
  cases v <;> first | exact Ref.no | skip
  cases x <;> first | exact Ref.no | exact ixs3_ok _ _ _ _ _
theorem Ref.ldF (x : AV) : Ref Eq (Kq.ldF x) (Ev.ldF x) := by
  cases x <;> first | exact Ref.no | exact Ref.rd1 _ _
theorem Ref.ldnF (m : Nat) (x : AV) : Ref Eq (Kq.ldnF m x) (Ev.ldnF m x) := by
  cases x <;> first | exact Ref.no | exact Ref.eqv (Ref.rd _ _ _) fun _ => Ref.ret _
theorem cellsK_some {m : Nat} {v : AV} {k : List AV → Bool} (h : cellsK m v k = true) : ∃ l, v.cells = some l ∧ l.length = m ∧ k l = true := by
  cases v <;> first
    | (cases h; done)
    | (have h' : (Bool.rec (motive := fun _ => AV → (List AV → Bool) → Bool) (fun _ _ => false) (fun v k => k [v]) (Nat.beq 1 m) _ k) = true := h
       cases hb : Nat.beq 1 m with
       | false => rw [hb] at h'; cases h'
       | true =>
         rw [hb] at h'
         exact ⟨_, rfl, Nat.eq_of_beq_eq_true hb, h'⟩)
    | (rename_i xs
       have h' : (Bool.rec (motive := fun _ => List AV → (List AV → Bool) → Bool) (fun _ _ => false) (fun xs k => k xs) (Nat.beq (lnL xs) m) xs k) = true := h
       cases hb : Nat.beq (lnL xs) m with
       | false => rw [hb] at h'; cases h'
       | true =>
         rw [hb] at h'
         rw [lnL_eq] at hb
         exact ⟨_, rfl, Nat.eq_of_beq_eq_true hb, h'⟩)
theorem Ref.stn (m : Nat) (id : Id) (off : Nat) (v : AV) : Ref Eq (fun s k => cellsK m v fun l => Kq.wr id off l s fun _ s => k und s) (Ev.stF m (.p id off) v) := by
  intro t s k hs hk
  obtain ⟨l, hl, hm, hk⟩ := cellsK_some hk
  have h1 : Ref Eq (M.bind (Kq.wr id off l) fun _ => M.pure und) (Ev.M.bind (Ev.M.wr id off l) fun _ => Ev.M.pure und) := Ref.bind (R := Eq) (Ref.wr id off l) fun _ _ _ => Ref.pure rfl
  have h2 : Ev.stF m (.p id off) v = Ev.M.bind (Ev.M.wr id off l) fun _ => Ev.M.pure und := by
    simp only [Ev.stF, hl, Ev.M.ofO, hm, Nat.beq_refl]
    rfl
  rw [h2]
  exact h1 t s k hs hk
theorem Ref.stnF (m : Nat) (x v : AV) : Ref Eq (Kq.stnF m x v) (Ev.stF m x v) := by
  cases x <;> first | exact Ref.no | exact Ref.stn _ _ _ _
theorem Ref.st1 (id : Id) (off : Nat) (v : AV) : Ref Eq (Kq.st1 id off v) (Ev.stF 1 (.p id off) v) := by
  cases v <;> first | exact Ref.no | exact Ref.wr1 id off rfl | (rename_i xs; exact Ref.stn 1 id off (.ag xs))
theorem Ref.st1F (x v : AV) : Ref Eq (Kq.st1F x v) (Ev.stF 1 x v) := by
  cases x <;> first | exact Ref.no | exact Ref.st1 _ _ _
theorem Ref.fadF (off : Nat) (x : AV) : Ref Eq (Kq.fadF off x) (Ev.fadF off x) := by
  cases x <;> first | exact Ref.no | exact Ref.ret _
theorem Ref.nilF (x : AV) : Ref Eq (Kq.nilF x) (Ev.nilF x) := by
  cases x <;> first | exact Ref.no | exact Ref.ret _
theorem dX_ok : ∀ (j : Nat) (l : List AV), Ref Eq ((dX j).v l) (Ev.M.ofO l[j]? Ev.M.pure)
  | 0, [] => Ref.no
  | 0, _ :: _ => Ref.ret _
  | _ + 1, [] => Ref.no
  | j + 1, _ :: l => dX_ok j l
theorem Ref.extF (x : AV) (j : Nat) : Ref Eq (Kq.extK (dX j) x) (Ev.extF x j) := by
  cases x <;> first | exact Ref.no | exact dX_ok _ _
theorem Ref.pickF (c x y : AV) : Ref Eq (Kq.pickF c x y) (Ev.pickF c x y) := by
  cases c <;> first | exact Ref.no | skip
  rename_i t
  cases t <;> exact Ref.ret _
theorem Ref.cviF (k : IntKind) (x : AV) : Ref Eq (Kq.cviF k x) (Ev.cviF k x) := by
  cases x <;> first | exact Ref.no | exact Ref.wrK k rfl
theorem Ref.cvsF (x : AV) : Ref Eq (Kq.cvsF x) (Ev.cvsF x) := by
  cases x <;> first | exact Ref.no | exact Ref.ret _
theorem Ref.lenK (x : AV) : Ref Eq (Kq.lenK x) (Ev.M.ofO (lenF x) Ev.M.pure) := by
  cases x <;> first | exact Ref.no | exact Ref.ret _
theorem Ref.newK {z : Bool} {n : Nat} {t : Tr} {l : List AV} (hn : n = l.length) (hl : n ≤ capT t → getL n t 0 = l) : Ref Eq (Kq.newK z n t) (Ev.newF z l) :=
  Ref.eqv (Ref.newT hn hl) fun _ => Ref.ret _
theorem Ref.newF (z : Bool) (l : List AV) : Ref Eq (Kq.newK z (lnL l) (toT l)) (Ev.newF z l) := by
  rw [lnL_eq]
  exact Ref.newK rfl (toT_ok l)
theorem Ref.boxF (z : Bool) (v : AV) : Ref Eq (Kq.boxF z v) (Ev.M.ofO v.cells fun l => Ev.newF z l) := by
  cases v <;> first
    | exact Ref.no
    | exact Ref.newK (z := z) (n := 1) (t := .t0 _) (l := [_]) rfl (fun _ => rfl)
    | exact Ref.newF z _
theorem Ref.appF (z : Bool) (w : Nat) (s x : AV) : Ref Eq (Kq.appF z w s x) (Ev.appF z w s x) := Ref.ofO fun _ _ => Ref.ifB (Ref.eqv (Ref.firstL _ _ _) fun _ => Ref.grow _ _ _ _ _)
theorem Ref.apzF (z : Bool) (w : Nat) (cs : List AV) (s x : AV) : Ref Eq (Kq.apzF z w cs s x) (Ev.apzF z w cs s x) := Ref.ofO fun _ _ => Ref.ifB (Ref.grow _ _ _ _ _)
end Kq
end Ev
end Go.Proofs.Ytijnjnncgkhabaa
