/- DERIVED. The quick evaluator's operations, against the plain one's. -/
import Derived.Test.YthknbcbkibbncaaGreatCn2
import Derived.Test.YthknbcbkibbncaaGreatCn4
set_option linter.all false
set_option linter.unusedVariables false
namespace Go.Proofs.YthknbcbkibbncaaGreat
namespace Ev
namespace Kq
theorem Ref.eqv {α β : Type} {q : M α} {m : Ev.M α} {f : α → M β} {g : α → Ev.M β} (h : Ref Eq q m) (hf : ∀ a, Ref Eq (f a) (g a)) : Ref Eq (M.bind q f) (Ev.M.bind m g) := Ref.bind h fun a b e => e ▸ hf a
theorem Ref.ret {α : Type} (a : α) : Ref Eq (M.pure a) (Ev.M.pure a) := Ref.pure rfl
theorem Ref.opt {α : Type} (o : Option α) : Ref Eq (M.ofO o M.pure) (Ev.M.ofO o Ev.M.pure) := Ref.ofO fun a _ => Ref.ret a
theorem Ref.firstL (w n : Nat) (v : AV) : Ref Eq (Kq.firstL w n v) (Ev.firstL w n v) := by
  cases v <;> simp only [Kq.firstL, Ev.firstL] <;> first | exact Ref.ret _ | exact Ref.rd _ _ _ | exact Ref.ifB (Ref.ret _) | exact Ref.no
theorem Ref.grow (z : Bool) (w : Nat) (s : AV) (n : Nat) (new : List AV) : Ref Eq (Kq.grow z w s n new) (Ev.grow z w s n new) := by
  cases s <;> simp only [Kq.grow, Ev.grow] <;> first | exact Ref.no | skip
  · cases Nat.beq n 0
    · exact Ref.eqv (Ref.new _ _) fun _ => Ref.ret _
    · exact Ref.ret _
  · cases Nat.ble _ _
    · exact Ref.ifB (Ref.eqv (Ref.rd _ _ _) fun _ => Ref.eqv (Ref.new _ _) fun _ => Ref.ret _)
    · exact Ref.eqv (Ref.wr _ _ _) fun _ => Ref.ret _
  · refine Ref.ifB ?_
    cases Nat.ble _ _
    · exact Ref.ifB (Ref.eqv (Ref.over _ _ _ _) fun _ => Ref.ret _)
    · exact Ref.eqv (Ref.wr _ _ _) fun _ => Ref.ret _
theorem Ref.cpyF (w : Nat) (d x : AV) : Ref Eq (Kq.cpyF w d x) (Ev.cpyF w d x) := by
  refine Ref.ofO fun m _ => ?_
  cases d <;> first
    | exact Ref.no
    | exact Ref.ret _
    | exact Ref.eqv (Ref.firstL _ _ _) fun _ => Ref.eqv (Ref.wr _ _ _) fun _ => Ref.ret _
theorem Ref.clrF (cs : List AV) (d : AV) : Ref Eq (Kq.clrF cs d) (Ev.clrF cs d) := by
  cases d <;> first
    | exact Ref.no
    | exact Ref.ret _
    | exact Ref.eqv (Ref.wr _ _ _) fun _ => Ref.ret _
theorem vlQ_eq (d : Dg) : vlQ d = d.val := by cases d <;> rfl
theorem nmQ_eq (i : Id) : nmQ i = i.num := by
  simp only [nmQ, vlQ_eq]
  rfl
theorem Ref.eqP (i : Id) (p : Nat) (j : Id) (q : Nat) : Ref Eq (Kq.eqP i p j q) (Ev.eqP i p j q) := by
  unfold Kq.eqP Ev.eqP
  rw [nmQ_eq, nmQ_eq]
  cases Nat.beq _ _
  · exact Ref.eqv (Ref.shared _) fun _ => Ref.eqv (Ref.shared _) fun _ => Ref.ifB (Ref.ret _)
  · exact Ref.ret _
theorem Ref.eqK (kd : Nat) (x y : AV) : Ref Eq (Kq.eqK kd x y) (Ev.eqK kd x y) := by
  unfold Kq.eqK Ev.eqK
  split
  · cases x <;> first | exact Ref.no | (cases y <;> first | exact Ref.no | exact Ref.ret _)
  · cases x <;> first | exact Ref.no | (cases y <;> first | exact Ref.no | exact Ref.ret _ | exact Ref.eqP _ _ _ _)
  · cases x <;> first | exact Ref.no | (cases y <;> first | exact Ref.no | exact Ref.ret _)
  · cases x <;> first | exact Ref.no | (cases y <;> first | exact Ref.no | exact Ref.ret _)
  · cases x <;> first | exact Ref.no | skip
    cases y <;> first | exact Ref.no | skip
    unfold Kq.eqG Ev.eqG
    dsimp only
    cases Nat.beq _ _
    · exact Ref.no
    · exact Ref.ofO fun _ _ => Ref.ret _
theorem Ref.eqN (kd : Nat) (ng : Bool) (x y : AV) : Ref Eq (Kq.eqN kd ng x y) (Ev.eqN kd ng x y) := Ref.eqv (Ref.eqK _ _ _) fun _ => Ref.ret _
theorem Ref.strF (o : BinOp) (x : List Nat) (y : AV) : Ref Eq (Kq.strF o x y) (Ev.strF o x y) := by
  cases y <;> first | exact Ref.no | skip
  cases o <;> first | exact Ref.no | exact Ref.ret _ | exact Ref.ifB (Ref.ret _)
theorem Ref.intF (o : BinOp) (k : IntKind) (x : Int) (k' : IntKind) (y : Int) : Ref Eq (Kq.intF o k x k' y) (Ev.intF o k x k' y) := by
  cases o <;> first | exact Ref.ofO fun _ _ => Ref.ret _ | exact Ref.ifB (Ref.ofO fun _ _ => Ref.ret _)
theorem Ref.binF (o : BinOp) (x y : AV) : Ref Eq (Kq.binF o x y) (Ev.binF o x y) := by
  cases x <;> first | exact Ref.no | exact Ref.strF _ _ _ | skip
  cases y <;> first | exact Ref.no | exact Ref.intF _ _ _ _ _
/- numbers -/
theorem sbN_eq (a b : Nat) : sbN a b = Int.subNatNat a b := by
  rw [Int.subNatNat_eq_coe]
  unfold sbN
  cases h : Nat.ble b a with
  | false =>
    have : a < b := by
      rcases Nat.lt_or_ge a b with h' | h'
      · exact h'
      · rw [Nat.ble_eq_true_of_le h'] at h; cases h
    show Int.negSucc (b - a - 1) = _
    rw [Int.negSucc_eq]
    omega
  | true =>
    have := Nat.le_of_ble_eq_true h
    show Int.ofNat (a - b) = _
    show ((a - b : Nat) : Int) = _
    omega
theorem addI_eq (x y : Int) : addI x y = Int.add x y := by
  cases x <;> cases y <;> first | rfl | exact sbN_eq _ _
theorem subI_eq (x y : Int) : subI x y = Int.sub x y := by
  cases x with
  | ofNat a =>
    cases y with
    | ofNat b =>
      show sbN a b = _
      rw [sbN_eq, Int.subNatNat_eq_coe]; rfl
    | negSucc b => rfl
  | negSucc a =>
    cases y with
    | ofNat b =>
      show Int.negSucc (a + b) = Int.sub (.negSucc a) (.ofNat b)
      have h : Int.sub (.negSucc a) (.ofNat b) = Int.negSucc a - (b : Int) := rfl
      rw [h, Int.negSucc_eq, Int.negSucc_eq]
      omega
    | negSucc b =>
      show sbN b a = _
      rw [sbN_eq, Int.subNatNat_eq_coe]
      have h : Int.sub (.negSucc a) (.negSucc b) = Int.negSucc a - Int.negSucc b := rfl
      rw [h, Int.negSucc_eq, Int.negSucc_eq]
      omega
theorem leI_eq (x y : Int) : leI x y = ile x y := by cases x <;> cases y <;> rfl
theorem eqI_eq (x y : Int) : eqI x y = ieq x y := by cases x <;> cases y <;> rfl
theorem kxQ_eq (k : IntKind) : kxQ k = kix k := by cases k <;> rfl
theorem wu_eq {M a : Nat} (hM : 0 < M) {α : Type} (f : Int → α) : (match Nat.blt a M with | true => f (.ofNat a) | false => f (.ofNat (Nat.mod a M))) = f (.ofNat (Nat.mod a M)) := by
  cases h : Nat.blt a M with
  | false => rfl
  | true =>
    have : a < M := Nat.le_of_ble_eq_true h
    show f (.ofNat a) = f (.ofNat (a % M))
    rw [Nat.mod_eq_of_lt this]
theorem ws_eq {M a : Nat} (hM : 0 < M) {α : Type} (f : Int → α) : (match Nat.blt a (Nat.div M 2) with | true => f (.ofNat a) | false => f (wrapS M (Nat.mod a M))) = f (wrapS M (Nat.mod a M)) := by
  cases h : Nat.blt a (Nat.div M 2) with
  | false => rfl
  | true =>
    have h1 : a < M / 2 := Nat.le_of_ble_eq_true h
    have h2 : M / 2 ≤ M := Nat.div_le_self _ _
    have h3 : Nat.mod a M = a := Nat.mod_eq_of_lt (by omega)
    show f (.ofNat a) = f (wrapS M (Nat.mod a M))
    rw [h3]
    unfold wrapS
    cases h4 : Nat.ble (Nat.div M 2) a with
    | false => rfl
    | true =>
      have h5 : M / 2 ≤ a := Nat.le_of_ble_eq_true h4
      omega
theorem wn_eq {M a : Nat} (hM : 1 < M) (h2 : M % 2 = 0) {α : Type} (f : Int → α) : (match Nat.blt a (Nat.div M 2) with | true => f (.negSucc a) | false => f (wrapS M (Nat.sub (Nat.sub M 1) (Nat.mod a M)))) = f (wrapS M (Nat.sub (Nat.sub M 1) (Nat.mod a M))) := by
  cases h : Nat.blt a (Nat.div M 2) with
  | false => rfl
  | true =>
    have h1 : a < M / 2 := Nat.le_of_ble_eq_true h
    have h3 : Nat.mod a M = a := Nat.mod_eq_of_lt (by omega)
    show f (.negSucc a) = f (wrapS M (Nat.sub (Nat.sub M 1) (Nat.mod a M)))
    rw [h3]
    unfold wrapS
    have h5 : M / 2 ≤ M - 1 - a := by omega
    have h6 : Nat.ble (Nat.div M 2) (Nat.sub (Nat.sub M 1) a) = true := Nat.ble_eq_true_of_le h5
    rw [h6]
    show f (.negSucc a) = f (.negSucc (M - 1 - (M - 1 - a)))
    congr 2
    omega
theorem wrK_eq (kk : IntKind) (x : Int) (s : St) (k : AV → St → Bool) : wrK kk x s k = k (.i kk (wrapF kk x)) s := by
  cases kk <;> cases x <;> rename_i a
  · exact Eq.trans (by cases h : Nat.blt a 128 <;> simp only [wrK, h] <;> rfl) (ws_eq (M := 256) (a := a) (by decide) fun v => k (.i .i8 v) s)
  · exact Eq.trans (by cases h : Nat.blt a 128 <;> simp only [wrK, h] <;> rfl) (wn_eq (M := 256) (a := a) (by decide) (by decide) fun v => k (.i .i8 v) s)
  · exact Eq.trans (by cases h : Nat.blt a 32768 <;> simp only [wrK, h] <;> rfl) (ws_eq (M := 65536) (a := a) (by decide) fun v => k (.i .i16 v) s)
  · exact Eq.trans (by cases h : Nat.blt a 32768 <;> simp only [wrK, h] <;> rfl) (wn_eq (M := 65536) (a := a) (by decide) (by decide) fun v => k (.i .i16 v) s)
  · exact Eq.trans (by cases h : Nat.blt a 2147483648 <;> simp only [wrK, h] <;> rfl) (ws_eq (M := 4294967296) (a := a) (by decide) fun v => k (.i .i32 v) s)
  · exact Eq.trans (by cases h : Nat.blt a 2147483648 <;> simp only [wrK, h] <;> rfl) (wn_eq (M := 4294967296) (a := a) (by decide) (by decide) fun v => k (.i .i32 v) s)
  · exact Eq.trans (by cases h : Nat.blt a 9223372036854775808 <;> simp only [wrK, h] <;> rfl) (ws_eq (M := 18446744073709551616) (a := a) (by decide) fun v => k (.i .i64 v) s)
  · exact Eq.trans (by cases h : Nat.blt a 9223372036854775808 <;> simp only [wrK, h] <;> rfl) (wn_eq (M := 18446744073709551616) (a := a) (by decide) (by decide) fun v => k (.i .i64 v) s)
  · exact Eq.trans (by cases h : Nat.blt a 256 <;> simp only [wrK, h]) (wu_eq (M := 256) (a := a) (by decide) fun v => k (.i .u8 v) s)
  · rfl
  · exact Eq.trans (by cases h : Nat.blt a 65536 <;> simp only [wrK, h]) (wu_eq (M := 65536) (a := a) (by decide) fun v => k (.i .u16 v) s)
  · rfl
  · exact Eq.trans (by cases h : Nat.blt a 4294967296 <;> simp only [wrK, h]) (wu_eq (M := 4294967296) (a := a) (by decide) fun v => k (.i .u32 v) s)
  · rfl
  · exact Eq.trans (by cases h : Nat.blt a 18446744073709551616 <;> simp only [wrK, h]) (wu_eq (M := 18446744073709551616) (a := a) (by decide) fun v => k (.i .u64 v) s)
  · rfl
theorem wrK_pure (kk : IntKind) (x : Int) : (fun s k => wrK kk x s k) = (M.pure (.i kk (wrapF kk x)) : M AV) := by
  funext s k
  exact wrK_eq kk x s k
theorem boK_pure (b : Bool) : (fun s k => boK b s k) = (M.pure (.b b) : M AV) := by
  funext s k
  cases b <;> rfl
theorem boN_pure (b : Bool) : (fun s k => boN b s k) = (M.pure (.b (!b)) : M AV) := by
  funext s k
  cases b <;> rfl
theorem Ref.wrK (kk : IntKind) {x y : Int} (h : x = y) : Ref Eq (fun s k => Kq.wrK kk x s k) (Ev.M.pure (.i kk (wrapF kk y))) := by
  subst h
  rw [wrK_pure]
  exact Ref.ret _
theorem Ref.boK {a b : Bool} (h : a = b) : Ref Eq (fun s k => Kq.boK a s k) (Ev.M.pure (.b b)) := by
  subst h
  rw [boK_pure]
  exact Ref.ret _
theorem Ref.boN {a b : Bool} (h : a = b) : Ref Eq (fun s k => Kq.boN a s k) (Ev.M.pure (.b (!b))) := by
  subst h
  rw [boN_pure]
  exact Ref.ret _
theorem Ref.kind {k k' : IntKind} {q : M AV} {o : Option AV} {v : AV} (ho : o = some v) (h : Ref Eq q (Ev.M.pure v)) :
    Ref Eq (fun s x => Bool.rec (motive := fun _ => Bool) false (q s x) (Nat.beq (kxQ k) (kxQ k'))) (Ev.M.ifB (keq k k') (Ev.M.ofO o Ev.M.pure)) := by
  unfold keq
  rw [kxQ_eq, kxQ_eq, ho]
  cases Nat.beq (kix k) (kix k') with
  | false => exact Ref.no
  | true => exact h
theorem Ref.addF (x y : AV) : Ref Eq (Kq.addF x y) (Ev.binF .add x y) := by
  cases x <;> first | exact Ref.no | (rename_i x; exact Ref.strF .add x y) | skip
  cases y <;> first | exact Ref.no | skip
  rename_i k a k' b
  intro t s kk hs hk
  refine Ref.kind (k := k) (k' := k') (o := ari .add k a b) rfl (Ref.wrK k (addI_eq a b)) t s kk hs ?_
  revert hk
  show (Bool.rec (motive := fun _ => IntKind → Int → Int → St → (AV → St → Bool) → Bool) _ _ (Nat.beq (kxQ k) (kxQ k')) k a b t kk) = true → _
  cases Nat.beq (kxQ k) (kxQ k') <;> exact fun h => h
theorem Ref.subF (x y : AV) : Ref Eq (Kq.subF x y) (Ev.binF .sub x y) := by
  cases x <;> first | exact Ref.no | (rename_i x; exact Ref.strF .sub x y) | skip
  cases y <;> first | exact Ref.no | skip
  rename_i k a k' b
  intro t s kk hs hk
  refine Ref.kind (k := k) (k' := k') (o := ari .sub k a b) rfl (Ref.wrK k (subI_eq a b)) t s kk hs ?_
  revert hk
  show (Bool.rec (motive := fun _ => IntKind → Int → Int → St → (AV → St → Bool) → Bool) _ _ (Nat.beq (kxQ k) (kxQ k')) k a b t kk) = true → _
  cases Nat.beq (kxQ k) (kxQ k') <;> exact fun h => h
theorem Ref.eqlF (x y : AV) : Ref Eq (Kq.eqlF x y) (Ev.binF .eql x y) := by
  cases x <;> first | exact Ref.no | (rename_i x; exact Ref.strF .eql x y) | skip
  cases y <;> first | exact Ref.no | skip
  rename_i k a k' b
  intro t s kk hs hk
  refine Ref.kind (k := k) (k' := k') (o := ari .eql k a b) rfl (Ref.boK (eqI_eq a b)) t s kk hs ?_
  revert hk
  show (Bool.rec (motive := fun _ => IntKind → Int → Int → St → (AV → St → Bool) → Bool) _ _ (Nat.beq (kxQ k) (kxQ k')) k a b t kk) = true → _
  cases Nat.beq (kxQ k) (kxQ k') <;> exact fun h => h
theorem Ref.neqF (x y : AV) : Ref Eq (Kq.neqF x y) (Ev.binF .neq x y) := by
  cases x <;> first | exact Ref.no | (rename_i x; exact Ref.strF .neq x y) | skip
  cases y <;> first | exact Ref.no | skip
  rename_i k a k' b
  intro t s kk hs hk
  refine Ref.kind (k := k) (k' := k') (o := ari .neq k a b) rfl (Ref.boN (eqI_eq a b)) t s kk hs ?_
  revert hk
  show (Bool.rec (motive := fun _ => IntKind → Int → Int → St → (AV → St → Bool) → Bool) _ _ (Nat.beq (kxQ k) (kxQ k')) k a b t kk) = true → _
  cases Nat.beq (kxQ k) (kxQ k') <;> exact fun h => h
theorem Ref.lssF (x y : AV) : Ref Eq (Kq.lssF x y) (Ev.binF .lss x y) := by
  cases x <;> first | exact Ref.no | (rename_i x; exact Ref.strF .lss x y) | skip
  cases y <;> first | exact Ref.no | skip
  rename_i k a k' b
  intro t s kk hs hk
  refine Ref.kind (k := k) (k' := k') (o := ari .lss k a b) rfl (Ref.boN (leI_eq b a)) t s kk hs ?_
  revert hk
  show (Bool.rec (motive := fun _ => IntKind → Int → Int → St → (AV → St → Bool) → Bool) _ _ (Nat.beq (kxQ k) (kxQ k')) k a b t kk) = true → _
  cases Nat.beq (kxQ k) (kxQ k') <;> exact fun h => h
theorem Ref.leqF (x y : AV) : Ref Eq (Kq.leqF x y) (Ev.binF .leq x y) := by
  cases x <;> first | exact Ref.no | (rename_i x; exact Ref.strF .leq x y) | skip
  cases y <;> first | exact Ref.no | skip
  rename_i k a k' b
  intro t s kk hs hk
  refine Ref.kind (k := k) (k' := k') (o := ari .leq k a b) rfl (Ref.boK (leI_eq a b)) t s kk hs ?_
  revert hk
  show (Bool.rec (motive := fun _ => IntKind → Int → Int → St → (AV → St → Bool) → Bool) _ _ (Nat.beq (kxQ k) (kxQ k')) k a b t kk) = true → _
  cases Nat.beq (kxQ k) (kxQ k') <;> exact fun h => h
theorem Ref.gtrF (x y : AV) : Ref Eq (Kq.gtrF x y) (Ev.binF .gtr x y) := by
  cases x <;> first | exact Ref.no | (rename_i x; exact Ref.strF .gtr x y) | skip
  cases y <;> first | exact Ref.no | skip
  rename_i k a k' b
  intro t s kk hs hk
  refine Ref.kind (k := k) (k' := k') (o := ari .gtr k a b) rfl (Ref.boN (leI_eq a b)) t s kk hs ?_
  revert hk
  show (Bool.rec (motive := fun _ => IntKind → Int → Int → St → (AV → St → Bool) → Bool) _ _ (Nat.beq (kxQ k) (kxQ k')) k a b t kk) = true → _
  cases Nat.beq (kxQ k) (kxQ k') <;> exact fun h => h
theorem Ref.geqF (x y : AV) : Ref Eq (Kq.geqF x y) (Ev.binF .geq x y) := by
  cases x <;> first | exact Ref.no | (rename_i x; exact Ref.strF .geq x y) | skip
  cases y <;> first | exact Ref.no | skip
  rename_i k a k' b
  intro t s kk hs hk
  refine Ref.kind (k := k) (k' := k') (o := ari .geq k a b) rfl (Ref.boK (leI_eq b a)) t s kk hs ?_
  revert hk
  show (Bool.rec (motive := fun _ => IntKind → Int → Int → St → (AV → St → Bool) → Bool) _ _ (Nat.beq (kxQ k) (kxQ k')) k a b t kk) = true → _
  cases Nat.beq (kxQ k) (kxQ k') <;> exact fun h => h
theorem mulI_eq (x y : Int) : mulI x y = Int.mul x y := by
  cases x <;> cases y <;> rfl
theorem mdQ_eq (k : IntKind) : mdQ k = md k := by cases k <;> rfl
theorem btQ_eq (k : IntKind) : btQ k = bts k := by cases k <;> rfl
theorem minQ_eq (a b : Nat) : minQ a b = minN a b := by
  unfold minQ minN
  cases Nat.ble a b <;> rfl
theorem andK_ok (kk : IntKind) (a b : Nat) : Ref Eq (fun s k => Kq.andK kk a b s k) (Ev.M.ofO (ari .and kk (.ofNat a) (.ofNat b)) Ev.M.pure) := by
  intro t s k hs hk
  unfold Kq.andK at hk
  simp only [ari]
  rw [mdQ_eq] at hk
  cases h1 : Nat.blt a (md kk) with
  | false => rw [h1] at hk; cases hk
  | true =>
    rw [h1] at hk
    dsimp only at hk
    rw [mdQ_eq] at hk
    cases h2 : Nat.blt b (md kk) with
    | false => rw [h2] at hk; cases hk
    | true =>
      rw [h2] at hk
      exact Ref.wrK kk rfl t s k hs hk
theorem orK_ok (kk : IntKind) (a b : Nat) : Ref Eq (fun s k => Kq.orK kk a b s k) (Ev.M.ofO (ari .or kk (.ofNat a) (.ofNat b)) Ev.M.pure) := by
  intro t s k hs hk
  unfold Kq.orK at hk
  simp only [ari]
  rw [mdQ_eq] at hk
  cases h1 : Nat.blt a (md kk) with
  | false => rw [h1] at hk; cases hk
  | true =>
    rw [h1] at hk
    dsimp only at hk
    rw [mdQ_eq] at hk
    cases h2 : Nat.blt b (md kk) with
    | false => rw [h2] at hk; cases hk
    | true =>
      rw [h2] at hk
      exact Ref.wrK kk rfl t s k hs hk
theorem xorK_ok (kk : IntKind) (a b : Nat) : Ref Eq (fun s k => Kq.xorK kk a b s k) (Ev.M.ofO (ari .xor kk (.ofNat a) (.ofNat b)) Ev.M.pure) := by
  intro t s k hs hk
  unfold Kq.xorK at hk
  simp only [ari]
  rw [mdQ_eq] at hk
  cases h1 : Nat.blt a (md kk) with
  | false => rw [h1] at hk; cases hk
  | true =>
    rw [h1] at hk
    dsimp only at hk
    rw [mdQ_eq] at hk
    cases h2 : Nat.blt b (md kk) with
    | false => rw [h2] at hk; cases hk
    | true =>
      rw [h2] at hk
      exact Ref.wrK kk rfl t s k hs hk
theorem Ref.kindO {k k' : IntKind} {q : M AV} {o : Option AV} (h : Ref Eq q (Ev.M.ofO o Ev.M.pure)) :
    Ref Eq (fun s x => Bool.rec (motive := fun _ => Bool) false (q s x) (Nat.beq (kxQ k) (kxQ k'))) (Ev.M.ifB (keq k k') (Ev.M.ofO o Ev.M.pure)) := by
  unfold keq
  rw [kxQ_eq, kxQ_eq]
  cases Nat.beq (kix k) (kix k') with
  | false => exact Ref.no
  | true => exact h
theorem Ref.mulF (x y : AV) : Ref Eq (Kq.mulF x y) (Ev.binF .mul x y) := by
  cases x <;> first | exact Ref.no | (rename_i x; exact Ref.strF .mul x y) | skip
  cases y <;> first | exact Ref.no | skip
  rename_i k a k' b
  intro t s kk hs hk
  refine Ref.kind (k := k) (k' := k') (o := ari .mul k a b) rfl (Ref.wrK k (mulI_eq a b)) t s kk hs ?_
  revert hk
  show (Bool.rec (motive := fun _ => IntKind → Int → Int → St → (AV → St → Bool) → Bool) _ _ (Nat.beq (kxQ k) (kxQ k')) k a b t kk) = true → _
  cases Nat.beq (kxQ k) (kxQ k') <;> exact fun h => h
theorem Ref.andF (x y : AV) : Ref Eq (Kq.andF x y) (Ev.binF .and x y) := by
  cases x <;> first | exact Ref.no | (rename_i x; exact Ref.strF .and x y) | skip
  cases y <;> first | exact Ref.no | skip
  rename_i k a k' b
  have key : ∀ q : M AV, (∀ t kk, Kq.andF (.i k a) (.i k' b) t kk = true → (Bool.rec (motive := fun _ => Bool) false (q t kk) (Nat.beq (kxQ k) (kxQ k'))) = true) → Ref Eq q (Ev.M.ofO (ari .and k a b) Ev.M.pure) → Ref Eq (Kq.andF (.i k a) (.i k' b)) (Ev.binF .and (.i k a) (.i k' b)) := fun q hq h t s kk hs hk =>
    Ref.kindO (k := k) (k' := k') h t s kk hs (hq t kk hk)
  cases a with
  | negSucc a =>
    refine key (fun _ _ => false) (fun t kk => ?_) ?_
    · show (Bool.rec (motive := fun _ => IntKind → Int → Int → St → (AV → St → Bool) → Bool) _ _ (Nat.beq (kxQ k) (kxQ k')) k (Int.negSucc a) b t kk) = true → _
      cases Nat.beq (kxQ k) (kxQ k') <;> exact fun h => h
    · exact Ref.no
  | ofNat a =>
    cases b with
    | negSucc b =>
      refine key (fun _ _ => false) (fun t kk => ?_) ?_
      · show (Bool.rec (motive := fun _ => IntKind → Int → Int → St → (AV → St → Bool) → Bool) _ _ (Nat.beq (kxQ k) (kxQ k')) k (Int.ofNat a) (Int.negSucc b) t kk) = true → _
        cases Nat.beq (kxQ k) (kxQ k') <;> exact fun h => h
      · exact Ref.no
    | ofNat b =>
      refine key (fun s k' => Kq.andK k a b s k') (fun t kk => ?_) (andK_ok k a b)
      show (Bool.rec (motive := fun _ => IntKind → Int → Int → St → (AV → St → Bool) → Bool) _ _ (Nat.beq (kxQ k) (kxQ k')) k (Int.ofNat a) (Int.ofNat b) t kk) = true → _
      cases Nat.beq (kxQ k) (kxQ k') <;> exact fun h => h
theorem Ref.orF (x y : AV) : Ref Eq (Kq.orF x y) (Ev.binF .or x y) := by
  cases x <;> first | exact Ref.no | (rename_i x; exact Ref.strF .or x y) | skip
  cases y <;> first | exact Ref.no | skip
  rename_i k a k' b
  have key : ∀ q : M AV, (∀ t kk, Kq.orF (.i k a) (.i k' b) t kk = true → (Bool.rec (motive := fun _ => Bool) false (q t kk) (Nat.beq (kxQ k) (kxQ k'))) = true) → Ref Eq q (Ev.M.ofO (ari .or k a b) Ev.M.pure) → Ref Eq (Kq.orF (.i k a) (.i k' b)) (Ev.binF .or (.i k a) (.i k' b)) := fun q hq h t s kk hs hk =>
    Ref.kindO (k := k) (k' := k') h t s kk hs (hq t kk hk)
  cases a with
  | negSucc a =>
    refine key (fun _ _ => false) (fun t kk => ?_) ?_
    · show (Bool.rec (motive := fun _ => IntKind → Int → Int → St → (AV → St → Bool) → Bool) _ _ (Nat.beq (kxQ k) (kxQ k')) k (Int.negSucc a) b t kk) = true → _
      cases Nat.beq (kxQ k) (kxQ k') <;> exact fun h => h
    · exact Ref.no
  | ofNat a =>
    cases b with
    | negSucc b =>
      refine key (fun _ _ => false) (fun t kk => ?_) ?_
      · show (Bool.rec (motive := fun _ => IntKind → Int → Int → St → (AV → St → Bool) → Bool) _ _ (Nat.beq (kxQ k) (kxQ k')) k (Int.ofNat a) (Int.negSucc b) t kk) = true → _
        cases Nat.beq (kxQ k) (kxQ k') <;> exact fun h => h
      · exact Ref.no
    | ofNat b =>
      refine key (fun s k' => Kq.orK k a b s k') (fun t kk => ?_) (orK_ok k a b)
      show (Bool.rec (motive := fun _ => IntKind → Int → Int → St → (AV → St → Bool) → Bool) _ _ (Nat.beq (kxQ k) (kxQ k')) k (Int.ofNat a) (Int.ofNat b) t kk) = true → _
      cases Nat.beq (kxQ k) (kxQ k') <;> exact fun h => h
theorem Ref.xorF (x y : AV) : Ref Eq (Kq.xorF x y) (Ev.binF .xor x y) := by
  cases x <;> first | exact Ref.no | (rename_i x; exact Ref.strF .xor x y) | skip
  cases y <;> first | exact Ref.no | skip
  rename_i k a k' b
  have key : ∀ q : M AV, (∀ t kk, Kq.xorF (.i k a) (.i k' b) t kk = true → (Bool.rec (motive := fun _ => Bool) false (q t kk) (Nat.beq (kxQ k) (kxQ k'))) = true) → Ref Eq q (Ev.M.ofO (ari .xor k a b) Ev.M.pure) → Ref Eq (Kq.xorF (.i k a) (.i k' b)) (Ev.binF .xor (.i k a) (.i k' b)) := fun q hq h t s kk hs hk =>
    Ref.kindO (k := k) (k' := k') h t s kk hs (hq t kk hk)
  cases a with
  | negSucc a =>
    refine key (fun _ _ => false) (fun t kk => ?_) ?_
    · show (Bool.rec (motive := fun _ => IntKind → Int → Int → St → (AV → St → Bool) → Bool) _ _ (Nat.beq (kxQ k) (kxQ k')) k (Int.negSucc a) b t kk) = true → _
      cases Nat.beq (kxQ k) (kxQ k') <;> exact fun h => h
    · exact Ref.no
  | ofNat a =>
    cases b with
    | negSucc b =>
      refine key (fun _ _ => false) (fun t kk => ?_) ?_
      · show (Bool.rec (motive := fun _ => IntKind → Int → Int → St → (AV → St → Bool) → Bool) _ _ (Nat.beq (kxQ k) (kxQ k')) k (Int.ofNat a) (Int.negSucc b) t kk) = true → _
        cases Nat.beq (kxQ k) (kxQ k') <;> exact fun h => h
      · exact Ref.no
    | ofNat b =>
      refine key (fun s k' => Kq.xorK k a b s k') (fun t kk => ?_) (xorK_ok k a b)
      show (Bool.rec (motive := fun _ => IntKind → Int → Int → St → (AV → St → Bool) → Bool) _ _ (Nat.beq (kxQ k) (kxQ k')) k (Int.ofNat a) (Int.ofNat b) t kk) = true → _
      cases Nat.beq (kxQ k) (kxQ k') <;> exact fun h => h
theorem Ref.shlF (x y : AV) : Ref Eq (Kq.shlF x y) (Ev.binF .shl x y) := by
  cases x <;> first | exact Ref.no | (rename_i x; exact Ref.strF .shl x y) | skip
  cases y <;> first | exact Ref.no | skip
  rename_i k a k' b
  cases b with
  | negSucc b => exact Ref.no
  | ofNat b =>
    intro t s kk hs hk
    change Kq.wrK k (mulI a (.ofNat (Nat.pow 2 (minQ b (btQ k))))) t kk = true at hk
    rw [minQ_eq, btQ_eq, mulI_eq] at hk
    exact Ref.wrK k rfl t s kk hs hk
theorem Ref.shrF (x y : AV) : Ref Eq (Kq.shrF x y) (Ev.binF .shr x y) := by
  cases x <;> first | exact Ref.no | (rename_i x; exact Ref.strF .shr x y) | skip
  cases y <;> first | exact Ref.no | skip
  rename_i k a k' b
  cases b with
  | negSucc b => exact Ref.no
  | ofNat b =>
    cases a with
    | negSucc a => exact Ref.no
    | ofNat a =>
      intro t s kk hs hk
      change kk (.i k (.ofNat (Nat.div a (Nat.pow 2 (minQ b (btQ k)))))) t = true at hk
      rw [minQ_eq, btQ_eq] at hk
      exact Ref.ret _ t s kk hs hk
theorem Ref.dB (o : BinOp) (x y : AV) : Ref Eq ((dB o).v x y) (Ev.binF o x y) := by
  cases o <;> first
    | exact Ref.addF x y | exact Ref.subF x y | exact Ref.eqlF x y | exact Ref.neqF x y | exact Ref.lssF x y | exact Ref.leqF x y | exact Ref.gtrF x y | exact Ref.geqF x y
    | exact Ref.mulF x y | exact Ref.andF x y | exact Ref.orF x y | exact Ref.xorF x y | exact Ref.shlF x y | exact Ref.shrF x y
    | exact Ref.binF _ x y
theorem Ref.notF (x : AV) : Ref Eq (Kq.notF x) (Ev.M.ofO (unF .not x) Ev.M.pure) := by
  cases x <;> first | exact Ref.no | exact Ref.boN rfl
theorem Ref.cvtL (l : List AV) : Ref Eq (Kq.cvtL l) (Ev.cvtL l) := Ref.ofO fun _ _ => Ref.ret _
theorem Ref.cvtF (x : AV) : Ref Eq (Kq.cvtF x) (Ev.cvtF x) := by
  cases x <;> first | exact Ref.no | exact Ref.ret _ | exact Ref.eqv (Ref.rd _ _ _) fun _ => Ref.cvtL _
theorem Ref.cvmF (x : AV) : Ref Eq (Kq.cvmF x) (Ev.cvmF x) := by
  cases x <;> first | exact Ref.no | exact Ref.eqv (Ref.shared _) fun _ => Ref.ifB (Ref.ret _)
theorem Ref.cvbF (x : AV) : Ref Eq (Kq.cvbF x) (Ev.cvbF x) := by
  cases x <;> first | exact Ref.no | exact Ref.ifB (Ref.eqv (Ref.new _ _) fun _ => Ref.ret _)
theorem repL_one (v : AV) : ∀ n, repL [v] n = List.replicate n v
  | 0 => rfl
  | n + 1 => by
    show v :: repL [v] n = _
    rw [repL_one v n]
    rfl
theorem Ref.mkT (z : Zf) (cs : List AV) (c : Nat) : Ref Eq (Kq.mkT z cs c) (Ev.M.new z (repL cs c)) := by
  unfold Kq.mkT
  split
  · rename_i v
    refine Ref.newT ?_ fun _ => getL_of ?_ fun j hj => ?_
    · rw [repL_one, List.length_replicate]
    · rw [repL_one, List.length_replicate]
    · rw [getT_all, repL_one, List.getElem?_replicate, if_pos hj]
      rfl
  · exact Ref.new _ _
theorem Ref.mksF (z : Bool) (cs : List AV) (l c : AV) : Ref Eq (Kq.mksF z cs l c) (Ev.mksF z cs l c) :=
  Ref.ofO fun _ _ => Ref.ofO fun _ _ => Ref.ifB (Ref.eqv (Ref.mkT _ _ _) fun _ => Ref.ret _)
theorem ixs3_ok (w a len : Nat) (id : Id) (off : Nat) : Ref Eq (Kq.ixs3 w a len id off) (Ev.M.ifB (Nat.blt a len) (Ev.M.pure (.p id (Nat.add off (Nat.mul a w))))) := by
  intro t s k hs hk
  unfold Kq.ixs3 at hk
  cases h : Nat.blt a len with
  | false => rw [h] at hk; cases hk
  | true => rw [h] at hk; exact Ref.ret _ t s k hs hk
theorem Ref.ixaF (n w : Nat) (x i : AV) : Ref Eq (Kq.ixaF n w x i) (Ev.ixaF n w x i) := by
  cases i <;> first | exact Ref.no | skip
  rename_i k v
  cases v <;> first | exact Ref.no | skip
  cases x <;> first | exact Ref.no | exact ixs3_ok _ _ _ _ _
theorem Ref.ixsF (w : Nat) (x i : AV) : Ref Eq (Kq.ixsF w x i) (Ev.ixsF w x i) := by
  cases i <;> first | exact Ref.no | skip
  rename_i k v
  cases v <;> first | exact Ref.no | skip
  cases x <;> first | exact Ref.no | exact ixs3_ok _ _ _ _ _
theorem Ref.ldF (x : AV) : Ref Eq (Kq.ldF x) (Ev.ldF x) := by
  cases x <;> first | exact Ref.no | exact Ref.rd1 _ _
theorem Ref.ldnF (m : Nat) (x : AV) : Ref Eq (Kq.ldnF m x) (Ev.ldnF m x) := by
  cases x <;> first | exact Ref.no | exact Ref.eqv (Ref.rd _ _ _) fun _ => Ref.ret _
theorem cellsK_some {m : Nat} {v : AV} {k : List AV → Bool} (h : cellsK m v k = true) : ∃ l, v.cells = some l ∧ l.length = m ∧ k l = true := by
  have one : ∀ u : AV, u.cells = some [u] → (Bool.rec (motive := fun _ => AV → (List AV → Bool) → Bool) (fun _ _ => false) (fun v k => k [v]) (Nat.beq 1 m) u k) = true → ∃ l, u.cells = some l ∧ l.length = m ∧ k l = true := fun u hu h' => by
    cases hb : Nat.beq 1 m with
    | false => rw [hb] at h'; cases h'
    | true =>
      rw [hb] at h'
      exact ⟨_, hu, Nat.eq_of_beq_eq_true hb, h'⟩
  cases v <;> first
    | (cases h; done)
    | exact one _ rfl h
    | (rename_i xs
       have h' : (Bool.rec (motive := fun _ => List AV → (List AV → Bool) → Bool) (fun _ _ => false) (fun xs k => k xs) (Nat.beq (lnL xs) m) xs k) = true := h
       cases hb : Nat.beq (lnL xs) m with
       | false => rw [hb] at h'; cases h'
       | true =>
         rw [hb] at h'
         rw [lnL_eq] at hb
         exact ⟨_, rfl, Nat.eq_of_beq_eq_true hb, h'⟩)
theorem Ref.stn (m : Nat) (id : Id) (off : Nat) (v : AV) : Ref Eq (fun s k => cellsK m v fun l => Kq.wr id off l s fun _ s => k und s) (Ev.stF m (.p id off) v) := by
  intro t s k hs hk
  obtain ⟨l, hl, hm, hk⟩ := cellsK_some hk
  have h1 : Ref Eq (M.bind (Kq.wr id off l) fun _ => M.pure und) (Ev.M.bind (Ev.M.wr id off l) fun _ => Ev.M.pure und) := Ref.bind (R := Eq) (Ref.wr id off l) fun _ _ _ => Ref.pure rfl
  have h2 : Ev.stF m (.p id off) v = Ev.M.bind (Ev.M.wr id off l) fun _ => Ev.M.pure und := by
    simp only [Ev.stF, hl, Ev.M.ofO, hm, Nat.beq_refl]
    rfl
  rw [h2]
  exact h1 t s k hs hk
theorem Ref.stnF (m : Nat) (x v : AV) : Ref Eq (Kq.stnF m x v) (Ev.stF m x v) := by
  cases x <;> first | exact Ref.no | exact Ref.stn _ _ _ _
theorem Ref.st1 (id : Id) (off : Nat) (v : AV) : Ref Eq (Kq.st1 id off v) (Ev.stF 1 (.p id off) v) := by
  cases v <;> first | exact Ref.no | exact Ref.wr1 id off rfl | (rename_i xs; exact Ref.stn 1 id off (.ag xs))
theorem Ref.st1F (x v : AV) : Ref Eq (Kq.st1F x v) (Ev.stF 1 x v) := by
  cases x <;> first | exact Ref.no | exact Ref.st1 _ _ _
theorem Ref.fadF (off : Nat) (x : AV) : Ref Eq (Kq.fadF off x) (Ev.fadF off x) := by
  cases x <;> first | exact Ref.no | exact Ref.ret _
theorem Ref.nilF (x : AV) : Ref Eq (Kq.nilF x) (Ev.nilF x) := by
  cases x <;> first | exact Ref.no | exact Ref.ret _
theorem dX_ok : ∀ (j : Nat) (l : List AV), Ref Eq ((dX j).v l) (Ev.M.ofO l[j]? Ev.M.pure)
  | 0, [] => Ref.no
  | 0, _ :: _ => Ref.ret _
  | _ + 1, [] => Ref.no
  | j + 1, _ :: l => dX_ok j l
theorem Ref.extF (x : AV) (j : Nat) : Ref Eq (Kq.extK (dX j) x) (Ev.extF x j) := by
  cases x <;> first | exact Ref.no | exact dX_ok _ _
theorem Ref.pickF (c x y : AV) : Ref Eq (Kq.pickF c x y) (Ev.pickF c x y) := by
  cases c <;> first | exact Ref.no | skip
  rename_i t
  cases t <;> exact Ref.ret _
theorem Ref.cviF (k : IntKind) (x : AV) : Ref Eq (Kq.cviF k x) (Ev.cviF k x) := by
  cases x <;> first | exact Ref.no | exact Ref.wrK k rfl
theorem Ref.cvsF (x : AV) : Ref Eq (Kq.cvsF x) (Ev.cvsF x) := by
  cases x <;> first | exact Ref.no | exact Ref.ret _
theorem Ref.lenK (x : AV) : Ref Eq (Kq.lenK x) (Ev.M.ofO (lenF x) Ev.M.pure) := by
  cases x <;> first | exact Ref.no | exact Ref.ret _
theorem Ref.newK {z : Bool} {n : Nat} {t : Tr} {l : List AV} (hn : n = l.length) (hl : n ≤ capT t → getL n t 0 = l) : Ref Eq (Kq.newK z n t) (Ev.newF z l) :=
  Ref.eqv (Ref.newT hn hl) fun _ => Ref.ret _
theorem Ref.newF (z : Bool) (l : List AV) : Ref Eq (Kq.newK z (lnL l) (clT l)) (Ev.newF z l) := by
  rw [lnL_eq]
  exact Ref.newK rfl (toT_ok l)
theorem Ref.newG (z : Bool) (l : List AV) : Ref Eq (fun s k => toT l fun t => Kq.newK z (lnL l) t s k) (Ev.newF z l) := by
  intro t s k hs hk
  simp only [toT_eq] at hk
  exact Ref.newF z l t s k hs hk
theorem Ref.boxF (z : Bool) (v : AV) : Ref Eq (Kq.boxF z v) (Ev.M.ofO v.cells fun l => Ev.newF z l) := by
  cases v <;> first
    | exact Ref.no
    | exact Ref.newK (z := z) (n := 1) (t := .t0 _) (l := [_]) rfl (fun _ => rfl)
    | exact Ref.newG z _
theorem Ref.appF (z : Bool) (w : Nat) (s x : AV) : Ref Eq (Kq.appF z w s x) (Ev.appF z w s x) := Ref.ofO fun _ _ => Ref.ifB (Ref.eqv (Ref.firstL _ _ _) fun _ => Ref.grow _ _ _ _ _)
theorem Ref.apzF (z : Bool) (w : Nat) (cs : List AV) (s x : AV) : Ref Eq (Kq.apzF z w cs s x) (Ev.apzF z w cs s x) := Ref.ofO fun _ _ => Ref.ifB (Ref.grow _ _ _ _ _)
/- maps, parts of values -/
theorem Ref.lkF (q : Option Nat) (z : AV) (ok : Bool) (x k : AV) : Ref Eq (Kq.lkF q z ok x k) (Ev.lkF q z ok x k) := by
  refine Ref.ifB ?_
  cases x <;> first
    | exact Ref.no
    | exact Ref.ret _
    | exact Ref.eqv (Ref.rdM _) fun _ => Ref.ofO fun _ _ => Ref.ofO fun r _ => by cases r <;> exact Ref.ret _
theorem Ref.mupF (q : Option Nat) (x k v : AV) : Ref Eq (Kq.mupF q x k v) (Ev.mupF q x k v) := by
  refine Ref.ifB ?_
  cases x <;> first
    | exact Ref.no
    | exact Ref.eqv (Ref.rdM _) fun _ => Ref.ofO fun _ _ => Ref.ofO fun r _ => Ref.eqv (Ref.wrM _ _) fun _ => Ref.ret _
theorem Ref.menF (q : Option Nat) (z x k : AV) : Ref Eq (Kq.menF q z x k) (Ev.menF q z x k) := by
  refine Ref.ifB ?_
  cases x <;> first
    | exact Ref.no
    | exact Ref.eqv (Ref.rdM _) fun _ => Ref.ofO fun _ _ => Ref.ofO fun r _ => by cases r <;> exact Ref.eqv (Ref.wrM _ _) fun _ => Ref.ret _
theorem Ref.mesF (x b v : AV) : Ref Eq (Kq.mesF x b v) (Ev.mesF x b v) := by
  cases x <;> first
    | exact Ref.no
    | exact Ref.eqv (Ref.rdM _) fun _ => Ref.ofO fun _ _ => Ref.ofO fun r _ => Ref.eqv (Ref.wrM _ _) fun _ => Ref.ret _
theorem Ref.delF (q : Option Nat) (x k : AV) : Ref Eq (Kq.delF q x k) (Ev.delF q x k) := by
  refine Ref.ifB ?_
  cases x <;> first
    | exact Ref.no
    | exact Ref.ret _
    | exact Ref.eqv (Ref.rdM _) fun _ => Ref.ofO fun _ _ => Ref.ofO fun r _ => by cases r <;> first | exact Ref.ret _ | exact Ref.eqv (Ref.wrM _ _) fun _ => Ref.ret _
theorem Ref.lnmF (x : AV) : Ref Eq (Kq.lnmF x) (Ev.lnmF x) := by
  cases x <;> first
    | exact Ref.no
    | exact Ref.ret _
    | exact Ref.eqv (Ref.rdM _) fun _ => Ref.ofO fun _ _ => Ref.ret _
theorem Ref.mkmF : Ref Eq Kq.mkmF Ev.mkmF := Ref.eqv (Ref.new _ _) fun _ => Ref.ret _
theorem Ref.ixtF (x i : AV) : Ref Eq (Kq.ixtF x i) (Ev.ixtF x i) := by
  refine Ref.ofO fun a _ => ?_
  cases x <;> first | exact Ref.no | exact Ref.ofO fun _ _ => Ref.ret _
theorem Ref.sapF (n : Nat) (x : AV) : Ref Eq (Kq.sapF n x) (Ev.sapF n x) := by
  cases x <;> first | exact Ref.no | exact Ref.ifB (Ref.ret _)
theorem tkL_eq : ∀ (m : Nat) (l : List AV) (k : List AV → Bool), tkL m l k = k (l.take m)
  | 0, _, _ => rfl
  | _ + 1, [], _ => rfl
  | m + 1, v :: l, k => by
    show fo1 v (fun v => tkL m l fun t => k (v :: t)) = _
    rw [fo1_eq, tkL_eq m]
    rfl
theorem Ref.fldF (off m : Nat) (ag : Bool) (x : AV) : Ref Eq (Kq.fldF off m ag x) (Ev.fldF off m ag x) := by
  cases x <;> first | exact Ref.no | skip
  rename_i xs
  intro t s k hs hk
  change Kq.fldV off m ag xs t k = true at hk
  unfold Kq.fldV at hk
  simp only [Ev.fldF]
  rw [lnL_eq] at hk
  have e : Nat.ble (off + m) xs.length = Nat.ble (Nat.add off m) xs.length := rfl
  rw [e]
  cases hb : Nat.ble (Nat.add off m) xs.length with
  | false => rw [hb] at hk; cases hk
  | true =>
    rw [hb] at hk
    dsimp only at hk ⊢
    cases ag with
    | true =>
      dsimp only at hk ⊢
      rw [tkL_eq, drL_eq] at hk
      exact Ref.ret _ t s k hs hk
    | false =>
      dsimp only at hk ⊢
      rw [drL_eq] at hk
      cases hd : xs.drop off with
      | nil => rw [hd] at hk; cases hk
      | cons v l =>
        rw [hd] at hk
        have hx : xs[off]? = some v := by
          have := congrArg (fun l : List AV => l[0]?) hd
          simpa [List.getElem?_drop] using this
        rw [hx]
        change fo1 v (fun v => k v t) = true at hk
        rw [fo1_eq] at hk
        exact Ref.ret _ t s k hs hk
theorem Ref.idxF (n w : Nat) (ag : Bool) (x i : AV) : Ref Eq (Kq.idxF n w ag x i) (Ev.idxF n w ag x i) := by
  cases i <;> first | exact Ref.no | skip
  rename_i k a
  cases a with
  | negSucc a => exact Ref.no
  | ofNat a =>
    intro t s k hs hk
    change Kq.idx2 n w a ag x t k = true at hk
    unfold Kq.idx2 at hk
    show ∃ c d t' s', Ev.M.ifB (Nat.blt a n) (Ev.fldF (a * w) w ag x) s = _ ∧ _
    cases hb : Nat.blt a n with
    | false => rw [hb] at hk; cases hk
    | true =>
      rw [hb] at hk
      exact Ref.fldF _ _ _ _ t s k hs hk
end Kq
end Ev
end Go.Proofs.YthknbcbkibbncaaGreat

/- DERIVED. The evaluator's memory against the model's: writes, new blocks. -/
namespace Go.Proofs.YthknbcbkibbncaaGreat
namespace Ev
open Go.RowKit

theorem setCells_at (b : Nat) : ∀ (vs : List Value) (o : Nat) (w : World) (c : Array Value) (el : TypeId) (fz : Nat × Nat), w.heap[b]? = some (.cells c el fz) →
    ∃ c', (w.setCells b o vs).heap[b]? = some (.cells c' el fz) ∧ c'.size = c.size ∧ ∀ j, c'[j]? = if o ≤ j ∧ j < o + vs.length ∧ j < c.size then vs[j - o]? else c[j]?
  | [], o, w, c, el, fz, h => ⟨c, h, rfl, fun j => by rw [if_neg]; simp; omega⟩
  | v :: r, o, w, c, el, fz, h => by
    have h1 : (w.setCell ⟨b, o, none⟩ v).heap[b]? = some (.cells (c.setIfInBounds o v) el fz) := by
      simp [World.setCell, Array.getElem?_modify, h]
    obtain ⟨c', g1, g2, g3⟩ := setCells_at b r (o + 1) _ _ el fz h1
    refine ⟨c', by simpa [World.setCells] using g1, by simpa using g2, fun j => ?_⟩
    rw [g3 j]
    simp only [Array.size_setIfInBounds, List.length_cons]
    by_cases hj : o + 1 ≤ j ∧ j < o + 1 + r.length ∧ j < c.size
    · rw [if_pos hj, if_pos (by omega), show j - o = (j - (o + 1)) + 1 by omega, List.getElem?_cons_succ]
    · rw [if_neg hj, Array.getElem?_setIfInBounds]
      by_cases e : o = j
      · subst e
        by_cases hc : o < c.size
        · rw [if_pos rfl, if_pos hc, if_pos (by omega), Nat.sub_self, List.getElem?_cons_zero]
        · rw [if_pos rfl, if_neg hc, if_neg (by omega), Array.getElem?_eq_none (by omega)]
      · rw [if_neg e, if_neg (by omega)]
theorem setCells_other (b : Nat) : ∀ (vs : List Value) (o : Nat) (w : World) (i : Nat), i ≠ b → (w.setCells b o vs).heap[i]? = w.heap[i]?
  | [], _, _, _, _ => rfl
  | v :: r, o, w, i, h => by rw [World.setCells, setCells_other b r (o + 1) _ i h]; exact Below.heap_setCell _ _ _ _ h
theorem setCells_size (b : Nat) : ∀ (vs : List Value) (o : Nat) (w : World), (w.setCells b o vs).heap.size = w.heap.size
  | [], _, _ => rfl
  | v :: r, o, w => by rw [World.setCells, setCells_size b r (o + 1) _]; simp [World.setCell]
theorem setCells_below (b B : Nat) (hb : B ≤ b) : ∀ (vs : List Value) (o : Nat) (w W : World), Below B W w → Below B W (w.setCells b o vs)
  | [], _, _, _, h => h
  | v :: r, o, w, W, h => by rw [World.setCells]; exact setCells_below b B hb r (o + 1) _ W (h.setCell hb v)

section
variable {β β' : Id → CA} {D D' : Id → Prop} {n n' B : Nat} {h : Heap} {w : World}

theorem HR.swap (hr : HR β D B h w) {id : Id} (hd : D id) {b : Option Blk} {w' : World} (hs : w.heap.size ≤ w'.heap.size) (ho : ∀ i, i ≠ (β id).blk → w'.heap[i]? = w.heap[i]?)
    (halive : h id ≠ none)
    (hb : ∀ k, b = some k → LiveB β D (β id) w' k) : HR β D B (Heap.put h id b) w' := by
  have hne : ∀ j, h j ≠ none → j ≠ id → (β j).blk ≠ (β id).blk := fun j hj hji e => hji (hr.inj j id hj halive e)
  refine ⟨fun j k hk => ?_, fun i j hi hj e => ?_, hr.old, Nat.le_trans hr.size hs⟩
  · by_cases hj : j.num = id.num
    · obtain rfl := Id.num_inj hj
      simp only [Heap.put, if_true] at hk
      exact ⟨hd, hb k hk⟩
    · simp only [Heap.put, if_neg hj] at hk
      obtain ⟨h1, h2⟩ := hr.live j k hk
      exact ⟨h1, h2.keep (Ext.refl β D 0) (ho _ (hne j (by rw [hk]; simp) (fun e => hj (by rw [e]))))⟩
  · have alive : ∀ i, Heap.put h id b i ≠ none → h i ≠ none := fun i hi => by
      by_cases hj : i.num = id.num
      · obtain rfl := Id.num_inj hj; exact halive
      · simpa only [Heap.put, if_neg hj] using hi
    exact hr.inj i j (alive i hi) (alive j hj) e

theorem HR.write (hr : HR β D B h w) {id : Id} {k : Blk} (hk : h id = some k) (hz0 : k.z.m = none) (lo : Nat) {l : List AV} {Vs : List Value} (hl : VRs β D l Vs) (h1 : ∀ v ∈ l, v.one = true) (hm : lo + l.length ≤ k.c.length) :
    HR β D B (Heap.put h id (some ⟨k.z, k.c.take lo ++ (l ++ k.c.drop (lo + l.length))⟩)) (w.setCells (β id).blk ((β id).base + lo) Vs) := by
  obtain ⟨hd, c, el, fz, hb, hs, hf, hc, hzk⟩ := hr.cells hk hz0
  obtain ⟨c', g1, g2, g3⟩ := setCells_at (β id).blk Vs ((β id).base + lo) w c el fz hb
  refine hr.swap hd (by rw [setCells_size]; exact Nat.le_refl _) (fun i hi => setCells_other _ _ _ _ _ hi) (by rw [hk]; simp) ?_
  rintro k' ⟨⟩
  have hcf := hc.fit
  have hlen := hl.length
  unfold LiveB
  dsimp only
  rw [hz0]
  refine ⟨c', el, fz, g1, by rw [g2, hs], by rw [g2]; exact hf, ⟨?_, ?_, ?_⟩, ?_⟩
  rotate_left 3
  · have e : (k.c.take lo ++ (l ++ k.c.drop (lo + l.length))).length = k.c.length := by simp only [List.length_append, List.length_take, List.length_drop]; omega
    simp only [e]
    exact hzk
  · simp only [List.length_append, List.length_take, List.length_drop]; omega
  · intro v hv
    simp only [List.mem_append] at hv
    rcases hv with hv | hv | hv
    · exact hc.one v (List.mem_of_mem_take hv)
    · exact h1 v hv
    · exact hc.one v (List.mem_of_mem_drop hv)
  · intro j v hv
    rw [g3]
    by_cases hj : j < lo
    · rw [List.getElem?_append_left (by rw [List.length_take]; omega), List.getElem?_take, if_pos hj] at hv
      rw [if_neg (by omega)]
      exact hc.get j v hv
    · rw [List.getElem?_append_right (by rw [List.length_take]; omega), List.length_take, Nat.min_eq_left (by omega)] at hv
      by_cases hj2 : j - lo < l.length
      · rw [List.getElem?_append_left hj2] at hv
        obtain ⟨V, hV, hr'⟩ := hl.get _ v hv
        rw [if_pos (by omega), show (β id).base + j - ((β id).base + lo) = j - lo by omega]
        exact ⟨V, hV, hr'⟩
      · rw [List.getElem?_append_right (by omega), List.getElem?_drop, show lo + l.length + (j - lo - l.length) = j by omega] at hv
        rw [if_neg (by omega)]
        exact hc.get j v hv

noncomputable def named (β : Id → CA) (id : Id) (a : CA) : Id → CA := fun j => if j.num = id.num then a else β j
theorem named_same (β : Id → CA) (id : Id) (a : CA) : named β id a id = a := by simp [named]
theorem named_ext (β : Id → CA) {D : Id → Prop} {id : Id} (a : CA) (hd : ¬ D id) : Ext β D (named β id a) (fun j => D j ∨ j = id) id.num (id.num + 1) :=
  ⟨Nat.le_succ _, fun j hj => ⟨.inl hj, by
    unfold named
    rw [if_neg (fun e => hd (by rwa [← Id.num_inj e]))]⟩, fun j hj => by
    rcases hj with hj | rfl
    · exact .inl hj
    · exact .inr ⟨Nat.le_refl _, Nat.lt_succ_self _⟩⟩

theorem HR.fresh (hr : HR β D B h w) {id : Id} (hd : ¬ D id) (z : Zf) (hz0 : z.m = none) {l : List AV} (c : Array Value) (el : TypeId) (fz0 : Nat × Nat) (hfz : fzok z.s fz0 c.size) (hc : Cells β D c 0 l) (hzn : z.t = true → l.length = c.size) :
    HR (named β id ⟨w.heap.size, 0, c.size⟩) (fun j => D j ∨ j = id) B (Heap.put h id (some ⟨z, l⟩)) (w.alloc (.cells c el fz0)) := by
  have hx := named_ext β (D := D) (id := id) ⟨w.heap.size, 0, c.size⟩ hd
  have hnew : (w.alloc (.cells c el fz0)).heap[w.heap.size]? = some (.cells c el fz0) := by
    show (w.heap.push _)[w.heap.size]? = _
    simp
  have hold : ∀ j, D j → named β id ⟨w.heap.size, 0, c.size⟩ j = β j := fun j hj => (hx.keep j hj).2
  have hlt : ∀ j k, h j = some k → (β j).blk < w.heap.size := fun j k hk => by
    obtain ⟨o, hb⟩ := (hr.live j k hk).2.there
    rcases Nat.lt_or_ge (β j).blk w.heap.size with h' | h'
    · exact h'
    · rw [Array.getElem?_eq_none h'] at hb; cases hb
  refine ⟨fun j k hk => ?_, fun i j hi hj e => ?_, fun j hj => ?_, Nat.le_trans hr.size (by simp)⟩
  · by_cases hj : j.num = id.num
    · obtain rfl := Id.num_inj hj
      simp only [Heap.put, if_true] at hk
      cases hk
      refine ⟨.inr rfl, ?_⟩
      unfold LiveB
      dsimp only
      rw [hz0]
      refine ⟨c, el, fz0, ?_, ?_, hfz, ?_, ?_⟩
      · rw [named_same]; exact hnew
      · rw [named_same]
      · rw [named_same]; exact Cells.mono hx hc
      · rw [named_same]; exact ⟨fun _ => rfl, fun e => by simp only [Nat.zero_add]; exact hzn e⟩
    · simp only [Heap.put, if_neg hj] at hk
      obtain ⟨h1, h2⟩ := hr.live j k hk
      refine ⟨.inl h1, ?_⟩
      rw [hold j h1]
      exact h2.keep hx (Below.heap_alloc _ _ _ (hlt j k hk))
  · have alive : ∀ i, Heap.put h id (some ⟨z, l⟩) i ≠ none → i = id ∨ (D i ∧ ∃ k, h i = some k) := fun i hi => by
      by_cases hj : i.num = id.num
      · exact .inl (Id.num_inj hj)
      · simp only [Heap.put, if_neg hj] at hi
        cases hk : h i with
        | none => exact absurd hk hi
        | some k => exact .inr ⟨(hr.live i k hk).1, k, rfl⟩
    rcases alive i hi with rfl | ⟨di, k, hk⟩
    · rcases alive j hj with rfl | ⟨dj, k', hk'⟩
      · rfl
      · rw [named_same, hold j dj] at e
        have := hlt j k' hk'
        simp only at e
        omega
    · rcases alive j hj with rfl | ⟨dj, k', hk'⟩
      · rw [named_same, hold i di] at e
        have := hlt i k hk
        simp only at e
        omega
      · rw [hold i di, hold j dj] at e
        exact hr.inj i j (by rw [hk]; simp) (by rw [hk']; simp) e
  · rcases hj with hj | rfl
    · rw [hold j hj]; exact hr.old j hj
    · rw [named_same]; exact hr.size

theorem fzok_zero (z : Bool) (n : Nat) : fzok z (0, 0) n := by
  cases z
  · rfl
  · exact .inl rfl
theorem HR.gone (hr : HR β D B h w) (id : Id) : HR β D B (Heap.put h id none) w := by
  refine ⟨fun j k hk => ?_, fun i j hi hj e => ?_, hr.old, hr.size⟩
  · by_cases hj : j.num = id.num
    · simp only [Heap.put, if_pos hj] at hk; cases hk
    · simp only [Heap.put, if_neg hj] at hk; exact hr.live j k hk
  · have alive : ∀ i, Heap.put h id none i ≠ none → h i ≠ none := fun i hi => by
      by_cases hj : i.num = id.num
      · simp only [Heap.put, if_pos hj] at hi; exact absurd rfl hi
      · simpa only [Heap.put, if_neg hj] using hi
    exact hr.inj i j (alive i hi) (alive j hj) e

theorem HR.onto (hr : HR β D B h w) {id nid : Id} (hd : ¬ D nid) {k : Blk} (hk : h id = some k) (hz0 : k.z.m = none) (lo m : Nat) (hm : lo + m ≤ k.c.length) {l : List AV} {Vs : List Value} (hl : VRs β D l Vs) (h1 : ∀ v ∈ l, v.one = true)
    (hfit : (β id).base + lo + m + l.length ≤ (β id).lim) :
    HR (named β nid ⟨(β id).blk, (β id).base + lo, (β id).lim⟩) (fun j => D j ∨ j = nid) B (Heap.put (Heap.put h id none) nid (some ⟨k.z.over lo, (k.c.drop lo).take m ++ l⟩)) (w.setCells (β id).blk ((β id).base + lo + m) Vs) := by
  obtain ⟨did, c, el, fz, hb, hs, hf, hc, hzk⟩ := hr.cells hk hz0
  obtain ⟨c', g1, g2, g3⟩ := setCells_at (β id).blk Vs ((β id).base + lo + m) w c el fz hb
  have hx := named_ext β (D := D) (id := nid) ⟨(β id).blk, (β id).base + lo, (β id).lim⟩ hd
  have hold : ∀ j, D j → named β nid ⟨(β id).blk, (β id).base + lo, (β id).lim⟩ j = β j := fun j hj => (hx.keep j hj).2
  have hcf := hc.fit
  have hlen := hl.length
  have hpart := hc.part lo m hm
  have hcells : Cells β D c' ((β id).base + lo) ((k.c.drop lo).take m ++ l) := by
    refine ⟨?_, ?_, ?_⟩
    · simp only [List.length_append, List.length_take, List.length_drop]; omega
    · intro v hv
      simp only [List.mem_append] at hv
      rcases hv with hv | hv
      · exact hpart.one v hv
      · exact h1 v hv
    · intro j v hv
      rw [g3]
      by_cases hj : j < m
      · rw [List.getElem?_append_left (by rw [List.length_take, List.length_drop]; omega)] at hv
        rw [if_neg (by omega)]
        exact hpart.get j v hv
      · rw [List.getElem?_append_right (by rw [List.length_take, List.length_drop]; omega), List.length_take, List.length_drop, Nat.min_eq_left (by omega)] at hv
        obtain ⟨V, hV, hr'⟩ := hl.get _ v hv
        have hjl : j - m < l.length := by
          rcases Nat.lt_or_ge (j - m) l.length with h' | h'
          · exact h'
          · rw [List.getElem?_eq_none h'] at hv; cases hv
        rw [if_pos (by omega), show (β id).base + lo + j - ((β id).base + lo + m) = j - m by omega]
        exact ⟨V, hV, hr'⟩
  have halive : ∀ j, Heap.put h id none j ≠ none → h j ≠ none ∧ j ≠ id := fun j hj => by
    by_cases e : j.num = id.num
    · simp only [Heap.put, if_pos e] at hj; exact absurd rfl hj
    · exact ⟨by simpa only [Heap.put, if_neg e] using hj, fun e' => e (by rw [e'])⟩
  have hne : ∀ j, h j ≠ none → j ≠ id → (β j).blk ≠ (β id).blk := fun j hj hji e => hji (hr.inj j id hj (by rw [hk]; simp) e)
  refine ⟨fun j kk hkk => ?_, fun i j hi hj e => ?_, fun j hj => ?_, by rw [setCells_size]; exact hr.size⟩
  · by_cases hj : j.num = nid.num
    · obtain rfl := Id.num_inj hj
      simp only [Heap.put, if_true] at hkk
      cases hkk
      refine ⟨.inr rfl, ?_⟩
      unfold LiveB
      dsimp only [Zf.over, zc]
      refine ⟨c', el, fz, ?_, ?_, ?_, ?_, ?_⟩
      · rw [named_same]; exact g1
      · rw [named_same, g2]; exact hs
      · rw [g2]; exact hf
      · rw [named_same]; exact Cells.mono hx hcells
      · rw [named_same]; exact hzk.over lo _
    · have hkk' : Heap.put h id none j = some kk := by simpa only [Heap.put, if_neg hj] using hkk
      obtain ⟨h1', h2'⟩ := halive j (by rw [hkk']; simp)
      have hkj : h j = some kk := by
        have e : ¬ j.num = id.num := fun e => h2' (Id.num_inj e)
        simpa only [Heap.put, if_neg e] using hkk'
      obtain ⟨a1, a2⟩ := hr.live j kk hkj
      refine ⟨.inl a1, ?_⟩
      rw [hold j a1]
      exact a2.keep hx (setCells_other _ _ _ _ _ (hne j h1' h2'))
  · have alive : ∀ i, Heap.put (Heap.put h id none) nid (some ⟨k.z.over lo, (k.c.drop lo).take m ++ l⟩) i ≠ none → i = nid ∨ (D i ∧ h i ≠ none ∧ i ≠ id) := fun i hi => by
      by_cases e : i.num = nid.num
      · exact .inl (Id.num_inj e)
      · have hi' : Heap.put h id none i ≠ none := by simpa only [Heap.put, if_neg e] using hi
        obtain ⟨x, y⟩ := halive i hi'
        cases hk' : h i with
        | none => exact absurd hk' x
        | some kk => exact .inr ⟨(hr.live i kk hk').1, by simp, y⟩
    rcases alive i hi with rfl | ⟨di, ai, ni⟩
    · rcases alive j hj with rfl | ⟨dj, aj, nj⟩
      · rfl
      · rw [named_same, hold j dj] at e
        exact absurd e.symm (hne j aj nj)
    · rcases alive j hj with rfl | ⟨dj, aj, nj⟩
      · rw [named_same, hold i di] at e
        exact absurd e (hne i ai ni)
      · rw [hold i di, hold j dj] at e
        exact hr.inj i j ai aj e
  · rcases hj with hj | rfl
    · rw [hold j hj]; exact hr.old j hj
    · rw [named_same]; exact hr.old id did
end
end Ev
end Go.Proofs.YthknbcbkibbncaaGreat

/- DERIVED. What an evaluation reads and writes is all that it hangs on and all that it turns: the ground. -/
namespace Go.Proofs.YthknbcbkibbncaaGreat
namespace Ev

def look (h : Heap) (id : Id) (j : Nat) : Option (AV ⊕ (Nat × Zf)) := match h id with
  | none => none
  | some k => if j < k.c.length then k.c[j]?.map Sum.inl else if j = k.c.length then some (Sum.inr (k.c.length, k.z)) else none
def cov (l : List Rng) (id : Id) (j : Nat) : Prop := ∃ r ∈ l, r.id = id ∧ r.lo ≤ j ∧ j < r.lo + r.m
theorem cov_nil (id : Id) (j : Nat) : ¬ cov [] id j := by rintro ⟨r, h, _⟩; cases h
theorem cov_one {id' : Id} {lo m : Nat} (id : Id) (j : Nat) : cov [⟨id', lo, m⟩] id j ↔ id' = id ∧ lo ≤ j ∧ j < lo + m := by
  constructor
  · rintro ⟨r, h, h1⟩
    rw [List.mem_singleton] at h
    subst h
    exact h1
  · intro h
    exact ⟨_, List.mem_singleton.2 rfl, h⟩
theorem cov_append (l m : List Rng) (id : Id) (j : Nat) : cov (l ++ m) id j ↔ cov l id j ∨ cov m id j := by
  constructor
  · rintro ⟨r, h, h1⟩
    rcases List.mem_append.1 h with h | h
    · exact .inl ⟨r, h, h1⟩
    · exact .inr ⟨r, h, h1⟩
  · rintro (⟨r, h, h1⟩ | ⟨r, h, h1⟩)
    · exact ⟨r, List.mem_append.2 (.inl h), h1⟩
    · exact ⟨r, List.mem_append.2 (.inr h), h1⟩

theorem look_none {h : Heap} {id : Id} : look h id 0 = none ↔ h id = none := by
  unfold look
  cases hk : h id with
  | none => simp
  | some k =>
    simp only [reduceCtorEq, iff_false]
    by_cases h0 : 0 < k.c.length
    · simp [h0]
    · simp at h0
      simp [h0]
theorem look_cell {h : Heap} {id : Id} {k : Blk} (hk : h id = some k) {j : Nat} (hj : j < k.c.length) : look h id j = some (Sum.inl k.c[j]) := by
  unfold look
  rw [hk]
  simp [hj]
theorem look_end {h : Heap} {id : Id} {k : Blk} (hk : h id = some k) : look h id k.c.length = some (Sum.inr (k.c.length, k.z)) := by
  unfold look
  rw [hk]
  simp
theorem look_far {h : Heap} {id : Id} {k : Blk} (hk : h id = some k) {j : Nat} (hj : k.c.length < j) : look h id j = none := by
  unfold look
  rw [hk]
  simp only
  rw [if_neg (by omega), if_neg (by omega)]
theorem look_inl {h : Heap} {id : Id} {j : Nat} {v : AV} (hl : look h id j = some (Sum.inl v)) : ∃ k, h id = some k ∧ ∃ hj : j < k.c.length, k.c[j] = v := by
  unfold look at hl
  cases hk : h id with
  | none => rw [hk] at hl; cases hl
  | some k =>
    rw [hk] at hl
    simp only at hl
    by_cases hj : j < k.c.length
    · rw [if_pos hj] at hl
      simp [hj] at hl
      exact ⟨k, rfl, hj, hl⟩
    · rw [if_neg hj] at hl
      by_cases he : j = k.c.length
      · rw [if_pos he] at hl; cases hl
      · rw [if_neg he] at hl; cases hl
theorem look_inr {h : Heap} {id : Id} {j n : Nat} {z : Zf} (hl : look h id j = some (Sum.inr (n, z))) : ∃ k, h id = some k ∧ k.c.length = n ∧ k.z = z ∧ j = n := by
  unfold look at hl
  cases hk : h id with
  | none => rw [hk] at hl; cases hl
  | some k =>
    rw [hk] at hl
    simp only at hl
    by_cases hj : j < k.c.length
    · rw [if_pos hj] at hl
      simp [hj] at hl
    · rw [if_neg hj] at hl
      by_cases he : j = k.c.length
      · rw [if_pos he] at hl; simp at hl; exact ⟨k, rfl, hl.1, hl.2, he.trans hl.1⟩
      · rw [if_neg he] at hl; cases hl
theorem look_put_other (h : Heap) (id : Id) (b : Option Blk) {i : Id} (hi : i ≠ id) (j : Nat) : look (Heap.put h id b) i j = look h i j := by
  unfold look Heap.put
  rw [if_neg (fun e => hi (Id.num_inj e))]
theorem put_same (h : Heap) (id : Id) (b : Option Blk) : Heap.put h id b id = b := by simp [Heap.put]

def FreeTo (s s' : S) : Prop := ∀ id : Id, s.n.num ≤ id.num → id.num < s'.n.num → s.h id = none

structure Run (α : Type) (m : M α) (s : S) (a : α) (s' : S) (R W : List Rng) : Prop where
  log : s.tr = true → s'.r = R ++ s.r ∧ s'.w = W ++ s.w
  off : ∀ id j, ¬ cov W id j → look s'.h id j = look s.h id j
  also : ∀ t : S, t.tr = s.tr → t.n = s.n → (∀ id j, cov R id j ∨ cov W id j → look t.h id j = look s.h id j) →
    ∃ t', m t = some (a, t') ∧ t'.n = s'.n ∧ t'.tr = s.tr ∧ (s.tr = true → t'.r = R ++ t.r ∧ t'.w = W ++ t.w) ∧ (∀ id j, cov W id j → look t'.h id j = look s'.h id j) ∧ (∀ id j, ¬ cov W id j → look t'.h id j = look t.h id j)
def Loc {α : Type} (m : M α) : Prop := ∀ s a s', m s = some (a, s') → s'.tr = s.tr ∧ s.n.num ≤ s'.n.num ∧ (∀ id, s.h id = none → s'.h id = none ∨ (s.n.num ≤ id.num ∧ id.num < s'.n.num)) ∧ (FreeTo s s' → ∃ R W, Run α m s a s' R W)

theorem Loc.pure {α : Type} (x : α) : Loc (M.pure x) := by
  intro s a s' h
  simp only [M.pure, Option.some.injEq, Prod.mk.injEq] at h
  obtain ⟨rfl, rfl⟩ := h
  exact ⟨rfl, Nat.le_refl _, fun id h => .inl h, fun _ => ⟨[], [], ⟨fun _ => ⟨rfl, rfl⟩, fun _ _ _ => rfl, fun t h1 h2 _ => ⟨t, rfl, h2, h1, fun _ => ⟨rfl, rfl⟩, fun id j h => absurd h (cov_nil id j), fun _ _ _ => rfl⟩⟩⟩⟩
theorem Loc.no {α : Type} : Loc (M.no : M α) := by
  intro s a s' h
  simp [M.no] at h
theorem Loc.ofO {α γ : Type} {o : Option α} {f : α → M γ} (hf : ∀ x, Loc (f x)) : Loc (M.ofO o f) := by
  cases o with
  | none => exact Loc.no
  | some x => exact hf x
theorem Loc.ifB {α : Type} {b : Bool} {m : M α} (h : Loc m) : Loc (M.ifB b m) := by
  cases b
  · exact Loc.no
  · exact h
theorem Loc.bind {α γ : Type} {m : M α} {f : α → M γ} (hm : Loc m) (hf : ∀ x, Loc (f x)) : Loc (M.bind m f) := by
  intro s y s' h
  simp only [M.bind] at h
  cases hms : m s with
  | none => rw [hms] at h; cases h
  | some xu =>
    obtain ⟨x, u⟩ := xu
    rw [hms] at h
    simp only at h
    obtain ⟨a1, a2, a3, a4⟩ := hm s x u hms
    obtain ⟨b1, b2, b3, b4⟩ := hf x u y s' h
    refine ⟨b1.trans a1, Nat.le_trans a2 b2, fun id hid => ?_, fun hfr => ?_⟩
    · rcases a3 id hid with h1 | h1
      · rcases b3 id h1 with h2 | h2
        · exact .inl h2
        · exact .inr ⟨by omega, h2.2⟩
      · exact .inr ⟨h1.1, by omega⟩
    obtain ⟨R1, W1, r1⟩ := a4 (fun id c d => hfr id c (by omega))
    obtain ⟨R2, W2, r2⟩ := b4 (fun id c d => (a3 id (hfr id (by omega) d)).resolve_right (by omega))
    refine ⟨R2 ++ R1, W2 ++ W1, ⟨fun htr => ?_, fun id j hc => ?_, fun t t1 t2 t3 => ?_⟩⟩
    · obtain ⟨c1, c2⟩ := r1.log htr
      obtain ⟨d1, d2⟩ := r2.log (a1.trans htr)
      exact ⟨by rw [d1, c1, List.append_assoc], by rw [d2, c2, List.append_assoc]⟩
    · rw [cov_append] at hc
      rw [r2.off id j (fun h => hc (.inl h)), r1.off id j (fun h => hc (.inr h))]
    · have agree : ∀ id j, cov R1 id j ∨ cov R2 id j ∨ cov W1 id j ∨ cov W2 id j → look t.h id j = look s.h id j := fun id j h => t3 id j (by
        rw [cov_append, cov_append]
        rcases h with h | h | h | h
        · exact .inl (.inr h)
        · exact .inl (.inl h)
        · exact .inr (.inr h)
        · exact .inr (.inl h))
      obtain ⟨v, v1, v2, v3, v4, v5, v6⟩ := r1.also t t1 t2 (fun id j h => agree id j (by rcases h with h | h; exact .inl h; exact .inr (.inr (.inl h))))
      obtain ⟨w, w1, w2, w3, w4, w5, w6⟩ := r2.also v (v3.trans a1.symm) v2 (fun id j h => by
        by_cases hc : cov W1 id j
        · exact v5 id j hc
        · rw [v6 id j hc, r1.off id j hc]
          exact agree id j (by rcases h with h | h; exact .inr (.inl h); exact .inr (.inr (.inr h))))
      refine ⟨w, by simp only [M.bind, v1]; exact w1, w2, w3.trans a1, fun htr => ?_, fun id j hc => ?_, fun id j hc => ?_⟩
      · obtain ⟨c1, c2⟩ := v4 htr
        obtain ⟨d1, d2⟩ := w4 (a1.trans htr)
        exact ⟨by rw [d1, c1, List.append_assoc], by rw [d2, c2, List.append_assoc]⟩
      · rw [cov_append] at hc
        by_cases h2 : cov W2 id j
        · exact w5 id j h2
        · rw [w6 id j h2, r2.off id j h2]
          exact v5 id j (hc.resolve_left h2)
      · rw [cov_append] at hc
        rw [w6 id j (fun h => hc (.inl h)), v6 id j (fun h => hc (.inr h))]
theorem Loc.apart {α : Type} {m : M α} (hm : Loc m) : Loc (M.apart m) := by
  intro s y s' h
  simp only [M.apart] at h
  cases hms : m ⟨true, s.h, s.n, [], []⟩ with
  | none => rw [hms] at h; cases h
  | some xu =>
    obtain ⟨x, u⟩ := xu
    rw [hms] at h
    simp only at h
    obtain ⟨a1, a2, a3, a4⟩ := hm ⟨true, s.h, s.n, [], []⟩ x u hms
    cases htr : s.tr <;> rw [htr] at h <;> simp only at h <;> cases h
    · refine ⟨rfl, a2, a3, fun hfr => ?_⟩
      obtain ⟨R1, W1, r1⟩ := a4 hfr
      obtain ⟨l1, l2⟩ := r1.log rfl
      simp only [List.append_nil] at l1 l2
      refine ⟨R1, W1, ⟨fun h => (by rw [htr] at h; cases h), r1.off, fun t t1 t2 t3 => ?_⟩⟩
      obtain ⟨v, v1, v2, v3, v4, v5, v6⟩ := r1.also ⟨true, t.h, t.n, [], []⟩ rfl t2 t3
      obtain ⟨c1, c2⟩ := v4 rfl
      simp only [List.append_nil] at c1 c2
      refine ⟨⟨false, v.h, v.n, t.r, t.w⟩, ?_, v2, htr.symm, fun h => (by rw [htr] at h; cases h), v5, v6⟩
      simp only [M.apart, v1, t1, htr, c1, c2, l1, l2]
    · refine ⟨rfl, a2, a3, fun hfr => ?_⟩
      obtain ⟨R1, W1, r1⟩ := a4 hfr
      obtain ⟨l1, l2⟩ := r1.log rfl
      simp only [List.append_nil] at l1 l2
      refine ⟨R1, W1, ⟨fun _ => ⟨by rw [l1], by rw [l2]⟩, r1.off, fun t t1 t2 t3 => ?_⟩⟩
      obtain ⟨v, v1, v2, v3, v4, v5, v6⟩ := r1.also ⟨true, t.h, t.n, [], []⟩ rfl t2 t3
      obtain ⟨c1, c2⟩ := v4 rfl
      simp only [List.append_nil] at c1 c2
      refine ⟨⟨true, v.h, v.n, v.r ++ t.r, v.w ++ t.w⟩, ?_, v2, htr.symm, fun _ => ⟨by rw [c1], by rw [c2]⟩, v5, v6⟩
      simp only [M.apart, v1, t1, htr, c1, c2, l1, l2]
end Ev
end Go.Proofs.YthknbcbkibbncaaGreat

/- DERIVED. What an evaluation reads and writes is all that it hangs on and all that it turns: the words of memory, the operations. -/
namespace Go.Proofs.YthknbcbkibbncaaGreat
namespace Ev
open Classical

theorem Loc.of_read {α : Type} {m : M α} (hm : ∀ s a s', m s = some (a, s') → s'.tr = s.tr ∧ s'.n = s.n ∧ s'.h = s.h ∧ ∃ R, (s.tr = true → s'.r = R ++ s.r ∧ s'.w = s.w) ∧
    ∀ t : S, t.tr = s.tr → t.n = s.n → (∀ id j, cov R id j → look t.h id j = look s.h id j) → ∃ t', m t = some (a, t') ∧ t'.n = t.n ∧ t'.tr = t.tr ∧ t'.h = t.h ∧ (s.tr = true → t'.r = R ++ t.r ∧ t'.w = t.w)) : Loc m := by
  intro s a s' h
  obtain ⟨h1, h2, h3, R, h4, h5⟩ := hm s a s' h
  refine ⟨h1, by rw [h2]; exact Nat.le_refl _, fun id hid => .inl (by rw [h3]; exact hid), fun _ => ⟨R, [], ⟨fun htr => ⟨(h4 htr).1, by simpa using (h4 htr).2⟩, fun id j _ => by rw [h3], fun t t1 t2 t3 => ?_⟩⟩⟩
  obtain ⟨t', g1, g2, g3, g4, g5⟩ := h5 t t1 t2 (fun id j h => t3 id j (.inl h))
  exact ⟨t', g1, by rw [g2, t2, h2], g3.trans t1, fun htr => ⟨(g5 htr).1, by simpa using (g5 htr).2⟩, fun id j h => absurd h (cov_nil id j), fun id j _ => by rw [g4]⟩

theorem logR_all (s : S) (id : Id) (lo m : Nat) : (M.logR s id lo m).tr = s.tr ∧ (M.logR s id lo m).h = s.h ∧ (M.logR s id lo m).n = s.n ∧ (M.logR s id lo m).w = s.w ∧ (s.tr = true → (M.logR s id lo m).r = ⟨id, lo, m⟩ :: s.r) := by
  unfold M.logR
  cases h : s.tr <;> simp [h]
theorem logW_all (s : S) (id : Id) (lo m : Nat) : (M.logW s id lo m).tr = s.tr ∧ (M.logW s id lo m).h = s.h ∧ (M.logW s id lo m).n = s.n ∧ (M.logW s id lo m).r = s.r ∧ (s.tr = true → (M.logW s id lo m).w = ⟨id, lo, m⟩ :: s.w) := by
  unfold M.logW
  cases h : s.tr <;> simp [h]

theorem part_same {h h' : Heap} {id : Id} {k : Blk} (hk : h id = some k) {lo m : Nat} (hm : 1 ≤ m) (hle : lo + m ≤ k.c.length) (hag : ∀ j, lo ≤ j → j < lo + m → look h' id j = look h id j) :
    ∃ k', h' id = some k' ∧ lo + m ≤ k'.c.length ∧ (k'.c.drop lo).take m = (k.c.drop lo).take m := by
  have h1 := hag lo (Nat.le_refl _) (by omega)
  rw [look_cell hk (by omega)] at h1
  obtain ⟨k', hk', _⟩ := look_inl h1
  have hlast := hag (lo + m - 1) (by omega) (by omega)
  rw [look_cell hk (by omega)] at hlast
  obtain ⟨k2, hk2, hj2, _⟩ := look_inl hlast
  obtain rfl : k2 = k' := by rw [hk'] at hk2; cases hk2; rfl
  refine ⟨k2, hk', by omega, ?_⟩
  apply List.ext_getElem?
  intro j
  by_cases hj : j < m
  · rw [List.getElem?_take, List.getElem?_take, if_pos hj, if_pos hj, List.getElem?_drop, List.getElem?_drop]
    have h3 := hag (lo + j) (by omega) (by omega)
    rw [look_cell hk (by omega), look_cell hk' (by omega)] at h3
    simp only [Option.some.injEq, Sum.inl.injEq] at h3
    rw [List.getElem?_eq_getElem (by omega), List.getElem?_eq_getElem (by omega), h3]
  · rw [List.getElem?_take, List.getElem?_take, if_neg hj, if_neg hj]
theorem blk_same {h h' : Heap} {id : Id} {k : Blk} (hk : h id = some k) (hag : ∀ j, j < k.c.length + 1 → look h' id j = look h id j) : h' id = some k := by
  have h1 := hag k.c.length (by omega)
  rw [look_end hk] at h1
  obtain ⟨k', hk', hl, hz, _⟩ := look_inr h1
  rw [hk']
  congr 1
  obtain ⟨z, c⟩ := k
  obtain ⟨z', c'⟩ := k'
  simp only at hl hz hag
  subst hz
  congr 1
  apply List.ext_getElem?
  intro j
  by_cases hj : j < c.length
  · have h3 := hag j (by omega)
    rw [look_cell hk hj, look_cell hk' (show j < c'.length by omega)] at h3
    simp only [Option.some.injEq, Sum.inl.injEq] at h3
    rw [List.getElem?_eq_getElem hj, List.getElem?_eq_getElem (by omega), h3]
  · rw [List.getElem?_eq_none (by omega), List.getElem?_eq_none (by omega)]

theorem Loc.rd (id : Id) (lo m : Nat) : Loc (M.rd id lo m) := by
  unfold M.rd
  cases h0 : Nat.beq m 0
  · have hm : 1 ≤ m := Nat.one_le_iff_ne_zero.2 (fun e => by subst e; simp at h0)
    refine Loc.of_read fun s a s' h => ?_
    simp only at h
    cases hk : s.h id with
    | none => rw [hk] at h; cases h
    | some k =>
      rw [hk] at h
      simp only at h
      cases hb : Nat.ble (lo + m) k.c.length <;> rw [hb] at h <;> simp only at h <;> cases h
      have hle := Nat.le_of_ble_eq_true hb
      obtain ⟨l1, l2, l3, l4, l5⟩ := logR_all s id lo m
      refine ⟨l1, l3, l2, [⟨id, lo, m⟩], fun htr => ⟨l5 htr, l4⟩, fun t t1 t2 t3 => ?_⟩
      obtain ⟨k', hk', hle', he⟩ := part_same hk hm hle (fun j j1 j2 => t3 id j ((cov_one id j).2 ⟨rfl, j1, j2⟩))
      obtain ⟨q1, q2, q3, q4, q5⟩ := logR_all t id lo m
      exact ⟨M.logR t id lo m, by simp only [hk', Nat.ble_eq_true_of_le hle', he], q3, q1, q2, fun htr => ⟨q5 (t1.trans htr), q4⟩⟩
  · exact Loc.pure _
theorem Loc.shared (id : Id) : Loc (M.shared id) := by
  refine Loc.of_read fun s a s' h => ?_
  unfold M.shared at h
  cases hk : s.h id with
  | none => rw [hk] at h; cases h
  | some k =>
    rw [hk] at h
    simp only at h
    cases hm : k.z.m with
    | some x => rw [hm] at h; cases h
    | none =>
      rw [hm] at h
      simp only at h
      cases h
      obtain ⟨l1, l2, l3, l4, l5⟩ := logR_all s id k.c.length 1
      refine ⟨l1, l3, l2, [⟨id, k.c.length, 1⟩], fun htr => ⟨l5 htr, l4⟩, fun t t1 t2 t3 => ?_⟩
      have := t3 id k.c.length ((cov_one id _).2 ⟨rfl, Nat.le_refl _, Nat.lt_succ_self _⟩)
      rw [look_end hk] at this
      obtain ⟨k', hk', hl, hz, _⟩ := look_inr this
      obtain ⟨q1, q2, q3, q4, q5⟩ := logR_all t id k.c.length 1
      exact ⟨M.logR t id k.c.length 1, by unfold M.shared; simp only [hk', hl, hz, hm], q3, q1, q2, fun htr => ⟨q5 (t1.trans htr), q4⟩⟩
theorem Loc.ends (id : Id) : Loc (M.ends id) := by
  refine Loc.of_read fun s a s' h => ?_
  unfold M.ends at h
  cases hk : s.h id with
  | none => rw [hk] at h; cases h
  | some k =>
    rw [hk] at h
    simp only at h
    cases hm : k.z.m with
    | some x => rw [hm] at h; cases h
    | none =>
      rw [hm] at h
      simp only at h
      cases h
      obtain ⟨l1, l2, l3, l4, l5⟩ := logR_all s id k.c.length 1
      refine ⟨l1, l3, l2, [⟨id, k.c.length, 1⟩], fun htr => ⟨l5 htr, l4⟩, fun t t1 t2 t3 => ?_⟩
      have := t3 id k.c.length ((cov_one id _).2 ⟨rfl, Nat.le_refl _, Nat.lt_succ_self _⟩)
      rw [look_end hk] at this
      obtain ⟨k', hk', hl, hz, _⟩ := look_inr this
      obtain ⟨q1, q2, q3, q4, q5⟩ := logR_all t id k.c.length 1
      exact ⟨M.logR t id k.c.length 1, by unfold M.ends; simp only [hk', hl, hz, hm], q3, q1, q2, fun htr => ⟨q5 (t1.trans htr), q4⟩⟩
theorem Loc.rdM (id : Id) : Loc (M.rdM id) := by
  refine Loc.of_read fun s a s' h => ?_
  unfold M.rdM at h
  cases hk : s.h id with
  | none => rw [hk] at h; cases h
  | some k =>
    rw [hk] at h
    simp only at h
    cases hm : k.z.m with
    | none => rw [hm] at h; cases h
    | some x =>
      rw [hm] at h
      simp only at h
      cases h
      obtain ⟨l1, l2, l3, l4, l5⟩ := logR_all s id k.c.length 1
      refine ⟨l1, l3, l2, [⟨id, k.c.length, 1⟩], fun htr => ⟨l5 htr, l4⟩, fun t t1 t2 t3 => ?_⟩
      have := t3 id k.c.length ((cov_one id _).2 ⟨rfl, Nat.le_refl _, Nat.lt_succ_self _⟩)
      rw [look_end hk] at this
      obtain ⟨k', hk', hl, hz, _⟩ := look_inr this
      obtain ⟨q1, q2, q3, q4, q5⟩ := logR_all t id k.c.length 1
      exact ⟨M.logR t id k.c.length 1, by unfold M.rdM; simp only [hk', hl, hz, hm], q3, q1, q2, fun htr => ⟨q5 (t1.trans htr), q4⟩⟩
theorem look_mark {h : Heap} {id : Id} {k : Blk} (hk : h id = some k) (z : Zf) (i : Id) (j : Nat) :
    look (Heap.put h id (some ⟨z, k.c⟩)) i j = if i = id ∧ j = k.c.length then some (Sum.inr (k.c.length, z)) else look h i j := by
  by_cases hi : i = id
  · subst hi
    unfold look
    rw [put_same, hk]
    simp only [true_and]
    by_cases hj : j < k.c.length
    · rw [if_pos hj, if_pos hj, if_neg (by omega)]
    · rw [if_neg hj, if_neg hj]
      by_cases he : j = k.c.length
      · rw [if_pos he, if_pos he]
      · rw [if_neg he, if_neg he, if_neg he]
  · rw [look_put_other _ _ _ hi, if_neg (fun h => hi h.1)]
theorem Loc.wrM (id : Id) (l : List AV) : Loc (M.wrM id l) := by
  intro s a s' h
  unfold M.wrM at h
  cases hk : s.h id with
  | none => rw [hk] at h; cases h
  | some k =>
    rw [hk] at h
    simp only at h
    cases hm : k.z.m with
    | none => rw [hm] at h; cases h
    | some x =>
      rw [hm] at h
      simp only at h
      cases h
      have build : ∀ (t : S) (hh : Heap), ∃ u : S, u = M.logW (M.logR ⟨t.tr, hh, t.n, t.r, t.w⟩ id k.c.length 1) id k.c.length 1 ∧ u.tr = t.tr ∧ u.h = hh ∧ u.n = t.n ∧ (t.tr = true → u.r = ⟨id, k.c.length, 1⟩ :: t.r ∧ u.w = ⟨id, k.c.length, 1⟩ :: t.w) := by
        intro t hh
        refine ⟨_, rfl, ?_⟩
        cases ht : t.tr <;> simp [M.logW, M.logR]
      obtain ⟨u, hu, u1, u2, u3, u4⟩ := build s (Heap.put s.h id (some ⟨⟨k.z.s, k.z.b, k.z.t, some l⟩, k.c⟩))
      rw [← hu]
      refine ⟨u1, by rw [u3]; exact Nat.le_refl _, fun i hi => ?_, fun _ => ⟨[⟨id, k.c.length, 1⟩], [⟨id, k.c.length, 1⟩], ⟨fun htr => u4 htr, fun i j hc => ?_, fun t t1 t2 t3 => ?_⟩⟩⟩
      · left
        rw [u2]
        have hne : i ≠ id := fun e => by rw [e, hk] at hi; cases hi
        simp only [Heap.put, if_neg (fun e => hne (Id.num_inj e))]
        exact hi
      · rw [u2, look_mark hk, if_neg]
        rintro ⟨rfl, h1⟩
        exact hc ((cov_one _ _).2 ⟨rfl, by omega, by omega⟩)
      · have h3 := t3 id k.c.length (.inl ((cov_one id _).2 ⟨rfl, Nat.le_refl _, Nat.lt_succ_self _⟩))
        rw [look_end hk] at h3
        obtain ⟨k', hk', hl, hz, _⟩ := look_inr h3
        obtain ⟨v, hv, v1, v2, v3, v4⟩ := build t (Heap.put t.h id (some ⟨⟨k.z.s, k.z.b, k.z.t, some l⟩, k'.c⟩))
        refine ⟨v, by unfold M.wrM; simp only [hk', hz, hm, hl]; rw [hv], by rw [v3, u3]; exact t2, v1.trans t1, fun htr => v4 (t1.trans htr), fun i j hc => ?_, fun i j hc => ?_⟩
        · rw [cov_one] at hc
          obtain ⟨rfl, h1, h2⟩ := hc
          rw [v2, u2, look_mark hk', look_mark hk, if_pos ⟨rfl, by omega⟩, if_pos ⟨rfl, by omega⟩, hl]
        · rw [v2, look_mark hk', if_neg]
          rintro ⟨rfl, h1⟩
          exact hc ((cov_one _ _).2 ⟨rfl, by omega, by omega⟩)
theorem look_write {h : Heap} {id : Id} {k : Blk} (hk : h id = some k) {lo : Nat} {l : List AV} (hle : lo + l.length ≤ k.c.length) (i : Id) (j : Nat) :
    look (Heap.put h id (some ⟨k.z, k.c.take lo ++ (l ++ k.c.drop (lo + l.length))⟩)) i j = if i = id ∧ lo ≤ j ∧ j < lo + l.length then l[j - lo]?.map Sum.inl else look h i j := by
  by_cases hi : i = id
  · subst hi
    have hlen : (k.c.take lo ++ (l ++ k.c.drop (lo + l.length))).length = k.c.length := by simp; omega
    unfold look
    rw [put_same, hk]
    simp only [hlen, true_and]
    by_cases hj : j < k.c.length
    · rw [if_pos hj, if_pos hj]
      by_cases h1 : lo ≤ j ∧ j < lo + l.length
      · rw [if_pos h1, List.getElem?_append_right (by rw [List.length_take]; omega), List.length_take, Nat.min_eq_left (by omega), List.getElem?_append_left (by omega)]
      · rw [if_neg h1]
        by_cases h2 : j < lo
        · rw [List.getElem?_append_left (by rw [List.length_take]; omega), List.getElem?_take, if_pos h2]
        · rw [List.getElem?_append_right (by rw [List.length_take]; omega), List.length_take, Nat.min_eq_left (by omega), List.getElem?_append_right (by omega), List.getElem?_drop, show lo + l.length + (j - lo - l.length) = j by omega]
    · have h3 : ¬ (lo ≤ j ∧ j < lo + l.length) := by omega
      rw [if_neg h3]
      simp only [if_neg hj]
  · rw [look_put_other _ _ _ hi, if_neg (fun h => hi h.1)]
theorem Loc.wr (id : Id) (lo : Nat) (l : List AV) : Loc (M.wr id lo l) := by
  unfold M.wr
  cases h0 : l.isEmpty
  · have hm : 1 ≤ l.length := by cases l; cases h0; simp
    intro s a s' h
    simp only at h
    cases hk : s.h id with
    | none => rw [hk] at h; cases h
    | some k =>
      rw [hk] at h
      simp only at h
      cases hb : Nat.ble (lo + l.length) k.c.length <;> rw [hb] at h <;> simp only at h <;> cases h
      have hle := Nat.le_of_ble_eq_true hb
      obtain ⟨l1, l2, l3, l4, l5⟩ := logW_all ⟨s.tr, Heap.put s.h id (some ⟨k.z, k.c.take lo ++ (l ++ k.c.drop (lo + l.length))⟩), s.n, s.r, s.w⟩ id lo l.length
      refine ⟨l1, by rw [l3]; exact Nat.le_refl _, ?_, fun _ => ⟨[], [⟨id, lo, l.length⟩], ⟨fun htr => ⟨l4, l5 htr⟩, fun i j hc => ?_, fun t t1 t2 t3 => ?_⟩⟩⟩
      · intro i hi
        left
        rw [l2]
        have hne : i ≠ id := fun e => by rw [e, hk] at hi; cases hi
        simp only [Heap.put, if_neg (fun e => hne (Id.num_inj e))]
        exact hi
      · rw [l2, look_write hk hle, if_neg]
        rintro ⟨rfl, h1, h2⟩
        exact hc ((cov_one _ _).2 ⟨rfl, h1, h2⟩)
      · obtain ⟨k', hk', hle', _⟩ := part_same hk hm hle (fun j j1 j2 => t3 id j (.inr ((cov_one id j).2 ⟨rfl, j1, j2⟩)))
        obtain ⟨q1, q2, q3, q4, q5⟩ := logW_all ⟨t.tr, Heap.put t.h id (some ⟨k'.z, k'.c.take lo ++ (l ++ k'.c.drop (lo + l.length))⟩), t.n, t.r, t.w⟩ id lo l.length
        refine ⟨_, by simp only [hk', Nat.ble_eq_true_of_le hle'], ?_, q1.trans t1, fun htr => ⟨q4, q5 (t1.trans htr)⟩, fun i j hc => ?_, fun i j hc => ?_⟩
        · rw [q3, l3]; exact t2
        · rw [cov_one] at hc
          obtain ⟨rfl, h1, h2⟩ := hc
          rw [q2, l2, look_write hk' hle', look_write hk hle, if_pos ⟨rfl, h1, h2⟩, if_pos ⟨rfl, h1, h2⟩]
        · rw [q2, look_write hk' hle', if_neg]
          rintro ⟨rfl, h1, h2⟩
          exact hc ((cov_one _ _).2 ⟨rfl, h1, h2⟩)
  · exact Loc.pure _
theorem look_new (h : Heap) (id : Id) (b : Blk) (i : Id) (j : Nat) (hfree : h id = none) :
    look (Heap.put h id (some b)) i j = if i = id ∧ j < b.c.length + 1 then (if j < b.c.length then b.c[j]?.map Sum.inl else some (Sum.inr (b.c.length, b.z))) else look h i j := by
  by_cases hi : i = id
  · subst hi
    unfold look
    rw [put_same, hfree]
    simp only [true_and]
    by_cases h1 : j < b.c.length
    · rw [if_pos h1, if_pos (by omega), if_pos h1]
    · rw [if_neg h1]
      by_cases h2 : j = b.c.length
      · rw [if_pos h2, if_pos (by omega), if_neg h1]
      · rw [if_neg h2, if_neg (by omega)]
  · rw [look_put_other _ _ _ hi, if_neg (fun h => hi h.1)]
theorem Loc.new (z : Zf) (l : List AV) : Loc (M.new z l) := by
  intro s a s' h
  unfold M.new at h
  cases hn : s.n.inc with
  | none => rw [hn] at h; cases h
  | some n =>
    rw [hn] at h
    simp only at h
    cases h
    have hnum := Id.inc_num hn
    obtain ⟨l1, l2, l3, l4, l5⟩ := logW_all ⟨s.tr, Heap.put s.h s.n (some ⟨z, l⟩), n, s.r, s.w⟩ s.n 0 (l.length + 1)
    refine ⟨l1, by rw [l3]; simp only; omega, fun i hi => ?_, fun hf => ?_⟩
    · rw [l3, l2]
      simp only
      by_cases e : i.num = s.n.num
      · exact .inr ⟨by omega, by omega⟩
      · left
        simp only [Heap.put, if_neg e]
        exact hi
    have hfree := hf s.n (Nat.le_refl _) (by rw [l3]; simp only; omega)
    refine ⟨[], [⟨s.n, 0, l.length + 1⟩], ⟨fun htr => ⟨l4, l5 htr⟩, fun i j hc => ?_, fun t t1 t2 t3 => ?_⟩⟩
    · rw [l2, look_new _ _ _ _ _ hfree, if_neg]
      rintro ⟨rfl, h1⟩
      exact hc ((cov_one _ _).2 ⟨rfl, by omega, by simpa using h1⟩)
    · have hfree' : t.h s.n = none := by
        have := t3 s.n 0 (.inr ((cov_one _ _).2 ⟨rfl, by omega, by omega⟩))
        rw [look_none.2 hfree] at this
        exact look_none.1 this
      obtain ⟨q1, q2, q3, q4, q5⟩ := logW_all ⟨t.tr, Heap.put t.h s.n (some ⟨z, l⟩), n, t.r, t.w⟩ s.n 0 (l.length + 1)
      refine ⟨_, by unfold M.new; simp only [t2, hn], by rw [q3, l3], q1.trans t1, fun htr => ⟨q4, q5 (t1.trans htr)⟩, fun i j hc => ?_, fun i j hc => ?_⟩
      · rw [cov_one] at hc
        obtain ⟨rfl, h1, h2⟩ := hc
        have hcnd : s.n = s.n ∧ j < (⟨z, l⟩ : Blk).c.length + 1 := ⟨rfl, by simpa using h2⟩
        rw [q2, l2]
        simp only
        rw [look_new _ _ _ _ _ hfree, look_new _ _ _ _ _ hfree', if_pos hcnd, if_pos hcnd]
      · rw [q2, look_new _ _ _ _ _ hfree', if_neg]
        rintro ⟨rfl, h1⟩
        exact hc ((cov_one _ _).2 ⟨rfl, by omega, by simpa using h1⟩)
theorem look_gone {h : Heap} {id : Id} {k : Blk} (hk : h id = some k) (i : Id) (j : Nat) : look (Heap.put h id none) i j = if i = id ∧ j < k.c.length + 1 then none else look h i j := by
  by_cases hi : i = id
  · subst hi
    unfold look
    rw [put_same, hk]
    simp only [true_and]
    by_cases h1 : j < k.c.length
    · rw [if_pos (by omega)]
    · by_cases h2 : j = k.c.length
      · rw [if_pos (by omega)]
      · rw [if_neg (by omega), if_neg h1, if_neg h2]
  · rw [look_put_other _ _ _ hi, if_neg (fun h => hi h.1)]
theorem Loc.over (id : Id) (lo m : Nat) (l : List AV) : Loc (M.over id lo m l) := by
  intro s a s' h
  unfold M.over at h
  cases hk : s.h id with
  | none => rw [hk] at h; cases h
  | some k =>
    rw [hk] at h
    simp only at h
    cases hb : (k.z.m.isNone && Nat.ble (lo + m) k.c.length) <;> rw [hb] at h <;> simp only at h
    · cases h
    cases hn : s.n.inc with
    | none => rw [hn] at h; cases h
    | some n =>
      rw [hn] at h
      simp only at h
      cases h
      have hle := Nat.le_of_ble_eq_true ((Bool.and_eq_true _ _).mp hb).2
      have hnum := Id.inc_num hn
      have build : ∀ (tr : Bool) (hh : Heap) (r w : List Rng), ∃ u : S, u = M.logW (M.logW (M.logR ⟨tr, hh, n, r, w⟩ id 0 (k.c.length + 1)) id 0 (k.c.length + 1)) s.n 0 (m + l.length + 1) ∧ u.tr = tr ∧ u.h = hh ∧ u.n = n ∧ (tr = true → u.r = ⟨id, 0, k.c.length + 1⟩ :: r ∧ u.w = ⟨s.n, 0, m + l.length + 1⟩ :: ⟨id, 0, k.c.length + 1⟩ :: w) := by
        intro tr hh r w
        refine ⟨_, rfl, ?_⟩
        cases tr <;> simp [M.logW, M.logR]
      obtain ⟨u, hu, u1, u2, u3, u4⟩ := build s.tr (Heap.put (Heap.put s.h id none) s.n (some ⟨k.z.over lo, (k.c.drop lo).take m ++ l⟩)) s.r s.w
      rw [← hu]
      refine ⟨u1, by rw [u3]; omega, fun i hi => ?_, fun hf => ?_⟩
      · rw [u2, u3]
        by_cases e : i.num = s.n.num
        · exact .inr ⟨by omega, by omega⟩
        · left
          simp only [Heap.put, if_neg e]
          by_cases hi2 : i.num = id.num
          · rw [if_pos hi2]
          · rw [if_neg hi2]; exact hi
      have hfree := hf s.n (Nat.le_refl _) (by rw [u3]; omega)
      have hne : s.n ≠ id := fun e => by rw [e, hk] at hfree; cases hfree
      have hlb : ((k.c.drop lo).take m ++ l).length = m + l.length := by simp; omega
      have fr : ∀ t : S, t.h s.n = none → (Heap.put t.h id none) s.n = none := fun t ht => by simp only [Heap.put, if_neg (fun e => hne (Id.num_inj e))]; exact ht
      have both : ∀ t : S, t.h id = some k → t.h s.n = none → ∀ i j, look (Heap.put (Heap.put t.h id none) s.n (some ⟨k.z.over lo, (k.c.drop lo).take m ++ l⟩)) i j =
          if i = s.n ∧ j < m + l.length + 1 then (if j < m + l.length then ((k.c.drop lo).take m ++ l)[j]?.map Sum.inl else some (Sum.inr (m + l.length, k.z.over lo))) else if i = id ∧ j < k.c.length + 1 then none else look t.h i j := by
        intro t hk' hfree' i j
        rw [look_new _ _ _ _ _ (fr t hfree'), look_gone hk']
        simp only [hlb]
      refine ⟨[⟨id, 0, k.c.length + 1⟩], [⟨s.n, 0, m + l.length + 1⟩, ⟨id, 0, k.c.length + 1⟩], ⟨fun htr => u4 htr, fun i j hc => ?_, fun t t1 t2 t3 => ?_⟩⟩
      · rw [u2, both s hk hfree, if_neg, if_neg]
        · rintro ⟨rfl, h1⟩
          exact hc ⟨⟨i, 0, k.c.length + 1⟩, by simp, rfl, by simp, by simpa using h1⟩
        · rintro ⟨rfl, h1⟩
          exact hc ⟨⟨s.n, 0, m + l.length + 1⟩, by simp, rfl, by simp, by simpa using h1⟩
      · have hk' : t.h id = some k := blk_same hk (fun j hj => t3 id j (.inl ((cov_one _ _).2 ⟨rfl, by omega, by simpa using hj⟩)))
        have hfree' : t.h s.n = none := by
          have := t3 s.n 0 (.inr ⟨⟨s.n, 0, m + l.length + 1⟩, by simp, rfl, by simp, by simp⟩)
          rw [look_none.2 hfree] at this
          exact look_none.1 this
        obtain ⟨v, hv, v1, v2, v3, v4⟩ := build t.tr (Heap.put (Heap.put t.h id none) s.n (some ⟨k.z.over lo, (k.c.drop lo).take m ++ l⟩)) t.r t.w
        refine ⟨v, by unfold M.over; simp only [hk', hb, t2, hn]; rw [hv], by rw [v3, u3], v1.trans t1, fun htr => v4 (t1.trans htr), fun i j hc => ?_, fun i j hc => ?_⟩
        · rw [v2, u2, both t hk' hfree', both s hk hfree]
          by_cases h1 : i = s.n ∧ j < m + l.length + 1
          · rw [if_pos h1, if_pos h1]
          · rw [if_neg h1, if_neg h1]
            by_cases h2 : i = id ∧ j < k.c.length + 1
            · rw [if_pos h2, if_pos h2]
            · exfalso
              obtain ⟨r, hr, e1, e2, e3⟩ := hc
              simp at hr
              rcases hr with rfl | rfl
              · exact h1 ⟨e1.symm, by simpa using e3⟩
              · exact h2 ⟨e1.symm, by simpa using e3⟩
        · rw [v2, both t hk' hfree', if_neg, if_neg]
          · rintro ⟨rfl, h1⟩
            exact hc ⟨⟨i, 0, k.c.length + 1⟩, by simp, rfl, by simp, by simpa using h1⟩
          · rintro ⟨rfl, h1⟩
            exact hc ⟨⟨s.n, 0, m + l.length + 1⟩, by simp, rfl, by simp, by simpa using h1⟩
end Ev
end Go.Proofs.YthknbcbkibbncaaGreat

/- DERIVED. What an evaluation reads and writes is all that it hangs on and all that it turns: operations, rows, code, functions. -/
namespace Go.Proofs.YthknbcbkibbncaaGreat
namespace Ev

theorem Loc.firstL (w n : Nat) (v : AV) : Loc (firstL w n v) := by
  cases v <;> simp only [Ev.firstL] <;> first | exact Loc.pure _ | exact Loc.rd _ _ _ | exact Loc.ifB (Loc.pure _) | exact Loc.no
theorem Loc.grow (z : Bool) (w : Nat) (s : AV) (n : Nat) (new : List AV) : Loc (grow z w s n new) := by
  cases s <;> simp only [Ev.grow] <;> first | exact Loc.no | skip
  · cases Nat.beq n 0
    · exact Loc.bind (Loc.new _ _) fun _ => Loc.pure _
    · exact Loc.pure _
  · cases Nat.ble _ _
    · exact Loc.ifB (Loc.bind (Loc.rd _ _ _) fun _ => Loc.bind (Loc.new _ _) fun _ => Loc.pure _)
    · exact Loc.bind (Loc.wr _ _ _) fun _ => Loc.pure _
  · refine Loc.ifB ?_
    cases Nat.ble _ _
    · exact Loc.ifB (Loc.bind (Loc.over _ _ _ _) fun _ => Loc.pure _)
    · exact Loc.bind (Loc.wr _ _ _) fun _ => Loc.pure _
theorem Loc.cpyF (w : Nat) (d x : AV) : Loc (cpyF w d x) := by
  refine Loc.ofO fun m => ?_
  cases d <;> first
    | exact Loc.no
    | exact Loc.pure _
    | exact Loc.bind (Loc.firstL _ _ _) fun _ => Loc.bind (Loc.wr _ _ _) fun _ => Loc.pure _
theorem Loc.clrF (cs : List AV) (d : AV) : Loc (clrF cs d) := by
  cases d <;> first
    | exact Loc.no
    | exact Loc.pure _
    | exact Loc.bind (Loc.wr _ _ _) fun _ => Loc.pure _
theorem Loc.eqP (i : Id) (p : Nat) (j : Id) (q : Nat) : Loc (eqP i p j q) := by
  unfold Ev.eqP
  cases Nat.beq _ _
  · exact Loc.bind (Loc.shared _) fun _ => Loc.bind (Loc.shared _) fun _ => Loc.ifB (Loc.pure _)
  · exact Loc.pure _
theorem Loc.eqK (kd : Nat) (x y : AV) : Loc (eqK kd x y) := by
  unfold Ev.eqK
  split
  · cases x <;> first | exact Loc.no | (cases y <;> first | exact Loc.no | exact Loc.pure _)
  · cases x <;> first | exact Loc.no | (cases y <;> first | exact Loc.no | exact Loc.pure _ | exact Loc.eqP _ _ _ _)
  · cases x <;> first | exact Loc.no | (cases y <;> first | exact Loc.no | exact Loc.pure _)
  · cases x <;> first | exact Loc.no | (cases y <;> first | exact Loc.no | exact Loc.pure _)
  · cases x <;> first | exact Loc.no | skip
    cases y <;> first | exact Loc.no | skip
    unfold Ev.eqG
    dsimp only
    cases Nat.beq _ _
    · exact Loc.no
    · exact Loc.ofO fun _ => Loc.pure _
theorem Loc.strF (o : BinOp) (x : List Nat) (y : AV) : Loc (strF o x y) := by
  cases y <;> first | exact Loc.no | skip
  cases o <;> first | exact Loc.no | exact Loc.pure _ | exact Loc.ifB (Loc.pure _)
theorem Loc.intF (o : BinOp) (k : IntKind) (x : Int) (k' : IntKind) (y : Int) : Loc (intF o k x k' y) := by
  cases o <;> first | exact Loc.ofO fun _ => Loc.pure _ | exact Loc.ifB (Loc.ofO fun _ => Loc.pure _)
theorem Loc.binF (o : BinOp) (x y : AV) : Loc (binF o x y) := by
  cases x <;> first | exact Loc.no | exact Loc.strF _ _ _ | skip
  cases y <;> first | exact Loc.no | exact Loc.intF _ _ _ _ _
theorem Loc.cvtL (l : List AV) : Loc (cvtL l) := Loc.ofO fun _ => Loc.pure _
theorem Loc.cvtF (x : AV) : Loc (cvtF x) := by
  cases x <;> first | exact Loc.no | exact Loc.pure _ | exact Loc.bind (Loc.rd _ _ _) fun _ => Loc.cvtL _
theorem Loc.cvmF (x : AV) : Loc (cvmF x) := by
  cases x <;> first | exact Loc.no | exact Loc.bind (Loc.shared _) fun _ => Loc.ifB (Loc.pure _)
theorem Loc.cvbF (x : AV) : Loc (cvbF x) := by
  cases x <;> first | exact Loc.no | exact Loc.ifB (Loc.bind (Loc.new _ _) fun _ => Loc.pure _)
theorem Loc.mksF (z : Bool) (cs : List AV) (l c : AV) : Loc (mksF z cs l c) :=
  Loc.ofO fun _ => Loc.ofO fun _ => Loc.ifB (Loc.bind (Loc.new _ _) fun _ => Loc.pure _)
theorem Loc.ixaF (n w : Nat) (x i : AV) : Loc (ixaF n w x i) := Loc.ofO fun _ => by
  cases x <;> first | exact Loc.no | exact Loc.ifB (Loc.pure _)
theorem Loc.ixsF (w : Nat) (x i : AV) : Loc (ixsF w x i) := Loc.ofO fun _ => by
  cases x <;> first | exact Loc.no | exact Loc.ifB (Loc.pure _)
theorem Loc.ldF (x : AV) : Loc (ldF x) := by
  cases x <;> first | exact Loc.no | skip
  refine Loc.bind (Loc.rd _ _ _) fun l => ?_
  split
  · exact Loc.pure _
  · exact Loc.no
theorem Loc.ldnF (m : Nat) (x : AV) : Loc (ldnF m x) := by
  cases x <;> first | exact Loc.no | exact Loc.bind (Loc.rd _ _ _) fun _ => Loc.pure _
theorem Loc.stF (m : Nat) (x v : AV) : Loc (stF m x v) := by
  cases x <;> first | exact Loc.no | exact Loc.ofO fun _ => Loc.ifB (Loc.bind (Loc.wr _ _ _) fun _ => Loc.pure _)
theorem Loc.fadF (off : Nat) (x : AV) : Loc (fadF off x) := by
  cases x <;> first | exact Loc.no | exact Loc.pure _
theorem Loc.lkF (q : Option Nat) (z : AV) (ok : Bool) (x k : AV) : Loc (lkF q z ok x k) := by
  refine Loc.ifB ?_
  cases x <;> first
    | exact Loc.no
    | exact Loc.pure _
    | exact Loc.bind (Loc.rdM _) fun l => Loc.ofO fun nl => Loc.ofO fun r => by cases r <;> exact Loc.pure _
theorem Loc.mupF (q : Option Nat) (x k v : AV) : Loc (mupF q x k v) := by
  refine Loc.ifB ?_
  cases x <;> first
    | exact Loc.no
    | exact Loc.bind (Loc.rdM _) fun l => Loc.ofO fun nl => Loc.ofO fun r => Loc.bind (Loc.wrM _ _) fun _ => Loc.pure _
theorem Loc.menF (q : Option Nat) (z x k : AV) : Loc (menF q z x k) := by
  refine Loc.ifB ?_
  cases x <;> first
    | exact Loc.no
    | exact Loc.bind (Loc.rdM _) fun l => Loc.ofO fun nl => Loc.ofO fun r => by cases r <;> exact Loc.bind (Loc.wrM _ _) fun _ => Loc.pure _
theorem Loc.mesF (x b v : AV) : Loc (mesF x b v) := by
  cases x <;> first
    | exact Loc.no
    | exact Loc.bind (Loc.rdM _) fun l => Loc.ofO fun nl => Loc.ofO fun r => Loc.bind (Loc.wrM _ _) fun _ => Loc.pure _
theorem Loc.delF (q : Option Nat) (x k : AV) : Loc (delF q x k) := by
  refine Loc.ifB ?_
  cases x <;> first
    | exact Loc.no
    | exact Loc.pure _
    | exact Loc.bind (Loc.rdM _) fun l => Loc.ofO fun nl => Loc.ofO fun r => by
        cases r
        · exact Loc.pure _
        · exact Loc.bind (Loc.wrM _ _) fun _ => Loc.pure _
theorem Loc.lnmF (x : AV) : Loc (lnmF x) := by
  cases x <;> first
    | exact Loc.no
    | exact Loc.pure _
    | exact Loc.bind (Loc.rdM _) fun l => Loc.ofO fun nl => Loc.pure _
theorem Loc.fldF (off m : Nat) (ag : Bool) (x : AV) : Loc (fldF off m ag x) := by
  unfold Ev.fldF
  cases x <;> first | exact Loc.no | skip
  rename_i xs
  dsimp only
  cases Nat.ble (off + m) xs.length
  · exact Loc.no
  · cases ag
    · exact Loc.ofO fun _ => Loc.pure _
    · exact Loc.pure _
theorem Loc.idxF (n w : Nat) (ag : Bool) (x i : AV) : Loc (idxF n w ag x i) := Loc.ofO fun _ => Loc.ifB (Loc.fldF _ _ _ _)
theorem Loc.ixtF (x i : AV) : Loc (ixtF x i) := Loc.ofO fun _ => by
  cases x <;> first | exact Loc.no | exact Loc.ofO fun _ => Loc.pure _
theorem Loc.sapF (n : Nat) (x : AV) : Loc (sapF n x) := by
  cases x <;> first | exact Loc.no | exact Loc.ifB (Loc.pure _)
theorem Loc.mkmF : Loc mkmF := Loc.bind (Loc.new _ _) fun _ => Loc.pure _
theorem Loc.nilF (x : AV) : Loc (nilF x) := by
  cases x <;> first | exact Loc.no | exact Loc.pure _
theorem Loc.extF (x : AV) (j : Nat) : Loc (extF x j) := by
  cases x <;> first | exact Loc.no | exact Loc.ofO fun _ => Loc.pure _
theorem Loc.pickF (c x y : AV) : Loc (pickF c x y) := by
  cases c <;> first | exact Loc.no | skip
  rename_i t
  cases t <;> exact Loc.pure _
theorem Loc.cviF (k : IntKind) (x : AV) : Loc (cviF k x) := by
  cases x <;> first | exact Loc.no | exact Loc.pure _
theorem Loc.cvsF (x : AV) : Loc (cvsF x) := by
  cases x <;> first | exact Loc.no | exact Loc.pure _
theorem Loc.newF (z : Bool) (l : List AV) : Loc (newF z l) := Loc.bind (Loc.new _ _) fun _ => Loc.pure _

structure LocF (F : Fns) : Prop where
  fn : ∀ f l, Loc (F.fn f l)
theorem Loc.callF {F : Fns} (hF : LocF F) (f : AV) (l : List AV) : Loc (callF F f l) := by
  cases f <;> first | exact Loc.no | exact hF.fn _ _
theorem Loc.poR {F : Fns} (hF : LocF F) (o : PO) (e : Env) : Loc (poR o F e) := by
  cases o <;> first
    | exact Loc.pure _
    | exact Loc.pickF _ _ _
    | exact Loc.newF _ _
    | exact Loc.ofO fun _ => Loc.newF _ _
    | exact Loc.ofO fun _ => Loc.pure _
    | exact Loc.ofO fun _ => Loc.bind (Loc.new _ _) fun _ => Loc.pure _
    | exact Loc.ldF _
    | exact Loc.ldnF _ _
    | exact Loc.stF _ _ _
    | exact Loc.nilF _
    | exact Loc.binF _ _ _
    | exact Loc.bind (Loc.eqK _ _ _) fun _ => Loc.pure _
    | exact Loc.cviF _ _
    | exact Loc.cvsF _
    | exact Loc.cvbF _
    | exact Loc.cvtF _
    | exact Loc.cvmF _
    | exact Loc.mksF _ _ _ _
    | exact Loc.fadF _ _
    | exact Loc.ixaF _ _ _ _
    | exact Loc.ixsF _ _ _
    | exact Loc.extF _ _
    | exact Loc.callF hF _ _
    | exact Loc.ofO fun _ => Loc.ifB (Loc.bind (Loc.firstL _ _ _) fun _ => Loc.grow _ _ _ _ _)
    | exact Loc.ofO fun _ => Loc.ifB (Loc.grow _ _ _ _ _)
    | exact Loc.cpyF _ _ _
    | exact Loc.clrF _ _
    | exact Loc.mkmF
    | exact Loc.lkF _ _ _ _ _
    | exact Loc.mupF _ _ _ _
    | exact Loc.delF _ _ _
    | exact Loc.lnmF _
    | exact Loc.menF _ _ _ _
    | exact Loc.mesF _ _ _
    | exact Loc.fldF _ _ _ _
    | exact Loc.idxF _ _ _ _ _
    | exact Loc.ixtF _ _
    | exact Loc.sapF _ _
    | exact Loc.no
theorem Loc.psV {F : Fns} (hF : LocF F) (o : PS) (e : Env) : Loc (psV o F e) := by
  unfold Ev.psV
  cases wanted o.g e
  · exact Loc.pure _
  · exact Loc.poR hF _ _
theorem Loc.psR {F : Fns} (hF : LocF F) (o : PS) (e : Env) : Loc (psR o F e) := Loc.bind (Loc.psV hF o e) fun _ => Loc.pure _
theorem Loc.opsR {F : Fns} (hF : LocF F) : ∀ (ops : List PS) (e : Env), Loc (opsR F ops e)
  | [], e => Loc.pure _
  | o :: l, e => Loc.bind (Loc.psR hF o e) fun e => Loc.opsR hF l e
theorem Loc.drwR {F : Fns} (hF : LocF F) : ∀ (ops : List PS) (ms : List Nat) (acc : List Ft) (i : Nat) (e : Env), Loc (drwR F ops ms acc i e)
  | [], _, _, _, e => Loc.pure _
  | o :: l, [], _, _, _ => Loc.no
  | o :: l, m :: ms, acc, i, e => by
    refine Loc.bind (Loc.apart (Loc.psR hF o e)) fun x => ?_
    cases acc.any _
    · exact Loc.drwR hF l ms _ _ _
    · exact Loc.no
theorem Loc.iter {b : Env → M (Option Ex × Env)} (hb : ∀ e, Loc (b e)) : ∀ (n : Nat) (e : Env), Loc (iter n b e)
  | 0, e => Loc.no
  | n + 1, e => by
    refine Loc.bind (hb e) fun r => ?_
    obtain ⟨ex, e1⟩ := r
    cases ex
    · exact Loc.iter hb n e1
    · exact Loc.pure _
theorem Loc.coR {F : Fns} (hF : LocF F) : ∀ (c : PC) (e : Env), Loc (coR F c e)
  | .skip, e => Loc.pure _
  | .ret, e => Loc.pure _
  | .exit id, e => Loc.pure _
  | .seq x y, e => by
    refine Loc.bind (Loc.coR hF x e) fun r => ?_
    obtain ⟨ex, e1⟩ := r
    cases ex
    · exact Loc.coR hF y e1
    · exact Loc.pure _
  | .cond c x y, e => by
    unfold Ev.coR
    cases arg c e <;> first | exact Loc.no | skip
    rename_i t
    cases t
    · exact Loc.coR hF y e
    · exact Loc.coR hF x e
  | .block id b, e => by
    refine Loc.bind (Loc.coR hF b e) fun r => ?_
    obtain ⟨ex, e1⟩ := r
    cases ex with
    | none => exact Loc.pure _
    | some ex =>
      cases ex with
      | ret => exact Loc.pure _
      | exit j =>
        simp only
        cases Nat.beq j id <;> exact Loc.pure _
  | .loop b, e => Loc.iter (fun e => Loc.coR hF b e) _ _
  | .reg ops, e => Loc.bind (Loc.opsR hF ops e) fun _ => Loc.pure _
  | .drw ops ms, e => Loc.bind (Loc.drwR hF ops ms [] 0 e) fun _ => Loc.pure _
theorem Loc.resL (e : Env) : ∀ l : List PR, Loc (resL e l)
  | [] => Loc.pure _
  | r :: l => by
    cases r
    · exact Loc.bind (Loc.resL e l) fun _ => Loc.pure _
    · exact Loc.bind (Loc.ldF _) fun _ => Loc.bind (Loc.resL e l) fun _ => Loc.pure _
    · exact Loc.bind (Loc.ldnF _ _) fun _ => Loc.bind (Loc.resL e l) fun _ => Loc.pure _
theorem Loc.run {own : Nat → List AV → M AV} (ho : ∀ k l, Loc (own k l)) (X : Nat → Option PF) : ∀ n, LocF (run own X n)
  | 0 => ⟨fun _ _ => Loc.no⟩
  | n + 1 => by
    have ih := Loc.run ho X n
    refine ⟨fun f l => ?_⟩
    show Loc (fnR own X (Ev.run own X n) f l)
    unfold fnR
    split
    · exact Loc.no
    · exact ho _ _
    · refine Loc.bind (Loc.coR ih _ _) fun r => ?_
      split
      · exact Loc.no
      · exact Loc.bind (Loc.resL _ _) fun _ => Loc.pure _
end Ev
end Go.Proofs.YthknbcbkibbncaaGreat
