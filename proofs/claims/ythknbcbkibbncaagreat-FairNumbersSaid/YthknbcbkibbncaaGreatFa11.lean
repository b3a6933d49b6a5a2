/- DERIVED. Maps: what the evaluator gives is what the model does. -/
import Derived.MapKept
import Derived.Test.YthknbcbkibbncaaGreatFa10
set_option linter.all false
namespace Go.Proofs.YthknbcbkibbncaaGreat
namespace Ev
open Go.RowKit
def mflat (es : List MapEntry) : List Value := es.flatMap fun e => [e.key, e.val, .int .i64 e.born]
theorem mflat_cons (e : MapEntry) (es : List MapEntry) : mflat (e :: es) = e.key :: e.val :: .int .i64 e.born :: mflat es := by simp [mflat]
theorem mflat_length : ∀ es : List MapEntry, (mflat es).length = es.length * 3
  | [] => rfl
  | e :: es => by rw [mflat_cons]; simp [mflat_length es]; omega
theorem mflat_append (a b : List MapEntry) : mflat (a ++ b) = mflat a ++ mflat b := by simp [mflat]
theorem mflat_take : ∀ (es : List MapEntry) (i : Nat), (mflat es).take (i * 3) = mflat (es.take i)
  | [], i => by simp [mflat]
  | e :: es, 0 => by simp [mflat]
  | e :: es, i + 1 => by
    rw [mflat_cons, List.take_succ_cons, mflat_cons, show (i + 1) * 3 = i * 3 + 1 + 1 + 1 by omega]
    simp [mflat_take es i]
theorem mflat_drop : ∀ (es : List MapEntry) (i : Nat), (mflat es).drop (i * 3) = mflat (es.drop i)
  | [], i => by simp [mflat]
  | e :: es, 0 => by simp
  | e :: es, i + 1 => by
    rw [mflat_cons, List.drop_succ_cons, show (i + 1) * 3 = i * 3 + 1 + 1 + 1 by omega]
    simp [mflat_drop es i]
section
variable {β : Id → CA} {D : Id → Prop}
theorem VRs.uncons {l : List AV} {V : Value} {Vs : List Value} (h : VRs β D l (V :: Vs)) : ∃ x xs, l = x :: xs ∧ VR β D x V ∧ VRs β D xs Vs := by
  cases l with
  | nil => simp [VRs] at h
  | cons x xs =>
    simp only [VRs] at h
    obtain ⟨U, Us, e, h1, h2⟩ := h
    cases e
    exact ⟨x, xs, rfl, h1, h2⟩
theorem mapL_ok {es : List MapEntry} {clock : Nat} {l : List AV} (h : MapR β D es clock l) {nl : Nat × List AV} (hm : mapL l = some nl) : nl.1 = clock ∧ VRs β D nl.2 (mflat es) := by
  unfold MapR at h
  obtain ⟨c, l, rfl, h1, h2⟩ := h.uncons
  simp only [mapL] at hm
  cases c <;> first | (cases hm; done) | skip
  rename_i k x
  cases x <;> cases hm
  simp only [VR, Value.int.injEq, Int.ofNat_eq_natCast] at h1
  refine ⟨?_, h2⟩
  have := h1.2
  simp only
  omega
theorem clk_ok {es : List MapEntry} {clock : Nat} {l : List AV} (h : VRs β D l (mflat es)) : MapR β D es clock (clk clock l) := by
  unfold MapR clk
  exact VRs.cons (by simp only [VR]; rfl) h
theorem findM_spec {k : AV} : ∀ (es : List MapEntry) (l : List AV) (i : Nat) (r : Option Ent), VRs β D l (mflat es) → findM k l i = some r →
    (r = none ∧ ∀ en ∈ es, ∃ x, VR β D x en.key ∧ keyEq k x = some false) ∨
    ∃ j en x en0, r = some en0 ∧ en0.i = i + j ∧ es[j]? = some en ∧ VR β D en0.v en.val ∧ VR β D en0.b (.int .i64 en.born) ∧ VR β D x en.key ∧ keyEq k x = some true ∧ ∀ q ∈ es.take j, ∃ x, VR β D x q.key ∧ keyEq k x = some false
  | [], l, i, r, hl, h => by
    simp only [mflat, List.flatMap_nil] at hl
    obtain rfl : l = [] := by
      cases l with
      | nil => rfl
      | cons x xs => simp [VRs] at hl
    simp only [findM] at h
    cases h
    exact .inl ⟨rfl, by simp⟩
  | en :: es, l, i, r, hl, h => by
    rw [mflat_cons] at hl
    obtain ⟨a, l, rfl, ha, hl⟩ := hl.uncons
    obtain ⟨v, l, rfl, hv, hl⟩ := hl.uncons
    obtain ⟨b, l, rfl, hb, hl⟩ := hl.uncons
    unfold findM at h
    simp only at h
    split at h
    · cases h
    · rename_i he
      cases h
      exact .inr ⟨0, en, a, _, rfl, rfl, by simp, hv, hb, ha, he, by simp⟩
    · rename_i he
      rcases findM_spec es l (i + 1) r hl h with ⟨h1, h2⟩ | ⟨j, en', x, e0, h1, h2, h3, h4, h5, h6, h7, h8⟩
      · refine .inl ⟨h1, fun q hq => ?_⟩
        rcases List.mem_cons.1 hq with rfl | hq
        · exact ⟨a, ha, he⟩
        · exact h2 q hq
      · refine .inr ⟨j + 1, en', x, e0, h1, by omega, by simpa using h3, h4, h5, h6, h7, fun q hq => ?_⟩
        rw [List.take_succ_cons] at hq
        rcases List.mem_cons.1 hq with rfl | hq
        · exact ⟨a, ha, he⟩
        · exact h8 q hq
/-- What a key's type is. -/
inductive KeyK (P : Program) (kt : TypeId) : Option Nat → Prop where
  | int (k : IntKind) (h : P.underlying kt = some (.int k)) : KeyK P kt none
  | str (h : P.underlying kt = some .string) : KeyK P kt (some 0)
  | arr (n : Nat) (el : TypeId) (k : IntKind) (i : TypeInfo) (h : P.underlying kt = some (.array (n + 1) el)) (he : P.underlying el = some (.int k)) (hi : P.info? el = some i) (hs : i.size = 1) : KeyK P kt (some (n + 1))
theorem keyD_ok {P : Program} {Y : Ty} (hY : TyOk P Y) {kt : TypeId} {q : Option Nat} (h : keyD Y kt = some q) : KeyK P kt q := by
  unfold keyD at h
  rw [Option.bind_eq_some_iff] at h
  obtain ⟨d, hd, h⟩ := h
  have hu := under_ok hY hd
  cases d <;> simp only at h <;> try (cases h; done)
  · cases h; exact .int _ hu
  · cases h; exact .str hu
  · rename_i n el
    cases n with
    | zero => cases h
    | succ m =>
      simp only [Option.bind_eq_some_iff] at h
      obtain ⟨ed, hed, _, hi, z, hz, _, hz1, h⟩ := h
      cases h
      have hue := under_ok hY hed
      unfold sizeT at hz
      rw [Option.bind_eq_some_iff] at hz
      obtain ⟨i, hi', hz⟩ := hz
      cases hz
      cases ed <;> simp [isIntD, guardB] at hi
      refine .arr m el _ i hu hue (hY.t el i hi') ?_
      cases hb : Nat.beq i.size 1 <;> rw [hb] at hz1 <;> simp [guardB] at hz1
      exact Nat.eq_of_beq_eq_true hb
theorem ceqs_eq : ∀ {xs ys : List AV} {X Y : List Value}, VRs β D xs X → VRs β D ys Y → ceqs xs ys = some true → Y = X
  | [], [], X, Y, hX, hY, _ => by simp only [VRs] at hX hY; rw [hX, hY]
  | [], _ :: _, _, _, _, _, h => by simp [ceqs] at h
  | _ :: _, [], _, _, _, _, h => by simp [ceqs] at h
  | x :: xs, y :: ys, X, Y, hX, hY, h => by
    simp only [VRs] at hX hY
    obtain ⟨X1, X', rfl, hX1, hX⟩ := hX
    obtain ⟨Y1, Y', rfl, hY1, hY⟩ := hY
    simp only [ceqs] at h
    cases h1 : ceq x y with
    | none => rw [h1] at h; cases h
    | some r1 =>
      rw [h1] at h
      dsimp only at h
      cases h2 : ceqs xs ys with
      | none => rw [h2] at h; cases h
      | some r2 =>
        rw [h2] at h
        simp only [Option.some.injEq, Bool.and_eq_true] at h
        obtain ⟨rfl, rfl⟩ := h
        obtain ⟨k, a, b, rfl, rfl, e⟩ := ceq_int h1 hX1 hY1
        rw [ceqs_eq hX hY h2]
        have : a = b := by simpa using e.symm
        rw [this]

section
variable {P : Program} {kt : TypeId} {q : Option Nat} {k x : AV} {K X : Value} {r : Bool}
/-- The same keys are the same values. -/
theorem keyEq_true (hk : keyOk q k = true) (hK : VR β D k K) (hX : VR β D x X) (h : keyEq k x = some true) : X = K := by
  unfold keyOk at hk
  split at hk
  · split at hk
    · simp only [keyEq] at h
      obtain ⟨kd, a, b, rfl, rfl, e⟩ := ceq_int h hK hX
      have : a = b := by simpa using e.symm
      rw [this]
    · cases hk
  · split at hk
    · split at hk
      · cases x <;> simp only [keyEq] at h <;> first | (cases h; done) | skip
        simp only [Option.some.injEq] at h
        rw [eqL_ok] at h
        have := of_decide_eq_true h
        subst this
        simp only [VR] at hK hX
        rw [hK.1, hX.1]
      · cases hk
    · split at hk
      · cases x <;> simp only [keyEq] at h <;> first | (cases h; done) | skip
        simp only [VR] at hK hX
        obtain ⟨A, rfl, hA, _⟩ := hK
        obtain ⟨B, rfl, hB, _⟩ := hX
        rw [ceqs_eq hA hB h]
      · cases hk
theorem sameBits_key (hq : keyOk q k = true) (hK : VR β D k K) (hX : VR β D x X) (hself : keyEq k x = some true) : Instr.sameBits 10000 K K = true := by
  unfold keyOk at hq
  split at hq
  · split at hq
    · simp only [VR] at hK; subst hK; simp [Instr.sameBits]
    · cases hq
  · split at hq
    · split at hq
      · simp only [VR] at hK; obtain ⟨rfl, _⟩ := hK
        simp only [Instr.sameBits]
        exact (MapKept.bytes_beq _ _).2 rfl
      · cases hq
    · split at hq
      · rename_i xs
        cases x <;> simp only [keyEq] at hself <;> first | (cases hself; done) | skip
        rename_i ys
        simp only [VR] at hK hX
        obtain ⟨C, rfl, hC, _⟩ := hK
        obtain ⟨E, rfl, hE, _⟩ := hX
        have key : ∀ (xs ys : List AV) (C E : List Value), VRs β D xs C → VRs β D ys E → ceqs xs ys = some true → ∀ p ∈ C.zip C, Instr.sameBits 9999 p.1 p.2 = true := by
          intro xs
          induction xs with
          | nil => intro ys C E hC _ _; simp only [VRs] at hC; subst hC; simp
          | cons x xs ih =>
            intro ys C E hC hE h
            cases ys with
            | nil => simp [ceqs] at h
            | cons y ys =>
              simp only [VRs] at hC hE
              obtain ⟨V, Vs, rfl, hV, hC⟩ := hC
              obtain ⟨U, Us, rfl, hU, hE⟩ := hE
              simp only [ceqs] at h
              cases h1 : ceq x y with
              | none => rw [h1] at h; cases h
              | some r1 =>
                rw [h1] at h
                dsimp only at h
                cases h2 : ceqs xs ys with
                | none => rw [h2] at h; cases h
                | some r2 =>
                  rw [h2] at h
                  simp only [Option.some.injEq, Bool.and_eq_true] at h
                  obtain ⟨rfl, rfl⟩ := h
                  obtain ⟨kd, a, b, e1, e2, _⟩ := ceq_int h1 hV hU
                  intro p hp
                  rw [List.zip_cons_cons] at hp
                  rcases List.mem_cons.1 hp with rfl | hp
                  · subst e1; simp [Instr.sameBits]
                  · exact ih ys Vs Us hC hE h2 p hp
        have := key xs ys C E hC hE hself
        simp only [Instr.sameBits, beq_self_eq_true, Bool.true_and, List.all_eq_true]
        intro p hp
        exact this p hp
      · cases hq
/-- Numbers, texts: compared at once. -/
theorem same_now {d : TypeDesc} (hd : (∃ kd, d = .int kd ∧ q = none) ∨ (d = .string ∧ q = some 0)) (hk : keyOk q k = true) (hK : VR β D k K) (hX : VR β D x X) (h : keyEq k x = some r) : Instr.sameNow d K X = some r := by
  rcases hd with ⟨kd, rfl, rfl⟩ | ⟨rfl, rfl⟩
  · unfold keyOk at hk
    simp only at hk
    split at hk
    · simp only [keyEq] at h
      obtain ⟨kd, a, b, rfl, rfl, e⟩ := ceq_int h hK hX
      subst e
      simp [Instr.sameNow]
    · cases hk
  · unfold keyOk at hk
    simp only at hk
    split at hk
    · cases x <;> simp only [keyEq] at h <;> first | (cases h; done) | skip
      simp only [Option.some.injEq] at h
      simp only [VR] at hK hX
      obtain ⟨rfl, h1⟩ := hK
      obtain ⟨rfl, h2⟩ := hX
      simp only [Instr.sameNow, Option.some.injEq]
      rw [← h]
      rw [eqL_ok, Bool.eq_iff_iff]
      simp only [beq_iff_eq, decide_eq_true_eq]
      constructor
      · intro e
        have e' : (⟨(List.map UInt8.ofNat _).toArray⟩ : ByteArray) = ⟨(List.map UInt8.ofNat _).toArray⟩ := (MapKept.bytes_beq _ _).1 e
        simp only [ByteArray.mk.injEq] at e'
        exact bytes_inj h1 h2 (by simpa using congrArg Array.toList e')
      · intro e
        subst e
        exact (MapKept.bytes_beq _ _).2 rfl
    · cases hk
/-- Rows of numbers: cell by cell. -/
theorem same_arr {n : Nat} {el : TypeId} {kd : IntKind} {i : TypeInfo} (hu : P.underlying kt = some (.array (n + 1) el)) (he : P.underlying el = some (.int kd)) (hi : P.info? el = some i) (hs : i.size = 1)
    (hk : keyOk (some (n + 1)) k = true) (hK : VR β D k K) (hX : VR β D x X) (h : keyEq k x = some r) (w : World) : (Op.equal kt K X).run P w = .ok r w := by
  unfold keyOk at hk
  simp only at hk
  split at hk
  · rename_i xs
    cases x <;> simp only [keyEq] at h <;> first | (cases h; done) | skip
    rename_i ys
    simp only [VR] at hK hX
    obtain ⟨A, rfl, hA, _⟩ := hK
    obtain ⟨B, rfl, hB, _⟩ := hX
    have hn : xs.length = n + 1 := Nat.eq_of_beq_eq_true hk
    have hc : P.cellsOf el = 1 := by simp [Program.cellsOf, hi, hs]
    show (Op.equalIn 10000 kt _ _).run P w = _
    rw [show (10000 : Nat) = 9998 + 1 + 1 from rfl, run_equalIn_array w 9999 _ _ hu hi, hc, List.range_eq_range', ← hn]
    exact items_eq he w 9998 _ _ xs ys A B 0 r (fun j => by simp) (fun j => by simp) hA hB h
  · cases hk
theorem findNow_none {d : TypeDesc} : ∀ (es : List MapEntry) (i : Nat), (∀ en ∈ es, Instr.sameNow d K en.key = some false) → Instr.findNow d K es i = some none
  | [], _, _ => rfl
  | e :: es, i, h => by simp [Instr.findNow, h e (by simp), findNow_none es (i + 1) (fun q hq => h q (by simp [hq]))]
theorem findNow_at {d : TypeDesc} : ∀ (es : List MapEntry) (i j : Nat) (en : MapEntry), es[j]? = some en → Instr.sameNow d K en.key = some true → (∀ q ∈ es.take j, Instr.sameNow d K q.key = some false) → Instr.findNow d K es i = some (some (i + j, en.val))
  | [], _, _, _, h, _, _ => by simp at h
  | e :: es, i, 0, en, h, h1, _ => by simp at h; subst h; simp [Instr.findNow, h1]
  | e :: es, i, j + 1, en, h, h1, h2 => by
    rw [List.take_succ_cons] at h2
    simp only [Instr.findNow, h2 e (by simp), findNow_at es (i + 1) j en (by simpa using h) h1 (fun q hq => h2 q (by simp [hq]))]
    simp; omega
theorem findAsk_none (w : World) : ∀ (es : List MapEntry) (i : Nat), (∀ en ∈ es, (Op.equal kt K en.key).run P w = .ok false w) → (Instr.findAsking kt K es i).run P w = .ok none w
  | [], _, _ => by simp [Instr.findAsking]
  | e :: es, i, h => by simp [Instr.findAsking, h e (by simp), findAsk_none w es (i + 1) (fun q hq => h q (by simp [hq]))]
theorem findAsk_at (w : World) : ∀ (es : List MapEntry) (i j : Nat) (en : MapEntry), es[j]? = some en → (Op.equal kt K en.key).run P w = .ok true w → (∀ q ∈ es.take j, (Op.equal kt K q.key).run P w = .ok false w) → (Instr.findAsking kt K es i).run P w = .ok (some (i + j, en.val)) w
  | [], _, _, _, h, _, _ => by simp at h
  | e :: es, i, 0, en, h, h1, _ => by simp at h; subst h; simp [Instr.findAsking, h1]
  | e :: es, i, j + 1, en, h, h1, h2 => by
    rw [List.take_succ_cons] at h2
    simp [Instr.findAsking, h2 e (by simp), findAsk_at w es (i + 1) j en (by simpa using h) h1 (fun q hq => h2 q (by simp [hq]))]
    omega
/-- What was found. -/
inductive Hit (β : Id → CA) (D : Id → Prop) (K : Value) (es : List MapEntry) : Option Ent → Option (Nat × Value) → Prop where
  | no : Hit β D K es none none
  | yes (e : Ent) (en : MapEntry) (h : es[e.i]? = some en) (hv : VR β D e.v en.val) (hb : VR β D e.b (.int .i64 en.born)) (hk : en.key = K) (hs : Instr.sameBits 10000 K K = true) : Hit β D K es (some e) (some (e.i, en.val))
theorem findKey_ok (hq : KeyK P kt q) (hk : keyOk q k = true) (hK : VR β D k K) {es : List MapEntry} {l : List AV} {r : Option Ent} (hl : VRs β D l (mflat es)) (h : findM k l 0 = some r) (w : World) :
    ∃ R, (Instr.findKey kt K es).run P w = .ok R w ∧ Hit β D K es r R := by
  have hs := findM_spec es l 0 r hl h
  cases hq with
  | int kd hu =>
    rcases hs with ⟨rfl, h2⟩ | ⟨j, en, x, e0, rfl, h2, h3, h4, h5, h6, h7, h8⟩
    · exact ⟨none, MapKept.run_findKey hu (findNow_none es 0 fun en hen => by
        obtain ⟨x, hx, hf⟩ := h2 en hen
        exact same_now (.inl ⟨kd, rfl, rfl⟩) hk hK hx hf), .no⟩
    · obtain rfl : e0.i = j := by omega
      refine ⟨some (e0.i, en.val), MapKept.run_findKey hu ?_, .yes e0 en h3 h4 h5 (keyEq_true hk hK h6 h7) (sameBits_key hk hK h6 h7)⟩
      have := findNow_at (d := .int kd) (K := K) es 0 e0.i en h3 (same_now (.inl ⟨kd, rfl, rfl⟩) hk hK h6 h7) (fun q hq => by
        obtain ⟨x, hx, hf⟩ := h8 q hq
        exact same_now (.inl ⟨kd, rfl, rfl⟩) hk hK hx hf)
      simpa using this
  | str hu =>
    rcases hs with ⟨rfl, h2⟩ | ⟨j, en, x, e0, rfl, h2, h3, h4, h5, h6, h7, h8⟩
    · exact ⟨none, MapKept.run_findKey hu (findNow_none es 0 fun en hen => by
        obtain ⟨x, hx, hf⟩ := h2 en hen
        exact same_now (.inr ⟨rfl, rfl⟩) hk hK hx hf), .no⟩
    · obtain rfl : e0.i = j := by omega
      refine ⟨some (e0.i, en.val), MapKept.run_findKey hu ?_, .yes e0 en h3 h4 h5 (keyEq_true hk hK h6 h7) (sameBits_key hk hK h6 h7)⟩
      have := findNow_at (d := .string) (K := K) es 0 e0.i en h3 (same_now (.inr ⟨rfl, rfl⟩) hk hK h6 h7) (fun q hq => by
        obtain ⟨x, hx, hf⟩ := h8 q hq
        exact same_now (.inr ⟨rfl, rfl⟩) hk hK hx hf)
      simpa using this
  | arr n el kd i hu he hi hs1 =>
    have hask : ∀ R, (Instr.findAsking kt K es 0).run P w = .ok R w → (es = [] → R = none) → (Instr.findKey kt K es).run P w = .ok R w := fun R hR h0 => by
      cases es with
      | nil => simp [Instr.findKey, run_underlying hu, Instr.findNow, h0 rfl]
      | cons e es => simp [Instr.findKey, run_underlying hu, Instr.findNow, Instr.sameNow, hR]
    rcases hs with ⟨rfl, h2⟩ | ⟨j, en, x, e0, rfl, h2, h3, h4, h5, h6, h7, h8⟩
    · exact ⟨none, hask none (findAsk_none w es 0 fun en hen => by
        obtain ⟨x, hx, hf⟩ := h2 en hen
        exact same_arr hu he hi hs1 hk hK hx hf w) (fun _ => rfl), .no⟩
    · obtain rfl : e0.i = j := by omega
      refine ⟨some (e0.i, en.val), hask _ ?_ (fun e => by subst e; simp at h3), .yes e0 en h3 h4 h5 (keyEq_true hk hK h6 h7) (sameBits_key hk hK h6 h7)⟩
      have := findAsk_at (P := P) (kt := kt) (K := K) w es 0 e0.i en h3 (same_arr hu he hi hs1 hk hK h6 h7 w) (fun q hq => by
        obtain ⟨x, hx, hf⟩ := h8 q hq
        exact same_arr hu he hi hs1 hk hK hx hf w)
      simpa using this
/-- Any key of a key's type may be one. -/
theorem checkKey_ok (hq : KeyK P kt q) (hk : keyOk q k = true) (hK : VR β D k K) (em : Bool) (w : World) : (Instr.checkKey em 10000 kt K).run P w = .ok () w := by
  rw [show (10000 : Nat) = 9998 + 1 + 1 from rfl]
  cases hq with
  | int kd hu =>
    unfold Instr.checkKey
    simp [run_underlying hu]
  | str hu =>
    unfold Instr.checkKey
    simp [run_underlying hu]
  | arr n el kd i hu he hi hs1 =>
    unfold keyOk at hk
    simp only at hk
    split at hk
    · rename_i xs
      simp only [VR] at hK
      obtain ⟨A, rfl, hA, _⟩ := hK
      have hn : xs.length = n + 1 := Nat.eq_of_beq_eq_true hk
      have hlen := hA.length
      unfold Instr.checkKey
      simp only [Sem.run_bind, run_underlying hu, Result.andThen_ok]
      simp only [Std.Legacy.Range.forIn_eq_forIn_range', Std.Legacy.Range.size, Nat.sub_zero, Nat.add_one_sub_one, Nat.div_one]
      have key : ∀ m s, s + m ≤ A.length → (forIn (List.range' s m) PUnit.unit fun i (_ : PUnit) => do
          Instr.checkKey em (9998 + 1) el (← part el A.toArray (i * (← sizeOf el)))
          pure (ForInStep.yield PUnit.unit) : Sem PUnit).run P w = .ok () w := by
        intro m
        induction m with
        | zero => intro s _; simp
        | succ m ih =>
          intro s hs
          obtain ⟨V, hV⟩ : ∃ V, A[s]? = some V := ⟨A[s]'(by omega), by simp⟩
          have h1 : (sizeOf el).run P w = .ok 1 w := by simp [run_sizeOf w hi, Program.cellsOf, hi, hs1]
          have h2 : (part el A.toArray (s * 1)).run P w = .ok V w := by simp [part, isAgg, Sem.run_bind, run_underlying he, hV]
          have h3 : (Instr.checkKey em (9998 + 1) el V).run P w = .ok () w := by
            unfold Instr.checkKey
            simp [run_underlying he]
          rw [List.range'_succ, List.forIn_cons]
          simp only [Sem.run_bind, h1, h2, h3, Result.andThen_ok, Sem.run_pure]
          exact ih (s + 1) (by omega)
      have := key (n + 1) 0 (by omega)
      rw [show (forIn (List.range' 0 (n + 1)) PUnit.unit fun i (_ : PUnit) => do
          Instr.checkKey em 9999 el (← part el A.toArray (i * (← sizeOf el)))
          pure (ForInStep.yield PUnit.unit) : Sem PUnit).run P w = .ok () w from this]
      simp
    · cases hk
end
end
end Ev
end Go.Proofs.YthknbcbkibbncaaGreat

/- DERIVED. The operations of maps: what the evaluator gives is what the model does. -/
namespace Go.Proofs.YthknbcbkibbncaaGreat
namespace Ev
open Go.RowKit
section
variable {P : Program} {Y : Ty} {β : Id → CA} {D : Id → Prop} {B N : Nat} {W w : World} {s s' u : S} {e : Env} {a : Act}
theorem rdM_ok (hr : HR β D B s.h w) {id : Id} {l : List AV} (h : M.rdM id s = some (l, s')) :
    s'.h = s.h ∧ s'.n = s.n ∧ D id ∧ ∃ k es clock, s.h id = some k ∧ k.z.m = some l ∧ k.c = [] ∧ w.heap[(β id).blk]? = some (.map es clock) ∧ MapR β D es.toList clock l := by
  unfold M.rdM at h
  split at h
  · cases h
  · rename_i k hk
    split at h
    · cases h
    · rename_i l' hm
      cases h
      obtain ⟨g1, g2⟩ := logR_h s id k.c.length 1
      obtain ⟨hd, hl⟩ := hr.live id k hk
      unfold LiveB at hl
      rw [hm] at hl
      obtain ⟨h0, es, clock, h1, h2⟩ := hl
      exact ⟨g1, g2, hd, k, es, clock, hk, hm, h0, h1, h2⟩
/-- A map is another one now. -/
theorem wrM_ok (hr : Rel β D B W s.h w) {id : Id} {l : List AV} {u : Unit} (h : M.wrM id l s = some (u, s')) {es : Array MapEntry} {clock : Nat} (hm : MapR β D es.toList clock l) :
    s'.n = s.n ∧ Rel β D B W s'.h { w with heap := w.heap.setIfInBounds (β id).blk (.map es clock) } := by
  unfold M.wrM at h
  split at h
  · cases h
  · rename_i k hk
    split at h
    · cases h
    · rename_i l' hm'
      cases h
      obtain ⟨g1, g2⟩ := logR_h ⟨s.tr, Heap.put s.h id (some ⟨⟨k.z.s, k.z.b, k.z.t, some l⟩, k.c⟩), s.n, s.r, s.w⟩ id k.c.length 1
      obtain ⟨g3, g4⟩ := logW_h (M.logR ⟨s.tr, Heap.put s.h id (some ⟨⟨k.z.s, k.z.b, k.z.t, some l⟩, k.c⟩), s.n, s.r, s.w⟩ id k.c.length 1) id k.c.length 1
      refine ⟨by rw [g4, g2], ?_⟩
      rw [g3, g1]
      obtain ⟨hd, hl⟩ := hr.hr.live id k hk
      unfold LiveB at hl
      rw [hm'] at hl
      obtain ⟨h0, es0, c0, h1, h2⟩ := hl
      have hset := MapKept.heap_set (o' := .map es clock) h1
      refine ⟨hr.hr.swap hd (by simp) (fun i hi => hset.2 i hi) (by rw [hk]; simp) ?_, hr.bel.trans ⟨rfl, rfl, rfl, by simp, fun i hi => hset.2 i ?_⟩⟩
      · rintro k' ⟨⟩
        unfold LiveB
        exact ⟨h0, es, clock, hset.1, hm⟩
      · have := hr.hr.old id hd
        omega
theorem zeroV_ok (hY : TyOk P Y) {t : TypeId} {z : AV} (h : zeroV Y t = some z) (β : Id → CA) (D : Id → Prop) : ∃ Z, (∀ w, (zeroValue t).run P w = .ok Z w) ∧ VR β D z Z := by
  unfold zeroV at h
  simp only [Option.bind_eq_some_iff] at h
  obtain ⟨i, hi, Z, hz, h⟩ := h
  have hp := hY.t t i hi
  exact ⟨Z, fun w => by simp [zeroValue, typeInfo, hp, hz], ofV_ok h β D⟩
theorem lkR_ok {ok b : Bool} {v : AV} {V : Value} (h : VR β D v V) : VR β D (lkR ok v b) (if ok then .tuple #[V, .bool b] else V) := by
  cases ok
  · simpa [lkR] using h
  · simp only [lkR, if_true, VR]
    exact ⟨[V, .bool b], rfl, VRs.cons h (VRs.cons (by simp [VR]) VRs.nil)⟩
theorem lk_ok (hY : TyOk P Y) (hr : Rel β D B W s.h w) {t kt et : TypeId} {q : Option Nat} {z : AV} {ok : Bool} (ht : under Y t = some (.map kt et)) (hq : keyD Y kt = some q) (hz : zeroV Y et = some z) {x k v : AV} {X K : Value}
    (h : lkF q z ok x k s = some (v, s')) (hx : VR β D x X) (hk : VR β D k K) : Gives P β D B W s s' v (Instr.lookup t X K ok) w := by
  have hu := under_ok hY ht
  have hkk := keyD_ok hY hq
  have hkb := ifB_some h
  clear h
  obtain ⟨hko, h⟩ := hkb
  obtain ⟨Z, hzr, hzv⟩ := zeroV_ok hY hz β D
  cases x <;> simp only at h <;> first | (simp only [M.no] at h; cases h; done) | skip
  · obtain ⟨rfl, rfl⟩ := pure_some h
    simp only [VR] at hx
    subst hx
    refine Gives.same hr (lkR_ok hzv) ?_
    have hc := checkKey_ok hkk hko hk true w
    have hf : (Instr.findKey kt K []).run P w = .ok none w := by
      obtain ⟨R, h1, h2⟩ := findKey_ok hkk hko hk (es := []) (l := []) (r := none) (by simp [mflat, VRs]) rfl w
      cases h2
      exact h1
    simp [Instr.lookup, run_underlying hu, hc, hf, hzr]
  · rename_i id
    simp only [VR] at hx
    obtain ⟨_, rfl⟩ := hx
    obtain ⟨l, u, h1, h⟩ := bind_some h
    obtain ⟨g1, g2, hd, b, es, clock, hb, hbm, hbc, hw, hmr⟩ := rdM_ok hr.hr h1
    obtain ⟨nl, hnl, h⟩ := ofO_some h
    obtain ⟨hn1, hn2⟩ := mapL_ok hmr hnl
    obtain ⟨r, hfm, h⟩ := ofO_some h
    obtain ⟨R, hf, hhit⟩ := findKey_ok hkk hko hk hn2 hfm w
    have hc := checkKey_ok hkk hko hk es.isEmpty w
    cases hhit with
    | no =>
      obtain ⟨rfl, rfl⟩ := pure_some h
      refine ⟨β, D, w, _, by rw [g2]; exact Ext.refl _ _ _, ⟨by rw [g1]; exact hr.hr, hr.bel⟩, lkR_ok hzv, ?_⟩
      simp only [Instr.lookup, Sem.run_bind, run_underlying hu, Result.andThen_ok, MapKept.run_getObj_map hw, hc, hf, hzr, Sem.run_pure]
    | yes en0 en h2 hv hb hke hsb =>
      obtain ⟨rfl, rfl⟩ := pure_some h
      refine ⟨β, D, w, _, by rw [g2]; exact Ext.refl _ _ _, ⟨by rw [g1]; exact hr.hr, hr.bel⟩, lkR_ok hv, ?_⟩
      simp only [Instr.lookup, Sem.run_bind, run_underlying hu, Result.andThen_ok, MapKept.run_getObj_map hw, hc, hf, Sem.run_pure]
/-- An entry is another one now. -/
theorem setAt_ok {es : Array MapEntry} {l : List AV} (hl : VRs β D l (mflat es.toList)) {i : Nat} {en : MapEntry} (he : es[i]? = some en) {k v b : AV} {f : MapEntry → MapEntry} (hk : VR β D k (f en).key) (hv : VR β D v (f en).val) (hb : VR β D b (.int .i64 (f en).born)) :
    VRs β D (setAt l i k v b) (mflat (es.modify i f).toList) := by
  have hlt : i < es.size := (Array.getElem?_eq_some_iff.1 he).1
  have hsplit : (es.modify i f).toList = es.toList.take i ++ (f en :: es.toList.drop (i + 1)) := by
    apply List.ext_getElem?
    intro j
    rw [Array.getElem?_toList, Array.getElem?_modify]
    rcases Nat.lt_trichotomy j i with h | h | h
    · rw [if_neg (by omega), List.getElem?_append_left (by simp; omega), List.getElem?_take, if_pos h, Array.getElem?_toList]
    · subst h
      rw [if_pos rfl, he, List.getElem?_append_right (by simp; omega)]
      simp [Nat.min_eq_left (Nat.le_of_lt hlt)]
    · rw [if_neg (by omega), List.getElem?_append_right (by simp; omega), List.length_take, Nat.min_eq_left (by simp; omega)]
      obtain ⟨d, rfl⟩ : ∃ d, j = i + 1 + d := ⟨j - (i + 1), by omega⟩
      rw [show i + 1 + d - i = d + 1 by omega, List.getElem?_cons_succ, List.getElem?_drop, Array.getElem?_toList]
  rw [hsplit, mflat_append, mflat_cons, ← mflat_take, ← mflat_drop]
  unfold setAt
  refine (hl.take _).append (VRs.cons hk (VRs.cons hv (VRs.cons hb ?_)))
  rw [show i * 3 + 3 = (i + 1) * 3 by omega]
  exact hl.drop _
theorem push_ok {es : Array MapEntry} {l : List AV} (hl : VRs β D l (mflat es.toList)) {k v b : AV} {en : MapEntry} (hk : VR β D k en.key) (hv : VR β D v en.val) (hb : VR β D b (.int .i64 en.born)) : VRs β D (l ++ [k, v, b]) (mflat (es.push en).toList) := by
  rw [Array.toList_push, mflat_append, show mflat [en] = [en.key, en.val, .int .i64 en.born] by simp [mflat]]
  exact hl.append (VRs.cons hk (VRs.cons hv (VRs.cons hb VRs.nil)))
theorem stamp_v (n : Nat) : VR β D (.i .i64 (.ofNat n)) (.int .i64 n) := by simp only [VR]; rfl
theorem stays_ok {K : Value} (h : Instr.sameBits 10000 K K = true) (w : World) : (Instr.keyThatStays K K).run P w = .ok K w := by simp [Instr.keyThatStays, h]
theorem up_ok (hY : TyOk P Y) (hr : Rel β D B W s.h w) {t kt et : TypeId} {q : Option Nat} (ht : under Y t = some (.map kt et)) (hq : keyD Y kt = some q) {x k y v : AV} {X K U : Value}
    (h : mupF q x k y s = some (v, s')) (hx : VR β D x X) (hk : VR β D k K) (hy : VR β D y U) : ∃ w', Rel β D B W s'.h w' ∧ v = und ∧ s'.n = s.n ∧ (Instr.mapUpdate t X K U).run P w = .ok () w' := by
  have hu := under_ok hY ht
  have hkk := keyD_ok hY hq
  have hkb := ifB_some h
  clear h
  obtain ⟨hko, h⟩ := hkb
  cases x <;> simp only at h <;> first | (simp only [M.no] at h; cases h; done) | skip
  rename_i id
  simp only [VR] at hx
  obtain ⟨_, rfl⟩ := hx
  obtain ⟨l, u, h1, h⟩ := bind_some h
  obtain ⟨g1, g2, hd, b, es, clock, hb, hbm, hbc, hw, hmr⟩ := rdM_ok hr.hr h1
  obtain ⟨nl, hnl, h⟩ := ofO_some h
  obtain ⟨hn1, hn2⟩ := mapL_ok hmr hnl
  obtain ⟨r, hfm, h⟩ := ofO_some h
  obtain ⟨R, hf, hhit⟩ := findKey_ok hkk hko hk hn2 hfm w
  have hc := checkKey_ok hkk hko hk false w
  obtain ⟨un, u2, h2, h⟩ := bind_some h
  obtain ⟨rfl, rfl⟩ := pure_some h
  have hr' : Rel β D B W u.h w := ⟨by rw [g1]; exact hr.hr, hr.bel⟩
  cases hhit with
  | no =>
    obtain ⟨g3, g4⟩ := wrM_ok hr' h2 (es := es.push ⟨K, U, clock⟩) (clock := clock + 1) (by
      simp only
      rw [hn1]
      exact clk_ok (push_ok hn2 hk hy (stamp_v _)))
    refine ⟨_, g4, rfl, g3.trans g2, ?_⟩
    simp only [Instr.mapUpdate, Sem.run_bind, run_underlying hu, Result.andThen_ok, MapKept.run_getObj_map hw, hc, hf, MapKept.run_setObj_map _ hw]
  | yes en0 en he hv hb hke hsb =>
    obtain ⟨g3, g4⟩ := wrM_ok hr' h2 (es := es.modify en0.i fun e => { e with key := K, val := U }) (clock := clock) (by
      simp only
      rw [hn1]
      exact clk_ok (setAt_ok hn2 (by simpa using he) hk hy hb))
    refine ⟨_, g4, rfl, g3.trans g2, ?_⟩
    have he' : es[en0.i]? = some en := by simpa using he
    simp only [Instr.mapUpdate, Sem.run_bind, run_underlying hu, Result.andThen_ok, MapKept.run_getObj_map hw, hc, hf, he', Option.map_some, Option.getD_some, hke, stays_ok hsb, MapKept.run_setObj_map _ hw]
theorem en_ok (hY : TyOk P Y) (hr : Rel β D B W s.h w) {t kt et : TypeId} {q : Option Nat} {z : AV} (ht : under Y t = some (.map kt et)) (hq : keyD Y kt = some q) (hz : zeroV Y et = some z) {x k v : AV} {X K : Value}
    (h : menF q z x k s = some (v, s')) (hx : VR β D x X) (hk : VR β D k K) : Gives P β D B W s s' v (Instr.mapEntry t X K) w := by
  have hu := under_ok hY ht
  have hkk := keyD_ok hY hq
  have hkb := ifB_some h
  clear h
  obtain ⟨hko, h⟩ := hkb
  obtain ⟨Z, hzr, hzv⟩ := zeroV_ok hY hz β D
  cases x <;> simp only at h <;> first | (simp only [M.no] at h; cases h; done) | skip
  rename_i id
  simp only [VR] at hx
  obtain ⟨_, rfl⟩ := hx
  obtain ⟨l, u, h1, h⟩ := bind_some h
  obtain ⟨g1, g2, hd, b, es, clock, hb, hbm, hbc, hw, hmr⟩ := rdM_ok hr.hr h1
  obtain ⟨nl, hnl, h⟩ := ofO_some h
  obtain ⟨hn1, hn2⟩ := mapL_ok hmr hnl
  obtain ⟨r, hfm, h⟩ := ofO_some h
  obtain ⟨R, hf, hhit⟩ := findKey_ok hkk hko hk hn2 hfm w
  have hc := checkKey_ok hkk hko hk false w
  have hr' : Rel β D B W u.h w := ⟨by rw [g1]; exact hr.hr, hr.bel⟩
  cases hhit with
  | no =>
    obtain ⟨un, u2, h2, h⟩ := bind_some h
    obtain ⟨rfl, rfl⟩ := pure_some h
    obtain ⟨g3, g4⟩ := wrM_ok hr' h2 (es := es.push ⟨K, Z, clock⟩) (clock := clock + 1) (by
      rw [hn1]
      exact clk_ok (push_ok hn2 hk hzv (stamp_v _)))
    refine ⟨β, D, _, .tuple #[Z, goInt clock], by rw [g3, g2]; exact Ext.refl _ _ _, g4, ?_, ?_⟩
    · rw [hn1]
      simp only [VR]
      exact ⟨[Z, goInt clock], rfl, VRs.cons hzv (VRs.cons (stamp_v _) VRs.nil)⟩
    · simp only [Instr.mapEntry, Sem.run_bind, run_underlying hu, Result.andThen_ok, MapKept.run_getObj_map hw, hc, hf, hzr, MapKept.run_setObj_map _ hw, Sem.run_pure]
  | yes en0 en he hv hb hke hsb =>
    obtain ⟨un, u2, h2, h⟩ := bind_some h
    obtain ⟨rfl, rfl⟩ := pure_some h
    obtain ⟨g3, g4⟩ := wrM_ok hr' h2 (es := es.modify en0.i fun e => { e with key := K }) (clock := clock) (by
      rw [hn1]
      exact clk_ok (setAt_ok hn2 (by simpa using he) hk hv hb))
    have he' : es[en0.i]? = some en := by simpa using he
    refine ⟨β, D, _, .tuple #[en.val, goInt en.born], by rw [g3, g2]; exact Ext.refl _ _ _, g4, ?_, ?_⟩
    · simp only [VR]
      exact ⟨[en.val, goInt en.born], rfl, VRs.cons hv (VRs.cons hb VRs.nil)⟩
    · simp only [Instr.mapEntry, Sem.run_bind, run_underlying hu, Result.andThen_ok, MapKept.run_getObj_map hw, hc, hf, he', Option.map_some, Option.getD_some, hke, stays_ok hsb, MapKept.run_setObj_map _ hw, Sem.run_pure]
theorem cut_ok {es : Array MapEntry} {l : List AV} (hl : VRs β D l (mflat es.toList)) {i : Nat} {en : MapEntry} (he : es[i]? = some en) : VRs β D (cutAt l i) (mflat (es.eraseIdxIfInBounds i).toList) := by
  have hlt : i < es.size := (Array.getElem?_eq_some_iff.1 he).1
  have hsub : (es.eraseIdxIfInBounds i).toList = es.toList.take i ++ es.toList.drop (i + 1) := by
    unfold Array.eraseIdxIfInBounds
    rw [dif_pos hlt]
    simp [List.eraseIdx_eq_take_drop_succ]
  rw [hsub, mflat_append, ← mflat_take, ← mflat_drop]
  unfold cutAt
  rw [show i * 3 + 3 = (i + 1) * 3 by omega]
  exact (hl.take _).append (hl.drop _)
theorem del_ok (hY : TyOk P Y) (hr : Rel β D B W s.h w) {t ty kt et : TypeId} {q : Option Nat} (ht : under Y t = some (.map kt et)) (hq : keyD Y kt = some q) {x k v : AV} {X K : Value} {ts : List TypeId}
    (h : delF q x k s = some (v, s')) (hx : VR β D x X) (hk : VR β D k K) : Gives P β D B W s s' v (Builtin.delete_ (t :: ts).toArray ty #[X, K]) w := by
  have hu := under_ok hY ht
  have hkk := keyD_ok hY hq
  have h00 : (t :: ts).toArray[0]? = some t := by simp
  have hund : VR β D (.tu []) (.tuple #[]) := by simp only [VR]; exact ⟨[], rfl, VRs.nil⟩
  have hkb := ifB_some h
  clear h
  obtain ⟨hko, h⟩ := hkb
  cases x <;> simp only at h <;> first | (simp only [M.no] at h; cases h; done) | skip
  · obtain ⟨rfl, rfl⟩ := pure_some h
    simp only [VR] at hx
    subst hx
    have hc := checkKey_ok hkk hko hk true w
    refine Gives.same hr hund ?_
    simp [Builtin.delete_, run_underlying hu, hc]
  · rename_i id
    simp only [VR] at hx
    obtain ⟨_, rfl⟩ := hx
    obtain ⟨l, u, h1, h⟩ := bind_some h
    obtain ⟨g1, g2, hd, b, es, clock, hb, hbm, hbc, hw, hmr⟩ := rdM_ok hr.hr h1
    obtain ⟨nl, hnl, h⟩ := ofO_some h
    obtain ⟨hn1, hn2⟩ := mapL_ok hmr hnl
    obtain ⟨r, hfm, h⟩ := ofO_some h
    obtain ⟨R, hf, hhit⟩ := findKey_ok hkk hko hk hn2 hfm w
    have hc := checkKey_ok hkk hko hk es.isEmpty w
    have hr' : Rel β D B W u.h w := ⟨by rw [g1]; exact hr.hr, hr.bel⟩
    cases hhit with
    | no =>
      obtain ⟨rfl, rfl⟩ := pure_some h
      have hsame : ({ w with heap := w.heap.setIfInBounds (β id).blk (.map es clock) } : World) = w := by
        have e : w.heap.setIfInBounds (β id).blk (.map es clock) = w.heap := by
          apply Array.ext_getElem?
          intro j
          by_cases hj : j = (β id).blk
          · subst hj
            rw [(MapKept.heap_set hw).1, hw]
          · rw [(MapKept.heap_set hw).2 j hj]
        rw [e]
      refine ⟨β, D, w, .tuple #[], by rw [g2]; exact Ext.refl _ _ _, hr', hund, ?_⟩
      simp [Builtin.delete_, run_underlying hu, MapKept.run_getObj_map hw, hc, hf, MapKept.run_setObj_map _ hw, hsame]
    | yes en0 en he hv hb hke hsb =>
      obtain ⟨un, u2, h2, h⟩ := bind_some h
      obtain ⟨rfl, rfl⟩ := pure_some h
      obtain ⟨g3, g4⟩ := wrM_ok hr' h2 (es := es.eraseIdxIfInBounds en0.i) (clock := clock) (by
        rw [hn1]
        exact clk_ok (cut_ok hn2 (by simpa using he)))
      refine ⟨β, D, _, .tuple #[], by rw [g3, g2]; exact Ext.refl _ _ _, g4, hund, ?_⟩
      simp [Builtin.delete_, run_underlying hu, MapKept.run_getObj_map hw, hc, hf, MapKept.run_setObj_map _ hw]
theorem lnm_ok (hY : TyOk P Y) (hr : Rel β D B W s.h w) {t ty kt et : TypeId} (ht : under Y t = some (.map kt et)) {x v : AV} {X : Value}
    (h : lnmF x s = some (v, s')) (hx : VR β D x X) : Gives P β D B W s s' v (Builtin.len_ #[t] ty #[X]) w := by
  have hu := under_ok hY ht
  cases x <;> first | (simp only [lnmF, M.no] at h; cases h; done) | skip
  · obtain ⟨rfl, rfl⟩ := pure_some h
    simp only [VR] at hx
    subst hx
    refine Gives.same hr (V := goInt 0) (by simp only [VR]; rfl) ?_
    simp [Builtin.len_, run_underlying hu]
  · rename_i id
    simp only [VR] at hx
    obtain ⟨_, rfl⟩ := hx
    obtain ⟨l, u, h1, h⟩ := bind_some h
    obtain ⟨g1, g2, hd, b, es, clock, hb, hbm, hbc, hw, hmr⟩ := rdM_ok hr.hr h1
    obtain ⟨nl, hnl, h⟩ := ofO_some h
    obtain ⟨hn1, hn2⟩ := mapL_ok hmr hnl
    obtain ⟨rfl, rfl⟩ := pure_some h
    have hlen : nl.2.length / 3 = es.size := by
      have := hn2.length
      rw [mflat_length] at this
      simp at this
      omega
    refine ⟨β, D, w, goInt es.size, by rw [g2]; exact Ext.refl _ _ _, ⟨by rw [g1]; exact hr.hr, hr.bel⟩, ?_, ?_⟩
    · rw [hlen]; exact stamp_v _
    · simp [Builtin.len_, run_underlying hu, MapKept.run_getObj_map hw]
theorem stampM_ok {b : AV} {S0 : Value} (hb : VR β D b S0) : ∀ (es : List MapEntry) (l : List AV) (i : Nat) (r : Nat × AV), VRs β D l (mflat es) → stampM b l i = some r →
    ∃ j en, r.1 = i + j ∧ es[j]? = some en ∧ VR β D r.2 en.key ∧ S0 = .int .i64 en.born ∧ ∀ q ∈ es.take j, ∃ x : Int, S0 = .int .i64 x ∧ x ≠ q.born
  | [], l, i, r, hl, h => by
    simp only [mflat, List.flatMap_nil] at hl
    obtain rfl : l = [] := by
      cases l with
      | nil => rfl
      | cons x xs => simp [VRs] at hl
    simp [stampM] at h
  | en :: es, l, i, r, hl, h => by
    rw [mflat_cons] at hl
    obtain ⟨a, l, rfl, ha, hl⟩ := hl.uncons
    obtain ⟨v, l, rfl, hv, hl⟩ := hl.uncons
    obtain ⟨c, l, rfl, hc, hl⟩ := hl.uncons
    unfold stampM at h
    simp only at h
    split at h
    · rename_i he
      cases h
      obtain ⟨kd, x, y, e1, e2, e3⟩ := ceq_int he hb hc
      cases e2
      have : x = (en.born : Int) := by simpa using e3.symm
      subst this
      exact ⟨0, en, rfl, by simp, ha, e1, by simp⟩
    · rename_i he
      obtain ⟨kd, x, y, e1, e2, e3⟩ := ceq_int he hb hc
      cases e2
      have hne : x ≠ (en.born : Int) := fun e => by subst e; simp at e3
      obtain ⟨j, en', h1, h2, h3, h4, h5⟩ := stampM_ok hb es l (i + 1) r hl h
      refine ⟨j + 1, en', by omega, by simpa using h2, h3, h4, fun q hq => ?_⟩
      rw [List.take_succ_cons] at hq
      rcases List.mem_cons.1 hq with rfl | hq
      · exact ⟨x, e1, hne⟩
      · exact h5 q hq
    · cases h
theorem es_ok (hr : Rel β D B W s.h w) {t : TypeId} {x b y v : AV} {X S0 U : Value}
    (h : mesF x b y s = some (v, s')) (hx : VR β D x X) (hb : VR β D b S0) (hy : VR β D y U) : ∃ w', Rel β D B W s'.h w' ∧ v = und ∧ s'.n = s.n ∧ (Instr.entryStore t X S0 U).run P w = .ok () w' := by
  cases x <;> first | (simp only [mesF, M.no] at h; cases h; done) | skip
  rename_i id
  simp only [VR] at hx
  obtain ⟨_, rfl⟩ := hx
  obtain ⟨l, u, h1, h⟩ := bind_some h
  obtain ⟨g1, g2, hd, bk, es, clock, hbk, hbm, hbc, hw, hmr⟩ := rdM_ok hr.hr h1
  obtain ⟨nl, hnl, h⟩ := ofO_some h
  obtain ⟨hn1, hn2⟩ := mapL_ok hmr hnl
  obtain ⟨r, hst, h⟩ := ofO_some h
  obtain ⟨un, u2, h2, h⟩ := bind_some h
  obtain ⟨rfl, rfl⟩ := pure_some h
  have hr' : Rel β D B W u.h w := ⟨by rw [g1]; exact hr.hr, hr.bel⟩
  obtain ⟨j, en, k1, k2, k3, k4, k5⟩ := stampM_ok hb es.toList nl.2 0 r hn2 hst
  obtain rfl : r.1 = j := by omega
  have he : es[r.1]? = some en := by simpa using k2
  have hlt : r.1 < es.size := (Array.getElem?_eq_some_iff.1 he).1
  obtain ⟨g3, g4⟩ := wrM_ok hr' h2 (es := es.modify r.1 fun e => { e with val := U }) (clock := clock) (by
    rw [hn1]
    exact clk_ok (setAt_ok hn2 he k3 hy (by rw [← k4]; exact hb)))
  refine ⟨_, g4, rfl, g3.trans g2, ?_⟩
  have hfind : es.findIdx? (fun e => (e.born : Int) == (en.born : Int)) = some r.1 := by
    rw [Array.findIdx?_eq_some_iff_getElem]
    refine ⟨hlt, ?_, fun m hm => ?_⟩
    · have : es[r.1] = en := (Array.getElem?_eq_some_iff.1 he).2
      simp [this]
    · obtain ⟨x, e1, e2⟩ := k5 (es[m]'(by omega)) (by
        rw [List.mem_take_iff_getElem]
        exact ⟨m, by simp; omega, by simp⟩)
      rw [k4] at e1
      cases e1
      simp only [beq_iff_eq]
      intro e
      exact e2 e.symm
  subst k4
  simp only [Instr.entryStore, Sem.run_bind, MapKept.run_getObj_map hw, Result.andThen_ok, asInt, asIntOf, Sem.run_pure, hfind, MapKept.run_setObj_map _ hw]
/-- A new map. -/
theorem mkm_ok (hr : Rel β D B W s.h w) (hf : Fresh D s.n.num s'.n.num) {t : TypeId} {v : AV} (h : mkmF s = some (v, s')) : Gives P β D B W s s' v (Instr.makeMap t none) w := by
  obtain ⟨id, u, h1, h2⟩ := bind_some h
  obtain ⟨rfl, rfl⟩ := pure_some h2
  obtain ⟨rfl, hn, hh⟩ := new_ok hr.hr h1
  have hd : ¬ D s.n := hf s.n (Nat.le_refl _) (by omega)
  have hx := named_ext β (D := D) (id := s.n) ⟨w.heap.size, 0, 0⟩ hd
  have hold : ∀ j, D j → named β s.n ⟨w.heap.size, 0, 0⟩ j = β j := fun j hj => (hx.keep j hj).2
  have hlt : ∀ j k, s.h j = some k → (β j).blk < w.heap.size := fun j k hk => by
    obtain ⟨o, hb⟩ := (hr.hr.live j k hk).2.there
    rcases Nat.lt_or_ge (β j).blk w.heap.size with h' | h'
    · exact h'
    · rw [Array.getElem?_eq_none h'] at hb; cases hb
  refine ⟨named β s.n ⟨w.heap.size, 0, 0⟩, fun j => D j ∨ j = s.n, w.alloc (.map #[] 0), .map (some w.heap.size), by rw [hn]; exact hx, ⟨?_, hr.bel.alloc hr.hr.size _⟩, ?_, by simp [Instr.makeMap]⟩
  · rw [hh]
    refine ⟨fun j k hk => ?_, fun i j hi hj e => ?_, fun j hj => ?_, Nat.le_trans hr.hr.size (by simp)⟩
    · by_cases hj : j.num = s.n.num
      · obtain rfl := Id.num_inj hj
        simp only [Heap.put, if_true] at hk
        cases hk
        refine ⟨.inr rfl, ?_⟩
        unfold LiveB
        dsimp only [zm]
        refine ⟨rfl, #[], 0, ?_, ?_⟩
        · rw [named_same]; exact (MapKept.heap_alloc w _).1
        · exact clk_ok (es := []) (l := []) (by simp [mflat, VRs])
      · simp only [Heap.put, if_neg hj] at hk
        obtain ⟨h1, h2⟩ := hr.hr.live j k hk
        refine ⟨.inl h1, ?_⟩
        rw [hold j h1]
        exact h2.keep hx (Below.heap_alloc _ _ _ (hlt j k hk))
    · have alive : ∀ i, Heap.put s.h s.n (some ⟨zm (clk 0 []), []⟩) i ≠ none → i = s.n ∨ (D i ∧ ∃ k, s.h i = some k) := fun i hi => by
        by_cases hj : i.num = s.n.num
        · exact .inl (Id.num_inj hj)
        · simp only [Heap.put, if_neg hj] at hi
          cases hk : s.h i with
          | none => exact absurd hk hi
          | some k => exact .inr ⟨(hr.hr.live i k hk).1, k, rfl⟩
      rcases alive i hi with rfl | ⟨di, k, hk⟩
      · rcases alive j hj with rfl | ⟨dj, k', hk'⟩
        · rfl
        · rw [named_same, hold j dj] at e
          have := hlt j k' hk'
          simp only at e
          omega
      · rcases alive j hj with rfl | ⟨dj, k', hk'⟩
        · rw [named_same, hold i di] at e
          have := hlt i k hk
          simp only at e
          omega
        · rw [hold i di, hold j dj] at e
          exact hr.hr.inj i j (by rw [hk]; simp) (by rw [hk']; simp) e
    · rcases hj with hj | rfl
      · rw [hold j hj]; exact hr.hr.old j hj
      · rw [named_same]; exact hr.hr.size
  · simp only [VR]
    rw [named_same]
    first | exact ⟨.inr rfl, rfl⟩ | exact ⟨.inr trivial, rfl⟩ | exact ⟨.inr trivial, trivial⟩ | exact ⟨.inr rfl, trivial⟩
end
end Ev
end Go.Proofs.YthknbcbkibbncaaGreat

/- DERIVED. One operation of whatever kind: what the evaluator gives is what the model does. -/
namespace Go.Proofs.YthknbcbkibbncaaGreat
namespace Ev
open Go.RowKit

section
variable {P : Program} {Y : Ty} {β : Id → CA} {D : Id → Prop} {B N : Nat} {W w : World} {s s' u : S} {e : Env} {a : Act} {F : Fns}

theorem bi_some {α γ : Type} {x : Option α} {f : α → Option γ} {y : γ} (h : x.bind f = some y) : ∃ z, x = some z ∧ f z = some y := by
  cases x with
  | none => cases h
  | some z => exact ⟨z, rfl, h⟩

theorem mapD_ok {t : TypeId} {ke : TypeId × TypeId} (h : (under Y t).bind mapD = some ke) : under Y t = some (.map ke.1 ke.2) := by
  obtain ⟨d, hd, h⟩ := bi_some h
  cases d <;> simp only [mapD] at h <;> first | (cases h; done) | skip
  cases h
  exact hd
/-- A builtin's call. -/
theorem exec_builtin {o : Oper} {c : Call} {b : Builtin} (ho : o.op = .call c) (hc : c.callee = .builtin b) : ∃ cs, execOp a.eval o = builtin b c.argTypes o.type cs (c.args.map a.eval) := by
  refine ⟨c.args.map fun | .const _ => true | _ => false, ?_⟩
  unfold execOp
  rw [ho]
  simp only [resolve, hc]
  rfl
theorem wp_builtin {o : Oper} {v : AV} {m : Sem Value} {b : Builtin} {c : Call} (ho : o.op = .call c) (hc : c.callee = .builtin b) (hb : ∀ cs, builtin b c.argTypes o.type cs (c.args.map a.eval) = (do pure (.value (← m)))) (hg : Gives P β D B W s s' v m w) {K : Act → World → Prop} {Q : Exit → Act → World → Prop}
    (hK : Goes β D B W s s' v fun V w' => K (a.put o.dst V) w') : o.wp P a w K Q := by
  obtain ⟨cs, hex⟩ := exec_builtin (a := a) ho hc
  exact wp_gives (by rw [hex]; exact hb cs) hg hK

theorem builtin_ok (hY : TyOk P Y) (hr : Rel β D B W s.h w) (he : ER β D N e a) {o : Oper} {c : Call} {b : Builtin} (ho : o.op = .call c) (hcal : c.callee = .builtin b) {po : PO} (hc : cBuiltin Y b c.argTypes.toList c.args.toList = some po) {v : AV}
    (h : poR po F e s = some (v, s')) (hfr : Fresh D s.n.num s'.n.num) {K : Act → World → Prop} {Q : Exit → Act → World → Prop} (hK : Goes β D B W s s' v fun V w' => K (a.put o.dst V) w') : o.wp P a w K Q := by
  obtain ⟨ts⟩ : ∃ ts, ts = c.argTypes.toList := ⟨_, rfl⟩
  have hts : c.argTypes = c.argTypes.toList.toArray := by simp
  have hxs : c.args = c.args.toList.toArray := by simp
  generalize c.argTypes.toList = ts at hc hts
  generalize c.args.toList = xs at hc hxs
  have hmap : c.args.map a.eval = (xs.map a.eval).toArray := by rw [hxs]; simp
  cases b <;> simp only [cBuiltin] at hc <;> try (cases hc; done)
  · -- append
    match ts, xs, hc with
    | [sT, xT], [sx, x], hc =>
      simp only [cApp] at hc
      obtain ⟨el, hel, hc⟩ := bi_some hc
      obtain ⟨i, hi, hc⟩ := bi_some hc
      obtain ⟨_, hk, hc⟩ := bi_some hc
      obtain ⟨d, hd, hc⟩ := bi_some hc
      obtain ⟨z, hz, hc⟩ := bi_some hc
      obtain ⟨cs, hcs, hc⟩ := bi_some hc
      obtain ⟨s1, hs1, hc⟩ := bi_some hc
      obtain ⟨x1, hx1, hc⟩ := bi_some hc
      have hk' := guardB_some hk
      refine wp_builtin ho hcal (m := Builtin.append_ #[sT, xT] o.type #[a.eval sx, a.eval x]) (fun cs => ?_) ?_ hK
      · rw [hmap, hts]; rfl
      · cases d <;> simp only at hc <;> try (cases hc; done)
        · cases hc; exact apz_ok hY hr hel hi hk' hd hcs h (arg_ok he hs1) (arg_ok he hx1) hfr
        · cases hc; exact app_ok hY hr hel hi hk' hd (.inl rfl) hcs h (arg_ok he hs1) (arg_ok he hx1) hfr
        · cases hc; exact app_ok hY hr hel hi hk' hd (.inr ⟨_, rfl⟩) hcs h (arg_ok he hs1) (arg_ok he hx1) hfr
  · -- cap
    match ts, xs, hc with
    | [t], [x], hc =>
      simp only [cCap] at hc
      obtain ⟨d, hd, hc⟩ := bi_some hc
      obtain ⟨x1, hx1, hc⟩ := bi_some hc
      refine wp_builtin ho hcal (m := Builtin.cap_ #[t] o.type #[a.eval x]) (fun cs => ?_) ?_ hK
      · rw [hmap, hts]; rfl
      · cases d <;> simp only at hc <;> try (cases hc; done)
        · cases hc; exact cap_ok hr (under_ok hY hd) h (arg_ok he hx1)
        · cases hc
          obtain ⟨rfl, rfl⟩ := pure_some h
          exact capA_ok hr (under_ok hY hd)
  · -- clear
    match ts, xs, hc with
    | [t], [x], hc =>
      obtain ⟨el, hel, hc⟩ := bi_some hc
      obtain ⟨cs, hcs, hc⟩ := bi_some hc
      obtain ⟨x1, hx1, hc⟩ := bi_some hc
      cases hc
      refine wp_builtin ho hcal (m := Builtin.clear_ #[t] o.type #[a.eval x]) (fun cs => ?_) ?_ hK
      · rw [hmap, hts]; rfl
      · exact clr_ok hY hr hel hcs h (arg_ok he hx1)
  · -- copy
    match ts, xs, hc with
    | [dT, sT], [d, x], hc =>
      obtain ⟨el, hel, hc⟩ := bi_some hc
      obtain ⟨z, hz, hc⟩ := bi_some hc
      obtain ⟨d1, hd1, hc⟩ := bi_some hc
      obtain ⟨x1, hx1, hc⟩ := bi_some hc
      cases hc
      refine wp_builtin ho hcal (m := Builtin.copy_ #[dT, sT] o.type #[a.eval d, a.eval x]) (fun cs => ?_) ?_ hK
      · rw [hmap, hts]; rfl
      · exact cpy_ok hY hr hel hz h (arg_ok he hd1) (arg_ok he hx1)
  · -- delete
    match ts, xs, hc with
    | t :: ts, [x, k], hc =>
      simp only [cDel] at hc
      obtain ⟨ke, hke, hc⟩ := bi_some hc
      obtain ⟨q, hq, hc⟩ := bi_some hc
      obtain ⟨x1, hx1, hc⟩ := bi_some hc
      obtain ⟨k1, hk1, hc⟩ := bi_some hc
      cases hc
      refine wp_builtin ho hcal (m := Builtin.delete_ (t :: ts).toArray o.type #[a.eval x, a.eval k]) (fun cs => ?_) ?_ hK
      · rw [hmap, hts]; rfl
      · exact del_ok hY hr (mapD_ok hke) hq h (arg_ok he hx1) (arg_ok he hk1)
  · -- len
    match ts, xs, hc with
    | [t], [x], hc =>
      simp only [cLen] at hc
      obtain ⟨d, hd, hc⟩ := bi_some hc
      obtain ⟨x1, hx1, hc⟩ := bi_some hc
      refine wp_builtin ho hcal (m := Builtin.len_ #[t] o.type #[a.eval x]) (fun cs => ?_) ?_ hK
      · rw [hmap, hts]; rfl
      · cases d <;> simp only at hc <;> try (cases hc; done)
        · cases hc; exact lns_ok hr (under_ok hY hd) h (arg_ok he hx1)
        · cases hc; exact len_ok hr (under_ok hY hd) h (arg_ok he hx1)
        · cases hc
          obtain ⟨rfl, rfl⟩ := pure_some h
          exact lenA_ok hr (under_ok hY hd)
        · cases hc; exact lnm_ok hY hr hd h (arg_ok he hx1)
  · -- max
    match xs, hc with
    | x :: l, hc =>
      obtain ⟨x1, hx1, hc⟩ := bi_some hc
      obtain ⟨l1, hl1, hc⟩ := bi_some hc
      cases hc
      obtain ⟨hm, rfl⟩ := ofO_pure h
      obtain ⟨V, hV, hrun⟩ := mm_ok (P := P) (w := w) true _ _ _ _ _ hm (args_ok he hl1) (arg_ok he hx1)
      refine wp_builtin ho hcal (m := Builtin.max_ c.argTypes o.type (c.args.map a.eval)) (fun cs => rfl) (Gives.same hr hV ?_) hK
      rw [hmap]
      simpa [Builtin.max_] using hrun
  · -- min
    match xs, hc with
    | x :: l, hc =>
      obtain ⟨x1, hx1, hc⟩ := bi_some hc
      obtain ⟨l1, hl1, hc⟩ := bi_some hc
      cases hc
      obtain ⟨hm, rfl⟩ := ofO_pure h
      obtain ⟨V, hV, hrun⟩ := mm_ok (P := P) (w := w) false _ _ _ _ _ hm (args_ok he hl1) (arg_ok he hx1)
      refine wp_builtin ho hcal (m := Builtin.min_ c.argTypes o.type (c.args.map a.eval)) (fun cs => rfl) (Gives.same hr hV ?_) hK
      rw [hmap]
      simpa [Builtin.min_] using hrun
end
end Ev
end Go.Proofs.YthknbcbkibbncaaGreat
