/- DERIVED. The evaluator's operations against the model's: lengths, slices, places, turnings. -/
import Derived.Test.YtijnjnncgkhabaaEvQ3
namespace Go.Proofs.Ytijnjnncgkhabaa
namespace Ev
open Go.RowKit

section
variable {P : Program} {Y : Ty} {β : Id → CA} {D : Id → Prop} {B N : Nat} {W w : World} {s s' : S} {e : Env} {a : Act}

theorem len_ok (hr : Rel β D B W s.h w) {t ty : TypeId} {el : TypeId} (ht : P.underlying t = some (.slice el)) {x v : AV} {X : Value} (h : M.ofO (lenF x) M.pure s = some (v, s')) (hx : VR β D x X) :
    Gives P β D B W s s' v (Builtin.len_ #[t] ty #[X]) w := by
  have h0 := ofO_pure h
  clear h
  obtain ⟨h, rfl⟩ := h0
  cases x <;> simp only [lenF] at h <;> try (cases h; done)
  all_goals
    cases h
    simp only [VR] at hx
  · subst hx
    exact Gives.same hr (by simp only [VR]; rfl) (by simp [Builtin.len_, run_underlying ht, goInt])
  · obtain ⟨_, rfl⟩ := hx
    exact Gives.same hr (by simp only [VR]; rfl) (by simp [Builtin.len_, run_underlying ht, goInt])
  · obtain ⟨_, _, q, cap, rfl, _⟩ := hx
    exact Gives.same hr (by simp only [VR]; rfl) (by simp [Builtin.len_, run_underlying ht, goInt])
theorem lns_ok (hr : Rel β D B W s.h w) {t ty : TypeId} (ht : P.underlying t = some .string) {x v : AV} {X : Value} (h : M.ofO (lnsF x) M.pure s = some (v, s')) (hx : VR β D x X) :
    Gives P β D B W s s' v (Builtin.len_ #[t] ty #[X]) w := by
  have h0 := ofO_pure h
  clear h
  obtain ⟨h, rfl⟩ := h0
  cases x <;> simp only [lnsF] at h <;> try (cases h; done)
  rename_i x
  cases h
  simp only [VR] at hx
  obtain ⟨rfl, _⟩ := hx
  have hsz : (⟨(x.map UInt8.ofNat).toArray⟩ : ByteArray).size = x.length := by show (List.map UInt8.ofNat x).toArray.size = _; simp
  exact Gives.same hr (by simp only [VR]; rfl) (by simp [Builtin.len_, run_underlying ht, goInt, hsz])
theorem lenA_ok (hr : Rel β D B W s.h w) {t ty el : TypeId} {n : Nat} (ht : P.underlying t = some (.array n el)) {X : Value} : Gives P β D B W s s (.i .i64 (.ofNat n)) (Builtin.len_ #[t] ty #[X]) w :=
  Gives.same hr (by simp only [VR]; rfl) (by simp [Builtin.len_, run_underlying ht, goInt])
theorem cap_ok (hr : Rel β D B W s.h w) {t ty : TypeId} {el : TypeId} (ht : P.underlying t = some (.slice el)) {x v : AV} {X : Value} (h : M.ofO (capF x) M.pure s = some (v, s')) (hx : VR β D x X) :
    Gives P β D B W s s' v (Builtin.cap_ #[t] ty #[X]) w := by
  have h0 := ofO_pure h
  clear h
  obtain ⟨h, rfl⟩ := h0
  cases x <;> simp only [capF] at h <;> try (cases h; done)
  all_goals
    cases h
    simp only [VR] at hx
  · subst hx
    exact Gives.same hr (by simp only [VR]; rfl) (by simp [Builtin.cap_, run_underlying ht, goInt])
  · obtain ⟨_, rfl⟩ := hx
    exact Gives.same hr (by simp only [VR]; rfl) (by simp [Builtin.cap_, run_underlying ht, goInt])
theorem capA_ok (hr : Rel β D B W s.h w) {t ty el : TypeId} {n : Nat} (ht : P.underlying t = some (.array n el)) {X : Value} : Gives P β D B W s s (.i .i64 (.ofNat n)) (Builtin.cap_ #[t] ty #[X]) w :=
  Gives.same hr (by simp only [VR]; rfl) (by simp [Builtin.cap_, run_underlying ht, goInt])

/-- an operand that may be missing -/
def VO (β : Id → CA) (D : Id → Prop) (x : Option AV) (X : Option Value) : Prop := match x with
  | none => X = none
  | some x => ∃ V, X = some V ∧ VR β D x V
theorem bnd_ok {x : Option AV} {X : Option Value} {d top n : Nat} (h : bnd x d top = some n) (hx : VO β D x X) : (x = none ∧ X = none ∧ n = d) ∨ (n ≤ top ∧ x ≠ none ∧ ∃ k, X = some (.int k n)) := by
  cases x with
  | none => simp only [bnd] at h; cases h; exact .inl ⟨rfl, hx, rfl⟩
  | some v =>
    obtain ⟨V, rfl, hv⟩ := hx
    simp only [bnd] at h
    split at h
    · cases h
    · rename_i m hm
      split at h
      · rename_i hb
        cases h
        obtain ⟨k, rfl⟩ := natOf_ok hm hv
        exact .inr ⟨Nat.le_of_ble_eq_true hb, by simp, k, rfl⟩
      · cases h
/-- the greatest that may be -/
def topM (mx : Option AV) (cap m : Nat) : Nat := match mx with
  | none => cap
  | some _ => m
theorem bnds_ok {len k cap : Nat} {lo hi mx : Option AV} {LO HI MX : Option Value} {l h m : Nat} (hb : bnds len k lo hi mx = some (l, h, m)) (hk : k ≤ cap) (h1 : VO β D lo LO) (h2 : VO β D hi HI) (h3 : VO β D mx MX) (hm : (mx.isNone || hi.isSome) = true) (isS : Bool) :
    (Instr.sliceBounds isS len cap LO HI MX).run P w = .ok (l, h, topM mx cap m) w ∧ l ≤ h ∧ h ≤ m ∧ m ≤ k ∧ (mx = none → m = k) := by
  unfold bnds at hb
  split at hb
  · cases hb
  · rename_i m' hm'
    split at hb
    · cases hb
    · rename_i h' hh'
      split at hb
      · cases hb
      · rename_i l' hl'
        split at hb
        · rename_i hle
          cases hb
          simp only [Bool.and_eq_true] at hle
          have le1 : l ≤ h := Nat.le_of_ble_eq_true hle.1
          have le2 : h ≤ m := Nat.le_of_ble_eq_true hle.2
          have sb : ∀ (k : IntKind) (i y : Nat) (code : BoundsCode), i ≤ y → (Instr.sliceBound (.int k (i : Int)) y code).run P w = .ok i w := fun k i y code hi => by
            have := run_sliceBound (P := P) w k (i : Int) y code (by omega) (by omega)
            simpa using this
          rcases bnd_ok hm' h3 with ⟨rfl, rfl, rfl⟩ | ⟨m1, m2, km, rfl⟩
          · refine ⟨?_, le1, le2, Nat.le_refl _, fun _ => rfl⟩
            rcases bnd_ok hh' h2 with ⟨rfl, rfl, rfl⟩ | ⟨n1, n2, kh, rfl⟩
            · rcases bnd_ok hl' h1 with ⟨rfl, rfl, rfl⟩ | ⟨p1, p2, kl, rfl⟩
              · simp [Instr.sliceBounds, topM]
              · simp [Instr.sliceBounds, topM, sb, p1]
            · have hc : h ≤ cap := by omega
              rcases bnd_ok hl' h1 with ⟨rfl, rfl, rfl⟩ | ⟨p1, p2, kl, rfl⟩
              · simp [Instr.sliceBounds, topM, sb, hc]
              · simp [Instr.sliceBounds, topM, sb, hc, p1]
          · cases mx with
            | none => exact absurd rfl m2
            | some mx =>
            refine ⟨?_, le1, le2, m1, fun e => by cases e⟩
            have hmc : m ≤ cap := by omega
            rcases bnd_ok hh' h2 with ⟨rfl, rfl, rfl⟩ | ⟨n1, n2, kh, rfl⟩
            · simp at hm
            · rcases bnd_ok hl' h1 with ⟨rfl, rfl, rfl⟩ | ⟨p1, p2, kl, rfl⟩
              · simp [Instr.sliceBounds, topM, sb, n1, hmc]
              · simp [Instr.sliceBounds, topM, sb, n1, hmc, p1]
        · cases hb
theorem add_at (b o n : Nat) : (⟨b, o, none⟩ : Addr).add n = ⟨b, o + n, none⟩ := by
  unfold Addr.add
  split <;> simp_all
theorem offAt_eq (off l m w : Nat) : offAt off l m w = if m = l then off else off + l * w := by
  unfold offAt
  cases hb : Nat.beq m l
  · have : m ≠ l := fun e => by subst e; simp at hb
    simp [this]
  · simp [Nat.eq_of_beq_eq_true hb]
theorem sls_ok (hY : TyOk P Y) (hr : Rel β D B W s.h w) {t el : TypeId} {z : Nat} (ht : P.underlying t = some (.slice el)) (hz : sizeT Y el = some z) {x v : AV} {X : Value} {lo hi mx : Option AV} {LO HI MX : Option Value}
    (h : M.ofO (slsF z x lo hi mx) M.pure s = some (v, s')) (hx : VR β D x X) (h1 : VO β D lo LO) (h2 : VO β D hi HI) (h3 : VO β D mx MX) (hm : (mx.isNone || hi.isSome) = true) : Gives P β D B W s s' v (Instr.sliceAt t X LO HI MX) w := by
  have h0 := ofO_pure h
  clear h
  obtain ⟨h, rfl⟩ := h0
  have hsz := size_ok hY hz
  cases x <;> simp only [slsF] at h <;> try (cases h; done)
  · -- nil
    split at h
    · cases h
    · rename_i b hb
      obtain ⟨l, hh, m⟩ := b
      cases h
      simp only [VR] at hx
      subst hx
      obtain ⟨g1, g2, g3, g4, g5⟩ := bnds_ok (P := P) (w := w) hb (Nat.le_refl 0) h1 h2 h3 hm true
      obtain rfl : m = 0 := by omega
      obtain rfl : hh = 0 := by omega
      obtain rfl : l = 0 := by omega
      have e : topM mx 0 0 = 0 := by cases mx <;> rfl
      rw [e] at g1
      exact Gives.same hr (V := .slice none 0 0) (by simp only [VR]) (by simp [Instr.sliceAt, run_underlying ht, Instr.slice, g1, hsz])
  · -- closed
    rename_i id off len cap
    split at h
    · rename_i l hh m hb
      cases h
      simp only [VR] at hx
      obtain ⟨hd, rfl⟩ := hx
      obtain ⟨g1, g2, g3, g4, g5⟩ := bnds_ok (P := P) (w := w) hb (Nat.le_refl cap) h1 h2 h3 hm true
      have e : topM mx cap m = m := by
        cases mx
        · exact (g5 rfl).symm
        · rfl
      rw [e] at g1
      refine Gives.same hr (V := .slice (some ⟨(β id).blk, (β id).base + offAt off l m z, none⟩) (hh - l) (m - l)) (by simp only [VR]; first | exact ⟨hd, rfl⟩ | exact ⟨hd, trivial⟩) ?_
      simp [Instr.sliceAt, run_underlying ht, Instr.slice, g1, hsz, offAt_eq]
      by_cases hml : m = l
      · simp [hml]
      · simp [hml, add_at, Nat.add_assoc]
    · cases h
  · -- open
    rename_i id off len k w'
    simp only [VR] at hx
    obtain ⟨hd, hlk, q, cap, rfl, hkc, hq, hlim⟩ := hx
    split at h
    · rename_i l hh m hb
      obtain ⟨g1, g2, g3, g4, g5⟩ := bnds_ok (P := P) (w := w) hb hkc.1 h1 h2 h3 hm true
      split at h
      · rename_i hw
        obtain rfl := Nat.eq_of_beq_eq_true hw
        cases mx with
        | some mx =>
          simp only [topM] at h g1
          split at h
          · rename_i hk1
            cases h
            have hk1' : 1 ≤ k := Nat.le_of_ble_eq_true hk1
            obtain rfl : q = (β id).base + off := hq.resolve_left (by omega)
            refine Gives.same hr (V := .slice (some ⟨(β id).blk, (β id).base + offAt off l m z, none⟩) (hh - l) (m - l)) (by simp only [VR]; first | exact ⟨hd, rfl⟩ | exact ⟨hd, trivial⟩) ?_
            simp [Instr.sliceAt, run_underlying ht, Instr.slice, g1, hsz, offAt_eq]
            by_cases hml : m = l
            · simp [hml]
            · simp [hml, add_at, Nat.add_assoc]
          · cases h
        | none =>
          simp only [topM] at h g1
          cases h
          have hmk := g5 rfl
          refine Gives.same hr (V := .slice (some ⟨(β id).blk, if cap = l then q else q + l * z, none⟩) (hh - l) (cap - l)) ?_ ?_
          · simp only [VR]
            refine ⟨hd, by omega, _, _, rfl, by omega, ?_, ?_⟩
            · by_cases hcl : cap = l
              · exact .inl (by omega)
              · right
                rw [if_neg hcl, hq.resolve_left (by omega)]
                omega
            · have hlc : l ≤ cap := by omega
              have : l * z + (cap - l) * z = cap * z := by rw [← Nat.add_mul]; congr 1; omega
              omega
          · simp [Instr.sliceAt, run_underlying ht, Instr.slice, g1, hsz]
            by_cases hcl : cap = l
            · simp [hcl]
            · simp [hcl, add_at]
      · cases h
    · cases h
theorem sla_ok (hY : TyOk P Y) (hr : Rel β D B W s.h w) {t el : TypeId} {n z : Nat} (ht : P.underlying t = some (.array n el)) (hz : sizeT Y el = some z) {x v : AV} {X : Value} {lo hi mx : Option AV} {LO HI MX : Option Value}
    (h : M.ofO (slaF z n x lo hi mx) M.pure s = some (v, s')) (hx : VR β D x X) (h1 : VO β D lo LO) (h2 : VO β D hi HI) (h3 : VO β D mx MX) (hm : (mx.isNone || hi.isSome) = true) : Gives P β D B W s s' v (Instr.sliceAt t X LO HI MX) w := by
  have h0 := ofO_pure h
  clear h
  obtain ⟨h, rfl⟩ := h0
  have hsz := size_ok hY hz
  cases x <;> simp only [slaF] at h <;> try (cases h; done)
  rename_i id off
  split at h
  · rename_i l hh m hb
    cases h
    simp only [VR] at hx
    obtain ⟨hd, rfl⟩ := hx
    obtain ⟨g1, g2, g3, g4, g5⟩ := bnds_ok (P := P) (w := w) hb (Nat.le_refl n) h1 h2 h3 hm false
    have e : topM mx n m = m := by
      cases mx
      · exact (g5 rfl).symm
      · rfl
    rw [e] at g1
    refine Gives.same hr (V := .slice (some ⟨(β id).blk, (β id).base + offAt off l m z, none⟩) (hh - l) (m - l)) (by simp only [VR]; first | exact ⟨hd, rfl⟩ | exact ⟨hd, trivial⟩) ?_
    simp [Instr.sliceAt, run_underlying ht, Instr.sureAddr, g1, hsz, offAt_eq]
    by_cases hml : m = l
    · simp [hml]
    · simp [hml, add_at, Nat.add_assoc]
  · cases h
theorem slt_ok (hr : Rel β D B W s.h w) {t : TypeId} (ht : P.underlying t = some .string) {x v : AV} {X : Value} {lo hi : Option AV} {LO HI : Option Value}
    (h : M.ofO (sltF x lo hi) M.pure s = some (v, s')) (hx : VR β D x X) (h1 : VO β D lo LO) (h2 : VO β D hi HI) : Gives P β D B W s s' v (Instr.sliceAt t X LO HI none) w := by
  have h0 := ofO_pure h
  clear h
  obtain ⟨h, rfl⟩ := h0
  cases x <;> simp only [sltF] at h <;> try (cases h; done)
  rename_i b
  split at h
  · cases h
  · rename_i l hh m hb
    cases h
    simp only [VR] at hx
    obtain ⟨rfl, hlt⟩ := hx
    obtain ⟨g1, g2, g3, g4, g5⟩ := bnds_ok (P := P) (w := w) hb (Nat.le_refl b.length) h1 h2 (show VO β D none none from rfl) rfl false
    have hsz : (⟨(b.map UInt8.ofNat).toArray⟩ : ByteArray).size = b.length := by show (List.map UInt8.ofNat b).toArray.size = _; simp
    refine Gives.same hr (V := .string ((⟨(b.map UInt8.ofNat).toArray⟩ : ByteArray).extract l hh)) ?_ ?_
    · simp only [VR]
      refine ⟨?_, fun c hc => hlt c (List.mem_of_mem_drop (List.mem_of_mem_take hc))⟩
      congr 1
      apply ByteArray.ext
      simp [ByteArray.data_extract]
    · simp only [Instr.sliceAt, Sem.run_bind, run_underlying ht, Result.andThen_ok, Instr.slice, hsz]
      simp [g1]
theorem ixa_ok (hY : TyOk P Y) (hr : Rel β D B W s.h w) {t el : TypeId} {n z : Nat} (ht : P.underlying t = some (.array n el)) (hz : sizeT Y el = some z) {x i v : AV} {X I : Value}
    (h : ixaF n z x i s = some (v, s')) (hx : VR β D x X) (hi : VR β D i I) : Gives P β D B W s s' v (Instr.indexAt t X I) w := by
  have h0 := ofO_some h
  clear h
  obtain ⟨q, hq, h⟩ := h0
  obtain ⟨k, rfl⟩ := natOf_ok hq hi
  have hsz := size_ok hY hz
  cases x <;> first | (simp only [M.no] at h; cases h; done) | skip
  rename_i id off
  obtain ⟨hlt, h2⟩ := ifB_some h
  obtain ⟨rfl, rfl⟩ := pure_some h2
  simp only [VR] at hx
  obtain ⟨hd, rfl⟩ := hx
  have hlt' : q < n := Nat.le_of_ble_eq_true hlt
  refine Gives.same hr (V := .pointer (some ⟨(β id).blk, (β id).base + (off + q * z), none⟩)) (by simp only [VR]; first | exact ⟨hd, rfl⟩ | exact ⟨hd, trivial⟩) ?_
  have h3 : ¬ n ≤ q := by omega
  simp [Instr.indexAt, asIntOf, run_underlying ht, Instr.sureAddr, h3, hsz, add_at, Nat.add_assoc]
theorem ixs_ok (hY : TyOk P Y) (hr : Rel β D B W s.h w) {t el : TypeId} {z : Nat} (ht : P.underlying t = some (.slice el)) (hz : sizeT Y el = some z) {x i v : AV} {X I : Value}
    (h : ixsF z x i s = some (v, s')) (hx : VR β D x X) (hi : VR β D i I) : Gives P β D B W s s' v (Instr.indexAt t X I) w := by
  have h0 := ofO_some h
  clear h
  obtain ⟨q, hq, h⟩ := h0
  obtain ⟨k, rfl⟩ := natOf_ok hq hi
  have hsz := size_ok hY hz
  cases x <;> first | (simp only [M.no] at h; cases h; done) | skip
  · rename_i id off len cap
    obtain ⟨hlt, h2⟩ := ifB_some h
    obtain ⟨rfl, rfl⟩ := pure_some h2
    simp only [VR] at hx
    obtain ⟨hd, rfl⟩ := hx
    have hlt' : q < len := Nat.le_of_ble_eq_true hlt
    refine Gives.same hr (V := .pointer (some ⟨(β id).blk, (β id).base + (off + q * z), none⟩)) (by simp only [VR]; first | exact ⟨hd, rfl⟩ | exact ⟨hd, trivial⟩) ?_
    have h3 : ¬ len ≤ q := by omega
    simp [Instr.indexAt, asIntOf, run_underlying ht, h3, hsz, add_at, Nat.add_assoc]
  · rename_i id off len kk w'
    obtain ⟨hlt, h2⟩ := ifB_some h
    obtain ⟨rfl, rfl⟩ := pure_some h2
    simp only [VR] at hx
    obtain ⟨hd, hlk, x, cap, rfl, hkc, hxx, hlim⟩ := hx
    have hlt' : q < len := Nat.le_of_ble_eq_true hlt
    obtain rfl : x = (β id).base + off := hxx.resolve_left (by omega)
    refine Gives.same hr (V := .pointer (some ⟨(β id).blk, (β id).base + (off + q * z), none⟩)) (by simp only [VR]; first | exact ⟨hd, rfl⟩ | exact ⟨hd, trivial⟩) ?_
    have h3 : ¬ len ≤ q := by omega
    simp [Instr.indexAt, asIntOf, run_underlying ht, h3, hsz, add_at, Nat.add_assoc]
end
end Ev
end Go.Proofs.Ytijnjnncgkhabaa
