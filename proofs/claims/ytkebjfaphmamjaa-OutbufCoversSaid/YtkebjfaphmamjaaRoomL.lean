/- DERIVED. Plain: what OutbufRoom asks: the buffer while nothing is lost. -/
import Derived.Test.YtkebjfaphmamjaaOutKnown
namespace Go.Proofs.Ytkebjfaphmamjaa
open Go.RowKit

def pre (n : Nat) : List Rg := if n = 0 then [] else [(0, n)]
theorem pre_norm {n : Nat} (h : n ≤ 1000000) : Norm (pre n) := by
  unfold pre
  split
  · exact ⟨by simp, by simp⟩
  · exact ⟨by simp; omega, by simp⟩
theorem pre_len (n : Nat) : (pre n).length ≤ 100000 := by
  unfold pre
  split <;> simp
theorem pre_at {n t : Nat} (h : n ≤ t) : atOf (pre n) t = n := by
  unfold atOf pre gapL gapF
  by_cases h0 : n = 0
  · subst h0
    by_cases ht : t = 0
    · subst ht
      rfl
    · simp [gapF, ht]
  · have h1 : ¬ n ≤ 0 := by omega
    by_cases ht : t ≤ n
    · have : t = n := by omega
      subst this
      simp [gapF, h0, h1]
    · simp [gapF, h0, h1, ht]
theorem pre_add {n k : Nat} (hk : 0 < k) : addL many (pre n) n (n + k) = pre (n + k) := by
  unfold addL pre addRaw iOf kOf fuse trimL many
  by_cases h0 : n = 0
  · subst h0
    simp
    omega
  · simp [h0]
/-- The state while nothing is lost, and the end is not there. -/
structure RS (s : OS) (t b e : Nat) : Prop where
  len : s.B.length = t
  base : s.base = b
  sent : s.sent = e
  ys : s.ys = []
  xs : s.xs = pre b
  fi : s.fi = false
theorem RS.zero : RS OS.zero 0 0 0 := ⟨rfl, rfl, rfl, rfl, rfl, rfl⟩
theorem RS.ende {s : OS} {t b e : Nat} (h : RS s t b e) : s.ende = false := by unfold OS.ende; rw [h.fi]; rfl
theorem RS.room {s : OS} {t b e : Nat} (h : RS s t b e) : s.room = 2048 - (t - b) := by unfold OS.room; rw [h.fi, h.len, h.base]; rfl
theorem RS.write {s : OS} {t b e n r : Nat} (h : RS s t b e) {d : List Nat} (hd : d.length = n) (hr : 2048 - (t - b) = r) : RS (s.write d) (t + min n r) b e := by
  refine ⟨?_, h.base, h.sent, h.ys, h.xs, h.fi⟩
  show (s.B ++ d.take (min d.length s.room)).length = _
  rw [List.length_append, List.length_take, h.len, h.room, hd, hr]
  omega
theorem RS.sends {s : OS} {t b e f : Nat} (h : RS s t b e) : RS (s.sends f) t b f := ⟨h.len, h.base, rfl, rfl, h.xs, h.fi⟩
theorem RS.kn {s : OS} {t b k : Nat} (h : RS s t b t) (hk : b + k ≤ t) : s.kn b (k : Int) = (b, b + k) := by
  unfold OS.kn
  rw [h.sent]
  simp only [Prod.mk.injEq, Int.toNat_natCast]
  omega
theorem RS.ackX {s : OS} {t b k : Nat} (h : RS s t b t) (hk : b + k ≤ t) : s.ackX (s.kn b (k : Int)) = pre (b + k) := by
  rw [h.kn hk]
  unfold OS.ackX
  rw [h.xs]
  by_cases h0 : 0 < k
  · rw [if_pos (by simp; omega)]
    exact pre_add h0
  · rw [if_neg (by simp; omega), show b + k = b by omega]
theorem RS.acks {s : OS} {t b k : Nat} (h : RS s t b t) : RS (s.acks (pre (b + k)) (b + k)) t (b + k) t := ⟨h.len, rfl, h.sent, h.ys, rfl, h.fi⟩
end Go.Proofs.Ytkebjfaphmamjaa
