/- DERIVED. narthexlaw18's StreamsHeld: both sets between its rounds; plain. -/
import Derived.Deep.CutBlock
import Derived.Deep.DeepCutAuto
import Derived.Test.YtnneoeimgbemfaaGreatQH5
import Derived.Test.YtnneoeimgbemfaaGreatQH6
import Derived.Test.YtnneoeimgbemfaaGreatQH9
import Derived.Test.YtnneoeimgbemfaaGreatQH10
import Derived.Test.YtnneoeimgbemfaaGreatQH15
import Derived.Test.YtnneoeimgbemfaaGreatQH16
import Derived.Test.YtnneoeimgbemfaaGreatQH20
import Derived.Test.YtnneoeimgbemfaaGreatQH22
import Derived.Test.YtnneoeimgbemfaaGreatQH23
import Derived.Test.YtnneoeimgbemfaaGreatQH24
set_option linter.all false
namespace Go.Proofs.YtnneoeimgbemfaaGreat
open Go.RowKit

def hO (L : List Nat) (n sn : Nat) : OS := { OS.zero with B := L, base := n, sent := sn, xs := if n = 0 then [] else [(0, n)] }
def hS (L : List Nat) (n sn : Nat) : SS := ⟨0, if sn = 0 then 1 else 2, 9999, none, false, hO L n sn⟩
def hH (L : List Nat) (n sn : Nat) : H1 := ⟨0, hS L n sn, RS.new 0 rT0.mine.msd⟩
def hA (L : List Nat) (n sn : Nat) : ST := { rT0 with own := [hH L n sn], last := 0, told := decide (0 < sn) }
theorem hA_open : rT0.opn = hA [] 0 0 ∧ rT0.opnV = (0, 0) := by
  have h1 := rT_opn (c := 0) (by omega) []
  have h2 := rT_opnV (c := 0) (by omega) []
  rw [rT_zero] at h1 h2
  refine ⟨?_, h2⟩
  obtain ⟨_, _, _, _, _, _, h7, _, _, h10, h11, _⟩ := rT0_facts
  rw [h1]
  unfold ST.add hA
  rw [if_pos rfl, h7]
  have e : rT0 = { rT0 with last := 0, told := false } := by
    conv => lhs; rw [show rT0 = { rT0 with last := rT0.last, told := rT0.told } from rfl, h10, h11]
  conv => lhs; rw [e]
  rfl
theorem hA_rest (L : List Nat) (n sn : Nat) : (hA L n sn).rest = 0 := rT0_facts.2.2.2.2.1
theorem hA_find (L : List Nat) (n sn : Nat) : (hA L n sn).find 0 = some (true, 0, hH L n sn) := by
  unfold ST.find ST.sideO
  rw [hA_rest]
  rfl
theorem hA_put (L L' : List Nat) (n n' sn : Nat) (x : H1) (hx : x = hH L' n' sn) : (hA L n sn).put true 0 x = hA L' n' sn := by
  subst hx
  rfl
theorem hA_all (L : List Nat) (n sn : Nat) : (hA L n sn).all = [(true, 0, hH L n sn)] := by
  have e2 : (hA L n sn).others = [] := rT0_facts.2.2.2.2.2.1
  unfold ST.all
  rw [if_pos (hA_rest L n sn), e2]
  rfl
theorem hS_closed (L : List Nat) (n sn : Nat) : (hS L n sn).closed = false := by
  unfold SS.closed hS
  split <;> rfl
theorem hO_room (L : List Nat) (sn : Nat) : (hO L L.length sn).room = 2048 := by
  unfold OS.room hO
  rw [if_neg (by simp [OS.zero])]
  simp
theorem hA_wrR (L : List Nat) (k : Nat) (hk : k ≤ 2048) : (hA L L.length L.length).wrR 0 k = (k, 0) := by
  unfold ST.wrR
  rw [hA_find]
  show (hS L L.length L.length).wrN k = _
  unfold SS.wrN
  rw [hS_closed]
  have e : (hS L L.length L.length).os.room = 2048 := hO_room L _
  rw [e, if_neg (by simp), if_neg (by omega), Nat.min_eq_left hk]
theorem hA_wr (L d : List Nat) (hd : d.length ≤ 2048) : (hA L L.length L.length).wr 0 d = hA (L ++ d) L.length L.length := by
  unfold ST.wr
  rw [hA_find]
  apply hA_put
  show (⟨0, (hS L L.length L.length).wr d, RS.new 0 rT0.mine.msd⟩ : H1) = hH (L ++ d) L.length L.length
  have e : (hS L L.length L.length).wr d = hS (L ++ d) L.length L.length := by
    unfold SS.wr
    rw [hS_closed, if_neg (by simp)]
    have e2 : (hS L L.length L.length).os.write d = hO (L ++ d) L.length L.length := by
      unfold OS.write
      have e3 : (hS L L.length L.length).os.room = 2048 := hO_room L _
      rw [e3, Nat.min_eq_left hd, List.take_length]
      rfl
    rw [e2]
    rfl
  rw [e]
  rfl
theorem hA_cred (L : List Nat) (n sn : Nat) : (hA L n sn).cred 100 = (hA L n sn, zeroF, false) := by
  have ht : (hA L n sn).takenN = 0 := by
    unfold ST.takenN
    rw [hA_all]
    rfl
  have hr : (hA L n sn).refuse 100 = true := by
    unfold ST.refuse ST.credL
    have h1 : (hA L n sn).mine.md = 100000 := rT0_facts.1
    have h2 : (hA L n sn).limit = 100000 := rT0_facts.2.1
    have h3 : (hA L n sn).again = false := rT0_facts.2.2.2.1
    rw [h1, h2, h3, ht, decide_eq_true (show 100000 + 0 < 100000 + max 1 (100000 / 2) by omega)]
    rfl
  unfold ST.cred
  rw [if_pos hr]
theorem hA_rcv (L : List Nat) (n sn : Nat) : ((hH L n sn).r.nx 100).2.2 = false := by
  unfold RS.nx
  rw [if_neg (fun q => by have := q.1; cases this), if_pos]
  refine .inr (.inl ?_)
  show (decide (min rT0.mine.msd 2048 + max 1 (min rT0.mine.msd 2048 / 2) ≤ 0 + min rT0.mine.msd 2048) || false) = false
  rw [rT0_facts.2.2.2.2.2.2.2.2.2.2.2]
  decide
theorem hA_more (L : List Nat) (n sn : Nat) : (hA L n sn).more = 100000 - min 100000 sn := by
  unfold ST.more
  have ha : (hA L n sn).allowed = 100000 := rT0_facts.2.2.1
  have hs : (hA L n sn).sentN = sn := by
    unfold ST.sentN
    rw [hA_all]
    show sn + 0 = sn
    omega
  rw [ha, hs]
/-- What is told. -/
theorem hS_nx (L d : List Nat) (hL : L.length ≤ 2000) (hd : d.length ≤ 60) : (hS (L ++ d) L.length L.length).nx 100 (100000 - min 100000 L.length) = if d.length = 0 then (hS (L ++ d) L.length L.length, .none) else (hS (L ++ d) L.length (L.length + d.length), .piece L.length d.length false) := by
  have hst : ¬ 5 ≤ (hS (L ++ d) L.length L.length).st := by unfold hS; simp only; split <;> omega
  unfold SS.nx
  rw [if_neg hst, if_neg (by omega)]
  have hp : (hS (L ++ d) L.length L.length).os.part (min (hS (L ++ d) L.length L.length).lim ((hS (L ++ d) L.length L.length).os.sent + min (100000 - min 100000 L.length) 1099511627776)) = (L.length, L.length + d.length) := by
    show (L.length, max L.length (min (min 9999 (L.length + min (100000 - min 100000 L.length) 1099511627776)) (L ++ d).length)) = _
    rw [List.length_append]
    congr 1
    omega
  have hm : ((min (100 : Int) 512 - 20).toNat) = 80 := by decide
  rw [hm]
  unfold OS.nxt
  rw [hp]
  simp only
  have hB : (hS (L ++ d) L.length L.length).os.B.length = L.length + d.length := by
    show (L ++ d).length = _
    rw [List.length_append]
  have hen : (hS (L ++ d) L.length L.length).os.ende = false := rfl
  by_cases h0 : d.length = 0
  · rw [if_pos h0, h0, if_neg (by omega), if_neg (fun q => by rw [hen] at q; exact absurd q.2.2 (by simp))]
  · rw [if_neg h0, if_pos (by omega), Nat.min_eq_left (by omega), hB, decide_eq_true rfl, hen, Nat.add_sub_cancel_left]
    simp only [Bool.and_false, if_false, Bool.false_eq_true]
    have hw : (hS (L ++ d) L.length L.length).os.went L.length (L.length + d.length) = hO (L ++ d) L.length (L.length + d.length) := by
      unfold OS.went
      rw [hB, hen]
      have e1 : (hS (L ++ d) L.length L.length).os.ys = [] := rfl
      have e2 : (hS (L ++ d) L.length L.length).os.sent = L.length := rfl
      rw [e1, e2, Nat.max_eq_right (by omega)]
      unfold hS hO OS.zero cutRaw
      simp
    rw [hw]
    congr 1
    unfold hS
    rw [if_neg (show ¬ L.length + d.length = 0 by omega)]
    have : max (max (if L.length = 0 then 1 else 2) 2) 0 = 2 := by split <;> rfl
    simp only [this]
/-- One range from 0 on. -/
theorem norm_one {xs : List Rg} (h : Norm xs) {n : Nat} (hm : ∀ k, mem xs k = decide (k < n)) : xs = if n = 0 then [] else [(0, n)] := by
  have hin : ∀ r ∈ xs, ∀ k, r.1 ≤ k → k < r.2 → mem xs k = true := fun r hr k h1 h2 => by
    unfold mem
    rw [List.any_eq_true]
    exact ⟨r, hr, by simp [hasP]; omega⟩
  cases xs with
  | nil =>
    by_cases h0 : n = 0
    · rw [if_pos h0]
    · have := hm 0
      rw [decide_eq_true (show 0 < n by omega)] at this
      exact absurd this (by simp [mem])
  | cons r rest =>
    obtain ⟨⟨h1, _⟩, h2⟩ := h.head
    have ha := hm r.1
    rw [hin r (List.mem_cons_self ..) r.1 (Nat.le_refl _) h1] at ha
    have ha := of_decide_eq_true ha.symm
    rw [if_neg (by omega)]
    have hr0 : r.1 = 0 := by
      have h0 := hm 0
      rw [decide_eq_true (show 0 < n by omega)] at h0
      unfold mem at h0
      rw [List.any_eq_true] at h0
      obtain ⟨x, hx, hp⟩ := h0
      simp [hasP] at hp
      rcases List.mem_cons.1 hx with rfl | hx
      · omega
      · have := h2 x hx
        omega
    have hb := hm (r.2 - 1)
    rw [hin r (List.mem_cons_self ..) _ (by omega) (by omega)] at hb
    have hb := of_decide_eq_true hb.symm
    have hr2 : r.2 = n := by
      rcases Nat.lt_or_ge r.2 n with q | q
      · have hc := hm r.2
        rw [decide_eq_true q] at hc
        unfold mem at hc
        rw [List.any_eq_true] at hc
        obtain ⟨x, hx, hp⟩ := hc
        simp [hasP] at hp
        rcases List.mem_cons.1 hx with rfl | hx
        · omega
        · have := h2 x hx
          omega
      · omega
    have hnil : rest = [] := by
      cases rest with
      | nil => rfl
      | cons x rest =>
        have hx := h2 x (List.mem_cons_self ..)
        have hxx := h.1 x (List.mem_cons_of_mem _ (List.mem_cons_self ..))
        have hc := hm x.1
        rw [hin x (List.mem_cons_of_mem _ (List.mem_cons_self ..)) x.1 (Nat.le_refl _) hxx.1] at hc
        have := of_decide_eq_true hc.symm
        omega
    subst hnil
    rw [← hr0, ← hr2]
theorem one_norm (n : Nat) (hn : n ≤ 1000000) : Norm (if n = 0 then [] else [(0, n)]) := by
  split
  · exact ⟨by simp, by simp⟩
  · exact ⟨fun r hr => by
      rw [List.mem_singleton] at hr
      subst hr
      exact ⟨by show 0 < n; omega, by show n ≤ _; omega⟩, by simp⟩
theorem one_mem (n k : Nat) : mem (if n = 0 then [] else [(0, n)]) k = decide (k < n) := by
  split
  · rename_i h
    subst h
    simp [mem]
  · simp [mem, hasP]
theorem cnt_one {xs : List Rg} (h : Norm xs) {n : Nat} (hm : ∀ k, mem xs k = decide (k < n)) : cntL xs = n := by
  rw [norm_one h hm]
  split
  · rename_i h
    rw [h]
    rfl
  · simp [cntL]
/-- What is acknowledged. -/
theorem hO_ack (L d : List Nat) (h0 : 0 < d.length) (hl : L.length + d.length ≤ 100000) : (hO (L ++ d) L.length (L.length + d.length)).kn L.length d.length = (L.length, L.length + d.length) ∧
    (hO (L ++ d) L.length (L.length + d.length)).ackX (L.length, L.length + d.length) = [(0, L.length + d.length)] ∧ atOf [(0, L.length + d.length)] (L ++ d).length = L.length + d.length := by
  have hnn : [(0, L.length + d.length)] = (if L.length + d.length = 0 then [] else [(0, L.length + d.length)]) := by rw [if_neg (by omega)]
  refine ⟨?_, ?_, ?_⟩
  · unfold OS.kn
    have e : (hO (L ++ d) L.length (L.length + d.length)).sent = L.length + d.length := rfl
    rw [e]
    have e1 : min L.length (L.length + d.length) = L.length := by omega
    have e2 : ((d.length : Nat) : Int).toNat = d.length := by omega
    rw [e1, e2, Nat.min_self]
  · unfold OS.ackX
    rw [if_pos (by show L.length < L.length + d.length; omega)]
    show addL many (if L.length = 0 then [] else [(0, L.length)]) L.length (L.length + d.length) = _
    obtain ⟨f1, _, f3⟩ := addL_facts (one_norm L.length (by omega)) (show L.length < L.length + d.length by omega) (by omega) (by split <;> simp)
    rw [norm_one f1 (n := L.length + d.length) (fun k => by
      rw [f3 k, one_mem]
      by_cases q : k < L.length
      · simp [q]
        omega
      · by_cases q2 : k < L.length + d.length
        · simp [q2]
          omega
        · simp [q, q2])]
    exact hnn.symm
  · rw [hnn, List.length_append]
    exact at_all (one_norm _ (by omega)) (fun k hk => by rw [one_mem]; exact decide_eq_true hk)
theorem hS_ack (L d : List Nat) (h0 : 0 < d.length) : (hS (L ++ d) L.length (L.length + d.length)).ackd ((hO (L ++ d) L.length (L.length + d.length)).ackG [(0, L.length + d.length)] [] (L.length + d.length) false) = hS (L ++ d) (L.length + d.length) (L.length + d.length) := by
  unfold SS.ackd hS OS.ackG hO
  rw [if_neg (show ¬ L.length + d.length = 0 by omega), if_neg (show ¬ L.length + d.length = 0 by omega)]
  simp only
  rw [if_neg (fun q => by cases q.1)]
  simp [OS.zero]
theorem hS_gj (L d : List Nat) (hl : L.length ≤ 2000) (hd : d.length ≤ 60) (hb : Bys (L ++ d)) : GJ (hO (L ++ d) L.length L.length) := by
  refine ⟨⟨?_, ?_, ?_, one_norm _ (by omega), OS.zero_ok.ny, ?_, OS.zero_ok.ly, hb⟩, ?_, ?_, ?_, ?_, ?_⟩
  · show (L ++ d).length ≤ _
    rw [List.length_append]
    omega
  · show L.length ≤ (L ++ d).length
    rw [List.length_append]
    omega
  · show L.length ≤ (L ++ d).length
    rw [List.length_append]
    omega
  · show (if L.length = 0 then [] else [(0, L.length)]).length ≤ _
    split <;> simp
  · show (L ++ d).length ≤ _
    rw [List.length_append]
    omega
  · show (L ++ d).length ≤ L.length + 2048
    rw [List.length_append]
    omega
  · intro j q
    have q : mem (if L.length = 0 then [] else [(0, L.length)]) j = true := q
    rw [one_mem] at q
    exact of_decide_eq_true q
  · intro j q
    simp [hO, OS.zero, mem] at q
  · intro j q
    show mem (if L.length = 0 then [] else [(0, L.length)]) j = true
    rw [one_mem]
    exact decide_eq_true q
/-! The other end. -/
structure HR (r : RS) (N T : Nat) : Prop where
  id : r.id = 0
  win : r.win = 2048
  st : r.st = 1
  lim : r.lim = 2048
  rd : r.ib.rd = T
  hi : r.ib.hi = N
  kn : r.ib.kn = false
  le : T ≤ N
  all : ∀ j, (gt r.ib.L j).isSome = decide (T + j < N)
def hN : SS := ⟨0, 1, 9999, none, false, OS.zero⟩
def HU (u : ST) (N T : Nat) : Prop := (N = 0 ∧ T = 0 ∧ u = rU0) ∨ (0 < N ∧ ∃ r, HR r N T ∧ u = { rU0 with others := [⟨0, hN, r⟩] })
theorem rU0_facts : rU0.mine.md = 100000 ∧ rU0.limit = 100000 ∧ rU0.rest = 1 ∧ rU0.own = [] ∧ rU0.others = [] ∧ rU0.theirs.msd = 9999 ∧ rU0.mine.msd = 2048 ∧ rU0.mine.ms = 8 := by decide +kernel
theorem HR.rdy {r : RS} {N T : Nat} (h : HR r N T) : rdy r.ib.L = N - T := by
  apply rdy_is
  · intro j hj
    rw [h.all, decide_eq_true (by omega)]
  · have := h.all (N - T)
    rw [decide_eq_false (by have := h.le; omega)] at this
    simpa using this
theorem HR.came {r : RS} {N T : Nat} (h : HR r N T) (k : Nat) : r.ib.came k = decide (k < N) := by
  unfold IB.came
  rw [h.rd, h.all]
  by_cases q : k < T
  · have e2 : decide (k < N) = true := decide_eq_true (by have := h.le; omega)
    rw [decide_eq_true q, e2]
    rfl
  · rw [decide_eq_false q, Bool.false_or]
    congr 1
    exact propext (by omega)
theorem HR.held {r : RS} {N T : Nat} (h : HR r N T) {xs : List Rg} (hx : CameIs r.ib xs) : cntL xs = N := cnt_one hx.1 (fun k => (hx.2 k).trans (h.came k))
theorem HR.new : HR (RS.new 0 2048) 0 0 := ⟨rfl, rfl, rfl, rfl, rfl, rfl, rfl, Nat.le_refl _, fun j => by simp [RS.new, IB.zero, gt]⟩
theorem HR.read {r : RS} {N T : Nat} (h : HR r N T) (n : Nat) (hn : n ≤ N - T) : HR (r.tk n) N (T + n) := by
  have hl : (r.ib.take n).last = false := by
    show (r.ib.kn && _) = false
    rw [h.kn]
    rfl
  have e : r.tk n = { r with ib := r.ib.take n } := by
    unfold RS.tk
    rw [hl]
    rfl
  rw [e]
  refine ⟨h.id, h.win, h.st, h.lim, ?_, h.hi, h.kn, by have := h.le; omega, fun j => ?_⟩
  · show r.ib.rd + n = _
    rw [h.rd]
  · show (gt (r.ib.L.drop n) j).isSome = _
    have e : gt (r.ib.L.drop n) j = gt r.ib.L (n + j) := by
      unfold gt
      rw [List.getElem?_drop]
    rw [e, h.all]
    congr 1
    exact propext (by omega)
theorem HR.on {r : RS} {N T : Nat} (h : HR r N T) (d : List Nat) (v : Value) (hd : d.length ≤ 60) (h0 : 0 < d.length) (hN : N + d.length ≤ 2048) : r.may (strF 0 N v false) d.length = 0 ∧ HR (r.on (strF 0 N v false) d) (N + d.length) T := by
  have hm : r.may (strF 0 N v false) d.length = 0 := by
    unfold RS.may
    have e1 : endOf (strF 0 N v false) d.length = N + d.length := by
      show min N 4611686018427387903 + d.length = _
      omega
    have e2 : lastOf (strF 0 N v false) = false := rfl
    rw [e1, e2, h.id, h.lim, if_neg (fun q => by rcases q with q | q; exact q rfl; exact q.1 rfl), if_neg (by omega), if_neg (fun q => by omega), if_neg]
    rintro (⟨q, _⟩ | ⟨q, _⟩)
    · unfold RS.szd at q
      rw [h.st, h.kn] at q
      cases q
    · cases q
  refine ⟨hm, ?_⟩
  have he : r.ib.err N d.length false = 0 := by
    unfold IB.err IB.finErr
    rw [h.kn, h.rd, if_neg (by omega)]
    simp
    have := h.le
    omega
  unfold RS.on
  rw [hm, if_neg (fun q => q rfl), h.st, if_neg (by omega), if_neg (by show ¬ (8 : Int) = 4; omega), if_neg (fun q => q he)]
  have ha : r.ib.add N d false = r.ib.put N d false := by
    unfold IB.add
    rw [if_pos he]
  have hk : (r.ib.put N d false).kn = false := by
    show (if false = true then true else r.ib.kn) = false
    rw [if_neg (by simp), h.kn]
  have hns : nextSt 1 (r.ib.put N d false) = 1 := by
    unfold nextSt
    rw [hk]
    rfl
  show HR { r with ib := r.ib.add N d false, st := nextSt 1 (r.ib.add N d false) } _ _
  rw [ha, hns]
  refine ⟨h.id, h.win, rfl, h.lim, h.rd, ?_, hk, by have := h.le; omega, fun j => ?_⟩
  · show max r.ib.hi (N + d.length) = _
    rw [h.hi]
    omega
  · show (gt (putN r.ib.rd N r.ib.L d) j).isSome = _
    rw [gt_putN, h.all, h.rd]
    by_cases q : T + j < N
    · rw [if_pos (decide_eq_true q), h.all, decide_eq_true q, decide_eq_true (by omega)]
    · rw [if_neg (by simp; omega), if_pos (by omega)]
      by_cases q2 : T + j < N + d.length
      · rw [List.getElem?_eq_getElem (by omega), decide_eq_true q2]
        rfl
      · rw [List.getElem?_eq_none (by omega), decide_eq_false q2]
        rfl
theorem HU.hR {u : ST} {N T : Nat} (h : HU u N T) : T ≤ N := by
  rcases h with ⟨h1, h2, _⟩ | ⟨_, r, h1, _⟩
  · omega
  · exact h1.le
theorem rU0_newH : rU0.newH false = ⟨0, hN, RS.new 0 2048⟩ := by
  obtain ⟨_, _, h3, _, h5, h6, h7, _⟩ := rU0_facts
  have hn : rU0.nid false = 0 := by
    unfold ST.nid ST.rs
    rw [if_neg (by simp), h3]
    show 4 * rU0.others.length + (1 - 1) = 0
    rw [h5]
    rfl
  unfold ST.newH
  rw [hn, h6, h7]
  rfl
def rUr (r : RS) : ST := { rU0 with others := [⟨0, hN, r⟩] }
theorem rUr_all (r : RS) : (rUr r).all = [(false, 0, ⟨0, hN, r⟩)] := by
  have e1 : (rUr r).rest = 1 := rU0_facts.2.2.1
  have e2 : (rUr r).own = [] := rU0_facts.2.2.2.1
  unfold ST.all
  rw [e1, if_neg (by omega), e2]
  rfl
theorem rU0_all : rU0.all = [] := by
  obtain ⟨_, _, h3, h4, h5, _⟩ := rU0_facts
  unfold ST.all
  rw [h3, if_neg (by omega), h4, h5]
  rfl
theorem rUr_find (r : RS) : (rUr r).find 0 = some (false, 0, ⟨0, hN, r⟩) := by
  have e1 : (rUr r).rest = 1 := rU0_facts.2.2.1
  unfold ST.find ST.sideO
  rw [e1]
  rfl
theorem rU0_find : rU0.find 0 = none := by
  obtain ⟨_, _, h3, _, h5, _⟩ := rU0_facts
  unfold ST.find ST.sideO
  rw [h3]
  show Option.map _ (rU0.others[0]?) = none
  rw [h5]
  rfl
theorem HU.got {u : ST} {N T : Nat} (h : HU u N T) : u.got = N := by
  rcases h with ⟨h1, _, rfl⟩ | ⟨_, r, h1, rfl⟩
  · unfold ST.got
    rw [rU0_all, h1]
    rfl
  · show (rUr r).got = N
    unfold ST.got
    rw [rUr_all]
    show (if 5 ≤ r.st then r.fnl else r.ib.hi) + 0 = N
    rw [h1.st, if_neg (by omega), h1.hi]
    rfl
theorem HU.on {u : ST} {N T : Nat} (h : HU u N T) (d : List Nat) (v : Value) (hd : d.length ≤ 60) (h0 : 0 < d.length) (hN : N + d.length ≤ 2048) : u.may (strF 0 N v false) d.length = 0 ∧ HU (u.onS (strF 0 N v false) d) (N + d.length) T := by
  obtain ⟨f1, f2, f3, f4, f5, f6, f7, f8⟩ := rU0_facts
  have hend : endOf (strF 0 N v false) d.length = N + d.length := by
    show min N 4611686018427387903 + d.length = _
    omega
  have hg := h.got
  rcases h with ⟨h1, h2, rfl⟩ | ⟨h1, r, h2, rfl⟩
  · subst h1
    subst h2
    obtain ⟨m1, m2⟩ := HR.new.on d v hd h0 (by omega)
    have hgate : rU0.gate 0 = none := by
      unfold ST.gate ST.sideO
      rw [f3]
      show (if rU0.mine.ms ≤ 0 / 4 then some 4 else none) = none
      rw [f8]
      rfl
    have hrcv : rU0.rcv 0 = RS.new 0 2048 := by
      unfold ST.rcv
      rw [rU0_find, f7]
    have hmay : rU0.may (strF 0 0 v false) d.length = 0 := by
      have hs : (strF 0 0 v false).sid = 0 := rfl
      have hk : (strF 0 0 v false).kd = 8 := rfl
      unfold ST.may
      rw [hs, hgate]
      simp only
      rw [hk, if_neg (fun q => q.1 rfl)]
      unfold ST.mayR
      rw [hs, hrcv, m1, if_pos rfl, hg, f2, hend, if_neg (by omega)]
    refine ⟨hmay, .inr ⟨by omega, _, m2, ?_⟩⟩
    have hneed : rU0.need 0 = 1 := by
      unfold ST.need ST.sideO
      rw [f3, f5]
      rfl
    unfold ST.onS
    rw [if_neg (fun q => q hmay)]
    have hfs : (strF 0 0 v false).sid = 0 := rfl
    have hgr : rU0.grow 1 = rUr (RS.new 0 2048) := by
      show rU0.add false (rU0.newH false) = _
      rw [rU0_newH]
      unfold ST.add rUr
      rw [if_neg (by simp), f5]
      rfl
    rw [hfs, hneed, hgr, rUr_find]
    rfl
  · obtain ⟨m1, m2⟩ := h2.on d v hd h0 hN
    have hgate : (rUr r).gate 0 = none := by
      unfold ST.gate ST.sideO
      have e1 : (rUr r).rest = 1 := f3
      have e2 : (rUr r).mine.ms = 8 := f8
      rw [e1, e2]
      rfl
    have hrcv : (rUr r).rcv 0 = r := by
      unfold ST.rcv
      rw [rUr_find]
    have hhi : r.high = N := by
      unfold RS.high
      rw [h2.st, if_neg (by omega), h2.hi]
    have hmay : (rUr r).may (strF 0 N v false) d.length = 0 := by
      have hs : (strF 0 N v false).sid = 0 := rfl
      have hk : (strF 0 N v false).kd = 8 := rfl
      have hl : (rUr r).limit = 100000 := f2
      have hg : (rUr r).got = N := hg
      unfold ST.may
      rw [hs, hgate]
      simp only
      rw [hk, if_neg (fun q => q.1 rfl)]
      unfold ST.mayR
      rw [hs, hrcv, m1, if_pos rfl, hg, hl, hend, if_neg (by omega)]
    refine ⟨hmay, .inr ⟨by omega, _, m2, ?_⟩⟩
    have hneed : (rUr r).need 0 = 0 := by
      unfold ST.need
      show (if (rUr r).sideO 0 = some false then 0 / 4 + 1 - 1 else 0) = 0
      split <;> rfl
    show (rUr r).onS _ d = _
    unfold ST.onS
    rw [if_neg (fun q => q hmay)]
    have hfs : (strF 0 N v false).sid = 0 := rfl
    rw [hfs, hneed, show (rUr r).grow 0 = rUr r from rfl, rUr_find]
    rfl
theorem HU.ms {u : ST} {N T : Nat} (h : HU u N T) : u.mine.ms = 8 := by
  rcases h with ⟨_, _, rfl⟩ | ⟨_, r, _, rfl⟩ <;> exact rU0_facts.2.2.2.2.2.2.2
theorem HU.ol {u : ST} {N T : Nat} (h : HU u N T) : u.others.length ≤ 900 := by
  rcases h with ⟨_, _, rfl⟩ | ⟨_, r, _, rfl⟩
  · rw [rU0_facts.2.2.2.2.1]
    exact Nat.zero_le _
  · show 1 ≤ 900
    omega
end Go.Proofs.YtnneoeimgbemfaaGreat

/- DERIVED. Sets in memory: Count. -/
namespace Go.Proofs.YtnneoeimgbemfaaGreat
open Go.RowKit

set_option maxRecDepth 100000 in
set_option maxHeartbeats 400000 in
theorem count_any (b : Nat) (most : Int) (og : Option Nat) (xs : List Rg) (w : World) (h : SetAt w b most og xs) (hx : Norm xs) :
    Calls Tryz.prog 75 #[.pointer (some ⟨b, 0, none⟩)] w fun e w' => e = .returned (.int .u64 (cntL xs)) ∧ Below w.heap.size w w' := by
  obtain ⟨v, hb, hs, hne⟩ := h
  have c1 := cell_at hb 1
  simp at c1
  obtain ⟨oa, cap, rfl, hcap, hcap2⟩ := hs.shape
  have HS := Lib.hid hs
  have HX := Lib.hid hx
  clear hb hs hx
  generalize hn : xs.length = len at *
  have HN := Lib.hid hn
  clear hn
  go_enter Tryz.func75, Tryz.ntmps75
  go_wp2_with fail
  go_loopw [3, 11] (fun a i wr => ∃ k : Nat, i = .int .i64 k ∧ k ≤ len ∧ a = .int .u64 (cntL (xs.take k)) ∧ Below w.heap.size w wr) (fun _ i _ => len - (intOf i).toNat)
  case atStart => exact ⟨0, rfl, by omega, rfl, Below.refl _ _⟩
  case round =>
    obtain ⟨k, rfl, hk, rfl, hb⟩ := hrel
    have HB := Lib.hid hb
    clear hb
    have hle := cntL_le (HX.out.take k)
    by_cases hlt : k < len
    · obtain ⟨r, hr⟩ : ∃ r, xs[k]? = some r := ⟨_, List.getElem?_eq_getElem (by rw [HN.out]; exact hlt)⟩
      obtain ⟨hr1, hr2⟩ := HX.out.at hr
      obtain ⟨g, hog, rfl, hgl, c0, c1⟩ := HS.out.atS hr
      have ht := cntL_take hr
      have hle2 := cntL_le (HX.out.take (k + 1))
      have d0 := (HB.out.cell (p := ⟨g, k * 2, none⟩) hgl).trans c0
      have d1 := (HB.out.cell (p := ⟨g, k * 2 + 1, none⟩) hgl).trans c1
      rw [ht] at hle2
      generalize cntL (xs.take k) = a at *
      have HT := Lib.hid ht
      clear c0 c1 hog hr ht
      go_wp2
      go_roundw
      case rel => exact ⟨k + 1, by go_num, by omega, by rw [HT.out]; go_num, HB.out.alloc HB.out.size _⟩
      case measure => simp [intOf]; omega
    · go_wp2
      go_ret
      rw [List.take_of_length_le (by rw [HN.out]; omega)]
      exact ⟨rfl, HB.out⟩
end Go.Proofs.YtnneoeimgbemfaaGreat

/- DERIVED. Split off InbRd. -/
namespace Go.Proofs.YtnneoeimgbemfaaGreat
open Go.RowKit

set_option maxRecDepth 100000 in
set_option maxHeartbeats 1000000 in
theorem bRdy_any (b : Nat) (s : IB) (fp : Nat → Prop) (w : World) (h : IbAt w b s fp) :
    Calls Tryz.prog 73 #[.pointer (some ⟨b, 0, none⟩)] w fun e w' => e = .returned (.int .i64 (rdy s.L : Nat)) ∧ Below w.heap.size w w' := by
  obtain ⟨c0, _, _, _⟩ := h.cells
  obtain ⟨hb1, _, _, hb2⟩ := h.bd
  have hbl : b < w.heap.size := h.lt.2 b h.lt.1
  have H := Lib.hid h
  clear h
  obtain ⟨z, hz⟩ : ∃ z, s.rd + rdy s.L = z := ⟨_, rfl⟩
  have HZ := Lib.hid hz
  have hw1 : IntKind.u64.wrap ((z : Int) - s.rd) = (rdy s.L : Nat) := by rw [IntWalk.u64_in _ (by omega)]; omega
  have hw2 : IntKind.i64.wrap ((rdy s.L : Nat) : Int) = (rdy s.L : Nat) := IntWalk.i64_in _ (by omega)
  clear hz
  go_enter Tryz.func73, Tryz.ntmps73
  go_wp2_with fail
  go_region_held3 (fun w' => w'.cell? ⟨b, 0, none⟩ = w.cell? ⟨b, 0, none⟩) (go_keep)
    (first | (go_at_call 70; refine (bready_z b s fp _ (by exact H.out.drew) HZ.out).mono ?_; rintro e w' ⟨rfl, hb⟩; have k0 := (hb.cell (p := ⟨b, 0, none⟩) (by exact hbl)).trans (by exact c0)))
  rename_i hHeld
  have HB := Lib.hid (below_call (Below.refl w.heap.size w).drew (Nat.le_refl _) hb)
  clear hb hHeld
  go_wp2
  go_ret
  exact ⟨rfl, HB.out⟩
end Go.Proofs.YtnneoeimgbemfaaGreat

/- DERIVED. Split off InbTake. -/
namespace Go.Proofs.YtnneoeimgbemfaaGreat
open Go.RowKit

theorem clip_q (oa : Option Addr) (n cap : Nat) (w : World) (h1 : n ≤ cap) (_h2 : cap ≤ 9223372036854775807) :
    Calls Tryz.prog 74 #[.slice oa n cap] w fun e w' => e = .returned (.slice oa n n) ∧ ∃ q, w' = w.drewN q := by
  go_enter Tryz.func74, Tryz.ntmps74
  go_wp2_with fail
  go_ret
  exact ⟨rfl, 0, rfl⟩
set_option maxRecDepth 100000 in
set_option maxHeartbeats 2000000 in
theorem btake_any (b : Nat) (s : IB) (fp : Nat → Prop) (m : Int) (w : World) (h : IbAt w b s fp) (hm : -9223372036854775808 ≤ m) (hm2 : m ≤ 9223372036854775807) {n : Nat} (hn : s.num m = n) :
    Calls Tryz.prog 53 #[.pointer (some ⟨b, 0, none⟩), .int .i64 m] w
      fun e w' => ∃ v' fp', e = .returned (.tuple #[v', .bool (s.take n).last]) ∧ IbAt w' b (s.take n) fp' ∧ Went fp fp' w w' ∧ VwA encB (fun k => k < w.heap.size ∨ fp' k) w' v' (s.out n) := by
  obtain ⟨i0, hi0, hz0, hz1, hz2'⟩ := info_parts infoB
  have hnr := s.num_le m
  rw [hn] at hnr
  obtain ⟨hb1, hb3, hb4, hb2⟩ := h.bd
  have H := Lib.hid h
  have hrl : rdy s.L ≤ 2048 := Nat.le_trans (rdy_le _) h.ok.len
  clear h
  go_enter Tryz.func53, Tryz.ntmps53
  go_upto_region 1 with fail
  go_cut [6] (fun v wx => v = .int .i64 n ∧ Below w.heap.size w wx)
  case first =>
    have hnn : (0 < m ∧ (rdy s.L : Int) < m ∧ n = rdy s.L) ∨ (0 < m ∧ ¬ (rdy s.L : Int) < m ∧ (n : Int) = m) ∨ (¬ 0 < m ∧ n = 0) := by
      unfold IB.num at hn
      omega
    clear hn
    generalize hrr : rdy s.L = rr at *
    have HRR := Lib.hid hrr
    clear hrr
    rcases hnn with ⟨h1, h2, h3⟩ | ⟨h1, h2, h3⟩ | ⟨h1, h3⟩
    · go_wp2_with fail
      refine (bRdy_any b s fp _ (by exact H.out)).mono ?_
      rw [HRR.out]
      rintro e w1 ⟨rfl, hb⟩
      go_wp2_with fail
      go_meet
      case rel => exact ⟨by rw [h3], hb⟩
    · go_wp2_with fail
      refine (bRdy_any b s fp _ (by exact H.out)).mono ?_
      rw [HRR.out]
      rintro e w1 ⟨rfl, hb⟩
      go_wp2_with fail
      go_meet
      case rel => exact ⟨by rw [h3], hb⟩
    · go_wp2_with fail
      refine (bRdy_any b s fp _ (by exact H.out)).mono ?_
      rw [HRR.out]
      rintro e w1 ⟨rfl, hb⟩
      have h4 : ¬ (rr : Int) < 0 := by omega
      go_wp2_with fail
      go_meet
      case rel => exact ⟨by rw [h3]; rfl, hb⟩
  case rest =>
    obtain ⟨rfl, hb⟩ := hcut
    have H1 := Lib.hid (H.out.below hb)
    have HB := Lib.hid hb
    clear hb
    have HW := Lib.hid H.out.lt
    have HM0 := Lib.hid (show TakeMid w wc b s fp 0 (.slice none 0 0) from ⟨H1.out, (Upd.below HB.out).mono (fun j hj x => by omega), none, SlG.nil _, by simp⟩)
    clear H1
    go_wp2_with fail
    go_loopw [7, 14] (fun v i wr => ∃ k : Nat, i = .int .i64 k ∧ k ≤ n ∧ TakeMid w wr b s fp k v) (fun _ i _ => n - (intOf i).toNat)
    case atStart => exact ⟨0, rfl, by omega, HM0.out⟩
    case round =>
      obtain ⟨k, rfl, hk, hmid⟩ := hrel
      have HM := Lib.hid hmid
      clear hmid HM0
      obtain ⟨og, hs, hog⟩ := HM.out.out
      have HS := Lib.hid hs
      have HG := Lib.hid hog
      clear hs hog
      by_cases hlt : k < n
      · obtain ⟨x, hx⟩ := rdy_lt (L := s.L) (j := k) (by omega)
        obtain ⟨z, hz, hz2⟩ : ∃ z : Nat, s.rd + k = z ∧ z ≤ 1099511628288 := ⟨_, rfl, by omega⟩
        obtain ⟨m', hmm, hmm2, hmm3⟩ : ∃ m' : Nat, (z : Int).tmod 2048 = (m' : Int) ∧ z % 2048 = m' ∧ (m' : Int) < 2048 := ⟨z % 2048, by rw [Int.tmod_eq_emod_of_nonneg (by omega)]; omega, rfl, by omega⟩
        have c0 := HM.out.buf.cells.1
        have e0 := HM.out.buf.byte hx
        have f0 := HM.out.buf.free0
        rw [show (s.take k).rd = z from hz] at c0
        rw [hz, hmm2] at e0
        have HX := Lib.hid hx
        have HZ := Lib.hid hz
        have hol : (s.out k).length = k := out_len (by omega)
        have HOL := Lib.hid hol
        clear hx hz hmm2 hol
        go_wp2_with fail
        go_region_law (refine step_pushN encB_len encB_one Tryz.underlying31 hi0 hz1 hz0 zeroB rfl (.tmp 16) (.tmp 27) rfl (by exact (HS.out.alloc _).drew) [x] (by exact Src.block (alloc_at _ _) rfl) rfl rfl rfl (by simp) (by rw [HOL.out, hz2']; simp; omega) (by rw [HOL.out]; simp; omega) ?_; intro W1 v1 og1 hs1 ho1 hu1)
        all_goals have HN1 := Lib.hid (HM.out.next HW.out (by omega) HX.out HG.out hs1 ho1 hu1 HZ.out)
        all_goals obtain ⟨e1, f1⟩ := HM.out.kept HW.out HG.out hu1 HZ.out
        all_goals clear hs1 ho1 hu1 c0 e0 f0
        all_goals go_wp2
        all_goals go_roundw
        all_goals first
          | (case rel => exact ⟨k + 1, by go_num, by omega, HN1.out⟩)
          | (case measure => simp [intOf]; omega)
      · obtain rfl : k = n := by omega
        obtain ⟨z, hz, hz2⟩ : ∃ z : Nat, (s.take k).rd = z ∧ z ≤ 1099511628288 := ⟨_, rfl, by simp only [IB.take]; omega⟩
        obtain ⟨c, og0, xs, cs, hbuf, hfp⟩ := HM.out.buf
        have hfew := hbuf.is.few hbuf.ok
        have c0 : wr.cell? ⟨b, 0, none⟩ = some (.int .u64 z) := by rw [cell_at hbuf.blk, hbuf.c0, hz]
        have c5 : wr.cell? ⟨b, 2052, none⟩ = some (.pointer (some ⟨c, 0, none⟩)) := by rw [cell_at hbuf.blk, hbuf.c5]
        have HBF := Lib.hid hbuf
        have HFP := Lib.hid hfp
        have HZ := Lib.hid hz
        clear hbuf hfp hz hlt
        go_wp2_with fail
        go_still_tail 8, (by kernel_rfl)
        change wpList _ _ _ _ _ wr.drew
        go_wp2_with fail
        refine (add_any c 2048 og0 xs 0 z _ (by exact HBF.out.came.below (Below.refl _ _).drew) (by omega) (by omega) (by omega)).mono ?_
        rintro e w3 ⟨rfl, ht⟩
        obtain ⟨fp', hb3, hw3⟩ := HBF.out.addZero HFP.out HZ.out (by omega) ht
        have H3 := Lib.hid hb3
        have HWT := Lib.hid hw3
        have HS3 := Lib.hid (HS.out.keeps hw3.upd (fun g hg e => by have := HG.out g hg; have := HW.out.2 g e; omega))
        have HGL := Lib.hid HS.out.lt
        clear ht hb3 hw3 c0 c5 HBF HS hfew
        obtain ⟨oa, cap, rfl, hc1, hc2⟩ := HS3.out.shape
        have hol : (s.out k).length = k := out_len (by omega)
        rw [hol] at hc1 ⊢
        have HOL := Lib.hid hol
        clear hol
        obtain ⟨c0, c1, c2, c3⟩ := H3.out.cells
        rw [HZ.out] at c0
        have HL := Lib.hid (show (s.take k).last = ((s.take k).kn && decide (z = (s.take k).fin)) by rw [IB.last, HZ.out])
        have HF := Lib.hid (show Went fp fp' w w3 ∧ VwA encB (fun j => j < w.heap.size ∨ fp' j) w3 (.slice oa k k) (s.out k) from by
          refine ⟨⟨HM.out.upd.trans HWT.out.upd (fun _ _ q => q) (fun _ _ q => q), fun j hj => ?_⟩, ?_⟩
          · rcases HWT.out.new j hj with q | q
            · exact .inl q
            · have := HM.out.upd.size
              right
              omega
          · have h9 := HS3.out
            rw [HOL.out] at h9
            refine h9.clip ?_ HOL.out
            intro g hg q
            have q1 := HG.out g hg
            have q2 := HGL.out g hg
            rcases q with q | q
            · omega
            · rcases HWT.out.new g q with q | q
              · have := HW.out.2 g q
                omega
              · omega)
        generalize (s.take k).kn = kn at *
        generalize (s.take k).fin = fin at *
        clear c1 HS3 HM HWT HZ HFP
        cases kn
        · go_wp2_with fail
          go_quiet ((go_at_call 74; exact Calls.quiet_of (clip_q oa k cap _ hc1 hc2)))
          go_wp2_with fail
          go_ret2
          exact ⟨_, fp', by rw [HL.out]; rfl, H3.out.drewN _, HF.out.1.drewN _, HF.out.2.upd ((Upd.refl (fun _ => False) _).drewN _) (fun _ q => q.elim)⟩
        · go_wp2_with fail
          go_quiet ((go_at_call 74; exact Calls.quiet_of (clip_q oa k cap _ hc1 hc2)))
          go_wp2_with fail
          go_ret2
          exact ⟨_, fp', by rw [HL.out, Bool.true_and, ← eqN]; rfl, H3.out.drewN _, HF.out.1.drewN _, HF.out.2.upd ((Upd.refl (fun _ => False) _).drewN _) (fun _ q => q.elim)⟩
end Go.Proofs.YtnneoeimgbemfaaGreat

/- DERIVED. Walk of receiver's Read. -/
namespace Go.Proofs.YtnneoeimgbemfaaGreat
open Go.RowKit

set_option maxRecDepth 100000 in
set_option maxHeartbeats 1000000 in
theorem rread_reset (r : Nat) (s : RS) (fp : Nat → Prop) (m : Int) (w : World) (h : RAt w r s fp) (hst : s.st = 5) :
    Calls Tryz.prog 32 #[.pointer (some ⟨r, 0, none⟩), .int .i64 m] w fun e w' => e = .returned (.tuple #[.slice none 0 0, .bool false, .int .u64 s.code, .int .i64 29]) ∧ RM w w' fp r { s with st := 6 } := by
  obtain ⟨b, hgo⟩ := h.go
  obtain ⟨c2, c4, c5, c6, hf⟩ := hgo.cells
  obtain ⟨d2, d4, d5, d6, hf2⟩ := (hgo.setSt 6 (by omega) (by omega)).cells
  have hf := hf 2
  have HG := Lib.hid (hgo.setSt 6 (by omega) (by omega))
  replace c2 : w.cell? ⟨r, 2, none⟩ = some (.int .i64 5) := by rw [hst] at c2; exact c2
  replace d5 : (w.setCell ⟨r, 2, none⟩ (.int .i64 6)).cell? ⟨r, 5, none⟩ = some (.int .u64 s.code) := d5
  generalize s.code = cd at *
  clear h hgo hst d2 d4 d6 c4 c6 hf2 c5
  go_enter Tryz.func32, Tryz.ntmps32
  go_wp2_with fail
  go_quiet (fail)
  go_wp2_with fail
  (try simp only [Exit.inBlock, Exit.then])
  refine bodyPost_ret (results_tmp4 rfl _ _ _) rfl ?_
  exact ⟨rfl, HG.out.rm.later (below_drewN (Below.refl _ _) _)⟩
set_option maxRecDepth 100000 in
set_option maxHeartbeats 1000000 in
theorem rread_over (r : Nat) (s : RS) (fp : Nat → Prop) (m : Int) (w : World) (h : RAt w r s fp) (hst : s.st = 4 ∨ s.st = 6) :
    Calls Tryz.prog 32 #[.pointer (some ⟨r, 0, none⟩), .int .i64 m] w fun e w' => e = .returned (.tuple #[.slice none 0 0, .bool false, .int .u64 0, .int .i64 24]) ∧ ∃ n, w' = w.drewN n := by
  obtain ⟨b, hgo⟩ := h.go
  obtain ⟨c2, c4, c5, c6, hf⟩ := hgo.cells
  clear h hgo hf c4 c5 c6
  generalize s.st = st at *
  rcases hst with rfl | rfl
  all_goals
    go_enter Tryz.func32, Tryz.ntmps32
    go_wp2_with fail
    (try simp only [Exit.inBlock, Exit.then])
    refine bodyPost_ret (results_tmp4 rfl _ _ _) rfl ?_
    exact ⟨rfl, 0, rfl⟩
set_option maxRecDepth 100000 in
set_option maxHeartbeats 1000000 in
theorem rread_any (r : Nat) (s : RS) (fp : Nat → Prop) (m : Int) (w : World) (h : RAt w r s fp) (hst : s.st ≤ 3) (hm : -9223372036854775808 ≤ m) (hm2 : m ≤ 9223372036854775807) {n : Nat} (hn : s.ib.num m = n) :
    Calls Tryz.prog 32 #[.pointer (some ⟨r, 0, none⟩), .int .i64 m] w fun e w' => ∃ v' fp', e = .returned (.tuple #[v', .bool (s.ib.take n).last, .int .u64 0, .int .i64 (if n = 0 ∧ (s.ib.take n).last = false then 26 else 0)]) ∧
      RAt w' r (s.tk n) fp' ∧ Went fp fp' w w' ∧ VwA encB (fun k => k < w.heap.size ∨ fp' k) w' v' (s.ib.out n) := by
  obtain ⟨b, hgo⟩ := h.go
  obtain ⟨c2, c4, c5, c6, hf⟩ := hgo.cells
  have hok := h.ok.st
  have HG := Lib.hid hgo
  generalize hs : s.st = st at *
  go_enter Tryz.func32, Tryz.ntmps32
  obtain ⟨fb, hb1, hb2⟩ := HG.out
  have n5 : ((st : Int) == 5) = false := by simp; omega
  have n4 : ((st : Int) == 4) = false := by simp; omega
  have n6 : ((st : Int) == 6) = false := by simp; omega
  have hbuf := hb1.buf
  have HBF := Lib.hid hbuf
  have HB1 := Lib.hid hb1
  clear h hgo hf c5 c6 hbuf hb1
  go_wp2_with fail
  refine (btake_any b s.ib fb m _ (by exact HBF.out) hm hm2 hn).mono ?_
  rintro e w1 ⟨v, fb', rfl, hi, hw, hv⟩
  have hfl := out_len (s := s.ib) (n := n) (by rw [← hn]; exact IB.num_le _ _)
  obtain ⟨oa, cap, rfl, hc1, hc2, hc3⟩ := hv
  rw [hfl] at hc1 ⊢
  have HA := Lib.hid (HB1.out.added hi hw)
  have HN := Lib.hid (show Went fp (fun j => j = r ∨ fb' j) w w1 from hb2.trans (g := fun j => j = r ∨ fb j) ⟨hw.upd.mono (fun j _ x => .inr x), by
    rintro k (q | q)
    · exact .inl (.inl q)
    · exact (hw.new k q).imp .inr id⟩)
  have HL := Lib.hid (show VwA encB (fun k => k < w.heap.size ∨ k = r ∨ fb' k) w1 (.slice oa n cap) (s.ib.out n) from ⟨oa, cap, by rw [hfl], by rw [hfl]; exact hc1, hc2, by
    rcases hc3 with x | ⟨b9, off, e1, e2, e3, e4⟩
    · exact .inl x
    · exact .inr ⟨b9, off, e1, e2, fun q => by
        have := heap_lt HB1.out.blk
        rcases q with q | q | q
        · exact e3 (.inl q)
        · exact e3 (.inl (by omega))
        · exact e3 (.inr q), e4⟩⟩)
  have HRW := Lib.hid (show r < w.heap.size from heap_lt HB1.out.blk)
  generalize hl : (s.ib.take n).last = la at *
  have q2 := free_at HA.out.blk 2
  have e2 : w1.cell? ⟨r, 2, none⟩ = some (.int .i64 s.st) := (cell_at HA.out.blk 2).trans rfl
  cases la
  · have e : s.tk n = { s with ib := s.ib.take n } := by unfold RS.tk; rw [hl]; rfl
    have HF := Lib.hid (show RAt w1 r (s.tk n) (fun j => j = r ∨ fb' j) from by rw [e]; exact ⟨b, fb', HA.out, rfl⟩)
    clear e c4 hc3
    clear q2 e2
    by_cases n0 : n = 0
    · subst n0
      go_wp2_with fail
      (try simp only [Exit.inBlock, Exit.then])
      refine bodyPost_ret (results_tmp4 rfl _ _ _) rfl ?_
      have ho : s.ib.out 0 = [] := List.eq_nil_of_length_eq_zero hfl
      rw [ho]
      exact ⟨_, rfl, _, HF.out, HN.out, ⟨none, 0, rfl, by simp, by omega, .inl rfl⟩⟩
    · have n1 : ((n : Int) == 0) = false := by simp; omega
      have hif : ¬ (n = 0 ∧ (s.ib.take n).last = false) := fun x => n0 x.1
      go_wp2_with fail
      (try simp only [Exit.inBlock, Exit.then])
      refine bodyPost_ret (results_tmp4 rfl _ _ _) rfl ?_
      first | exact ⟨_, rfl, _, HF.out, HN.out, HL.out⟩ | exact ⟨_, _, rfl, HF.out, HN.out, HL.out⟩
  · have e : s.tk n = { s with ib := s.ib.take n, st := 4 } := by unfold RS.tk; rw [hl]; rfl
    have HF := Lib.hid (show RAt (w1.setCell ⟨r, 2, none⟩ (.int .i64 4)) r (s.tk n) (fun j => j = r ∨ fb' j) from by rw [e]; exact ⟨b, fb', HA.out.setSt 4 (by omega) (by omega), rfl⟩)
    have HN2 := Lib.hid (show Went fp (fun j => j = r ∨ fb' j) w (w1.setCell ⟨r, 2, none⟩ (.int .i64 4)) from HN.out.trans ⟨(Upd.refl _ w1).setCell ⟨r, 2, none⟩ (.inl (.inl rfl)) _, fun k q => .inl q⟩)
    have HL2 := Lib.hid (HL.out.upd ((Upd.refl (fun j => j = r) w1).setCell ⟨r, 2, none⟩ (.inl rfl) (.int .i64 4)) (fun k hk => hk ▸ .inr (.inl rfl)))
    clear e c4 hc3
    by_cases n0 : n = 0
    · subst n0
      go_wp2_with fail
      (try simp only [Exit.inBlock, Exit.then])
      refine bodyPost_ret (results_tmp4 rfl _ _ _) rfl ?_
      exact ⟨_, rfl, _, HF.out, HN2.out, HL2.out⟩
    · have n1 : ((n : Int) == 0) = false := by simp; omega
      go_wp2_with fail
      (try simp only [Exit.inBlock, Exit.then])
      refine bodyPost_ret (results_tmp4 rfl _ _ _) rfl ?_
      exact ⟨_, rfl, _, HF.out, HN2.out, HL2.out⟩
end Go.Proofs.YtnneoeimgbemfaaGreat
