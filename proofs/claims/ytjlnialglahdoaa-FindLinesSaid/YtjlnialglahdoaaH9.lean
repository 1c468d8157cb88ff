/- The document's answer: all, within, in. -/
import Derived.Test.YtjlnialglahdoaaH8
namespace Go.Proofs.Ytjlnialglahdoaa
open Go.PL
set_option maxRecDepth 100000
set_option linter.unusedSimpArgs false
set_option linter.unusedVariables false
def encU (n : Nat) : IV := .lit (.int .u8 n)
def iW (l : List Nat) : TV := .iv (.sl 1 (l.map encU))
attribute [push_cast] encU iW
theorem lensU : ∀ l : List Nat, lens? 1 (l.map encU) := lens_map fun a => ⟨rfl, rfl⟩
theorem wrapU8 {n : Int} (h0 : 0 ≤ n) (h1 : n ≤ 255) : IntKind.u8.wrap n = n := wrap_id (by simpa [IntKind.min, IntKind.signed, IntKind.bits] using h0) (by simpa [IntKind.max, IntKind.signed, IntKind.bits] using h1)
theorem range_app (k : Nat) : (List.range k).map encU ++ [encU k] = (List.range (k + 1)).map encU := by rw [List.range_succ, List.map_append]; rfl
theorem ref_all : PC Try.prog 24 [] [] 0 9 (fun t obs => t = iW (List.range 256) ∧ obs = []) := by
  refine PC.body [0] Try.func24 rfl (by rfl) (Nat.le_of_ble_eq_true (by rfl)) rfl ?_; simp only [enumA]
  ((repeat refine PWp.seq ?_); refine PWp.region TT (by rfl) (fun K hK => ?_); simp only [push_cast, seval, Nat.reduceEqDiff, Nat.reduceLeDiff, reduceCtorEq]; (repeat refine sk ?_); refine hK _ ?_; clear hK K)
  ((repeat refine PWp.seq ?_); refine PWp.region TT (by rfl) (fun K hK => ?_); simp only [push_cast, seval, Nat.reduceEqDiff, Nat.reduceLeDiff, reduceCtorEq]; (repeat refine sk ?_); refine hK _ ?_; clear hK K)
  ((repeat refine PWp.seq ?_); refine PWp.region TT (by rfl) (fun K hK => ?_); simp only [push_cast, seval, Nat.reduceEqDiff, Nat.reduceLeDiff, reduceCtorEq]; (repeat refine sk ?_); refine hK _ ?_; clear hK K)
  ((repeat refine PWp.seq ?_); refine PWp.block ?_)
  refine PWp.loop (fun d st => ∃ k : Nat, d = 256 - k ∧ k ≤ 256 ∧
    st = ⟨[(1, .acc 0 1 ((List.range k).map encU)), (2, iI k)], [(0, .row 5 1)], 1⟩) _ _ ⟨0, rfl, Nat.zero_le _, rfl⟩ (Gh.le (by simp [push_cast, -List.getD_eq_getElem?_getD]) (by simp)) ?_
  rintro d st ⟨k, rfl, hk, rfl⟩
  ((repeat refine PWp.seq ?_); refine PWp.region TT (by rfl) (fun K hK => ?_); simp only [push_cast, seval, Nat.reduceEqDiff, Nat.reduceLeDiff, reduceCtorEq]; (repeat refine sk ?_); refine hK _ ?_; clear hK K)
  ((repeat refine PWp.seq ?_); refine PWp.cond (by simp only [push_cast, seval, Nat.reduceEqDiff, Nat.reduceLeDiff, reduceCtorEq]; rfl) (fun hc => ?_) (fun hc => ?_))
  · have hlt : k < 256 := by have := of_decide_eq_true hc; omega
    clear hc
    have hr := range_app k
    have hu := wrapU8 (n := k) (by omega) (by omega)
    ((repeat refine PWp.seq ?_); refine PWp.skip ?_)
    ((repeat refine PWp.seq ?_); refine PWp.block ?_)
    ((repeat refine PWp.seq ?_); refine PWp.region TT (by rfl) (fun K hK => ?_); simp only [push_cast, seval, Nat.reduceEqDiff, Nat.reduceLeDiff, reduceCtorEq, hu]; (repeat refine sk ?_); refine hK _ ?_; clear hK K)
    ((repeat refine PWp.seq ?_); refine PWp.region TT (by rfl) (fun K hK => ?_); simp only [push_cast, seval, Nat.reduceEqDiff, Nat.reduceLeDiff, reduceCtorEq, wrap64_id (n := (k : Int) + 1) (by omega) (by omega)]; (repeat refine sk ?_); refine hK _ ?_; clear hK K)
    refine ⟨_, _, ?_, ⟨k + 1, rfl, by omega, rfl⟩, Gh.le (by simp [push_cast, -List.getD_eq_getElem?_getD, ← hr]) (by simp)⟩
    omega
  · have hk' : k = 256 := by have := of_decide_eq_false hc; omega
    subst hk'
    (repeat refine PWp.seq ?_); refine PWp.exit (iteT rfl ?_)
    ((repeat refine PWp.seq ?_); refine PWp.region TT (by rfl) (fun K hK => ?_); simp only [push_cast, seval, Nat.reduceEqDiff, Nat.reduceLeDiff, reduceCtorEq]; (repeat refine sk ?_); refine hK _ ?_; clear hK K)
    ((repeat refine PWp.seq ?_); refine PWp.ret ?_)
    refine ⟨.inr rfl, by omega, _, [], ?_, rfl, rfl⟩
    (simp [push_cast, -List.getD_eq_getElem?_getD])
theorem ref_in (l : List Nat) (c : Nat) (hl : l.length ≤ 1000000) : PC Try.prog 40 [iW l, iU c] [] 0 0 (fun t obs => t = iB (decide (c ∈ l)) ∧ obs = []) := by
  refine PC.body [4] Try.func40 rfl (by rfl) (Nat.le_of_ble_eq_true (by rfl)) rfl ?_; simp only [enumA]
  ((repeat refine PWp.seq ?_); refine PWp.region TT (by rfl) (fun K hK => ?_); simp only [push_cast, seval, Nat.reduceEqDiff, Nat.reduceLeDiff, reduceCtorEq]; (repeat refine sk ?_); refine hK _ ?_; clear hK K)
  ((repeat refine PWp.seq ?_); refine PWp.region TT (by rfl) (fun K hK => ?_); simp only [push_cast, seval, Nat.reduceEqDiff, Nat.reduceLeDiff, reduceCtorEq]; (repeat refine sk ?_); refine hK _ ?_; clear hK K)
  ((repeat refine PWp.seq ?_); refine PWp.block ?_)
  refine PWp.loop (fun d st => ∃ k : Nat, d = l.length - k ∧ k ≤ l.length ∧ (∀ j, j < k → l.getD j default ≠ c) ∧
    st = ⟨[(0, iW l), (1, iU c), (5, iI k)], [], 0⟩) _ _ ⟨0, rfl, Nat.zero_le _, fun j h => absurd h (Nat.not_lt_zero _), rfl⟩ (Gh.le (by simp [push_cast, -List.getD_eq_getElem?_getD]) (by simp)) ?_
  rintro d st ⟨k, rfl, hk, hne, rfl⟩
  ((repeat refine PWp.seq ?_); refine PWp.region TT (by rfl) (fun K hK => ?_); simp only [push_cast, seval, Nat.reduceEqDiff, Nat.reduceLeDiff, reduceCtorEq]; (repeat refine sk ?_); refine hK _ ?_; clear hK K)
  ((repeat refine PWp.seq ?_); refine PWp.cond (by simp only [push_cast, seval, Nat.reduceEqDiff, Nat.reduceLeDiff, reduceCtorEq]; rfl) (fun hc => ?_) (fun hc => ?_))
  · have hlt : k < l.length := by simp at hc; omega
    clear hc
    have hg : (l.map encU).getD k .any = encU (l.getD k default) := getD_map hlt
    have hmem := getD_mem hlt
    ((repeat refine PWp.seq ?_); refine PWp.skip ?_)
    ((repeat refine PWp.seq ?_); refine PWp.block ?_)
    ((repeat refine PWp.seq ?_); refine PWp.region TT (by rfl) (fun K hK => ?_); simp only [push_cast, seval, Nat.reduceEqDiff, Nat.reduceLeDiff, reduceCtorEq, hg]; (repeat refine sk ?_); refine hK _ ?_; clear hK K)
    ((repeat refine PWp.seq ?_); refine PWp.cond (by simp only [push_cast, seval, Nat.reduceEqDiff, Nat.reduceLeDiff, reduceCtorEq]; rfl) (fun hc => ?_) (fun hc => ?_))
    · have he : l.getD k default = c := by have := beq_iff_eq.1 hc; omega
      have e : decide (c ∈ l) = true := decide_eq_true (he ▸ hmem)
      ((repeat refine PWp.seq ?_); refine PWp.region TT (by rfl) (fun K hK => ?_); simp only [push_cast, seval, Nat.reduceEqDiff, Nat.reduceLeDiff, reduceCtorEq]; (repeat refine sk ?_); refine hK _ ?_; clear hK K)
      ((repeat refine PWp.seq ?_); refine PWp.ret ?_)
      refine ⟨.inr rfl, by omega, _, [], ?_, rfl, rfl⟩
      (simp [push_cast, -List.getD_eq_getElem?_getD, e])
    · have he : l.getD k default ≠ c := fun e => by rw [e] at hc; simp at hc
      ((repeat refine PWp.seq ?_); refine PWp.skip ?_)
      ((repeat refine PWp.seq ?_); refine PWp.region TT (by rfl) (fun K hK => ?_); simp only [push_cast, seval, Nat.reduceEqDiff, Nat.reduceLeDiff, reduceCtorEq, wrap64_id (n := (k : Int) + 1) (by omega) (by omega)]; (repeat refine sk ?_); refine hK _ ?_; clear hK K)
      refine ⟨_, _, ?_, ⟨k + 1, rfl, by omega, fun j hj => ?_, rfl⟩, Gh.le (by simp [push_cast, -List.getD_eq_getElem?_getD]) (by simp)⟩
      · omega
      · by_cases e : j = k
        · subst e; exact he
        · exact hne j (by omega)
  · have hk' : k = l.length := by simp at hc; omega
    subst hk'
    have e : decide (c ∈ l) = false := decide_eq_false fun h => by
      obtain ⟨i, hi, hx⟩ := List.getElem_of_mem h
      refine hne i hi ?_
      rw [List.getD_eq_getElem?_getD, List.getElem?_eq_getElem hi, hx]
      rfl
    (repeat refine PWp.seq ?_); refine PWp.exit (iteT rfl ?_)
    ((repeat refine PWp.seq ?_); refine PWp.region TT (by rfl) (fun K hK => ?_); simp only [push_cast, seval, Nat.reduceEqDiff, Nat.reduceLeDiff, reduceCtorEq]; (repeat refine sk ?_); refine hK _ ?_; clear hK K)
    ((repeat refine PWp.seq ?_); refine PWp.ret ?_)
    refine ⟨.inr rfl, by omega, _, [], ?_, rfl, rfl⟩
    (simp [push_cast, -List.getD_eq_getElem?_getD, e])
/-! ### within -/
def wiF (s : List UInt8) (n : Nat) : List Nat := (List.range n).filter (classF s).set
theorem wi_succ (s : List UInt8) (c : Nat) : (wiF s (c + 1)).map encU = (wiF s c).map encU ++ (if (classF s).set c then [encU c] else []) := by
  unfold wiF
  rw [List.range_succ, List.filter_append, List.map_append]
  congr 1
  cases h : (classF s).set c <;> simp [List.filter, h]
theorem notB_eq (s : List UInt8) : notB s = (decide (0 < (s.length : Int)) && ((s.getD 0 0).toNat : Int) == 33) := by
  cases s with
  | nil => rfl
  | cons x s =>
    rw [Bool.eq_iff_iff]
    unfold notB
    simp
    constructor
    · intro h; subst h; rfl
    · intro h; exact UInt8.toNat_inj.1 (by show _ = 33; omega)
theorem trim_not {s : List UInt8} (h : notB s = true) : trimF s [33] = s.drop 1 := by
  unfold trimF
  show (if notB s then _ else s) = _
  rw [if_pos h]
  rfl
theorem trim_no {s : List UInt8} (h : notB s = false) : trimF s [33] = s := by
  unfold trimF
  show (if notB s then _ else s) = _
  rw [if_neg (by rw [h]; decide)]
theorem wi_len (s : List UInt8) (n : Nat) : (wiF s n).length ≤ n := by
  have := List.length_filter_le (classF s).set (List.range n)
  rwa [List.length_range] at this
set_option maxHeartbeats 1000000 in
theorem ref_within (s : List UInt8) (hs : s.length ≤ 100000) : PC Try.prog 25 [iS s] [] 0 9 (fun t obs => t = iW (wiF s 256) ∧ obs = []) := by
  have hset : ∀ c, (classF s).set c = (inSp (spansF (trimF s [33])) c != notB s) := fun c => rfl
  have hne := notB_eq s
  have htl : (trimF s [33]).length ≤ s.length := by rcases trim_len s with h | h <;> omega
  refine PC.body [2] Try.func25 rfl (by rfl) (Nat.le_of_ble_eq_true (by rfl)) rfl ?_; simp only [enumA]
  ((repeat refine PWp.seq ?_); refine PWp.region TT (by rfl) (fun K hK => ?_); simp only [push_cast, seval, Nat.reduceEqDiff, Nat.reduceLeDiff, reduceCtorEq]; (repeat refine sk ?_); refine hK _ ?_; clear hK K)
  ((repeat refine PWp.seq ?_); refine PWp.region TT (by rfl) (fun K hK => ?_); simp only [push_cast, seval, Nat.reduceEqDiff, Nat.reduceLeDiff, reduceCtorEq]; (repeat refine sk ?_); refine hK _ ?_; clear hK K)
  ((repeat refine PWp.seq ?_); refine PWp.region TT (by rfl) (fun K hK => ?_); simp only [push_cast, seval, Nat.reduceEqDiff, Nat.reduceLeDiff, reduceCtorEq, ← hne]; (repeat refine sk ?_); refine hK _ ?_; clear hK K)
  refine PWp.gh (st' := ⟨[(0, iS s), (3, .acc 0 1 []), (4, iB (notB s))], [(0, .row 5 1)], 1⟩) (Gh.le (by simp [push_cast, -List.getD_eq_getElem?_getD, ← hne]) (by simp)) ?_
  clear hne
  ((repeat refine PWp.seq ?_); refine PWp.region TT (by rfl) (fun K hK => ?_); simp only [push_cast, seval, Nat.reduceEqDiff, Nat.reduceLeDiff, reduceCtorEq]; (repeat refine sk ?_); refine hK _ ?_; clear hK K)
  have hsp1 : inSp (spansF []) = fun _ => false := rfl
  cases hn : notB s
  case' false =>
    have ht := trim_no hn
    ((repeat refine PWp.seq ?_); refine PWp.cond (by simp only [push_cast, seval, Nat.reduceEqDiff, Nat.reduceLeDiff, reduceCtorEq]; rfl) (fun hc => ?_) (fun hc => ?_))
    cases hc
    ((repeat refine PWp.seq ?_); refine PWp.skip ?_)
    refine PWp.gh (st' := ⟨[(0, iS (trimF s [33])), (3, .acc 0 1 []), (4, iB (notB s))], [(0, .row 5 1)], 1⟩) (Gh.le (by simp [push_cast, -List.getD_eq_getElem?_getD, hn, ht]) (by simp)) ?_
    clear hc hn ht
  case' true =>
    have ht := trim_not hn
    have hsl : 1 ≤ s.length := by
      rcases trim_len s with h | h
      · omega
      · rw [hn] at h; cases h.1
    have ht' : (s.take s.length).drop 1 = trimF s [33] := by rw [List.take_length, ht]
    ((repeat refine PWp.seq ?_); refine PWp.cond (by simp only [push_cast, seval, Nat.reduceEqDiff, Nat.reduceLeDiff, reduceCtorEq]; rfl) (fun hc => ?_) (fun hc => ?_))
    rotate_left 1
    cases hc
    ((repeat refine PWp.seq ?_); refine PWp.region TT (by rfl) (fun K hK => ?_); simp only [push_cast, seval, Nat.reduceEqDiff, Nat.reduceLeDiff, reduceCtorEq, ht']; (repeat refine sk ?_); refine hK _ ?_; clear hK K)
    refine PWp.gh (st' := ⟨[(0, iS (trimF s [33])), (3, .acc 0 1 []), (4, iB (notB s))], [(0, .row 5 1)], 1⟩) (Gh.le (by simp [push_cast, -List.getD_eq_getElem?_getD, hn]) (by simp)) ?_
    clear hc hn ht ht' hsl
  all_goals
    generalize trimF s [33] = q at *
    generalize hnb : notB s = nb at *
    ((repeat refine PWp.seq ?_); refine PWp.region TT (by rfl) (fun K hK => ?_); simp only [push_cast, seval, Nat.reduceEqDiff, Nat.reduceLeDiff, reduceCtorEq]; (repeat refine sk ?_); refine hK _ ?_; clear hK K)
    ((repeat refine PWp.seq ?_); refine PWp.block ?_)
    refine PWp.loop (fun d st => ∃ k : Nat, d = 256 - k ∧ k ≤ 256 ∧
      st = ⟨[(0, iS q), (3, .acc 0 1 ((wiF s k).map encU)), (4, iB nb), (5, iI k)], [(0, .row 5 1)], 1⟩) _ _ ⟨0, rfl, Nat.zero_le _, rfl⟩ (Gh.le (by simp [push_cast, -List.getD_eq_getElem?_getD, wiF]) (by simp)) ?_
    rintro d st ⟨k, rfl, hk, rfl⟩
    ((repeat refine PWp.seq ?_); refine PWp.region TT (by rfl) (fun K hK => ?_); simp only [push_cast, seval, Nat.reduceEqDiff, Nat.reduceLeDiff, reduceCtorEq]; (repeat refine sk ?_); refine hK _ ?_; clear hK K)
    ((repeat refine PWp.seq ?_); refine PWp.cond (by simp only [push_cast, seval, Nat.reduceEqDiff, Nat.reduceLeDiff, reduceCtorEq]; rfl) (fun hc => ?_) (fun hc => ?_))
    · have hlt : k < 256 := by have := of_decide_eq_true hc; omega
      clear hc
      have hws := wi_succ s k
      rw [hset] at hws
      have hwl := wi_len s k
      have hu := wrapU8 (n := k) (by omega) (by omega)
      ((repeat refine PWp.seq ?_); refine PWp.skip ?_)
      ((repeat refine PWp.seq ?_); refine PWp.block ?_)
      ((repeat refine PWp.seq ?_); refine PWp.region TT (by rfl) (fun K hK => ?_); simp only [push_cast, seval, Nat.reduceEqDiff, Nat.reduceLeDiff, reduceCtorEq]; (repeat refine sk ?_); refine hK _ ?_; clear hK K)
      ((repeat refine PWp.seq ?_); refine PWp.region TT (by rfl) (fun K hK => ?_); simp only [push_cast, seval, Nat.reduceEqDiff, Nat.reduceLeDiff, reduceCtorEq]; (repeat refine sk ?_); refine hK _ ?_; clear hK K)
      ((repeat refine PWp.seq ?_); refine PWp.block ?_)
      refine PWp.loop (fun d st => ∃ (i : Nat) (b : Bool), d = q.length - i ∧ i ≤ q.length ∧ inSp (spansF q) k = (b || inSp (spansF (q.drop i)) k) ∧
        st = ⟨[(0, iS q), (3, .acc 0 1 ((wiF s k).map encU)), (4, iB nb), (5, iI k), (6, iB b), (7, iI i)], [(0, .row 5 1)], 1⟩) _ _ ⟨0, false, rfl, Nat.zero_le _, by rw [Bool.false_or]; rfl, rfl⟩ (Gh.le (by simp [push_cast, -List.getD_eq_getElem?_getD]) (by simp)) ?_
      rintro d st ⟨i, b, rfl, hi, hsp, rfl⟩
      ((repeat refine PWp.seq ?_); refine PWp.region TT (by rfl) (fun K hK => ?_); simp only [push_cast, seval, Nat.reduceEqDiff, Nat.reduceLeDiff, reduceCtorEq]; (repeat refine sk ?_); refine hK _ ?_; clear hK K)
      ((repeat refine PWp.seq ?_); refine PWp.cond (by simp only [push_cast, seval, Nat.reduceEqDiff, Nat.reduceLeDiff, reduceCtorEq]; rfl) (fun hc => ?_) (fun hc => ?_))
      · have hlt : i < q.length := by have := of_decide_eq_true hc; omega
        clear hc
        rw [drop_getD hlt] at hsp
        have hdl : (q.drop (i + 1)).length = q.length - (i + 1) := List.length_drop
        have hd0 : (q.drop (i + 1)).getD 0 default = q.getD (i + 1) default := by simp [List.getD]
        have hd1 : (q.drop (i + 1)).getD 1 default = q.getD (i + 2) default := by simp [List.getD]
        have hdd : (q.drop (i + 1)).drop 2 = q.drop (i + 3) := by rw [List.drop_drop]
        have ha := (q.getD i 0).toNat_lt
        have t1 : ((i : Int) + 1).toNat = i + 1 := by omega
        have t2 : ((i : Int) + 2).toNat = i + 2 := by omega
        have hwa := wrap64_id (n := ((q.getD i 0).toNat : Int)) (by omega) (by omega)
        have hge : decide ((k : Int) ≥ ((q.getD i 0).toNat : Int)) = decide ((q.getD i 0).toNat ≤ k) := by rw [Bool.eq_iff_iff, decide_eq_true_eq, decide_eq_true_eq]; omega
        have heq : ((k : Int) == ((q.getD i 0).toNat : Int)) = (decide ((q.getD i 0).toNat ≤ k) && decide (k ≤ (q.getD i 0).toNat)) := by rw [Bool.eq_iff_iff, beq_iff_eq, Bool.and_eq_true, decide_eq_true_eq, decide_eq_true_eq]; omega
        have hsing : ∀ sp, inSp (((q.getD i 0).toNat, (q.getD i 0).toNat) :: sp) k = ((decide ((q.getD i 0).toNat ≤ k) && decide (k ≤ (q.getD i 0).toNat)) || inSp sp k) := fun sp => rfl
        ((repeat refine PWp.seq ?_); refine PWp.skip ?_)
        ((repeat refine PWp.seq ?_); refine PWp.block ?_)
        by_cases h2 : i + 2 < q.length
        · have hd : decide ((i : Int) + 2 < (q.length : Int)) = true := decide_eq_true (by omega)
          ((repeat refine PWp.seq ?_); refine PWp.region TT (by rfl) (fun K hK => ?_); simp only [push_cast, seval, Nat.reduceEqDiff, Nat.reduceLeDiff, reduceCtorEq, hd, t1, wrap64_id (n := (i : Int) + 2) (by omega) (by omega), wrap64_id (n := (i : Int) + 1) (by omega) (by omega)]; (repeat refine sk ?_); refine hK _ ?_; clear hK K)
          ((repeat refine PWp.seq ?_); refine PWp.cond (by simp only [push_cast, seval, Nat.reduceEqDiff, Nat.reduceLeDiff, reduceCtorEq]; rfl) (fun hc => ?_) (fun hc => ?_))
          · have h45 : q.getD (i + 1) default = 45 := by
              apply UInt8.toNat_inj.1
              have := beq_iff_eq.1 hc
              show (q.getD (i + 1) 0).toNat = 45
              omega
            clear hc
            have hb := (q.getD (i + 2) 0).toNat_lt
            have hsp' : inSp (spansF q) k = ((b || (decide ((q.getD i 0).toNat ≤ k) && decide (k ≤ (q.getD (i + 2) 0).toNat))) || inSp (spansF (q.drop (i + 3))) k) := by
              rw [hsp, spans_range ⟨by omega, by rw [hd0]; exact h45⟩, hd1, hdd, Bool.or_assoc]
              rfl
            have hwb := wrap64_id (n := ((q.getD (i + 2) 0).toNat : Int)) (by omega) (by omega)
            have hle : decide ((k : Int) ≤ ((q.getD (i + 2) 0).toNat : Int)) = decide (k ≤ (q.getD (i + 2) 0).toNat) := by rw [Bool.eq_iff_iff, decide_eq_true_eq, decide_eq_true_eq]; omega
            ((repeat refine PWp.seq ?_); refine PWp.region TT (by rfl) (fun K hK => ?_); simp only [push_cast, seval, Nat.reduceEqDiff, Nat.reduceLeDiff, reduceCtorEq, t2, hwa, hwb, hge, hle, wrap64_id (n := (i : Int) + 2) (by omega) (by omega)]; (repeat refine sk ?_); refine hK _ ?_; clear hK K)
            ((repeat refine PWp.seq ?_); refine PWp.region TT (by rfl) (fun K hK => ?_); simp only [push_cast, seval, Nat.reduceEqDiff, Nat.reduceLeDiff, reduceCtorEq, wrap64_id (n := (i : Int) + 3) (by omega) (by omega)]; (repeat refine sk ?_); refine hK _ ?_; clear hK K)
            refine ⟨_, _, ?_, ⟨i + 3, _, rfl, by omega, hsp', rfl⟩, Gh.le (by simp [push_cast, -List.getD_eq_getElem?_getD]) (by simp)⟩
            omega
          · have h45 : q.getD (i + 1) default ≠ 45 := fun e => by
              have e' : q.getD (i + 1) 0 = 45 := e
              rw [e'] at hc
              cases hc
            clear hc
            have hsp' : inSp (spansF q) k = ((b || (decide ((q.getD i 0).toNat ≤ k) && decide (k ≤ (q.getD i 0).toNat))) || inSp (spansF (q.drop (i + 1))) k) := by
              rw [hsp, spans_single fun h => h45 (by rw [← hd0]; exact h.2), Bool.or_assoc]
              rfl
            ((repeat refine PWp.seq ?_); refine PWp.region TT (by rfl) (fun K hK => ?_); simp only [push_cast, seval, Nat.reduceEqDiff, Nat.reduceLeDiff, reduceCtorEq, hwa, heq]; (repeat refine sk ?_); refine hK _ ?_; clear hK K)
            ((repeat refine PWp.seq ?_); refine PWp.region TT (by rfl) (fun K hK => ?_); simp only [push_cast, seval, Nat.reduceEqDiff, Nat.reduceLeDiff, reduceCtorEq, wrap64_id (n := (i : Int) + 1) (by omega) (by omega)]; (repeat refine sk ?_); refine hK _ ?_; clear hK K)
            refine ⟨_, _, ?_, ⟨i + 1, _, rfl, by omega, hsp', rfl⟩, Gh.le (by simp [push_cast, -List.getD_eq_getElem?_getD]) (by simp)⟩
            omega
        · have hd : decide ((i : Int) + 2 < (q.length : Int)) = false := decide_eq_false (by omega)
          have hsp' : inSp (spansF q) k = ((b || (decide ((q.getD i 0).toNat ≤ k) && decide (k ≤ (q.getD i 0).toNat))) || inSp (spansF (q.drop (i + 1))) k) := by
            rw [hsp, spans_single fun h => by omega, Bool.or_assoc]
            rfl
          ((repeat refine PWp.seq ?_); refine PWp.region TT (by rfl) (fun K hK => ?_); simp only [push_cast, seval, Nat.reduceEqDiff, Nat.reduceLeDiff, reduceCtorEq, hd, wrap64_id (n := (i : Int) + 2) (by omega) (by omega)]; (repeat refine sk ?_); refine hK _ ?_; clear hK K)
          ((repeat refine PWp.seq ?_); refine PWp.cond (by simp only [push_cast, seval, Nat.reduceEqDiff, Nat.reduceLeDiff, reduceCtorEq]; rfl) (fun hc => ?_) (fun hc => ?_))
          · cases hc
          · clear hc
            ((repeat refine PWp.seq ?_); refine PWp.region TT (by rfl) (fun K hK => ?_); simp only [push_cast, seval, Nat.reduceEqDiff, Nat.reduceLeDiff, reduceCtorEq, hwa, heq]; (repeat refine sk ?_); refine hK _ ?_; clear hK K)
            ((repeat refine PWp.seq ?_); refine PWp.region TT (by rfl) (fun K hK => ?_); simp only [push_cast, seval, Nat.reduceEqDiff, Nat.reduceLeDiff, reduceCtorEq, wrap64_id (n := (i : Int) + 1) (by omega) (by omega)]; (repeat refine sk ?_); refine hK _ ?_; clear hK K)
            refine ⟨_, _, ?_, ⟨i + 1, _, rfl, by omega, hsp', rfl⟩, Gh.le (by simp [push_cast, -List.getD_eq_getElem?_getD]) (by simp)⟩
            omega
      · have hi' : i = q.length := by have := of_decide_eq_false hc; omega
        subst hi'
        clear hc
        rw [List.drop_length] at hsp
        have hb : inSp (spansF q) k = b := by rw [hsp, hsp1, Bool.or_false]
        rw [hb] at hws
        (repeat refine PWp.seq ?_); refine PWp.exit (iteT rfl ?_)
        ((repeat refine PWp.seq ?_); refine PWp.region TT (by rfl) (fun K hK => ?_); simp only [push_cast, seval, Nat.reduceEqDiff, Nat.reduceLeDiff, reduceCtorEq]; (repeat refine sk ?_); refine hK _ ?_; clear hK K)
        cases hx : (b != nb) with
        | true =>
          rw [hx, if_pos rfl] at hws
          ((repeat refine PWp.seq ?_); refine PWp.cond (by simp only [push_cast, seval, Nat.reduceEqDiff, Nat.reduceLeDiff, reduceCtorEq]; rfl) (fun hc => ?_) (fun hc => ?_))
          · ((repeat refine PWp.seq ?_); refine PWp.region TT (by rfl) (fun K hK => ?_); simp only [push_cast, seval, Nat.reduceEqDiff, Nat.reduceLeDiff, reduceCtorEq, hu]; (repeat refine sk ?_); refine hK _ ?_; clear hK K)
            ((repeat refine PWp.seq ?_); refine PWp.region TT (by rfl) (fun K hK => ?_); simp only [push_cast, seval, Nat.reduceEqDiff, Nat.reduceLeDiff, reduceCtorEq, wrap64_id (n := (k : Int) + 1) (by omega) (by omega)]; (repeat refine sk ?_); refine hK _ ?_; clear hK K)
            refine ⟨_, _, ?_, ⟨k + 1, rfl, by omega, rfl⟩, Gh.le (by simp [push_cast, -List.getD_eq_getElem?_getD, hws]) (by simp)⟩
            omega
          · have hx' : (!(b == nb)) = true := hx
            rw [hx'] at hc
            cases hc
        | false =>
          rw [hx, if_neg (by decide), List.append_nil] at hws
          ((repeat refine PWp.seq ?_); refine PWp.cond (by simp only [push_cast, seval, Nat.reduceEqDiff, Nat.reduceLeDiff, reduceCtorEq]; rfl) (fun hc => ?_) (fun hc => ?_))
          · have hx' : (!(b == nb)) = false := hx
            rw [hx'] at hc
            cases hc
          · ((repeat refine PWp.seq ?_); refine PWp.skip ?_)
            ((repeat refine PWp.seq ?_); refine PWp.region TT (by rfl) (fun K hK => ?_); simp only [push_cast, seval, Nat.reduceEqDiff, Nat.reduceLeDiff, reduceCtorEq, wrap64_id (n := (k : Int) + 1) (by omega) (by omega)]; (repeat refine sk ?_); refine hK _ ?_; clear hK K)
            refine ⟨_, _, ?_, ⟨k + 1, rfl, by omega, rfl⟩, Gh.le (by simp [push_cast, -List.getD_eq_getElem?_getD, hws]) (by simp)⟩
            omega
    · have hk' : k = 256 := by have := of_decide_eq_false hc; omega
      subst hk'
      (repeat refine PWp.seq ?_); refine PWp.exit (iteT rfl ?_)
      ((repeat refine PWp.seq ?_); refine PWp.region TT (by rfl) (fun K hK => ?_); simp only [push_cast, seval, Nat.reduceEqDiff, Nat.reduceLeDiff, reduceCtorEq]; (repeat refine sk ?_); refine hK _ ?_; clear hK K)
      ((repeat refine PWp.seq ?_); refine PWp.ret ?_)
      refine ⟨.inr rfl, by omega, _, [], ?_, rfl, rfl⟩
      (simp [push_cast, -List.getD_eq_getElem?_getD])
end Go.Proofs.Ytjlnialglahdoaa
