/- Several texts in one: A1, A2, A3, A4, A5, A6, A7, A8. -/
import Derived.Test.YtmocgjimlhgejaaU15
namespace Go.Proofs.Ytmocgjimlhgejaa
open Go.PL
set_option maxRecDepth 100000
set_option linter.unusedSimpArgs false
set_option linter.unusedVariables false
def encP (p : Int × Int) : IV := .agg [.lit (.int .i64 p.1), .lit (.int .i64 p.2)]
def toI (p : List (Int × Int)) (i : Int) : Option Int := (p.find? (fun q => q.1 == i)).map (·.2)
attribute [push_cast] encP
theorem toI_none {p : List (Int × Int)} {i : Int} (h : ∀ j < p.length, (p.getD j default).1 ≠ i) : toI p i = none := by
  unfold toI
  rw [List.find?_eq_none.2]; rfl
  intro q hq
  obtain ⟨j, hj⟩ := List.getElem?_of_mem hq
  have hlt := (List.getElem?_eq_some_iff.1 hj).1
  have := h j hlt
  rw [List.getD_eq_getElem?_getD, hj] at this
  simpa using this
theorem toI_some {p : List (Int × Int)} {i : Int} {k : Nat} (hk : k < p.length) (h : ∀ j < k, (p.getD j default).1 ≠ i) (he : (p.getD k default).1 = i) : toI p i = some (p.getD k default).2 := by
  unfold toI
  have : p.find? (fun q => q.1 == i) = some (p.getD k default) := by
    have e : p.getD k default = p[k] := by simp [List.getD, hk]
    rw [List.find?_eq_some_iff_getElem]
    refine ⟨by simpa using he, k, hk, e.symm, fun j hj => ?_⟩
    have := h j hj
    rw [List.getD_eq_getElem?_getD, List.getElem?_eq_getElem (by omega)] at this
    simpa using this
  rw [this]; rfl

theorem ref12_To (p : List (Int × Int)) (i : Int) (hp : p.length ≤ 1000000) : PC Try.prog 50 [.iv (.sl 2 (p.map encP)), .iv (.lit (.int .i64 i))] [] 0 0 (fun t obs => t = .tup [.iv (.lit (.int .i64 ((toI p i).getD 0))), .iv (.lit (.bool (toI p i).isSome))] ∧ obs = []) := by
  refine PC.body [4, 5] Try.func50 rfl (by rfl) (Nat.le_of_ble_eq_true (by rfl)) rfl ?_; simp only [enumA]
  ((repeat refine PWp.seq ?_); refine PWp.region TT (by rfl) (fun K hK => ?_); simp only [push_cast, seval, Nat.reduceEqDiff, Nat.reduceLeDiff, reduceCtorEq]; (repeat refine sk ?_); refine hK _ ?_; clear hK K)
  ((repeat refine PWp.seq ?_); refine PWp.region TT (by rfl) (fun K hK => ?_); simp only [push_cast, seval, Nat.reduceEqDiff, Nat.reduceLeDiff, reduceCtorEq]; (repeat refine sk ?_); refine hK _ ?_; clear hK K)
  ((repeat refine PWp.seq ?_); refine PWp.block ?_)
  refine PWp.loop (fun m st => ∃ k : Nat, m = p.length - k ∧ k ≤ p.length ∧ (∀ j < k, (p.getD j default).1 ≠ i) ∧ st = ⟨[(0, .iv (.sl 2 (p.map encP))), (1, .iv (.lit (.int .i64 i))), (6, .iv (.lit (.int .i64 k)))], [], 0⟩) _ _ ⟨0, rfl, Nat.zero_le _, by simp, rfl⟩ (Gh.le (by simp [push_cast, -List.getD_eq_getElem?_getD]) (by simp)) ?_
  rintro m st ⟨k, rfl, hk, hf, rfl⟩
  ((repeat refine PWp.seq ?_); refine PWp.region TT (by rfl) (fun K hK => ?_); simp only [push_cast, seval, Nat.reduceEqDiff, Nat.reduceLeDiff, reduceCtorEq]; (repeat refine sk ?_); refine hK _ ?_; clear hK K)
  ((repeat refine PWp.seq ?_); refine PWp.cond (by simp only [push_cast, seval, Nat.reduceEqDiff, Nat.reduceLeDiff, reduceCtorEq]; rfl) (fun hc => ?_) (fun hc => ?_))
  · have hlt : k < p.length := by simpa using hc
    ((repeat refine PWp.seq ?_); refine PWp.skip ?_)
    ((repeat refine PWp.seq ?_); refine PWp.block ?_)
    ((repeat refine PWp.seq ?_); refine PWp.region TT (by rfl) (fun K hK => ?_); simp only [push_cast, seval, Nat.reduceEqDiff, Nat.reduceLeDiff, reduceCtorEq, getD_map hlt]; (repeat refine sk ?_); refine hK _ ?_; clear hK K)
    ((repeat refine PWp.seq ?_); refine PWp.cond (by simp only [push_cast, seval, Nat.reduceEqDiff, Nat.reduceLeDiff, reduceCtorEq]; rfl) (fun hc => ?_) (fun hc => ?_))
    · have he : (p.getD k default).1 = i := by simpa using hc
      ((repeat refine PWp.seq ?_); refine PWp.region TT (by rfl) (fun K hK => ?_); simp only [push_cast, seval, Nat.reduceEqDiff, Nat.reduceLeDiff, reduceCtorEq, getD_map hlt]; (repeat refine sk ?_); refine hK _ ?_; clear hK K)
      ((repeat refine PWp.seq ?_); refine PWp.ret ?_)
      refine ⟨.inr rfl, Nat.le_refl _, _, [], ?_, rfl, rfl⟩
      rw [toI_some hlt hf he]
      (simp [push_cast, -List.getD_eq_getElem?_getD])
    · ((repeat refine PWp.seq ?_); refine PWp.skip ?_)
      ((repeat refine PWp.seq ?_); refine PWp.region TT (by rfl) (fun K hK => ?_); simp only [push_cast, seval, Nat.reduceEqDiff, Nat.reduceLeDiff, reduceCtorEq, wrap64_id (n := (k : Int) + 1) (by omega) (by omega)]; (repeat refine sk ?_); refine hK _ ?_; clear hK K)
      refine ⟨_, _, ?_, ⟨k + 1, rfl, by omega, fun j hj => ?_, rfl⟩, Gh.le (by simp [push_cast, -List.getD_eq_getElem?_getD]) (by simp)⟩
      · omega
      · by_cases e : j = k
        · subst e; simpa using hc
        · exact hf j (by omega)
  · have hk' : k = p.length := by simp at hc; omega
    subst hk'
    (repeat refine PWp.seq ?_); refine PWp.exit (iteT rfl ?_)
    ((repeat refine PWp.seq ?_); refine PWp.region TT (by rfl) (fun K hK => ?_); simp only [push_cast, seval, Nat.reduceEqDiff, Nat.reduceLeDiff, reduceCtorEq]; (repeat refine sk ?_); refine hK _ ?_; clear hK K)
    ((repeat refine PWp.seq ?_); refine PWp.ret ?_)
    refine ⟨.inr rfl, Nat.le_refl _, _, [], ?_, rfl, rfl⟩
    rw [toI_none hf]
    (simp [push_cast, -List.getD_eq_getElem?_getD])
set_option maxRecDepth 100000
set_option linter.unusedSimpArgs false
set_option linter.unusedVariables false
attribute [push_cast] List.contains_cons List.contains_nil
/-- What of a place of pairs is right. -/
def rPt (p : List (Int × Int)) (n m : Int) (k : Nat) : Prop :=
  (0 ≤ (p.getD k default).1 ∧ (p.getD k default).1 < n ∧ 0 ≤ (p.getD k default).2 ∧ (p.getD k default).2 < m) ∧
  (0 < k → (p.getD (k - 1) default).1 < (p.getD k default).1 ∧ (p.getD (k - 1) default).2 < (p.getD k default).2)
instance (p : List (Int × Int)) (n m : Int) (k : Nat) : Decidable (rPt p n m k) := by unfold rPt; infer_instance
def rRight (p : List (Int × Int)) (n m : Int) : Bool := decide (∀ k < p.length, rPt p n m k)

theorem ref12_Right (p : List (Int × Int)) (n m : Int) (hp : p.length ≤ 1000000) : PC Try.prog 45 [.iv (.sl 2 (p.map encP)), .iv (.lit (.int .i64 n)), .iv (.lit (.int .i64 m))] [] 0 0 (fun t obs => t = .iv (.lit (.bool (rRight p n m))) ∧ obs = []) := by
  refine PC.body [6] Try.func45 rfl (by rfl) (Nat.le_of_ble_eq_true (by rfl)) rfl ?_; simp only [enumA]
  ((repeat refine PWp.seq ?_); refine PWp.region TT (by rfl) (fun K hK => ?_); simp only [push_cast, seval, Nat.reduceEqDiff, Nat.reduceLeDiff, reduceCtorEq]; (repeat refine sk ?_); refine hK _ ?_; clear hK K)
  ((repeat refine PWp.seq ?_); refine PWp.region TT (by rfl) (fun K hK => ?_); simp only [push_cast, seval, Nat.reduceEqDiff, Nat.reduceLeDiff, reduceCtorEq]; (repeat refine sk ?_); refine hK _ ?_; clear hK K)
  ((repeat refine PWp.seq ?_); refine PWp.block ?_)
  refine PWp.loop (fun c st => ∃ k : Nat, c = p.length - k ∧ k ≤ p.length ∧ (∀ j < k, rPt p n m j) ∧ st = ⟨[(0, .iv (.sl 2 (p.map encP))), (1, .iv (.lit (.int .i64 n))), (2, .iv (.lit (.int .i64 m))), (7, .iv (.lit (.int .i64 k)))], [], 0⟩) _ _ ⟨0, rfl, Nat.zero_le _, by simp, rfl⟩ (Gh.le (by simp [push_cast, -List.getD_eq_getElem?_getD]) (by simp)) ?_
  rintro c st ⟨k, rfl, hk, hf, rfl⟩
  ((repeat refine PWp.seq ?_); refine PWp.region TT (by rfl) (fun K hK => ?_); simp only [push_cast, seval, Nat.reduceEqDiff, Nat.reduceLeDiff, reduceCtorEq]; (repeat refine sk ?_); refine hK _ ?_; clear hK K)
  ((repeat refine PWp.seq ?_); refine PWp.cond (by simp only [push_cast, seval, Nat.reduceEqDiff, Nat.reduceLeDiff, reduceCtorEq]; rfl) (fun hc => ?_) (fun hc => ?_))
  · have hlt : k < p.length := by simpa using hc
    ((repeat refine PWp.seq ?_); refine PWp.skip ?_)
    ((repeat refine PWp.seq ?_); refine PWp.block ?_)
    ((repeat refine PWp.seq ?_); refine PWp.region TT (by rfl) (fun K hK => ?_); simp only [push_cast, seval, Nat.reduceEqDiff, Nat.reduceLeDiff, reduceCtorEq, getD_map hlt]; (repeat refine sk ?_); refine hK _ ?_; clear hK K)
    ((repeat refine PWp.seq ?_); refine PWp.cond (by simp only [push_cast, seval, Nat.reduceEqDiff, Nat.reduceLeDiff, reduceCtorEq]; rfl) (fun hc => ?_) (fun hc => ?_))
    · have hbad : ¬ rPt p n m k := by
        simp only [Bool.or_eq_true, Bool.and_eq_true, Bool.not_eq_true', Bool.not_eq_false', Bool.or_eq_false_iff, Bool.and_eq_false_iff, decide_eq_true_eq, decide_eq_false_iff_not, beq_iff_eq, beq_eq_false_iff_ne, bne_iff_ne, bne_eq_false_iff_eq, ne_eq, Classical.not_not, Int.not_lt, Int.not_le, ge_iff_le, gt_iff_lt] at hc
        unfold rPt
        omega
      ((repeat refine PWp.seq ?_); refine PWp.region TT (by rfl) (fun K hK => ?_); simp only [push_cast, seval, Nat.reduceEqDiff, Nat.reduceLeDiff, reduceCtorEq]; (repeat refine sk ?_); refine hK _ ?_; clear hK K)
      ((repeat refine PWp.seq ?_); refine PWp.ret ?_)
      refine ⟨.inr rfl, Nat.le_refl _, _, [], ?_, rfl, rfl⟩
      rw [show rRight p n m = false from decide_eq_false (fun h => hbad (h k hlt))]
      (simp [push_cast, -List.getD_eq_getElem?_getD])
    · ((repeat refine PWp.seq ?_); refine PWp.skip ?_)
      have hlt' : k - 1 < p.length := by omega
      have hw : IntKind.i64.wrap ((k : Int) - 1) = (k : Int) - 1 := wrap64_id (by omega) (by omega)
      have ht : ((k : Int) - 1).toNat = k - 1 := by omega
      simp only [Bool.or_eq_true, Bool.and_eq_true, Bool.not_eq_true', Bool.not_eq_false', Bool.or_eq_false_iff, Bool.and_eq_false_iff, decide_eq_true_eq, decide_eq_false_iff_not, beq_iff_eq, beq_eq_false_iff_ne, bne_iff_ne, bne_eq_false_iff_eq, ne_eq, Classical.not_not, Int.not_lt, Int.not_le, ge_iff_le, gt_iff_lt] at hc
      have hc0 := hc
      clear hc
      ((repeat refine PWp.seq ?_); refine PWp.draw TT (by kernel_rfl) (by kernel_rfl) (by rfl) (by rfl) (fun K hK => ?_); simp only [push_cast, seval, Nat.reduceEqDiff, Nat.reduceLeDiff, reduceCtorEq, hw, ht, getD_map hlt, getD_map hlt']; (repeat refine sk ?_); refine hK _ ?_; clear hK K)
      ((repeat refine PWp.seq ?_); refine PWp.cond (by simp only [push_cast, seval, Nat.reduceEqDiff, Nat.reduceLeDiff, reduceCtorEq]; rfl) (fun hc => ?_) (fun hc => ?_))
      · have hbad : ¬ rPt p n m k := by
          simp only [Bool.or_eq_true, Bool.and_eq_true, Bool.not_eq_true', Bool.not_eq_false', Bool.or_eq_false_iff, Bool.and_eq_false_iff, decide_eq_true_eq, decide_eq_false_iff_not, beq_iff_eq, beq_eq_false_iff_ne, bne_iff_ne, bne_eq_false_iff_eq, ne_eq, Classical.not_not, Int.not_lt, Int.not_le, ge_iff_le, gt_iff_lt] at hc
          unfold rPt
          omega
        ((repeat refine PWp.seq ?_); refine PWp.region TT (by rfl) (fun K hK => ?_); simp only [push_cast, seval, Nat.reduceEqDiff, Nat.reduceLeDiff, reduceCtorEq]; (repeat refine sk ?_); refine hK _ ?_; clear hK K)
        ((repeat refine PWp.seq ?_); refine PWp.ret ?_)
        refine ⟨.inr rfl, Nat.le_refl _, _, [], ?_, rfl, rfl⟩
        rw [show rRight p n m = false from decide_eq_false (fun h => hbad (h k hlt))]
        (simp [push_cast, -List.getD_eq_getElem?_getD])
      · have hgood : rPt p n m k := by
          simp only [Bool.or_eq_true, Bool.and_eq_true, Bool.not_eq_true', Bool.not_eq_false', Bool.or_eq_false_iff, Bool.and_eq_false_iff, decide_eq_true_eq, decide_eq_false_iff_not, beq_iff_eq, beq_eq_false_iff_ne, bne_iff_ne, bne_eq_false_iff_eq, ne_eq, Classical.not_not, Int.not_lt, Int.not_le, ge_iff_le, gt_iff_lt] at hc
          unfold rPt
          omega
        ((repeat refine PWp.seq ?_); refine PWp.skip ?_)
        ((repeat refine PWp.seq ?_); refine PWp.region TT (by rfl) (fun K hK => ?_); simp only [push_cast, seval, Nat.reduceEqDiff, Nat.reduceLeDiff, reduceCtorEq, wrap64_id (n := (k : Int) + 1) (by omega) (by omega)]; (repeat refine sk ?_); refine hK _ ?_; clear hK K)
        refine ⟨_, _, ?_, ⟨k + 1, rfl, by omega, fun j hj => ?_, rfl⟩, Gh.le (by simp [push_cast, -List.getD_eq_getElem?_getD]) (by simp)⟩
        · omega
        · by_cases e : j = k
          · subst e; exact hgood
          · exact hf j (by omega)
  · have hk' : k = p.length := by simp at hc; omega
    subst hk'
    (repeat refine PWp.seq ?_); refine PWp.exit (iteT rfl ?_)
    ((repeat refine PWp.seq ?_); refine PWp.region TT (by rfl) (fun K hK => ?_); simp only [push_cast, seval, Nat.reduceEqDiff, Nat.reduceLeDiff, reduceCtorEq]; (repeat refine sk ?_); refine hK _ ?_; clear hK K)
    ((repeat refine PWp.seq ?_); refine PWp.ret ?_)
    refine ⟨.inr rfl, Nat.le_refl _, _, [], ?_, rfl, rfl⟩
    have : rRight p n m = true := by unfold rRight; simpa using hf
    rw [this]
    (simp [push_cast, -List.getD_eq_getElem?_getD])
set_option maxRecDepth 100000
set_option linter.unusedSimpArgs false
set_option linter.unusedVariables false

/-- Where a number is the first one of a pair. -/
def idx1 (p : List (Int × Int)) (i : Int) : Int := match p.findIdx? (fun q => q.1 == i) with | some k => k | none => -1
theorem idx1_none {p : List (Int × Int)} {i : Int} (h : ∀ j < p.length, (p.getD j default).1 ≠ i) : idx1 p i = -1 := by
  unfold idx1
  rw [List.findIdx?_eq_none_iff.2]
  intro q hq
  obtain ⟨j, hj⟩ := List.getElem?_of_mem hq
  have hlt := (List.getElem?_eq_some_iff.1 hj).1
  have := h j hlt
  rw [List.getD_eq_getElem?_getD, hj] at this
  simpa using this
theorem idx1_some {p : List (Int × Int)} {i : Int} {k : Nat} (hk : k < p.length) (h : ∀ j < k, (p.getD j default).1 ≠ i) (he : (p.getD k default).1 = i) : idx1 p i = k := by
  have e : p.findIdx? (fun q => q.1 == i) = some k := by
    refine (List.findIdx?_eq_some_iff_getElem).2 ⟨hk, ?_, fun j hj => ?_⟩
    · simpa [List.getD, hk] using he
    · have := h j hj
      simpa [List.getD, show j < p.length by omega] using this
  unfold idx1
  rw [e]
theorem idx1_toI (p : List (Int × Int)) (i : Int) : (idx1 p i = -1 ∧ toI p i = none) ∨ ∃ k : Nat, idx1 p i = k ∧ k < p.length ∧ toI p i = some (p.getD k default).2 := by
  cases h : p.findIdx? (fun q => q.1 == i) with
  | none =>
    refine .inl ⟨by unfold idx1; rw [h], toI_none fun j hj => ?_⟩
    have := (List.findIdx?_eq_none_iff.1 h) p[j] (List.getElem_mem hj)
    simpa [List.getD, hj] using this
  | some k =>
    obtain ⟨hk, h1, h2⟩ := (List.findIdx?_eq_some_iff_getElem).1 h
    refine .inr ⟨k, by unfold idx1; rw [h], hk, toI_some hk (fun j hj => ?_) ?_⟩
    · have := h2 j hj
      simpa [List.getD, show j < p.length by omega] using this
    · simpa [List.getD, hk] using h1

theorem lt_of_right {p : List (Int × Int)} {n m : Int} (h : rRight p n m = true) : ∀ (k j : Nat), j < k → k < p.length → (p.getD j default).1 < (p.getD k default).1 ∧ (p.getD j default).2 < (p.getD k default).2
  | 0, j, hj, _ => by omega
  | k + 1, j, hj, hk => by
    have := ((of_decide_eq_true h) (k + 1) hk).2 (by omega)
    simp only [Nat.add_sub_cancel] at this
    by_cases e : j = k
    · subst e; exact this
    · have ih := lt_of_right h k j (by omega) (by omega)
      omega
theorem toI_of_right {p : List (Int × Int)} {n m : Int} (h : rRight p n m = true) {k : Nat} (hk : k < p.length) : toI p (p.getD k default).1 = some (p.getD k default).2 :=
  toI_some hk (fun j hj e => by have := (lt_of_right h k j hj hk).1; omega) rfl
structure Ck where
  s : Bool
  o : Int
  on : Int
  a : Int
  an : Int
  b : Int
  bn : Int
  deriving DecidableEq, Inhabited
def encC (c : Ck) : IV := .agg [.lit (.bool c.s), .lit (.int .i64 c.o), .lit (.int .i64 c.on), .lit (.int .i64 c.a), .lit (.int .i64 c.an), .lit (.int .i64 c.b), .lit (.int .i64 c.bn)]
attribute [push_cast] encC
/-- How far a test holds. -/
def runF (p : Nat → Bool) : Nat → Nat → Nat
  | 0, n => n
  | f + 1, n => if p n then runF p f (n + 1) else n
theorem runF_eq (p : Nat → Bool) : ∀ (d f n : Nat), d ≤ f → (∀ j, n ≤ j → j < n + d → p j = true) → (p (n + d) = false ∨ d = f) → runF p f n = n + d
  | 0, 0, n, _, _, _ => rfl
  | 0, f + 1, n, _, _, h => by
    have h : p n = false := by
      rcases h with h | h
      · exact h
      · omega
    simp [runF, h]
  | d + 1, 0, n, hd, _, _ => by omega
  | d + 1, f + 1, n, hd, hp, h => by
    have hn := hp n (Nat.le_refl _) (by omega)
    rw [runF, if_pos hn, runF_eq p d f (n + 1) (by omega) (fun j h1 h2 => hp j (by omega) (by omega)) (by
      rcases h with h | h
      · left; rw [← h]; congr 1; omega
      · right; omega)]
    omega
theorem runF_spec (p : Nat → Bool) : ∀ (f n : Nat), n ≤ runF p f n ∧ runF p f n ≤ n + f ∧ (∀ j, n ≤ j → j < runF p f n → p j = true) ∧ (runF p f n < n + f → p (runF p f n) = false)
  | 0, n => by simp [runF]; omega
  | f + 1, n => by
    obtain ⟨h1, h2, h3, h4⟩ := runF_spec p f (n + 1)
    unfold runF
    cases hp : p n
    · simp [hp]; omega
    · simp only [if_true]
      refine ⟨by omega, by omega, fun j hj hl => ?_, fun h => h4 (by omega)⟩
      by_cases e : j = n
      · subst e; exact hp
      · exact h3 j (by omega) hl
/-- Is the n-th line from a place on the same? -/
def hit (oa ob : List (Int × Int)) (o a b : Int) (n : Nat) : Bool := decide (toI oa (o + n) = some (a + n)) && decide (toI ob (o + n) = some (b + n))
def runN (oa ob : List (Int × Int)) (o a b : Int) : Nat := runF (hit oa ob o a b) oa.length 0
theorem toI_mem {p : List (Int × Int)} {i j : Int} (h : toI p i = some j) : ∃ k, k < p.length ∧ (p.getD k default).1 = i ∧ (p.getD k default).2 = j := by
  unfold toI at h
  obtain ⟨q, hq, rfl⟩ := Option.map_eq_some_iff.1 h
  have h1 := List.mem_of_find?_eq_some hq
  have h2 := List.find?_some hq
  obtain ⟨k, hk⟩ := List.getElem?_of_mem h1
  have hlt := (List.getElem?_eq_some_iff.1 hk).1
  refine ⟨k, hlt, ?_, ?_⟩ <;> rw [List.getD_eq_getElem?_getD, hk]
  · simpa using h2
  · rfl
theorem pigeon {p : List (Int × Int)} {n m : Int} (h : rRight p n m = true) (o : Int) : ∀ d : Nat, (∀ j : Nat, j ≤ d → (toI p (o + j)).isSome = true) → ∃ k, d ≤ k ∧ k < p.length ∧ (p.getD k default).1 = o + d
  | 0, hs => by
    obtain ⟨v, hv⟩ := Option.isSome_iff_exists.1 (hs 0 (Nat.le_refl _))
    obtain ⟨k, h1, h2, _⟩ := toI_mem hv
    exact ⟨k, Nat.zero_le _, h1, by simpa using h2⟩
  | d + 1, hs => by
    obtain ⟨k, h1, h2, h3⟩ := pigeon h o d (fun j hj => hs j (by omega))
    obtain ⟨v, hv⟩ := Option.isSome_iff_exists.1 (hs (d + 1) (Nat.le_refl _))
    obtain ⟨k', h1', h2', _⟩ := toI_mem hv
    refine ⟨k', ?_, h1', by simpa using h2'⟩
    rcases Nat.lt_trichotomy k k' with hlt | rfl | hlt
    · omega
    · rw [h3] at h2'; push_cast at h2'; omega
    · have := (lt_of_right h k k' hlt h2).1
      rw [h3, h2'] at this
      push_cast at this
      omega
/-- A run has an end. -/
theorem miss {oa ob : List (Int × Int)} {n m : Int} (h : rRight oa n m = true) (o a b : Int) : ∃ d : Nat, d ≤ oa.length ∧ hit oa ob o a b d = false := by
  refine Classical.byContradiction fun hn => ?_
  have hall : ∀ d : Nat, d ≤ oa.length → hit oa ob o a b d = true := fun d hd => by
    cases hh : hit oa ob o a b d
    · exact absurd ⟨d, hd, hh⟩ hn
    · rfl
  obtain ⟨k, h1, h2, _⟩ := pigeon h o oa.length (fun j hj => by
    have := hall j hj
    simp only [hit, Bool.and_eq_true, decide_eq_true_eq] at this
    rw [this.1]; rfl)
  omega

theorem hit_of {oa ob : List (Int × Int)} {o a b : Int} {k : Nat} (h : (toI oa (o + k)).isSome = true ∧ (toI ob (o + k)).isSome = true ∧ (toI oa (o + k)).getD 0 = a + k ∧ (toI ob (o + k)).getD 0 = b + k) : hit oa ob o a b k = true := by
  obtain ⟨h1, h2, h3, h4⟩ := h
  obtain ⟨u, hu⟩ := Option.isSome_iff_exists.1 h1
  obtain ⟨v, hv⟩ := Option.isSome_iff_exists.1 h2
  rw [hu] at h3
  rw [hv] at h4
  simp at h3 h4
  simp [hit, hu, hv, h3, h4]
theorem miss_of {oa ob : List (Int × Int)} {o a b : Int} {k : Nat} (h : (toI oa (o + k)).isSome = false ∨ (toI ob (o + k)).isSome = false ∨ (toI oa (o + k)).getD 0 ≠ a + k ∨ (toI ob (o + k)).getD 0 ≠ b + k) : hit oa ob o a b k = false := by
  rw [← Bool.not_eq_true]
  intro hh
  simp only [hit, Bool.and_eq_true, decide_eq_true_eq] at hh
  rw [hh.1, hh.2] at h
  simp at h
/-- Places are small. -/
def sm (x : Int) : Prop := -1000000 ≤ x ∧ x ≤ 1000000
theorem ref13_Run (oa ob : List (Int × Int)) (c : Ck) (ha : oa.length ≤ 1000000) (hb : ob.length ≤ 1000000) (ho : sm c.o) (hca : sm c.a) (hcb : sm c.b) : PC Try.prog 46 [.iv (.sl 2 (oa.map encP)), .iv (.sl 2 (ob.map encP)), .iv (encC c)] [] 0 0
    (fun t obs => t = .iv (.lit (.int .i64 (runN oa ob c.o c.a c.b))) ∧ obs = []) := by
  unfold sm at ho hca hcb
  refine PC.body [6] Try.func46 rfl (by rfl) (Nat.le_of_ble_eq_true (by rfl)) rfl ?_; simp only [enumA]
  ((repeat refine PWp.seq ?_); refine PWp.region TT (by rfl) (fun K hK => ?_); simp only [push_cast, seval, Nat.reduceEqDiff, Nat.reduceLeDiff, reduceCtorEq]; (repeat refine sk ?_); refine hK _ ?_; clear hK K)
  ((repeat refine PWp.seq ?_); refine PWp.region TT (by rfl) (fun K hK => ?_); simp only [push_cast, seval, Nat.reduceEqDiff, Nat.reduceLeDiff, reduceCtorEq]; (repeat refine sk ?_); refine hK _ ?_; clear hK K)
  ((repeat refine PWp.seq ?_); refine PWp.block ?_)
  refine PWp.loop (fun cc st => ∃ k : Nat, cc = oa.length + 1 - k ∧ k ≤ oa.length + 1 ∧ (∀ j < k, hit oa ob c.o c.a c.b j = true) ∧
    st = ⟨[(0, .iv (.sl 2 (oa.map encP))), (1, .iv (.sl 2 (ob.map encP))), (5, .bptr 0 0), (7, .iv (.lit (.int .i64 k)))], [(0, .box 52 ([.iv (.lit (.bool c.s)), .iv (.lit (.int .i64 c.o)), .iv (.lit (.int .i64 c.on)), .iv (.lit (.int .i64 c.a)), .iv (.lit (.int .i64 c.an)), .iv (.lit (.int .i64 c.b)), .iv (.lit (.int .i64 c.bn))]))], 1⟩) _ _ ⟨0, rfl, Nat.zero_le _, by simp, rfl⟩ (Gh.le (by simp [push_cast, -List.getD_eq_getElem?_getD]) (by simp)) ?_
  rintro cc st ⟨k, rfl, hk, hf, rfl⟩
  ((repeat refine PWp.seq ?_); refine PWp.region TT (by rfl) (fun K hK => ?_); simp only [push_cast, seval, Nat.reduceEqDiff, Nat.reduceLeDiff, reduceCtorEq]; (repeat refine sk ?_); refine hK _ ?_; clear hK K)
  ((repeat refine PWp.seq ?_); refine PWp.cond (by simp only [push_cast, seval, Nat.reduceEqDiff, Nat.reduceLeDiff, reduceCtorEq]; rfl) (fun hc => ?_) (fun hc => ?_))
  · have hlt : k ≤ oa.length := by simp at hc; omega
    clear hc
    ((repeat refine PWp.seq ?_); refine PWp.skip ?_)
    ((repeat refine PWp.seq ?_); refine PWp.block ?_)
    ((repeat refine PWp.seq ?_); refine PWp.region TT (by rfl) (fun K hK => ?_); simp only [push_cast, seval, Nat.reduceEqDiff, Nat.reduceLeDiff, reduceCtorEq, wrap64_id (n := c.o + (k : Int)) (by omega) (by omega)])
    ((repeat refine sk ?_); refine PCall.use (ref12_To oa (c.o + (k : Int)) ha) [] rfl (by simp [push_cast]) (by simp) (by simp [push_cast]) (by simp [push_cast]) (by simp [push_cast]) (by simp [push_cast]) ?_)
    rintro _ _ ⟨rfl, rfl⟩
    (simp only [push_cast, seval, Nat.reduceEqDiff, Nat.reduceLeDiff, reduceCtorEq]; (repeat refine sk ?_); refine hK _ ?_; clear hK K)
    ((repeat refine PWp.seq ?_); refine PWp.region TT (by rfl) (fun K hK => ?_); simp only [push_cast, seval, Nat.reduceEqDiff, Nat.reduceLeDiff, reduceCtorEq, wrap64_id (n := c.o + (k : Int)) (by omega) (by omega)])
    ((repeat refine sk ?_); refine PCall.use (ref12_To ob (c.o + (k : Int)) hb) [] rfl (by simp [push_cast]) (by simp) (by simp [push_cast]) (by simp [push_cast]) (by simp [push_cast]) (by simp [push_cast]) ?_)
    rintro _ _ ⟨rfl, rfl⟩
    (simp only [push_cast, seval, Nat.reduceEqDiff, Nat.reduceLeDiff, reduceCtorEq]; (repeat refine sk ?_); refine hK _ ?_; clear hK K)
    ((repeat refine PWp.seq ?_); refine PWp.region TT (by rfl) (fun K hK => ?_); simp only [push_cast, seval, Nat.reduceEqDiff, Nat.reduceLeDiff, reduceCtorEq, wrap64_id (n := c.a + (k : Int)) (by omega) (by omega), wrap64_id (n := c.b + (k : Int)) (by omega) (by omega)]; (repeat refine sk ?_); refine hK _ ?_; clear hK K)
    ((repeat refine PWp.seq ?_); refine PWp.cond (by simp only [push_cast, seval, Nat.reduceEqDiff, Nat.reduceLeDiff, reduceCtorEq]; rfl) (fun hc => ?_) (fun hc => ?_))
    · have hm : hit oa ob c.o c.a c.b k = false := by
        simp only [Bool.or_eq_true, Bool.and_eq_true, Bool.not_eq_true', Bool.not_eq_false', Bool.or_eq_false_iff, Bool.and_eq_false_iff, decide_eq_true_eq, decide_eq_false_iff_not, beq_iff_eq, beq_eq_false_iff_ne, bne_iff_ne, bne_eq_false_iff_eq, ne_eq, Classical.not_not, Int.not_lt, Int.not_le, ge_iff_le, gt_iff_lt] at hc
        refine miss_of ?_
        rcases hc with (((h | h) | h) | h)
        · exact .inl h
        · exact .inr (.inl h)
        · exact .inr (.inr (.inl h))
        · exact .inr (.inr (.inr h))
      ((repeat refine PWp.seq ?_); refine PWp.region TT (by rfl) (fun K hK => ?_); simp only [push_cast, seval, Nat.reduceEqDiff, Nat.reduceLeDiff, reduceCtorEq]; (repeat refine sk ?_); refine hK _ ?_; clear hK K)
      ((repeat refine PWp.seq ?_); refine PWp.ret ?_)
      refine ⟨.inr rfl, by omega, _, [], ?_, rfl, rfl⟩
      rw [show runN oa ob c.o c.a c.b = k from (runF_eq _ k _ 0 hlt (fun j _ hj => hf j (by omega)) (.inl (by rw [Nat.zero_add]; exact hm))).trans (Nat.zero_add _)]
      (simp [push_cast, -List.getD_eq_getElem?_getD])
    · have hh : hit oa ob c.o c.a c.b k = true := by
        simp only [Bool.or_eq_true, Bool.and_eq_true, Bool.not_eq_true', Bool.not_eq_false', Bool.or_eq_false_iff, Bool.and_eq_false_iff, decide_eq_true_eq, decide_eq_false_iff_not, beq_iff_eq, beq_eq_false_iff_ne, bne_iff_ne, bne_eq_false_iff_eq, ne_eq, Classical.not_not, Int.not_lt, Int.not_le, ge_iff_le, gt_iff_lt] at hc
        exact hit_of ⟨hc.1.1.1, hc.1.1.2, hc.1.2, hc.2⟩
      ((repeat refine PWp.seq ?_); refine PWp.skip ?_)
      ((repeat refine PWp.seq ?_); refine PWp.region TT (by rfl) (fun K hK => ?_); simp only [push_cast, seval, Nat.reduceEqDiff, Nat.reduceLeDiff, reduceCtorEq, wrap64_id (n := (k : Int) + 1) (by omega) (by omega)]; (repeat refine sk ?_); refine hK _ ?_; clear hK K)
      refine ⟨_, _, ?_, ⟨k + 1, rfl, by omega, fun j hj => ?_, rfl⟩, Gh.le (by simp [push_cast, -List.getD_eq_getElem?_getD]) (by simp)⟩
      · omega
      · by_cases e : j = k
        · subst e; exact hh
        · exact hf j (by omega)
  · have hk' : k = oa.length + 1 := by simp at hc; omega
    subst hk'
    (repeat refine PWp.seq ?_); refine PWp.exit (iteT rfl ?_)
    ((repeat refine PWp.seq ?_); refine PWp.region TT (by rfl) (fun K hK => ?_); simp only [push_cast, seval, Nat.reduceEqDiff, Nat.reduceLeDiff, reduceCtorEq]; (repeat refine sk ?_); refine hK _ ?_; clear hK K)
    ((repeat refine PWp.seq ?_); refine PWp.ret ?_)
    refine ⟨.inr rfl, by omega, _, [], ?_, rfl, rfl⟩
    rw [show runN oa ob c.o c.a c.b = oa.length from (runF_eq _ oa.length _ 0 (Nat.le_refl _) (fun j _ hj => hf j (by omega)) (.inr rfl)).trans (Nat.zero_add _)]
    (simp [push_cast, -List.getD_eq_getElem?_getD])
set_option maxRecDepth 100000
set_option linter.unusedSimpArgs false
set_option linter.unusedVariables false
def cellsC (c : Ck) : List TV := [.iv (.lit (.bool c.s)), .iv (.lit (.int .i64 c.o)), .iv (.lit (.int .i64 c.on)), .iv (.lit (.int .i64 c.a)), .iv (.lit (.int .i64 c.an)), .iv (.lit (.int .i64 c.b)), .iv (.lit (.int .i64 c.bn))]
attribute [push_cast] cellsC
def minOpt : List Int → Option Int
  | [] => none
  | x :: l => some (l.foldl mn x)
theorem minOpt_append (l : List Int) (x : Int) : minOpt (l ++ [x]) = some (match minOpt l with | none => x | some m => mn m x) := by
  cases l with
  | nil => rfl
  | cons y l => simp [minOpt, List.foldl_append]
theorem minOpt_none {l : List Int} (h : minOpt l = none) : l = [] := by
  cases l with
  | nil => rfl
  | cons y l => simp [minOpt] at h
/-- Is a place there on both sides, and not ahead? -/
def okP (oa ob : List (Int × Int)) (o a b x : Int) : Bool := (toI oa x).isSome && (toI ob x).isSome && decide (o ≤ x) && decide (a ≤ (toI oa x).getD 0) && decide (b ≤ (toI ob x).getD 0)
def cand (oa ob : List (Int × Int)) (o a b : Int) : List Int := (oa.map (·.1)).filter (okP oa ob o a b)
def candN (oa ob : List (Int × Int)) (o a b : Int) (k : Nat) : List Int := ((oa.take k).map (·.1)).filter (okP oa ob o a b)
theorem candN_succ {oa ob : List (Int × Int)} {o a b : Int} {k : Nat} (h : k < oa.length) : candN oa ob o a b (k + 1) = candN oa ob o a b k ++ (if okP oa ob o a b (oa.getD k default).1 then [(oa.getD k default).1] else []) := by
  unfold candN
  rw [take_succ_getD h]
  simp [List.filter_append, List.filter_cons]
theorem candN_all (oa ob : List (Int × Int)) (o a b : Int) : candN oa ob o a b oa.length = cand oa ob o a b := by unfold candN cand; rw [List.take_length]
theorem candN_length (oa ob : List (Int × Int)) (o a b : Int) (k : Nat) : (candN oa ob o a b k).length ≤ k := by
  refine Nat.le_trans (List.length_filter_le _ _) ?_
  simp; omega
def nextO (oa ob : List (Int × Int)) (o a b : Int) : Option Int := minOpt (cand oa ob o a b)
def nextTV (oa ob : List (Int × Int)) (o a b : Int) : TV := match nextO oa ob o a b with
  | none => .tup [.iv (.lit (.int .i64 0)), .iv (.lit (.int .i64 0)), .iv (.lit (.int .i64 0)), .iv (.lit (.bool false))]
  | some x => .tup [.iv (.lit (.int .i64 x)), .iv (.lit (.int .i64 ((toI oa x).getD 0))), .iv (.lit (.int .i64 ((toI ob x).getD 0))), .iv (.lit (.bool true))]

theorem toI_isSome_mem {p : List (Int × Int)} {k : Nat} (h : k < p.length) : (toI p (p.getD k default).1).isSome = true := by
  unfold toI
  rw [Option.isSome_map, List.find?_isSome]
  exact ⟨p.getD k default, by simp [List.getD, h], by simp⟩
theorem minOpt_one (x : Int) : minOpt [x] = some x := rfl
theorem ref13_Next (oa ob : List (Int × Int)) (c : Ck) (ha : oa.length ≤ 1000000) (hb : ob.length ≤ 1000000) : PC Try.prog 47 [.iv (.sl 2 (oa.map encP)), .iv (.sl 2 (ob.map encP)), .iv (encC c)] [] 0 0
    (fun t obs => t = nextTV oa ob c.o c.a c.b ∧ obs = []) := by
  refine PC.body [6, 7, 8, 9] Try.func47 rfl (by rfl) (Nat.le_of_ble_eq_true (by rfl)) rfl ?_; simp only [enumA]
  ((repeat refine PWp.seq ?_); refine PWp.region TT (by rfl) (fun K hK => ?_); simp only [push_cast, seval, Nat.reduceEqDiff, Nat.reduceLeDiff, reduceCtorEq]; (repeat refine sk ?_); refine hK _ ?_; clear hK K)
  ((repeat refine PWp.seq ?_); refine PWp.region TT (by rfl) (fun K hK => ?_); simp only [push_cast, seval, Nat.reduceEqDiff, Nat.reduceLeDiff, reduceCtorEq]; (repeat refine sk ?_); refine hK _ ?_; clear hK K)
  ((repeat refine PWp.seq ?_); refine PWp.region TT (by rfl) (fun K hK => ?_); simp only [push_cast, seval, Nat.reduceEqDiff, Nat.reduceLeDiff, reduceCtorEq]; (repeat refine sk ?_); refine hK _ ?_; clear hK K)
  ((repeat refine PWp.seq ?_); refine PWp.block ?_)
  refine PWp.loop (fun cc st => ∃ k : Nat, ∃ best : Int, cc = oa.length - k ∧ k ≤ oa.length ∧ (best = -1 ∧ candN oa ob c.o c.a c.b k = [] ∨ ∃ j : Nat, best = j ∧ j < k ∧ minOpt (candN oa ob c.o c.a c.b k) = some (oa.getD j default).1) ∧
    st = ⟨[(0, .iv (.sl 2 (oa.map encP))), (1, .iv (.sl 2 (ob.map encP))), (5, .bptr 0 0), (10, .iv (.lit (.int .i64 best))), (11, .iv (.lit (.int .i64 k)))], [(0, .box 52 (cellsC c))], 1⟩) _ _ ⟨0, -1, rfl, Nat.zero_le _, .inl ⟨rfl, rfl⟩, rfl⟩ (Gh.le (by simp [push_cast, -List.getD_eq_getElem?_getD]) (by simp)) ?_
  rintro cc st ⟨k, best, rfl, hk, hbest, rfl⟩
  ((repeat refine PWp.seq ?_); refine PWp.region TT (by rfl) (fun K hK => ?_); simp only [push_cast, seval, Nat.reduceEqDiff, Nat.reduceLeDiff, reduceCtorEq]; (repeat refine sk ?_); refine hK _ ?_; clear hK K)
  ((repeat refine PWp.seq ?_); refine PWp.cond (by simp only [push_cast, seval, Nat.reduceEqDiff, Nat.reduceLeDiff, reduceCtorEq]; rfl) (fun hc => ?_) (fun hc => ?_))
  · have hlt : k < oa.length := by simpa using hc
    clear hc
    ((repeat refine PWp.seq ?_); refine PWp.skip ?_)
    ((repeat refine PWp.seq ?_); refine PWp.block ?_)
    ((repeat refine PWp.seq ?_); refine PWp.region TT (by rfl) (fun K hK => ?_); simp only [push_cast, seval, Nat.reduceEqDiff, Nat.reduceLeDiff, reduceCtorEq, getD_map hlt]; (repeat refine sk ?_); refine hK _ ?_; clear hK K)
    ((repeat refine PWp.seq ?_); refine PWp.region TT (by rfl) (fun K hK => ?_); simp only [push_cast, seval, Nat.reduceEqDiff, Nat.reduceLeDiff, reduceCtorEq])
    ((repeat refine sk ?_); refine PCall.use (ref12_To oa (oa.getD k default).1 ha) [] rfl (by simp [push_cast]) (by simp) (by simp [push_cast]) (by simp [push_cast]) (by simp [push_cast]) (by simp [push_cast]) ?_)
    rintro _ _ ⟨rfl, rfl⟩
    (simp only [push_cast, seval, Nat.reduceEqDiff, Nat.reduceLeDiff, reduceCtorEq]; (repeat refine sk ?_); refine hK _ ?_; clear hK K)
    ((repeat refine PWp.seq ?_); refine PWp.region TT (by rfl) (fun K hK => ?_); simp only [push_cast, seval, Nat.reduceEqDiff, Nat.reduceLeDiff, reduceCtorEq])
    ((repeat refine sk ?_); refine PCall.use (ref12_To ob (oa.getD k default).1 hb) [] rfl (by simp [push_cast]) (by simp) (by simp [push_cast]) (by simp [push_cast]) (by simp [push_cast]) (by simp [push_cast]) ?_)
    rintro _ _ ⟨rfl, rfl⟩
    (simp only [push_cast, seval, Nat.reduceEqDiff, Nat.reduceLeDiff, reduceCtorEq]; (repeat refine sk ?_); refine hK _ ?_; clear hK K)
    have hsome := toI_isSome_mem hlt
    have hok : okP oa ob c.o c.a c.b (oa.getD k default).1 = (((((toI ob (oa.getD k default).1).isSome) && decide ((oa.getD k default).1 ≥ c.o)) && decide ((toI oa (oa.getD k default).1).getD 0 ≥ c.a)) && decide ((toI ob (oa.getD k default).1).getD 0 ≥ c.b)) := by
      unfold okP; rw [hsome]; rfl
    rcases hbest with ⟨rfl, hn⟩ | ⟨j, rfl, hj, hm⟩
    · have h0 : 0 < oa.length := by omega
      ((repeat refine PWp.seq ?_); refine PWp.region TT (by rfl) (fun K hK => ?_); simp only [push_cast, seval, Nat.reduceEqDiff, Nat.reduceLeDiff, reduceCtorEq, getD_map hlt, getD_map h0, show (-1 : Int).toNat = 0 from rfl, show decide ((-1 : Int) < 0) = true from rfl]; (repeat refine sk ?_); refine hK _ ?_; clear hK K)
      ((repeat refine PWp.seq ?_); refine PWp.cond (by simp only [push_cast, seval, Nat.reduceEqDiff, Nat.reduceLeDiff, reduceCtorEq]; rfl) (fun hc => ?_) (fun hc => ?_))
      · rw [← hok] at hc
        ((repeat refine PWp.seq ?_); refine PWp.region TT (by rfl) (fun K hK => ?_); simp only [push_cast, seval, Nat.reduceEqDiff, Nat.reduceLeDiff, reduceCtorEq]; (repeat refine sk ?_); refine hK _ ?_; clear hK K)
        ((repeat refine PWp.seq ?_); refine PWp.region TT (by rfl) (fun K hK => ?_); simp only [push_cast, seval, Nat.reduceEqDiff, Nat.reduceLeDiff, reduceCtorEq, wrap64_id (n := (k : Int) + 1) (by omega) (by omega)]; (repeat refine sk ?_); refine hK _ ?_; clear hK K)
        refine ⟨_, _, ?_, ⟨k + 1, k, rfl, by omega, .inr ⟨k, rfl, by omega, ?_⟩, rfl⟩, Gh.le (by simp [push_cast, -List.getD_eq_getElem?_getD]) (by simp)⟩
        · omega
        · rw [candN_succ hlt, hn, hc]; rfl
      · rw [← hok] at hc
        ((repeat refine PWp.seq ?_); refine PWp.skip ?_)
        ((repeat refine PWp.seq ?_); refine PWp.region TT (by rfl) (fun K hK => ?_); simp only [push_cast, seval, Nat.reduceEqDiff, Nat.reduceLeDiff, reduceCtorEq, wrap64_id (n := (k : Int) + 1) (by omega) (by omega)]; (repeat refine sk ?_); refine hK _ ?_; clear hK K)
        refine ⟨_, _, ?_, ⟨k + 1, -1, rfl, by omega, .inl ⟨rfl, ?_⟩, rfl⟩, Gh.le (by simp [push_cast, -List.getD_eq_getElem?_getD]) (by simp)⟩
        · omega
        · rw [candN_succ hlt, hn, hc]; rfl
    · have hjl : j < oa.length := by omega
      ((repeat refine PWp.seq ?_); refine PWp.region TT (by rfl) (fun K hK => ?_); simp only [push_cast, seval, Nat.reduceEqDiff, Nat.reduceLeDiff, reduceCtorEq, getD_map hlt, getD_map hjl, show decide ((j : Int) < 0) = false from decide_eq_false (by omega)]; (repeat refine sk ?_); refine hK _ ?_; clear hK K)
      ((repeat refine PWp.seq ?_); refine PWp.cond (by simp only [push_cast, seval, Nat.reduceEqDiff, Nat.reduceLeDiff, reduceCtorEq]; rfl) (fun hc => ?_) (fun hc => ?_))
      · rw [← hok] at hc
        simp only [Bool.and_eq_true, decide_eq_true_eq] at hc
        ((repeat refine PWp.seq ?_); refine PWp.region TT (by rfl) (fun K hK => ?_); simp only [push_cast, seval, Nat.reduceEqDiff, Nat.reduceLeDiff, reduceCtorEq]; (repeat refine sk ?_); refine hK _ ?_; clear hK K)
        ((repeat refine PWp.seq ?_); refine PWp.region TT (by rfl) (fun K hK => ?_); simp only [push_cast, seval, Nat.reduceEqDiff, Nat.reduceLeDiff, reduceCtorEq, wrap64_id (n := (k : Int) + 1) (by omega) (by omega)]; (repeat refine sk ?_); refine hK _ ?_; clear hK K)
        refine ⟨_, _, ?_, ⟨k + 1, k, rfl, by omega, .inr ⟨k, rfl, by omega, ?_⟩, rfl⟩, Gh.le (by simp [push_cast, -List.getD_eq_getElem?_getD]) (by simp)⟩
        · omega
        · rw [candN_succ hlt, hc.1, if_pos rfl, minOpt_append, hm]
          simp only [mn, if_pos hc.2]
      · rw [← hok] at hc
        ((repeat refine PWp.seq ?_); refine PWp.skip ?_)
        ((repeat refine PWp.seq ?_); refine PWp.region TT (by rfl) (fun K hK => ?_); simp only [push_cast, seval, Nat.reduceEqDiff, Nat.reduceLeDiff, reduceCtorEq, wrap64_id (n := (k : Int) + 1) (by omega) (by omega)]; (repeat refine sk ?_); refine hK _ ?_; clear hK K)
        refine ⟨_, _, ?_, ⟨k + 1, j, rfl, by omega, .inr ⟨j, rfl, by omega, ?_⟩, rfl⟩, Gh.le (by simp [push_cast, -List.getD_eq_getElem?_getD]) (by simp)⟩
        · omega
        · cases ho : okP oa ob c.o c.a c.b (oa.getD k default).1 with
          | false => rw [candN_succ hlt, ho, if_neg (by simp), List.append_nil, hm]
          | true =>
            rw [ho] at hc
            simp only [Bool.true_and, decide_eq_false_iff_not] at hc
            rw [candN_succ hlt, ho, if_pos rfl, minOpt_append, hm]
            simp only [mn, if_neg hc]
  · have hk' : k = oa.length := by simp at hc; omega
    subst hk'
    rw [candN_all] at hbest
    (repeat refine PWp.seq ?_); refine PWp.exit (iteT rfl ?_)
    rcases hbest with ⟨rfl, hn⟩ | ⟨j, rfl, hj, hm⟩
    · have hx : nextO oa ob c.o c.a c.b = none := by unfold nextO; rw [hn]; rfl
      ((repeat refine PWp.seq ?_); refine PWp.region TT (by rfl) (fun K hK => ?_); simp only [push_cast, seval, Nat.reduceEqDiff, Nat.reduceLeDiff, reduceCtorEq]; (repeat refine sk ?_); refine hK _ ?_; clear hK K)
      ((repeat refine PWp.seq ?_); refine PWp.cond (by simp only [push_cast, seval, Nat.reduceEqDiff, Nat.reduceLeDiff, reduceCtorEq]; rfl) (fun hc => ?_) (fun hc => ?_))
      · ((repeat refine PWp.seq ?_); refine PWp.region TT (by rfl) (fun K hK => ?_); simp only [push_cast, seval, Nat.reduceEqDiff, Nat.reduceLeDiff, reduceCtorEq]; (repeat refine sk ?_); refine hK _ ?_; clear hK K)
        ((repeat refine PWp.seq ?_); refine PWp.ret ?_)
        refine ⟨.inr rfl, by omega, _, [], ?_, rfl, rfl⟩
        unfold nextTV
        rw [hx]
        (simp [push_cast, -List.getD_eq_getElem?_getD])
      · simp at hc
    · have hx : nextO oa ob c.o c.a c.b = some (oa.getD j default).1 := hm
      ((repeat refine PWp.seq ?_); refine PWp.region TT (by rfl) (fun K hK => ?_); simp only [push_cast, seval, Nat.reduceEqDiff, Nat.reduceLeDiff, reduceCtorEq]; (repeat refine sk ?_); refine hK _ ?_; clear hK K)
      ((repeat refine PWp.seq ?_); refine PWp.cond (by simp only [push_cast, seval, Nat.reduceEqDiff, Nat.reduceLeDiff, reduceCtorEq]; rfl) (fun hc => ?_) (fun hc => ?_))
      · simp at hc; omega
      · ((repeat refine PWp.seq ?_); refine PWp.skip ?_)
        ((repeat refine PWp.seq ?_); refine PWp.region TT (by rfl) (fun K hK => ?_); simp only [push_cast, seval, Nat.reduceEqDiff, Nat.reduceLeDiff, reduceCtorEq, getD_map hj])
        ((repeat refine sk ?_); refine PCall.use (ref12_To oa (oa.getD j default).1 ha) [] rfl (by simp [push_cast]) (by simp) (by simp [push_cast]) (by simp [push_cast]) (by simp [push_cast]) (by simp [push_cast]) ?_)
        rintro _ _ ⟨rfl, rfl⟩
        (simp only [push_cast, seval, Nat.reduceEqDiff, Nat.reduceLeDiff, reduceCtorEq]; (repeat refine sk ?_); refine hK _ ?_; clear hK K)
        ((repeat refine PWp.seq ?_); refine PWp.region TT (by rfl) (fun K hK => ?_); simp only [push_cast, seval, Nat.reduceEqDiff, Nat.reduceLeDiff, reduceCtorEq, getD_map hj])
        ((repeat refine sk ?_); refine PCall.use (ref12_To ob (oa.getD j default).1 hb) [] rfl (by simp [push_cast]) (by simp) (by simp [push_cast]) (by simp [push_cast]) (by simp [push_cast]) (by simp [push_cast]) ?_)
        rintro _ _ ⟨rfl, rfl⟩
        (simp only [push_cast, seval, Nat.reduceEqDiff, Nat.reduceLeDiff, reduceCtorEq]; (repeat refine sk ?_); refine hK _ ?_; clear hK K)
        ((repeat refine PWp.seq ?_); refine PWp.region TT (by rfl) (fun K hK => ?_); simp only [push_cast, seval, Nat.reduceEqDiff, Nat.reduceLeDiff, reduceCtorEq, getD_map hj]; (repeat refine sk ?_); refine hK _ ?_; clear hK K)
        ((repeat refine PWp.seq ?_); refine PWp.ret ?_)
        refine ⟨.inr rfl, by omega, _, [], ?_, rfl, rfl⟩
        unfold nextTV
        rw [hx]
        (simp [push_cast, -List.getD_eq_getElem?_getD])
set_option maxRecDepth 100000
set_option linter.unusedSimpArgs false
set_option linter.unusedVariables false
/-- The chunk at a place. -/
def stepC (oa ob : List (Int × Int)) (o a b x y z : Int) : Ck :=
  if 0 < runN oa ob x y z then ⟨true, x, runN oa ob x y z, y, runN oa ob x y z, z, runN oa ob x y z⟩
  else match nextO oa ob x y z with
    | some u => ⟨false, x, u - x, y, (toI oa u).getD 0 - y, z, (toI ob u).getD 0 - z⟩
    | none => ⟨false, x, o - x, y, a - y, z, b - z⟩
def chunksF (oa ob : List (Int × Int)) (o a b : Int) : Nat → Int → Int → Int → List Ck
  | 0, _, _, _ => []
  | f + 1, x, y, z => if x < o ∨ y < a ∨ z < b then stepC oa ob o a b x y z :: chunksF oa ob o a b f (x + (stepC oa ob o a b x y z).on) (y + (stepC oa ob o a b x y z).an) (z + (stepC oa ob o a b x y z).bn) else []
def meas (o a b x y z : Int) : Nat := ((o - x) + (a - y) + (b - z)).toNat
def inB (o a b x y z : Int) : Prop := 0 ≤ x ∧ x ≤ o ∧ 0 ≤ y ∧ y ≤ a ∧ 0 ≤ z ∧ z ≤ b
theorem toI_bound {p : List (Int × Int)} {n m : Int} (h : rRight p n m = true) {i j : Int} (hj : toI p i = some j) : 0 ≤ i ∧ i < n ∧ 0 ≤ j ∧ j < m := by
  obtain ⟨k, hk, rfl, rfl⟩ := toI_mem hj
  exact ((of_decide_eq_true h) k hk).1
theorem mn_le (a b : Int) : mn a b = a ∨ mn a b = b := by unfold mn; split <;> simp
theorem foldl_mn_mem : ∀ (l : List Int) (x : Int), l.foldl mn x = x ∨ l.foldl mn x ∈ l
  | [], x => .inl rfl
  | y :: l, x => by
    rw [List.foldl_cons]
    rcases foldl_mn_mem l (mn x y) with h | h
    · rcases mn_le x y with e | e
      · left; rw [h, e]
      · right; rw [h, e]; exact List.mem_cons_self ..
    · right; exact List.mem_cons_of_mem _ h
theorem foldl_mn_le : ∀ (l : List Int) (x : Int), l.foldl mn x ≤ x ∧ ∀ y ∈ l, l.foldl mn x ≤ y
  | [], x => ⟨Int.le_refl _, by simp⟩
  | y :: l, x => by
    rw [List.foldl_cons]
    obtain ⟨h1, h2⟩ := foldl_mn_le l (mn x y)
    have h3 : mn x y ≤ x ∧ mn x y ≤ y := by unfold mn; split <;> omega
    refine ⟨by omega, fun z hz => ?_⟩
    rcases List.mem_cons.1 hz with rfl | hz
    · omega
    · exact h2 z hz
theorem minOpt_spec {l : List Int} {m : Int} (h : minOpt l = some m) : m ∈ l ∧ ∀ y ∈ l, m ≤ y := by
  cases l with
  | nil => cases h
  | cons x l =>
    simp only [minOpt, Option.some.injEq] at h
    subst h
    obtain ⟨h1, h2⟩ := foldl_mn_le l x
    refine ⟨?_, fun y hy => ?_⟩
    · rcases foldl_mn_mem l x with e | e
      · rw [e]; exact List.mem_cons_self ..
      · exact List.mem_cons_of_mem _ e
    · rcases List.mem_cons.1 hy with rfl | hy
      · exact h1
      · exact h2 y hy
theorem cand_mem {oa ob : List (Int × Int)} {o a b x : Int} (h : x ∈ cand oa ob o a b) : ∃ u v, toI oa x = some u ∧ toI ob x = some v ∧ o ≤ x ∧ a ≤ u ∧ b ≤ v := by
  have := (List.mem_filter.1 h).2
  simp only [okP, Bool.and_eq_true, decide_eq_true_eq] at this
  obtain ⟨⟨⟨⟨h1, h2⟩, h3⟩, h4⟩, h5⟩ := this
  obtain ⟨u, hu⟩ := Option.isSome_iff_exists.1 h1
  obtain ⟨v, hv⟩ := Option.isSome_iff_exists.1 h2
  rw [hu] at h4
  rw [hv] at h5
  exact ⟨u, v, hu, hv, h3, by simpa using h4, by simpa using h5⟩
theorem runN_spec (oa ob : List (Int × Int)) (x y z : Int) : runN oa ob x y z ≤ oa.length ∧ (∀ j, j < runN oa ob x y z → toI oa (x + j) = some (y + j) ∧ toI ob (x + j) = some (z + j)) ∧ (runN oa ob x y z < oa.length → hit oa ob x y z (runN oa ob x y z) = false) := by
  obtain ⟨h1, h2, h3, h4⟩ := runF_spec (hit oa ob x y z) oa.length 0
  refine ⟨by unfold runN; omega, fun j hj => ?_, fun h => h4 (by unfold runN at h; omega)⟩
  have := h3 j (Nat.zero_le _) hj
  simpa [hit] using this
/-- A chunk goes on, and stays within. -/
theorem stepC_ok {oa ob : List (Int × Int)} {o a b x y z : Int} (ha : rRight oa o a = true) (hb : rRight ob o b = true) (h : inB o a b x y z) (hc : x < o ∨ y < a ∨ z < b) :
    (stepC oa ob o a b x y z).o = x ∧ (stepC oa ob o a b x y z).a = y ∧ (stepC oa ob o a b x y z).b = z ∧ 0 ≤ (stepC oa ob o a b x y z).on ∧ 0 ≤ (stepC oa ob o a b x y z).an ∧ 0 ≤ (stepC oa ob o a b x y z).bn ∧
    0 < (stepC oa ob o a b x y z).on + (stepC oa ob o a b x y z).an + (stepC oa ob o a b x y z).bn ∧
    inB o a b (x + (stepC oa ob o a b x y z).on) (y + (stepC oa ob o a b x y z).an) (z + (stepC oa ob o a b x y z).bn) := by
  obtain ⟨r1, r2, r3⟩ := runN_spec oa ob x y z
  unfold inB at *
  unfold stepC
  split
  · rename_i hn
    obtain ⟨h1, h2⟩ := r2 (runN oa ob x y z - 1) (by omega)
    have b1 := toI_bound ha h1
    have b2 := toI_bound hb h2
    refine ⟨rfl, rfl, rfl, ?_⟩
    simp only
    omega
  · rename_i hn
    split
    · rename_i u hu
      obtain ⟨hm, _⟩ := minOpt_spec hu
      obtain ⟨v, w, hv, hw, h1, h2, h3⟩ := cand_mem hm
      have b1 := toI_bound ha hv
      have b2 := toI_bound hb hw
      rw [hv, hw]
      simp only [Option.getD_some]
      have hne : ¬ (u = x ∧ v = y ∧ w = z) := by
        rintro ⟨rfl, rfl, rfl⟩
        have hl : 0 < oa.length := by obtain ⟨k, hk, _⟩ := toI_mem hv; omega
        have h0 : runN oa ob u v w = 0 := by omega
        have := r3 (by omega)
        rw [h0] at this
        simp [hit, hv, hw] at this
      refine ⟨trivial, trivial, trivial, ?_⟩
      omega
    · refine ⟨rfl, rfl, rfl, ?_⟩
      simp only
      omega
theorem chunksF_fuel {oa ob : List (Int × Int)} {o a b : Int} (ha : rRight oa o a = true) (hb : rRight ob o b = true) : ∀ (f g : Nat) (x y z : Int), inB o a b x y z → meas o a b x y z ≤ f → meas o a b x y z ≤ g → chunksF oa ob o a b f x y z = chunksF oa ob o a b g x y z
  | 0, 0, x, y, z, _, _, _ => rfl
  | 0, g + 1, x, y, z, h, hf, _ => by
    unfold chunksF
    rw [if_neg]
    unfold inB at h
    unfold meas at hf
    omega
  | f + 1, 0, x, y, z, h, _, hg => by
    unfold chunksF
    rw [if_neg]
    unfold inB at h
    unfold meas at hg
    omega
  | f + 1, g + 1, x, y, z, h, hf, hg => by
    unfold chunksF
    by_cases hc : x < o ∨ y < a ∨ z < b
    · rw [if_pos hc, if_pos hc]
      obtain ⟨_, _, _, h1, h2, h3, h4, h5⟩ := stepC_ok ha hb h hc
      rw [chunksF_fuel ha hb f g _ _ _ h5]
      · unfold inB at h h5; unfold meas at *; omega
      · unfold inB at h h5; unfold meas at *; omega
    · rw [if_neg hc, if_neg hc]
def chunks (oa ob : List (Int × Int)) (o a b x y z : Int) : List Ck := chunksF oa ob o a b (meas o a b x y z) x y z
theorem chunks_step {oa ob : List (Int × Int)} {o a b x y z : Int} (ha : rRight oa o a = true) (hb : rRight ob o b = true) (h : inB o a b x y z) (hc : x < o ∨ y < a ∨ z < b) :
    chunks oa ob o a b x y z = stepC oa ob o a b x y z :: chunks oa ob o a b (x + (stepC oa ob o a b x y z).on) (y + (stepC oa ob o a b x y z).an) (z + (stepC oa ob o a b x y z).bn) := by
  obtain ⟨_, _, _, h1, h2, h3, h4, h5⟩ := stepC_ok ha hb h hc
  have hm : meas o a b x y z = (meas o a b x y z - 1) + 1 := by unfold inB at h h5; unfold meas; omega
  unfold chunks
  rw [hm]
  conv => lhs; unfold chunksF
  rw [if_pos hc]
  congr 1
  refine chunksF_fuel ha hb _ _ _ _ _ h5 ?_ (Nat.le_refl _)
  unfold inB at h h5; unfold meas at *; omega
theorem chunks_done {oa ob : List (Int × Int)} {o a b x y z : Int} (h : inB o a b x y z) (hc : ¬ (x < o ∨ y < a ∨ z < b)) : chunks oa ob o a b x y z = [] := by
  unfold chunks chunksF
  have : meas o a b x y z = 0 := by unfold inB at h; unfold meas; omega
  rw [this]
def okOf (oa ob : List (Int × Int)) (o a b : Int) : Bool := decide (0 ≤ o) && decide (o ≤ 400) && decide (0 ≤ a) && decide (a ≤ 400) && decide (0 ≤ b) && decide (b ≤ 400) && rRight oa o a && rRight ob o b
def ofL (oa ob : List (Int × Int)) (o a b : Int) : List Ck := if okOf oa ob o a b then chunks oa ob o a b 0 0 0 else []
def ofE (oa ob : List (Int × Int)) (o a b : Int) : Int := if okOf oa ob o a b then 0 else 2

