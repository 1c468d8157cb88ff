/- Values of chapter 18: labels, items, made lines, views; the small functions on them. -/
import Derived.Test.YtanopjcfackblaaTy
namespace Go.Proofs.Ytanopjcfackblaa
open Go.PL
set_option maxRecDepth 100000
set_option linter.unusedSimpArgs false
set_option linter.unusedVariables false
def encI (n : Int) : IV := .lit (.int .i64 n)
def iI (n : Int) : TV := .iv (.lit (.int .i64 n))
def iB (b : Bool) : TV := .iv (.lit (.bool b))
def iN (l : List Int) : TV := .iv (.sl 1 (l.map encI))
structure Ln where
  t : List UInt8
  b : Bool
  deriving DecidableEq, Inhabited
structure Lb where
  v : Int
  c : Int
  deriving DecidableEq, Inhabited
structure It where
  id : Int
  l : Lb
  a : Bool
  x : Ln
  deriving DecidableEq, Inhabited
structure Md where
  o : Bool
  i : Int
  x : Ln
  deriving DecidableEq, Inhabited
def encL (l : Ln) : IV := .agg [.lit (.string ⟨l.t.toArray⟩), .lit (.bool l.b)]
def encLb (l : Lb) : IV := .agg [.lit (.int .i64 l.v), .lit (.int .u64 l.c)]
def encIt (x : It) : IV := .agg [.lit (.int .i64 x.id), .lit (.int .i64 x.l.v), .lit (.int .u64 x.l.c), .lit (.bool x.a), .lit (.string ⟨x.x.t.toArray⟩), .lit (.bool x.x.b)]
def encMd (m : Md) : IV := .agg [.lit (.bool m.o), .lit (.int .i64 m.i), .lit (.string ⟨m.x.t.toArray⟩), .lit (.bool m.x.b)]
def encV (ls : List Ln) (p : List Int) : IV := .agg [.sl 2 (ls.map encL), .sl 1 (p.map encI)]
def iLb (l : Lb) : TV := .iv (encLb l)
def iIt (l : List It) : TV := .iv (.sl 6 (l.map encIt))
def iMd (l : List Md) : TV := .iv (.sl 4 (l.map encMd))
def iV (ls : List Ln) (p : List Int) : TV := .iv (encV ls p)
attribute [push_cast] encI iI iB iN encL encLb encIt encMd encV iLb iIt iMd iV
theorem lensI (l : List Int) : lens? 1 (l.map encI) := lens_map (f := encI) (fun a => ⟨rfl, rfl⟩) l
theorem lensL (l : List Ln) : lens? 2 (l.map encL) := lens_map (f := encL) (fun a => ⟨trivial, rfl⟩) l
theorem lensIt (l : List It) : lens? 6 (l.map encIt) := lens_map (f := encIt) (fun a => ⟨trivial, rfl⟩) l
theorem getD_mem {α : Type} [Inhabited α] {l : List α} {k : Nat} (h : k < l.length) : l.getD k default ∈ l := by simp [List.getD, h]
theorem take_succ_getD {α : Type} [Inhabited α] {l : List α} {k : Nat} (h : k < l.length) : l.take (k + 1) = l.take k ++ [l.getD k default] := by
  rw [List.take_add_one]; simp [List.getD, h]
theorem drop_getD {α : Type} [Inhabited α] {l : List α} {k : Nat} (h : k < l.length) : l.drop k = l.getD k default :: l.drop (k + 1) := by
  rw [List.drop_eq_getElem_cons h]
  simp [List.getD, h]
theorem lists_eq {α : Type} [Inhabited α] {a b : List α} (hl : a.length = b.length) (h : ∀ i < a.length, a.getD i default = b.getD i default) : a = b := by
  apply List.ext_getElem hl
  intro i h1 h2
  have := h i h1
  simpa [List.getD, h1, h2] using this
theorem mn_take {α : Type} (l : List α) (n : Nat) : l.take (mn (l.length : Int) n).toNat = l.take n := by
  unfold mn
  split
  · rw [show ((n : Int)).toNat = n by omega]
  · rw [show ((l.length : Int)).toNat = l.length by omega, List.take_length, List.take_of_length_le (by omega)]
theorem few18 (l : List It) (m : List Md) : PC Try.prog 8 [iIt l, iMd m] [] 0 0 (fun t obs => t = .tup [iIt (l.take 40), iMd (m.take 40)] ∧ obs = []) := by
  have h1 : 0 ≤ mn (l.length : Int) 40 := by unfold mn; split <;> omega
  have h2 : mn (l.length : Int) 40 ≤ l.length := by unfold mn; split <;> omega
  have h3 : 0 ≤ mn (m.length : Int) 40 := by unfold mn; split <;> omega
  have h4 : mn (m.length : Int) 40 ≤ m.length := by unfold mn; split <;> omega
  have e1 : (l.map encIt).take (mn (l.length : Int) 40).toNat = (l.take 40).map encIt := by
    rw [← List.map_take, show mn (l.length : Int) 40 = mn (l.length : Int) ((40 : Nat) : Int) from rfl, mn_take]
  have e2 : (m.map encMd).take (mn (m.length : Int) 40).toNat = (m.take 40).map encMd := by
    rw [← List.map_take, show mn (m.length : Int) 40 = mn (m.length : Int) ((40 : Nat) : Int) from rfl, mn_take]
  refine PC.body [4, 5] Try.func8 rfl (by rfl) (Nat.le_of_ble_eq_true (by rfl)) rfl ?_; simp only [enumA]
  ((repeat refine PWp.seq ?_); refine PWp.region TT (by rfl) (fun K hK => ?_); simp only [push_cast, seval, Nat.reduceEqDiff, Nat.reduceLeDiff, reduceCtorEq]; (repeat refine sk ?_); refine hK _ ?_; clear hK K)
  ((repeat refine PWp.seq ?_); refine PWp.draw TT (by kernel_rfl) (by kernel_rfl) (by rfl) (by rfl) (fun K hK => ?_); simp only [push_cast, seval, Nat.reduceEqDiff, Nat.reduceLeDiff, reduceCtorEq, List.length_map, e1, e2]; (repeat refine sk ?_); refine hK _ ?_; clear hK K)
  ((repeat refine PWp.seq ?_); refine PWp.ret ?_)
  refine ⟨.inr rfl, by omega, _, [], ?_, rfl, rfl⟩
  (simp [push_cast, -List.getD_eq_getElem?_getD])
/-! ### Labels -/
def hasF (a : Lb) (c : Int) : Bool := (a.c.fdiv (2 ^ (min c.toNat IntKind.u64.bits))).tmod 2 == 1
theorem ref02_Has (a : Lb) (c : Int) (h0 : 0 ≤ c) (h1 : c ≤ 63) : PC Try.prog 29 [iLb a, iI c] [] 0 0 (fun t obs => t = iB (hasF a c) ∧ obs = []) := by
  refine PC.body [4] Try.func29 rfl (by rfl) (Nat.le_of_ble_eq_true (by rfl)) rfl ?_; simp only [enumA]
  ((repeat refine PWp.seq ?_); refine PWp.region TT (by rfl) (fun K hK => ?_); simp only [push_cast, seval, Nat.reduceEqDiff, Nat.reduceLeDiff, reduceCtorEq]; (repeat refine sk ?_); refine hK _ ?_; clear hK K)
  ((repeat refine PWp.seq ?_); refine PWp.region TT (by rfl) (fun K hK => ?_); simp only [push_cast, seval, Nat.reduceEqDiff, Nat.reduceLeDiff, reduceCtorEq, show decide (c ≥ 0) = true from decide_eq_true h0, show decide (c ≤ 63) = true from decide_eq_true h1]; (repeat refine sk ?_); refine hK _ ?_; clear hK K)
  ((repeat refine PWp.seq ?_); refine PWp.ret ?_)
  refine ⟨.inr rfl, by omega, _, [], ?_, rfl, rfl⟩
  unfold hasF
  (simp [push_cast, -List.getD_eq_getElem?_getD])
def belowF (a b : Lb) : Bool := decide (a.v ≤ b.v) && (List.range 64).all (fun c => !hasF a c || hasF b c)
theorem belowF_refl (a : Lb) : belowF a a = true := by
  unfold belowF
  rw [Bool.and_eq_true, List.all_eq_true]
  exact ⟨by simp, fun c _ => by cases hasF a c <;> rfl⟩
theorem ref02_Below (a b : Lb) : PC Try.prog 16 [iLb a, iLb b] [] 0 0 (fun t obs => t = iB (belowF a b) ∧ obs = []) := by
  refine PC.body [4] Try.func16 rfl (by rfl) (Nat.le_of_ble_eq_true (by rfl)) rfl ?_; simp only [enumA]
  ((repeat refine PWp.seq ?_); refine PWp.region TT (by rfl) (fun K hK => ?_); simp only [push_cast, seval, Nat.reduceEqDiff, Nat.reduceLeDiff, reduceCtorEq]; (repeat refine sk ?_); refine hK _ ?_; clear hK K)
  ((repeat refine PWp.seq ?_); refine PWp.region TT (by rfl) (fun K hK => ?_); simp only [push_cast, seval, Nat.reduceEqDiff, Nat.reduceLeDiff, reduceCtorEq]; (repeat refine sk ?_); refine hK _ ?_; clear hK K)
  ((repeat refine PWp.seq ?_); refine PWp.cond (by simp only [push_cast, seval, Nat.reduceEqDiff, Nat.reduceLeDiff, reduceCtorEq]; rfl) (fun hc => ?_) (fun hc => ?_))
  · have e : belowF a b = false := by
      unfold belowF
      simp at hc
      rw [Bool.and_eq_false_iff]
      exact .inl (decide_eq_false (by omega))
    ((repeat refine PWp.seq ?_); refine PWp.region TT (by rfl) (fun K hK => ?_); simp only [push_cast, seval, Nat.reduceEqDiff, Nat.reduceLeDiff, reduceCtorEq]; (repeat refine sk ?_); refine hK _ ?_; clear hK K)
    ((repeat refine PWp.seq ?_); refine PWp.ret ?_)
    refine ⟨.inr rfl, by omega, _, [], ?_, rfl, rfl⟩
    rw [e]
    (simp [push_cast, -List.getD_eq_getElem?_getD])
  · have hv : a.v ≤ b.v := by simp at hc; omega
    clear hc
    ((repeat refine PWp.seq ?_); refine PWp.skip ?_)
    ((repeat refine PWp.seq ?_); refine PWp.region TT (by rfl) (fun K hK => ?_); simp only [push_cast, seval, Nat.reduceEqDiff, Nat.reduceLeDiff, reduceCtorEq]; (repeat refine sk ?_); refine hK _ ?_; clear hK K)
    ((repeat refine PWp.seq ?_); refine PWp.block ?_)
    refine PWp.loop (fun c st => ∃ k : Nat, c = 64 - k ∧ k ≤ 64 ∧ (∀ i, i < k → (!hasF a i || hasF b i) = true) ∧
      st = ⟨[(2, .bptr 0 0), (3, .bptr 1 0), (5, iI k)], [(0, .box 29 [iI a.v, .iv (.lit (.int .u64 a.c))]), (1, .box 29 [iI b.v, .iv (.lit (.int .u64 b.c))])], 2⟩) _ _ ⟨0, rfl, Nat.zero_le _, by simp, rfl⟩ (Gh.le (by simp [push_cast, -List.getD_eq_getElem?_getD]) (by simp)) ?_
    rintro c st ⟨k, rfl, hk, hf, rfl⟩
    ((repeat refine PWp.seq ?_); refine PWp.region TT (by rfl) (fun K hK => ?_); simp only [push_cast, seval, Nat.reduceEqDiff, Nat.reduceLeDiff, reduceCtorEq]; (repeat refine sk ?_); refine hK _ ?_; clear hK K)
    ((repeat refine PWp.seq ?_); refine PWp.cond (by simp only [push_cast, seval, Nat.reduceEqDiff, Nat.reduceLeDiff, reduceCtorEq]; rfl) (fun hc => ?_) (fun hc => ?_))
    · have hlt : k < 64 := by simp at hc; omega
      clear hc
      ((repeat refine PWp.seq ?_); refine PWp.skip ?_)
      ((repeat refine PWp.seq ?_); refine PWp.block ?_)
      ((repeat refine PWp.seq ?_); refine PWp.region TT (by rfl) (fun K hK => ?_); simp only [push_cast, seval, Nat.reduceEqDiff, Nat.reduceLeDiff, reduceCtorEq])
      ((repeat refine sk ?_); refine PCall.use (ref02_Has a k (by omega) (by omega)) [] rfl (by simp [push_cast]) (by simp) (by simp [push_cast]) (by simp [push_cast]) (by simp [push_cast]) (by simp [push_cast]) ?_)
      rintro _ _ ⟨rfl, rfl⟩
      have next : (!hasF a k || hasF b k) = true → ∀ i, i < k + 1 → (!hasF a i || hasF b i) = true := fun h i hi => by
        by_cases e : i = k
        · subst e; exact h
        · exact hf i (by omega)
      cases h1 : hasF a k with
      | false =>
        (simp only [push_cast, seval, Nat.reduceEqDiff, Nat.reduceLeDiff, reduceCtorEq])
        ((repeat refine sk ?_); refine hK _ ?_; clear hK K)
        ((repeat refine PWp.seq ?_); refine PWp.cond (by simp only [push_cast, seval, Nat.reduceEqDiff, Nat.reduceLeDiff, reduceCtorEq]; rfl) (fun hc => ?_) (fun hc => ?_))
        · cases hc
        · clear hc
          ((repeat refine PWp.seq ?_); refine PWp.skip ?_)
          ((repeat refine PWp.seq ?_); refine PWp.region TT (by rfl) (fun K hK => ?_); simp only [push_cast, seval, Nat.reduceEqDiff, Nat.reduceLeDiff, reduceCtorEq, wrap64_id (n := (k : Int) + 1) (by omega) (by omega)]; (repeat refine sk ?_); refine hK _ ?_; clear hK K)
          refine ⟨_, _, ?_, ⟨k + 1, rfl, by omega, next (by rw [h1]; rfl), rfl⟩, Gh.le (by simp [push_cast, -List.getD_eq_getElem?_getD]) (by simp)⟩
          omega
      | true =>
        (simp only [push_cast, seval, Nat.reduceEqDiff, Nat.reduceLeDiff, reduceCtorEq])
        ((repeat refine sk ?_); refine PCall.use (ref02_Has b k (by omega) (by omega)) [] rfl (by simp [push_cast]) (by simp) (by simp [push_cast]) (by simp [push_cast]) (by simp [push_cast]) (by simp [push_cast]) ?_)
        rintro _ _ ⟨rfl, rfl⟩
        cases h2 : hasF b k with
        | true =>
          (simp only [push_cast, seval, Nat.reduceEqDiff, Nat.reduceLeDiff, reduceCtorEq])
          ((repeat refine sk ?_); refine hK _ ?_; clear hK K)
          ((repeat refine PWp.seq ?_); refine PWp.cond (by simp only [push_cast, seval, Nat.reduceEqDiff, Nat.reduceLeDiff, reduceCtorEq]; rfl) (fun hc => ?_) (fun hc => ?_))
          · cases hc
          · clear hc
            ((repeat refine PWp.seq ?_); refine PWp.skip ?_)
            ((repeat refine PWp.seq ?_); refine PWp.region TT (by rfl) (fun K hK => ?_); simp only [push_cast, seval, Nat.reduceEqDiff, Nat.reduceLeDiff, reduceCtorEq, wrap64_id (n := (k : Int) + 1) (by omega) (by omega)]; (repeat refine sk ?_); refine hK _ ?_; clear hK K)
            refine ⟨_, _, ?_, ⟨k + 1, rfl, by omega, next (by rw [h2]; simp), rfl⟩, Gh.le (by simp [push_cast, -List.getD_eq_getElem?_getD]) (by simp)⟩
            omega
        | false =>
          (simp only [push_cast, seval, Nat.reduceEqDiff, Nat.reduceLeDiff, reduceCtorEq])
          ((repeat refine sk ?_); refine hK _ ?_; clear hK K)
          ((repeat refine PWp.seq ?_); refine PWp.cond (by simp only [push_cast, seval, Nat.reduceEqDiff, Nat.reduceLeDiff, reduceCtorEq]; rfl) (fun hc => ?_) (fun hc => ?_))
          · have e : belowF a b = false := by
              unfold belowF
              rw [Bool.and_eq_false_iff]
              right
              rw [← Bool.not_eq_true, List.all_eq_true]
              intro hh
              have := hh k (List.mem_range.2 hlt)
              rw [h1, h2] at this
              cases this
            ((repeat refine PWp.seq ?_); refine PWp.region TT (by rfl) (fun K hK => ?_); simp only [push_cast, seval, Nat.reduceEqDiff, Nat.reduceLeDiff, reduceCtorEq]; (repeat refine sk ?_); refine hK _ ?_; clear hK K)
            ((repeat refine PWp.seq ?_); refine PWp.ret ?_)
            refine ⟨.inr rfl, by omega, _, [], ?_, rfl, rfl⟩
            rw [e]
            (simp [push_cast, -List.getD_eq_getElem?_getD])
          · cases hc
    · have hk' : k = 64 := by simp at hc; omega
      subst hk'
      have e : belowF a b = true := by
        unfold belowF
        rw [Bool.and_eq_true, List.all_eq_true]
        exact ⟨decide_eq_true hv, fun c hc => hf c (List.mem_range.1 hc)⟩
      (repeat refine PWp.seq ?_); refine PWp.exit (iteT rfl ?_)
      ((repeat refine PWp.seq ?_); refine PWp.region TT (by rfl) (fun K hK => ?_); simp only [push_cast, seval, Nat.reduceEqDiff, Nat.reduceLeDiff, reduceCtorEq]; (repeat refine sk ?_); refine hK _ ?_; clear hK K)
      ((repeat refine PWp.seq ?_); refine PWp.ret ?_)
      refine ⟨.inr rfl, by omega, _, [], ?_, rfl, rfl⟩
      rw [e]
      (simp [push_cast, -List.getD_eq_getElem?_getD])
theorem ref02_Below_q (a b : Lb) : QCall Try.prog 16 [iLb a, iLb b] (iB (belowF a b)) := (ref02_Below a b).quiet (fun _ _ h => h.1) rfl (by simp [push_cast])
/-! ### Items -/
theorem itEq {x y : It} (h : x.id = y.id ∧ x.l.v = y.l.v ∧ x.l.c = y.l.c ∧ x.a = y.a ∧ x.x.t = y.x.t ∧ x.x.b = y.x.b) : x = y := by
  obtain ⟨i, ⟨v, c⟩, a, ⟨t, b⟩⟩ := x
  obtain ⟨i', ⟨v', c'⟩, a', ⟨t', b'⟩⟩ := y
  simp only at h
  obtain ⟨rfl, rfl, rfl, rfl, rfl, rfl⟩ := h
  rfl
theorem ref04_Same (a b : List It) (ha : a.length ≤ 1000000) : PC Try.prog 11 [iIt a, iIt b] [] 0 0 (fun t obs => t = iB (decide (a = b)) ∧ obs = []) := by
  refine PC.body [4] Try.func11 rfl (by rfl) (Nat.le_of_ble_eq_true (by rfl)) rfl ?_; simp only [enumA]
  ((repeat refine PWp.seq ?_); refine PWp.region TT (by rfl) (fun K hK => ?_); simp only [push_cast, seval, Nat.reduceEqDiff, Nat.reduceLeDiff, reduceCtorEq]; (repeat refine sk ?_); refine hK _ ?_; clear hK K)
  ((repeat refine PWp.seq ?_); refine PWp.region TT (by rfl) (fun K hK => ?_); simp only [push_cast, seval, Nat.reduceEqDiff, Nat.reduceLeDiff, reduceCtorEq]; (repeat refine sk ?_); refine hK _ ?_; clear hK K)
  ((repeat refine PWp.seq ?_); refine PWp.cond (by simp only [push_cast, seval, Nat.reduceEqDiff, Nat.reduceLeDiff, reduceCtorEq]; rfl) (fun hc => ?_) (fun hc => ?_))
  · have e : decide (a = b) = false := by
      simp only [Bool.or_eq_true, Bool.and_eq_true, Bool.not_eq_true', Bool.not_eq_false', Bool.or_eq_false_iff, Bool.and_eq_false_iff, decide_eq_true_eq, decide_eq_false_iff_not, beq_iff_eq, beq_eq_false_iff_ne, bne_iff_ne, bne_eq_false_iff_eq, ne_eq, Classical.not_not, Int.not_lt, Int.not_le, ge_iff_le, gt_iff_lt] at hc
      exact decide_eq_false (fun h => by subst h; exact hc rfl)
    ((repeat refine PWp.seq ?_); refine PWp.region TT (by rfl) (fun K hK => ?_); simp only [push_cast, seval, Nat.reduceEqDiff, Nat.reduceLeDiff, reduceCtorEq]; (repeat refine sk ?_); refine hK _ ?_; clear hK K)
    ((repeat refine PWp.seq ?_); refine PWp.ret ?_)
    refine ⟨.inr rfl, by omega, _, [], ?_, rfl, rfl⟩
    rw [e]
    (simp [push_cast, -List.getD_eq_getElem?_getD])
  · have hl : a.length = b.length := by
      simp only [Bool.or_eq_true, Bool.and_eq_true, Bool.not_eq_true', Bool.not_eq_false', Bool.or_eq_false_iff, Bool.and_eq_false_iff, decide_eq_true_eq, decide_eq_false_iff_not, beq_iff_eq, beq_eq_false_iff_ne, bne_iff_ne, bne_eq_false_iff_eq, ne_eq, Classical.not_not, Int.not_lt, Int.not_le, ge_iff_le, gt_iff_lt] at hc
      omega
    clear hc
    ((repeat refine PWp.seq ?_); refine PWp.skip ?_)
    ((repeat refine PWp.seq ?_); refine PWp.region TT (by rfl) (fun K hK => ?_); simp only [push_cast, seval, Nat.reduceEqDiff, Nat.reduceLeDiff, reduceCtorEq]; (repeat refine sk ?_); refine hK _ ?_; clear hK K)
    ((repeat refine PWp.seq ?_); refine PWp.block ?_)
    refine PWp.loop (fun c st => ∃ k : Nat, c = a.length - k ∧ k ≤ a.length ∧ (∀ i < k, a.getD i default = b.getD i default) ∧
      st = ⟨[(0, iIt a), (1, iIt b), (5, iI k)], [], 0⟩) _ _ ⟨0, rfl, Nat.zero_le _, by simp, rfl⟩ (Gh.le (by simp [push_cast, -List.getD_eq_getElem?_getD]) (by simp)) ?_
    rintro c st ⟨k, rfl, hk, hf, rfl⟩
    ((repeat refine PWp.seq ?_); refine PWp.region TT (by rfl) (fun K hK => ?_); simp only [push_cast, seval, Nat.reduceEqDiff, Nat.reduceLeDiff, reduceCtorEq]; (repeat refine sk ?_); refine hK _ ?_; clear hK K)
    ((repeat refine PWp.seq ?_); refine PWp.cond (by simp only [push_cast, seval, Nat.reduceEqDiff, Nat.reduceLeDiff, reduceCtorEq]; rfl) (fun hc => ?_) (fun hc => ?_))
    · have hlt : k < a.length := by simpa using hc
      clear hc
      ((repeat refine PWp.seq ?_); refine PWp.skip ?_)
      ((repeat refine PWp.seq ?_); refine PWp.block ?_)
      ((repeat refine PWp.seq ?_); refine PWp.draw TT (by kernel_rfl) (by kernel_rfl) (by rfl) (by rfl) (fun K hK => ?_); simp only [push_cast, seval, Nat.reduceEqDiff, Nat.reduceLeDiff, reduceCtorEq, getD_map hlt, getD_map (show k < b.length by omega)]; (repeat refine sk ?_); refine hK _ ?_; clear hK K)
      ((repeat refine PWp.seq ?_); refine PWp.cond (by simp only [push_cast, seval, Nat.reduceEqDiff, Nat.reduceLeDiff, reduceCtorEq]; rfl) (fun hc => ?_) (fun hc => ?_))
      · have e : decide (a = b) = false := decide_eq_false (fun h => by
          subst h
          simp at hc)
        ((repeat refine PWp.seq ?_); refine PWp.region TT (by rfl) (fun K hK => ?_); simp only [push_cast, seval, Nat.reduceEqDiff, Nat.reduceLeDiff, reduceCtorEq]; (repeat refine sk ?_); refine hK _ ?_; clear hK K)
        ((repeat refine PWp.seq ?_); refine PWp.ret ?_)
        refine ⟨.inr rfl, by omega, _, [], ?_, rfl, rfl⟩
        rw [e]
        (simp [push_cast, -List.getD_eq_getElem?_getD])
      · have he : a.getD k default = b.getD k default := itEq (by simpa using hc)
        ((repeat refine PWp.seq ?_); refine PWp.skip ?_)
        ((repeat refine PWp.seq ?_); refine PWp.region TT (by rfl) (fun K hK => ?_); simp only [push_cast, seval, Nat.reduceEqDiff, Nat.reduceLeDiff, reduceCtorEq, wrap64_id (n := (k : Int) + 1) (by omega) (by omega)]; (repeat refine sk ?_); refine hK _ ?_; clear hK K)
        refine ⟨_, _, ?_, ⟨k + 1, rfl, by omega, fun i hi => ?_, rfl⟩, Gh.le (by simp [push_cast, -List.getD_eq_getElem?_getD]) (by simp)⟩
        · omega
        · by_cases e : i = k
          · subst e; exact he
          · exact hf i (by omega)
    · have hk' : k = a.length := by simp at hc; omega
      subst hk'
      have e : decide (a = b) = true := decide_eq_true (lists_eq hl hf)
      (repeat refine PWp.seq ?_); refine PWp.exit (iteT rfl ?_)
      ((repeat refine PWp.seq ?_); refine PWp.region TT (by rfl) (fun K hK => ?_); simp only [push_cast, seval, Nat.reduceEqDiff, Nat.reduceLeDiff, reduceCtorEq]; (repeat refine sk ?_); refine hK _ ?_; clear hK K)
      ((repeat refine PWp.seq ?_); refine PWp.ret ?_)
      refine ⟨.inr rfl, by omega, _, [], ?_, rfl, rfl⟩
      rw [e]
      (simp [push_cast, -List.getD_eq_getElem?_getD])
theorem ref04_Same_q (a b : List It) (ha : a.length ≤ 1000000) : QCall Try.prog 11 [iIt a, iIt b] (iB (decide (a = b))) := (ref04_Same a b ha).quiet (fun _ _ h => h.1) rfl (by simp [push_cast])
end Go.Proofs.Ytanopjcfackblaa
