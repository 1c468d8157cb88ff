/- Walks of chapter 38: lines and substitutions; what is wrong with a patch. -/
import Derived.Test.YtjjgnopebokfoaaTy
namespace Go.Proofs.Ytjjgnopebokfoaa
open Go.PL
set_option maxRecDepth 100000
set_option linter.unusedSimpArgs false
set_option linter.unusedVariables false
structure Ln where
  t : List UInt8
  b : Bool
  deriving DecidableEq, Inhabited
structure Sb where
  at_ : Int
  out : List Ln
  in_ : List Ln
  deriving DecidableEq, Inhabited
def encL (l : Ln) : IV := .agg [.lit (.string ⟨l.t.toArray⟩), .lit (.bool l.b)]
def encS (s : Sb) : IV := .agg [.lit (.int .i64 s.at_), .sl 2 (s.out.map encL), .sl 2 (s.in_.map encL)]
attribute [push_cast] encL encS
def iI (n : Int) : TV := .iv (.lit (.int .i64 n))
def iB (b : Bool) : TV := .iv (.lit (.bool b))
def iL (l : List Ln) : TV := .iv (.sl 2 (l.map encL))
def iP (l : List Sb) : TV := .iv (.sl 3 (l.map encS))
attribute [push_cast] iI iB iL iP
theorem take_succ_getD {α : Type} [Inhabited α] {l : List α} {k : Nat} (h : k < l.length) : l.take (k + 1) = l.take k ++ [l.getD k default] := by
  rw [List.take_succ_eq_append_getElem h]; simp [List.getD, h]
theorem drop_getD {α : Type} [Inhabited α] {l : List α} {k : Nat} (h : k < l.length) : l.drop k = l.getD k default :: l.drop (k + 1) := by
  rw [List.drop_eq_getElem_cons h]
  simp [List.getD, h]
theorem getD_mem {α : Type} [Inhabited α] {l : List α} {k : Nat} (h : k < l.length) : l.getD k default ∈ l := by simp [List.getD, h]
/-- Small enough for sums not to overflow. -/
def smS (s : Sb) : Prop := -100000 ≤ s.at_ ∧ s.at_ ≤ 100000 ∧ s.out.length ≤ 100000 ∧ s.in_.length ≤ 100000
def smP (l : List Sb) : Prop := l.length ≤ 1000 ∧ ∀ s ∈ l, smS s

theorem shift_end (s : Sb) (h : smS s) : PC Try.prog 37 [.iv (encS s)] [] 0 0 (fun t obs => t = iI (s.at_ + s.out.length) ∧ obs = []) := by
  unfold smS at h
  refine PC.body [2] Try.func37 rfl (by rfl) (Nat.le_of_ble_eq_true (by rfl)) rfl ?_; simp only [enumA]
  ((repeat refine PWp.seq ?_); refine PWp.region TT (by rfl) (fun K hK => ?_); simp only [push_cast, seval, Nat.reduceEqDiff, Nat.reduceLeDiff, reduceCtorEq]; (repeat refine sk ?_); refine hK _ ?_; clear hK K)
  ((repeat refine PWp.seq ?_); refine PWp.region TT (by rfl) (fun K hK => ?_); simp only [push_cast, seval, Nat.reduceEqDiff, Nat.reduceLeDiff, reduceCtorEq, wrap64_id (n := s.at_ + (s.out.length : Int)) (by omega) (by omega)]; (repeat refine sk ?_); refine hK _ ?_; clear hK K)
  ((repeat refine PWp.seq ?_); refine PWp.ret ?_)
  refine ⟨.inr rfl, by omega, _, [], ?_, rfl, rfl⟩
  (simp [push_cast, -List.getD_eq_getElem?_getD])
theorem shift_grows (s : Sb) (h : smS s) : PC Try.prog 41 [.iv (encS s)] [] 0 0 (fun t obs => t = iI ((s.in_.length : Int) - s.out.length) ∧ obs = []) := by
  unfold smS at h
  refine PC.body [2] Try.func41 rfl (by rfl) (Nat.le_of_ble_eq_true (by rfl)) rfl ?_; simp only [enumA]
  ((repeat refine PWp.seq ?_); refine PWp.region TT (by rfl) (fun K hK => ?_); simp only [push_cast, seval, Nat.reduceEqDiff, Nat.reduceLeDiff, reduceCtorEq]; (repeat refine sk ?_); refine hK _ ?_; clear hK K)
  ((repeat refine PWp.seq ?_); refine PWp.region TT (by rfl) (fun K hK => ?_); simp only [push_cast, seval, Nat.reduceEqDiff, Nat.reduceLeDiff, reduceCtorEq, wrap64_id (n := (s.in_.length : Int) - (s.out.length : Int)) (by omega) (by omega)]; (repeat refine sk ?_); refine hK _ ?_; clear hK K)
  ((repeat refine PWp.seq ?_); refine PWp.ret ?_)
  refine ⟨.inr rfl, by omega, _, [], ?_, rfl, rfl⟩
  (simp [push_cast, -List.getD_eq_getElem?_getD])
/-- How many lines are taken out and put in, at most 401. -/
def capS : Nat → Nat → Nat := fun a b => min (a + b) 401
def gonS (l : List Sb) : Nat := l.foldl (fun n s => min (n + s.out.length) 401) 0
def madS (l : List Sb) : Nat := l.foldl (fun n s => min (n + s.in_.length) 401) 0
theorem gonS_append (l : List Sb) (s : Sb) : gonS (l ++ [s]) = min (gonS l + s.out.length) 401 := by simp [gonS]
theorem madS_append (l : List Sb) (s : Sb) : madS (l ++ [s]) = min (madS l + s.in_.length) 401 := by simp [madS]
theorem foldl_min_le (f : Sb → Nat) : ∀ (l : List Sb) (n : Nat), n ≤ 401 → l.foldl (fun n s => min (n + f s) 401) n ≤ 401
  | [], n, h => h
  | s :: l, n, _ => foldl_min_le f l _ (Nat.min_le_right _ _)
theorem mn_nat (a b : Nat) : mn (a : Int) (b : Int) = ((min a b : Nat) : Int) := by
  unfold mn
  split <;> omega
theorem shift_sums (l : List Sb) (h : smP l) : PC Try.prog 39 [iP l] [] 0 0 (fun t obs => t = .tup [iI (gonS l), iI (madS l)] ∧ obs = []) := by
  unfold smP at h
  obtain ⟨hl, hs⟩ := h
  refine PC.body [2, 3] Try.func39 rfl (by rfl) (Nat.le_of_ble_eq_true (by rfl)) rfl ?_; simp only [enumA]
  ((repeat refine PWp.seq ?_); refine PWp.region TT (by rfl) (fun K hK => ?_); simp only [push_cast, seval, Nat.reduceEqDiff, Nat.reduceLeDiff, reduceCtorEq]; (repeat refine sk ?_); refine hK _ ?_; clear hK K)
  ((repeat refine PWp.seq ?_); refine PWp.region TT (by rfl) (fun K hK => ?_); simp only [push_cast, seval, Nat.reduceEqDiff, Nat.reduceLeDiff, reduceCtorEq]; (repeat refine sk ?_); refine hK _ ?_; clear hK K)
  ((repeat refine PWp.seq ?_); refine PWp.region TT (by rfl) (fun K hK => ?_); simp only [push_cast, seval, Nat.reduceEqDiff, Nat.reduceLeDiff, reduceCtorEq]; (repeat refine sk ?_); refine hK _ ?_; clear hK K)
  ((repeat refine PWp.seq ?_); refine PWp.block ?_)
  refine PWp.loop (fun c st => ∃ k : Nat, c = l.length - k ∧ k ≤ l.length ∧
    st = ⟨[(4, iI (gonS (l.take k))), (5, iI (madS (l.take k))), (8, iP l), (9, iI l.length), (10, iI k)], [], 0⟩) _ _ ⟨0, rfl, Nat.zero_le _, rfl⟩ (Gh.le (by simp [push_cast, -List.getD_eq_getElem?_getD, gonS, madS]) (by simp)) ?_
  rintro c st ⟨k, rfl, hk, rfl⟩
  ((repeat refine PWp.seq ?_); refine PWp.region TT (by rfl) (fun K hK => ?_); simp only [push_cast, seval, Nat.reduceEqDiff, Nat.reduceLeDiff, reduceCtorEq]; (repeat refine sk ?_); refine hK _ ?_; clear hK K)
  ((repeat refine PWp.seq ?_); refine PWp.cond (by simp only [push_cast, seval, Nat.reduceEqDiff, Nat.reduceLeDiff, reduceCtorEq]; rfl) (fun hc => ?_) (fun hc => ?_))
  · have hlt : k < l.length := by simpa using hc
    clear hc
    have hsk := hs _ (getD_mem hlt)
    unfold smS at hsk
    have g1 : gonS (l.take k) ≤ 401 := foldl_min_le _ _ _ (by omega)
    have g2 : madS (l.take k) ≤ 401 := foldl_min_le _ _ _ (by omega)
    have e1 : mn ((gonS (l.take k) : Int) + ((l.getD k default).out.length : Int)) 401 = (gonS (l.take (k + 1)) : Int) := by
      rw [take_succ_getD hlt, gonS_append, ← mn_nat]; push_cast
    have e2 : mn ((madS (l.take k) : Int) + ((l.getD k default).in_.length : Int)) 401 = (madS (l.take (k + 1)) : Int) := by
      rw [take_succ_getD hlt, madS_append, ← mn_nat]; push_cast
    ((repeat refine PWp.seq ?_); refine PWp.skip ?_)
    ((repeat refine PWp.seq ?_); refine PWp.block ?_)
    ((repeat refine PWp.seq ?_); refine PWp.region TT (by rfl) (fun K hK => ?_); simp only [push_cast, seval, Nat.reduceEqDiff, Nat.reduceLeDiff, reduceCtorEq, getD_map hlt]; (repeat refine sk ?_); refine hK _ ?_; clear hK K)
    ((repeat refine PWp.seq ?_); refine PWp.region TT (by rfl) (fun K hK => ?_); simp only [push_cast, seval, Nat.reduceEqDiff, Nat.reduceLeDiff, reduceCtorEq, wrap64_id (n := (gonS (l.take k) : Int) + ((l.getD k default).out.length : Int)) (by omega) (by omega), e1]; (repeat refine sk ?_); refine hK _ ?_; clear hK K)
    ((repeat refine PWp.seq ?_); refine PWp.region TT (by rfl) (fun K hK => ?_); simp only [push_cast, seval, Nat.reduceEqDiff, Nat.reduceLeDiff, reduceCtorEq, wrap64_id (n := (madS (l.take k) : Int) + ((l.getD k default).in_.length : Int)) (by omega) (by omega), e2]; (repeat refine sk ?_); refine hK _ ?_; clear hK K)
    ((repeat refine PWp.seq ?_); refine PWp.region TT (by rfl) (fun K hK => ?_); simp only [push_cast, seval, Nat.reduceEqDiff, Nat.reduceLeDiff, reduceCtorEq, wrap64_id (n := (k : Int) + 1) (by omega) (by omega)]; (repeat refine sk ?_); refine hK _ ?_; clear hK K)
    refine ⟨_, _, ?_, ⟨k + 1, rfl, by omega, rfl⟩, Gh.le (by simp [push_cast, -List.getD_eq_getElem?_getD]) (by simp)⟩
    omega
  · have hk' : k = l.length := by simp at hc; omega
    subst hk'
    (repeat refine PWp.seq ?_); refine PWp.exit (iteT rfl ?_)
    ((repeat refine PWp.seq ?_); refine PWp.region TT (by rfl) (fun K hK => ?_); simp only [push_cast, seval, Nat.reduceEqDiff, Nat.reduceLeDiff, reduceCtorEq]; (repeat refine sk ?_); refine hK _ ?_; clear hK K)
    ((repeat refine PWp.seq ?_); refine PWp.ret ?_)
    refine ⟨.inr rfl, by omega, _, [], ?_, rfl, rfl⟩
    (simp [push_cast, -List.getD_eq_getElem?_getD])
end Go.Proofs.Ytjjgnopebokfoaa
