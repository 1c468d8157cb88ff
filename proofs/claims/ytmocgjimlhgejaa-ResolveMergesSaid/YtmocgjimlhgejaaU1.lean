/- Lines and regions; the marks, and where a line is one. -/
import Derived.Test.YtmocgjimlhgejaaTy
namespace Go.Proofs.Ytmocgjimlhgejaa
open Go.PL
set_option maxRecDepth 100000
set_option linter.unusedSimpArgs false
set_option linter.unusedVariables false
def iI (n : Int) : TV := .iv (.lit (.int .i64 n))
def iB (b : Bool) : TV := .iv (.lit (.bool b))
def encS (l : List UInt8) : IV := .lit (.string ⟨l.toArray⟩)
def iS (l : List UInt8) : TV := .iv (encS l)
structure Ln where
  t : List UInt8
  b : Bool
  deriving DecidableEq, Inhabited
def encL (l : Ln) : IV := .agg [encS l.t, .lit (.bool l.b)]
def iL (l : List Ln) : TV := .iv (.sl 2 (l.map encL))
/-- A region. -/
structure Rg where
  c : Bool
  l : List Ln
  m : List Ln
  o : List Ln
  h : List Ln
  deriving DecidableEq, Inhabited
def sL (l : List Ln) : IV := .sl 2 (l.map encL)
def encR (r : Rg) : IV := .agg [.lit (.bool r.c), sL r.l, sL r.m, sL r.o, sL r.h]
def iR (l : List Rg) : TV := .iv (.sl 5 (l.map encR))
attribute [push_cast] iI iB encS iS encL iL sL encR iR
theorem lensL (l : List Ln) : lens? 2 (l.map encL) := lens_map (f := encL) (fun a => ⟨trivial, rfl⟩) l
theorem lensR (l : List Rg) : lens? 5 (l.map encR) := lens_map (f := encR) (fun a => ⟨trivial, rfl⟩) l
theorem getD_mem {α : Type} [Inhabited α] {l : List α} {k : Nat} (h : k < l.length) : l.getD k default ∈ l := by simp [List.getD, h]
theorem take_succ_getD {α : Type} [Inhabited α] {l : List α} {k : Nat} (h : k < l.length) : l.take (k + 1) = l.take k ++ [l.getD k default] := by
  rw [List.take_add_one]; simp [List.getD, h]
theorem drop_getD {α : Type} [Inhabited α] {l : List α} {k : Nat} (h : k < l.length) : l.drop k = l.getD k default :: l.drop (k + 1) := by
  rw [List.drop_eq_getElem_cons h]
  simp [List.getD, h]
def mk1 : List UInt8 := [60, 60, 60, 60, 60, 60, 60, 32, 109, 105, 110, 101]
def mk2 : List UInt8 := [124, 124, 124, 124, 124, 124, 124, 32, 98, 97, 115, 101]
def mk3 : List UInt8 := [61, 61, 61, 61, 61, 61, 61]
def mk4 : List UInt8 := [62, 62, 62, 62, 62, 62, 62, 32, 116, 104, 101, 105, 114, 115]
def mkS : List (List UInt8) := [mk1, mk2, mk3, mk4]
/-- The number of a mark, from 1 on; 0: none. -/
def mk (t : List UInt8) : Nat := if mk1 = t then 1 else if mk2 = t then 2 else if mk3 = t then 3 else if mk4 = t then 4 else 0
theorem mk_le (t : List UInt8) : mk t ≤ 4 := by unfold mk; split <;> (try split) <;> (try split) <;> (try split) <;> omega

theorem Mark_c (t : List UInt8) : PC Try.prog 18 [iS t] [] 0 0 (fun r obs => r = iI (mk t : Int) ∧ obs = []) := by
  refine PC.body [2] Try.func18 rfl (by rfl) (Nat.le_of_ble_eq_true (by rfl)) rfl ?_; simp only [enumA]
  ((repeat refine PWp.seq ?_); refine PWp.region TT (by rfl) (fun K hK => ?_); simp only [push_cast, seval, Nat.reduceEqDiff, Nat.reduceLeDiff, reduceCtorEq]; (repeat refine sk ?_); refine hK _ ?_; clear hK K)
  ((repeat refine PWp.seq ?_); refine PWp.region TT (by rfl) (fun K hK => ?_); simp only [push_cast, seval, Nat.reduceEqDiff, Nat.reduceLeDiff, reduceCtorEq]; (repeat refine sk ?_); refine hK _ ?_; clear hK K)
  ((repeat refine PWp.seq ?_); refine PWp.region TT (by rfl) (fun K hK => ?_); simp only [push_cast, seval, Nat.reduceEqDiff, Nat.reduceLeDiff, reduceCtorEq]; (repeat refine sk ?_); refine hK _ ?_; clear hK K)
  ((repeat refine PWp.seq ?_); refine PWp.block ?_)
  refine PWp.loop (fun d st => ∃ k : Nat, d = 4 - k ∧ k ≤ 4 ∧ (∀ i < k, mkS.getD i [] ≠ t) ∧
    st = ⟨[(0, iS t), (3, .bptr 0 0), (4, iI k)], [(0, .box 75 ((mkS.map encS).map .iv))], 1⟩) _ _ ⟨0, rfl, Nat.zero_le _, by simp, rfl⟩ (Gh.le (by simp [push_cast, -List.getD_eq_getElem?_getD, mkS, mk1, mk2, mk3, mk4]) (by simp)) ?_
  rintro d st ⟨k, rfl, hk, hf, rfl⟩
  ((repeat refine PWp.seq ?_); refine PWp.region TT (by rfl) (fun K hK => ?_); simp only [push_cast, seval, Nat.reduceEqDiff, Nat.reduceLeDiff, reduceCtorEq]; (repeat refine sk ?_); refine hK _ ?_; clear hK K)
  ((repeat refine PWp.seq ?_); refine PWp.cond (by simp only [push_cast, seval, Nat.reduceEqDiff, Nat.reduceLeDiff, reduceCtorEq]; rfl) (fun hc => ?_) (fun hc => ?_))
  · have hlt : k < 4 := by have := of_decide_eq_true hc; omega
    clear hc
    have hg : ((mkS.map encS).map TV.iv).getD k .any = .iv (encS (mkS.getD k default)) := by
      have h4 : k = 0 ∨ k = 1 ∨ k = 2 ∨ k = 3 := by omega
      rcases h4 with rfl | rfl | rfl | rfl <;> rfl
    ((repeat refine PWp.seq ?_); refine PWp.skip ?_)
    ((repeat refine PWp.seq ?_); refine PWp.block ?_)
    ((repeat refine PWp.seq ?_); refine PWp.region TT (by rfl) (fun K hK => ?_); simp only [push_cast, seval, Nat.reduceEqDiff, Nat.reduceLeDiff, reduceCtorEq, hg, Nat.mul_one, Nat.zero_add, show ((mkS.map encS).map TV.iv).length = 4 from rfl]; (repeat refine sk ?_); refine hK _ ?_; clear hK K)
    ((repeat refine PWp.seq ?_); refine PWp.cond (by simp only [push_cast, seval, Nat.reduceEqDiff, Nat.reduceLeDiff, reduceCtorEq]; rfl) (fun hc => ?_) (fun hc => ?_))
    · have he : mkS.getD k [] = t := (by simpa using hc : mkS.getD k default = t)
      have hm : mk t = k + 1 := by
        have h4 : k = 0 ∨ k = 1 ∨ k = 2 ∨ k = 3 := by omega
        rcases h4 with rfl | rfl | rfl | rfl <;> (rw [← he]; rfl)
      ((repeat refine PWp.seq ?_); refine PWp.region TT (by rfl) (fun K hK => ?_); simp only [push_cast, seval, Nat.reduceEqDiff, Nat.reduceLeDiff, reduceCtorEq, wrap64_id (n := (k : Int) + 1) (by omega) (by omega)]; (repeat refine sk ?_); refine hK _ ?_; clear hK K)
      ((repeat refine PWp.seq ?_); refine PWp.ret ?_)
      refine ⟨.inr rfl, by omega, _, [], ?_, rfl, rfl⟩
      (simp [push_cast, -List.getD_eq_getElem?_getD, hm])
    · have he : mkS.getD k [] ≠ t := fun e => by
        rw [show mkS.getD k default = mkS.getD k [] from rfl, e] at hc
        simp at hc
      ((repeat refine PWp.seq ?_); refine PWp.skip ?_)
      ((repeat refine PWp.seq ?_); refine PWp.region TT (by rfl) (fun K hK => ?_); simp only [push_cast, seval, Nat.reduceEqDiff, Nat.reduceLeDiff, reduceCtorEq, wrap64_id (n := (k : Int) + 1) (by omega) (by omega)]; (repeat refine sk ?_); refine hK _ ?_; clear hK K)
      refine ⟨_, _, ?_, ⟨k + 1, rfl, by omega, fun i hi => ?_, rfl⟩, Gh.le (by simp [push_cast, -List.getD_eq_getElem?_getD, mkS, mk1, mk2, mk3, mk4]) (by simp)⟩
      · omega
      · by_cases e : i = k
        · subst e; exact he
        · exact hf i (by omega)
  · have hk' : k = 4 := by have := of_decide_eq_false hc; omega
    subst hk'
    have hm : mk t = 0 := by
      have h0 : mk1 ≠ t := hf 0 (by omega)
      have h1 : mk2 ≠ t := hf 1 (by omega)
      have h2 : mk3 ≠ t := hf 2 (by omega)
      have h3 : mk4 ≠ t := hf 3 (by omega)
      unfold mk
      rw [if_neg h0, if_neg h1, if_neg h2, if_neg h3]
    (repeat refine PWp.seq ?_); refine PWp.exit (iteT rfl ?_)
    ((repeat refine PWp.seq ?_); refine PWp.region TT (by rfl) (fun K hK => ?_); simp only [push_cast, seval, Nat.reduceEqDiff, Nat.reduceLeDiff, reduceCtorEq]; (repeat refine sk ?_); refine hK _ ?_; clear hK K)
    ((repeat refine PWp.seq ?_); refine PWp.ret ?_)
    refine ⟨.inr rfl, by omega, _, [], ?_, rfl, rfl⟩
    (simp [push_cast, -List.getD_eq_getElem?_getD, hm])
theorem marks_c : PC Try.prog 41 [] [] 0 0 (fun t obs => t = .iv (.sl 1 (mkS.map encS)) ∧ obs = []) := by
  refine PC.body [0] Try.func41 rfl (by rfl) (Nat.le_of_ble_eq_true (by rfl)) rfl ?_; simp only [enumA]
  ((repeat refine PWp.seq ?_); refine PWp.region TT (by rfl) (fun K hK => ?_); simp only [push_cast, seval, Nat.reduceEqDiff, Nat.reduceLeDiff, reduceCtorEq]; (repeat refine sk ?_); refine hK _ ?_; clear hK K)
  ((repeat refine PWp.seq ?_); refine PWp.region TT (by rfl) (fun K hK => ?_); simp only [push_cast, seval, Nat.reduceEqDiff, Nat.reduceLeDiff, reduceCtorEq]; (repeat refine sk ?_); refine hK _ ?_; clear hK K)
  ((repeat refine PWp.seq ?_); refine PWp.ret ?_)
  refine ⟨.inr rfl, by omega, _, [], ?_, rfl, rfl⟩
  (simp [push_cast, -List.getD_eq_getElem?_getD, mkS, mk1, mk2, mk3, mk4])

theorem Index_c (t : List UInt8) : PC Try.prog 40 [.iv (.sl 1 (mkS.map encS)), iS t] [] 0 0 (fun r obs => r = iI ((mk t : Int) - 1) ∧ obs = []) := by
  refine PC.body [4] Try.func40 rfl (by rfl) (Nat.le_of_ble_eq_true (by rfl)) rfl ?_; simp only [enumA]
  ((repeat refine PWp.seq ?_); refine PWp.region TT (by rfl) (fun K hK => ?_); simp only [push_cast, seval, Nat.reduceEqDiff, Nat.reduceLeDiff, reduceCtorEq]; (repeat refine sk ?_); refine hK _ ?_; clear hK K)
  ((repeat refine PWp.seq ?_); refine PWp.region TT (by rfl) (fun K hK => ?_); simp only [push_cast, seval, Nat.reduceEqDiff, Nat.reduceLeDiff, reduceCtorEq]; (repeat refine sk ?_); refine hK _ ?_; clear hK K)
  ((repeat refine PWp.seq ?_); refine PWp.block ?_)
  refine PWp.loop (fun d st => ∃ k : Nat, d = 4 - k ∧ k ≤ 4 ∧ (∀ i < k, mkS.getD i [] ≠ t) ∧
    st = ⟨[(0, .iv (.sl 1 (mkS.map encS))), (1, iS t), (7, iI 4), (8, iI k)], [], 0⟩) _ _ ⟨0, rfl, Nat.zero_le _, by simp, rfl⟩ (Gh.le (by simp [push_cast, -List.getD_eq_getElem?_getD, mkS]) (by simp)) ?_
  rintro d st ⟨k, rfl, hk, hf, rfl⟩
  ((repeat refine PWp.seq ?_); refine PWp.region TT (by rfl) (fun K hK => ?_); simp only [push_cast, seval, Nat.reduceEqDiff, Nat.reduceLeDiff, reduceCtorEq]; (repeat refine sk ?_); refine hK _ ?_; clear hK K)
  ((repeat refine PWp.seq ?_); refine PWp.cond (by simp only [push_cast, seval, Nat.reduceEqDiff, Nat.reduceLeDiff, reduceCtorEq]; rfl) (fun hc => ?_) (fun hc => ?_))
  · have hlt : k < 4 := by have := of_decide_eq_true hc; omega
    clear hc
    have hg : (mkS.map encS).getD k .any = encS (mkS.getD k default) := getD_map hlt
    ((repeat refine PWp.seq ?_); refine PWp.skip ?_)
    ((repeat refine PWp.seq ?_); refine PWp.block ?_)
    ((repeat refine PWp.seq ?_); refine PWp.region TT (by rfl) (fun K hK => ?_); simp only [push_cast, seval, Nat.reduceEqDiff, Nat.reduceLeDiff, reduceCtorEq]; (repeat refine sk ?_); refine hK _ ?_; clear hK K)
    ((repeat refine PWp.seq ?_); refine PWp.region TT (by rfl) (fun K hK => ?_); simp only [push_cast, seval, Nat.reduceEqDiff, Nat.reduceLeDiff, reduceCtorEq, hg, show (mkS.map encS).length = 4 from rfl]; (repeat refine sk ?_); refine hK _ ?_; clear hK K)
    ((repeat refine PWp.seq ?_); refine PWp.cond (by simp only [push_cast, seval, Nat.reduceEqDiff, Nat.reduceLeDiff, reduceCtorEq]; rfl) (fun hc => ?_) (fun hc => ?_))
    · have he : mkS.getD k [] = t := (by simpa using hc : t = mkS.getD k default).symm
      have hm : mk t = k + 1 := by
        have h4 : k = 0 ∨ k = 1 ∨ k = 2 ∨ k = 3 := by omega
        rcases h4 with rfl | rfl | rfl | rfl <;> (rw [← he]; rfl)
      ((repeat refine PWp.seq ?_); refine PWp.region TT (by rfl) (fun K hK => ?_); simp only [push_cast, seval, Nat.reduceEqDiff, Nat.reduceLeDiff, reduceCtorEq]; (repeat refine sk ?_); refine hK _ ?_; clear hK K)
      ((repeat refine PWp.seq ?_); refine PWp.ret ?_)
      refine ⟨.inr rfl, by omega, _, [], ?_, rfl, rfl⟩
      (simp [push_cast, -List.getD_eq_getElem?_getD, hm])
    · have he : mkS.getD k [] ≠ t := fun e => by
        rw [show mkS.getD k default = mkS.getD k [] from rfl, e] at hc
        simp at hc
      ((repeat refine PWp.seq ?_); refine PWp.skip ?_)
      ((repeat refine PWp.seq ?_); refine PWp.region TT (by rfl) (fun K hK => ?_); simp only [push_cast, seval, Nat.reduceEqDiff, Nat.reduceLeDiff, reduceCtorEq, wrap64_id (n := (k : Int) + 1) (by omega) (by omega)]; (repeat refine sk ?_); refine hK _ ?_; clear hK K)
      refine ⟨_, _, ?_, ⟨k + 1, rfl, by omega, fun i hi => ?_, rfl⟩, Gh.le (by simp [push_cast, -List.getD_eq_getElem?_getD]) (by simp)⟩
      · omega
      · by_cases e : i = k
        · subst e; exact he
        · exact hf i (by omega)
  · have hk' : k = 4 := by have := of_decide_eq_false hc; omega
    subst hk'
    have hm : mk t = 0 := by
      have h0 : mk1 ≠ t := hf 0 (by omega)
      have h1 : mk2 ≠ t := hf 1 (by omega)
      have h2 : mk3 ≠ t := hf 2 (by omega)
      have h3 : mk4 ≠ t := hf 3 (by omega)
      unfold mk
      rw [if_neg h0, if_neg h1, if_neg h2, if_neg h3]
    (repeat refine PWp.seq ?_); refine PWp.exit (iteT rfl ?_)
    ((repeat refine PWp.seq ?_); refine PWp.region TT (by rfl) (fun K hK => ?_); simp only [push_cast, seval, Nat.reduceEqDiff, Nat.reduceLeDiff, reduceCtorEq]; (repeat refine sk ?_); refine hK _ ?_; clear hK K)
    ((repeat refine PWp.seq ?_); refine PWp.ret ?_)
    refine ⟨.inr rfl, by omega, _, [], ?_, rfl, rfl⟩
    (simp [push_cast, -List.getD_eq_getElem?_getD, hm])
