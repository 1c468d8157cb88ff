/- jalousielaw34.few, live. -/
import Derived.Test.YtjlnialglahdoaaH6
namespace Go.Proofs.Ytjlnialglahdoaa
open Go.PL
set_option maxRecDepth 100000
set_option linter.unusedSimpArgs false
set_option linter.unusedVariables false
theorem mn_takeN {α : Type} (l : List α) (n : Nat) : l.take (mn (l.length : Int) n).toNat = l.take n := by
  unfold mn
  split
  · rfl
  · rw [List.take_of_length_le (by simp), List.take_of_length_le (by omega)]
theorem few34_q (l : List UInt8) : QCall Try.prog 13 [iS l] (iS (l.take 40)) := by
  refine QCall.body 2 Try.func13 rfl (by rfl) (Nat.le_of_ble_eq_true (by rfl)) rfl (by rfl) (by rfl) ?_; simp only [enumA]
  (refine QW.sreg TT (by rfl) (fun K hK => ?_); simp only [push_cast, seval, Nat.reduceEqDiff, Nat.reduceLeDiff, reduceCtorEq]; (repeat refine sk ?_); refine hK _ ?_; clear hK K)
  have h1 : 0 ≤ mn (l.length : Int) 40 := by unfold mn; split <;> omega
  have h2 : mn (l.length : Int) 40 ≤ l.length := by unfold mn; split <;> omega
  have e : l.take (mn (l.length : Int) 40).toNat = l.take 40 := mn_takeN l 40
  (refine QW.sreg TT (by rfl) (fun K hK => ?_); simp only [push_cast, seval, Nat.reduceEqDiff, Nat.reduceLeDiff, reduceCtorEq, e]; (repeat refine sk ?_); refine hK _ ?_; clear hK K)
  refine QW.ret ⟨.inr rfl, ?_⟩
  simp [push_cast]
theorem few34_len (l : List UInt8) : (l.take 40).length ≤ 40 := by rw [List.length_take]; omega
theorem live34 : PC Try.prog 9 [] [] 0 90 (fun t obs => t = iB true ∧ obs = []) := by
  have e1 : spB [98, 63] [97, 98, 99, 100] = (1, 2, true) := by decide
  have e2 : fitB [97, 42, 91, 48, 45, 57, 93] [97, 98, 55] = true := by decide
  have e3 : fitB [97] [98] = false := by decide
  have e4 : parE [91] = 3 := by decide
  refine PC.body [0] Try.func9 rfl (by rfl) (Nat.le_of_ble_eq_true (by rfl)) rfl ?_; simp only [enumA]
  ((repeat refine PWp.seq ?_); refine PWp.region TT (by rfl) (fun K hK => ?_); simp only [push_cast, seval, Nat.reduceEqDiff, Nat.reduceLeDiff, reduceCtorEq]; (repeat refine sk ?_); refine hK _ ?_; clear hK K)
  ((repeat refine PWp.seq ?_); refine PWp.region TT (by rfl) (fun K hK => ?_); simp only [push_cast, seval, Nat.reduceEqDiff, Nat.reduceLeDiff, reduceCtorEq])
  ((repeat refine sk ?_); refine PCall.use (find_Span [98, 63] [97, 98, 99, 100] (by decide) (by decide)) [] rfl (by simp [push_cast]) (by simp) (by simp [push_cast]) (by simp [push_cast]) (by simp [push_cast]) (by simp [push_cast]) ?_)
  rintro _ _ ⟨rfl, rfl⟩
  rw [e1]
  (simp only [push_cast, seval, Nat.reduceEqDiff, Nat.reduceLeDiff, reduceCtorEq]; (repeat refine sk ?_); refine hK _ ?_; clear hK K)
  ((repeat refine PWp.seq ?_); refine PWp.region TT (by rfl) (fun K hK => ?_); simp only [push_cast, seval, Nat.reduceEqDiff, Nat.reduceLeDiff, reduceCtorEq])
  ((repeat refine sk ?_); refine PCall.use (find_Fits [97, 42, 91, 48, 45, 57, 93] [97, 98, 55] (by decide) (by decide)) [] rfl (by simp [push_cast]) (by simp) (by simp [push_cast]) (by simp [push_cast]) (by simp [push_cast]) (by simp [push_cast]) ?_)
  rintro _ _ ⟨rfl, rfl⟩
  rw [e2]
  (simp only [push_cast, seval, Nat.reduceEqDiff, Nat.reduceLeDiff, reduceCtorEq])
  ((repeat refine sk ?_); refine PCall.use (find_Fits [97] [98] (by decide) (by decide)) [] rfl (by simp [push_cast]) (by simp) (by simp [push_cast]) (by simp [push_cast]) (by simp [push_cast]) (by simp [push_cast]) ?_)
  rintro _ _ ⟨rfl, rfl⟩
  rw [e3]
  (simp only [push_cast, seval, Nat.reduceEqDiff, Nat.reduceLeDiff, reduceCtorEq])
  ((repeat refine sk ?_); refine PCall.use (find_Check [91] (by decide)) [] rfl (by simp [push_cast]) (by simp) (by simp [push_cast]) (by simp [push_cast]) (by simp [push_cast]) (by simp [push_cast]) ?_)
  rintro _ _ ⟨rfl, rfl⟩
  rw [e4]
  (simp only [push_cast, seval, Nat.reduceEqDiff, Nat.reduceLeDiff, reduceCtorEq]; (repeat refine sk ?_); refine hK _ ?_; clear hK K)
  ((repeat refine PWp.seq ?_); refine PWp.ret ?_)
  refine ⟨.inr rfl, by omega, _, [], ?_, rfl, rfl⟩
  (simp [push_cast, -List.getD_eq_getElem?_getD])
end Go.Proofs.Ytjlnialglahdoaa
