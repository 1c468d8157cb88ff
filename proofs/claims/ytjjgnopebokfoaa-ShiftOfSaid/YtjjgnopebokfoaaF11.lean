/- Walks of chapter 38: live, ShiftBehind. -/
import Derived.Test.YtjjgnopebokfoaaF10
namespace Go.Proofs.Ytjjgnopebokfoaa
open Go.PL
set_option maxRecDepth 100000
set_option linter.unusedSimpArgs false
set_option linter.unusedVariables false
def lvP : List Sb := [⟨0, [⟨[97], false⟩], []⟩]
def lvQ : List Sb := [⟨4, [⟨[101], false⟩], []⟩]
theorem lvP_sm : smP lvP := by unfold smP smS lvP; simp
theorem lvQ_sm : smP lvQ := by unfold smP smS lvQ; simp
theorem live38 : PC Try.prog 9 [] [] 0 0 (fun t obs => t = iB true ∧ obs = []) := by
  have hR : behR lvP lvQ = [⟨3, [⟨[101], false⟩], []⟩] := by decide
  have hE : behE lvP lvQ = 0 := by decide
  have hG : growL lvP = -1 := by decide
  have hC : chk lvP 1 = 0 := by decide
  refine PC.body [0] Try.func9 rfl (by rfl) (Nat.le_of_ble_eq_true (by rfl)) rfl ?_; simp only [enumA]
  ((repeat refine PWp.seq ?_); refine PWp.region TT (by rfl) (fun K hK => ?_); simp only [push_cast, seval, Nat.reduceEqDiff, Nat.reduceLeDiff, reduceCtorEq]; (repeat refine sk ?_); refine hK _ ?_; clear hK K)
  ((repeat refine PWp.seq ?_); refine PWp.region TT (by rfl) (fun K hK => ?_); simp only [push_cast, seval, Nat.reduceEqDiff, Nat.reduceLeDiff, reduceCtorEq]; (repeat refine sk ?_); refine hK _ ?_; clear hK K)
  ((repeat refine PWp.seq ?_); refine PWp.region TT (by rfl) (fun K hK => ?_); simp only [push_cast, seval, Nat.reduceEqDiff, Nat.reduceLeDiff, reduceCtorEq]; (repeat refine sk ?_); refine hK _ ?_; clear hK K)
  ((repeat refine PWp.seq ?_); refine PWp.region TT (by rfl) (fun K hK => ?_); simp only [push_cast, seval, Nat.reduceEqDiff, Nat.reduceLeDiff, reduceCtorEq])
  ((repeat refine sk ?_); refine PCall.use (shift_Behind lvP lvQ lvP_sm lvQ_sm) [] rfl (by simp [push_cast, lvP, lvQ]) (by simp) (by simp [push_cast, lvP, lvQ]) (by simp [push_cast, lvP, lvQ]) (by simp [push_cast, lvP, lvQ]) (by simp [push_cast, lvP, lvQ]) ?_)
  rintro _ _ ⟨rfl, rfl⟩
  rw [hR, hE]
  (simp only [push_cast, seval, Nat.reduceEqDiff, Nat.reduceLeDiff, reduceCtorEq]; (repeat refine sk ?_); refine hK _ ?_; clear hK K)
  ((repeat refine PWp.seq ?_); refine PWp.region TT (by rfl) (fun K hK => ?_); simp only [push_cast, seval, Nat.reduceEqDiff, Nat.reduceLeDiff, reduceCtorEq])
  ((repeat refine sk ?_); refine PCall.use (shift_Grows lvP lvP_sm) [] rfl (by simp [push_cast, lvP]) (by simp) (by simp [push_cast, lvP]) (by simp [push_cast, lvP]) (by simp [push_cast, lvP]) (by simp [push_cast, lvP]) ?_)
  rintro _ _ ⟨rfl, rfl⟩
  rw [hG]
  (simp only [push_cast, seval, Nat.reduceEqDiff, Nat.reduceLeDiff, reduceCtorEq])
  ((repeat refine sk ?_); refine PCall.use (shift_Check lvP 1 lvP_sm) [] rfl (by simp [push_cast, lvP]) (by simp) (by simp [push_cast, lvP]) (by simp [push_cast, lvP]) (by simp [push_cast, lvP]) (by simp [push_cast, lvP]) ?_)
  rintro _ _ ⟨rfl, rfl⟩
  rw [hC]
  (simp only [push_cast, seval, Nat.reduceEqDiff, Nat.reduceLeDiff, reduceCtorEq]; (repeat refine sk ?_); refine hK _ ?_; clear hK K)
  ((repeat refine PWp.seq ?_); refine PWp.ret ?_)
  refine ⟨.inr rfl, by omega, _, [], ?_, rfl, rfl⟩
  (simp [push_cast, -List.getD_eq_getElem?_getD])
end Go.Proofs.Ytjjgnopebokfoaa
