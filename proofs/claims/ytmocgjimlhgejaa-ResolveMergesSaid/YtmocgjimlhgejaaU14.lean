/- What must be whatever is asked. -/
import Derived.Test.YtmocgjimlhgejaaU13
namespace Go.Proofs.Ytmocgjimlhgejaa
open Go.PL
set_option maxRecDepth 100000
set_option linter.unusedSimpArgs false
set_option linter.unusedVariables false
def l0 : List Ln := [⟨[120], false⟩, ⟨mk1, false⟩, ⟨[97], false⟩, ⟨mk2, false⟩, ⟨mk3, false⟩, ⟨[98], false⟩, ⟨mk4, false⟩]
def r0 : List Rg := [⟨false, [⟨[120], false⟩], [], [], []⟩, ⟨true, [], [⟨[97], false⟩], [], [⟨[98], false⟩]⟩]
theorem par0 : parR l0 = (r0, 0, 0) := by decide
theorem set0 : setL r0 [4] = ([⟨[120], false⟩, ⟨[97], false⟩, ⟨[98], false⟩], 0) := by decide
theorem cl0 : clashN r0 = 1 := by decide
theorem pr0 : printL r0 = l0 := by decide
theorem live30_c : PC Try.prog 9 [] [] 0 0 (fun t obs => t = iB true ∧ obs = []) := by
  refine PC.body [0] Try.func9 rfl (by rfl) (Nat.le_of_ble_eq_true (by rfl)) rfl ?_; simp only [enumA]
  ((repeat refine PWp.seq ?_); refine PWp.region TT (by rfl) (fun K hK => ?_); simp only [push_cast, seval, Nat.reduceEqDiff, Nat.reduceLeDiff, reduceCtorEq]; (repeat refine sk ?_); refine hK _ ?_; clear hK K)
  ((repeat refine PWp.seq ?_); refine PWp.region TT (by rfl) (fun K hK => ?_); simp only [push_cast, seval, Nat.reduceEqDiff, Nat.reduceLeDiff, reduceCtorEq])
  ((repeat refine sk ?_); refine PCall.use (Parse_c l0 (by decide)) [] rfl (by simp [push_cast, l0, mk1, mk2, mk3, mk4]) (by simp) (by simp [push_cast, l0, mk1, mk2, mk3, mk4]) (by simp [push_cast, l0, mk1, mk2, mk3, mk4]) (by simp [push_cast, l0, mk1, mk2, mk3, mk4]) (by simp [push_cast, l0, mk1, mk2, mk3, mk4]) ?_)
  rintro _ _ ⟨rfl, rfl⟩
  rw [par0]
  (simp only [push_cast, seval, Nat.reduceEqDiff, Nat.reduceLeDiff, reduceCtorEq]; (repeat refine sk ?_); refine hK _ ?_; clear hK K)
  ((repeat refine PWp.seq ?_); refine PWp.region TT (by rfl) (fun K hK => ?_); simp only [push_cast, seval, Nat.reduceEqDiff, Nat.reduceLeDiff, reduceCtorEq])
  ((repeat refine sk ?_); refine PCall.use (Settle_c r0 [4] (by decide) (by decide) (by intro x hx; simp [r0] at hx; rcases hx with rfl | rfl <;> decide) (by decide)) [] rfl (by simp [push_cast]) (by simp) (by simp [push_cast]) (by simp [push_cast]) (by simp [push_cast]) (by simp [push_cast]) ?_)
  rintro _ _ ⟨rfl, rfl⟩
  rw [set0]
  (simp only [push_cast, seval, Nat.reduceEqDiff, Nat.reduceLeDiff, reduceCtorEq]; (repeat refine sk ?_); refine hK _ ?_; clear hK K)
  have hg : (r0.map encR).getD 1 .any = encR ⟨true, [], [⟨[97], false⟩], [], [⟨[98], false⟩]⟩ := rfl
  have hg2 : (List.map encL [⟨[120], false⟩, ⟨[97], false⟩, ⟨[98], false⟩]).getD 2 .any = encL ⟨[98], false⟩ := rfl
  ((repeat refine PWp.seq ?_); refine PWp.region TT (by rfl) (fun K hK => ?_); simp only [push_cast, seval, Nat.reduceEqDiff, Nat.reduceLeDiff, reduceCtorEq, show r0.length = 2 from rfl, hg])
  refine ⟨by decide, ?_⟩
  (refine PCall.use (Clashes_c r0 (by decide)) [] rfl (by simp [push_cast]) (by simp) (by simp [push_cast]) (by simp [push_cast]) (by simp [push_cast]) (by simp [push_cast]) ?_)
  rintro _ _ ⟨rfl, rfl⟩
  rw [cl0]
  (simp only [push_cast, seval, Nat.reduceEqDiff, Nat.reduceLeDiff, reduceCtorEq, hg2])
  ((repeat refine sk ?_); refine PCall.use (Print_c r0 (by decide) (by decide)) [] rfl (by simp [push_cast]) (by simp) (by simp [push_cast]) (by simp [push_cast]) (by simp [push_cast]) (by simp [push_cast]) ?_)
  rintro _ _ ⟨rfl, rfl⟩
  rw [pr0]
  (simp only [push_cast, seval, Nat.reduceEqDiff, Nat.reduceLeDiff, reduceCtorEq, show l0.length = 7 from rfl]; (repeat refine sk ?_); refine hK _ ?_; clear hK K)
  ((repeat refine PWp.seq ?_); refine PWp.ret ?_)
  refine ⟨.inr rfl, by omega, _, [], ?_, rfl, rfl⟩
  (simp [push_cast, -List.getD_eq_getElem?_getD])
