/- Walks of chapter 12: match.Right, Invert, To. -/
import Derived.Test.YtlpoajojkkfhhaaF2
namespace Go.Proofs.Ytlpoajojkkfhhaa
open Go.PL
set_option maxRecDepth 100000
set_option linter.unusedSimpArgs false
set_option linter.unusedVariables false

theorem match_Right (p : List (Int × Int)) (n m : Int) (hp : p.length ≤ 1000000) : PC Try.prog 23 [.iv (.sl 2 (p.map encP)), .iv (.lit (.int .i64 n)), .iv (.lit (.int .i64 m))] [] 0 0 (fun t obs => t = .iv (.lit (.bool (rRight p n m))) ∧ obs = []) := by
  refine PC.body [6] Try.func23 rfl (by rfl) (Nat.le_of_ble_eq_true (by rfl)) rfl ?_; simp only [enumA]
  ((repeat refine PWp.seq ?_); refine PWp.region TT (by rfl) (fun K hK => ?_); simp only [push_cast, Nat.reduceBEq, Nat.reduceAdd, Nat.reduceMul, Nat.reduceLT, Nat.reduceSub, Nat.reduceEqDiff, Nat.reduceLeDiff, Bool.not_true, Bool.not_false, Bool.false_eq_true, false_implies, forall_const, Bool.true_beq, Bool.false_beq, beq_true, beq_false, implies_true, reduceCtorEq]; (repeat (refine ⟨by clear hK; first | omega | trivial | (intros; simp_all; done) | (intros; simp_all; omega), ?_⟩)); refine hK _ ?_; clear hK K)
  ((repeat refine PWp.seq ?_); refine PWp.region TT (by rfl) (fun K hK => ?_); simp only [push_cast, Nat.reduceBEq, Nat.reduceAdd, Nat.reduceMul, Nat.reduceLT, Nat.reduceSub, Nat.reduceEqDiff, Nat.reduceLeDiff, Bool.not_true, Bool.not_false, Bool.false_eq_true, false_implies, forall_const, Bool.true_beq, Bool.false_beq, beq_true, beq_false, implies_true, reduceCtorEq]; (repeat (refine ⟨by clear hK; first | omega | trivial | (intros; simp_all; done) | (intros; simp_all; omega), ?_⟩)); refine hK _ ?_; clear hK K)
  ((repeat refine PWp.seq ?_); refine PWp.region TT (by rfl) (fun K hK => ?_); simp only [push_cast, Nat.reduceBEq, Nat.reduceAdd, Nat.reduceMul, Nat.reduceLT, Nat.reduceSub, Nat.reduceEqDiff, Nat.reduceLeDiff, Bool.not_true, Bool.not_false, Bool.false_eq_true, false_implies, forall_const, Bool.true_beq, Bool.false_beq, beq_true, beq_false, implies_true, reduceCtorEq]; (repeat (refine ⟨by clear hK; first | omega | trivial | (intros; simp_all; done) | (intros; simp_all; omega), ?_⟩)); refine hK _ ?_; clear hK K)
  ((repeat refine PWp.seq ?_); refine PWp.block ?_)
  refine PWp.loop (fun c st => ∃ k : Nat, ∃ i j : Int, c = p.length - k ∧ k ≤ p.length ∧ (∀ j < k, rPt p n m j) ∧ (0 < k → i = (p.getD (k - 1) default).1 ∧ j = (p.getD (k - 1) default).2) ∧ (k = 0 → i = -1 ∧ j = -1) ∧
    st = ⟨[(0, .iv (.sl 2 (p.map encP))), (1, .iv (.lit (.int .i64 n))), (2, .iv (.lit (.int .i64 m))), (7, .iv (.lit (.int .i64 i))), (8, .iv (.lit (.int .i64 j))), (11, .iv (.sl 2 (p.map encP))), (12, .iv (.lit (.int .i64 p.length))), (13, .iv (.lit (.int .i64 k)))], [], 0⟩) _ _ ⟨0, -1, -1, rfl, Nat.zero_le _, by simp, by simp, by simp, rfl⟩ (Gh.le (by simp [push_cast]) (by simp)) ?_
  rintro c st ⟨k, i, j, rfl, hk, hf, hij, h0, rfl⟩
  ((repeat refine PWp.seq ?_); refine PWp.region TT (by rfl) (fun K hK => ?_); simp only [push_cast, Nat.reduceBEq, Nat.reduceAdd, Nat.reduceMul, Nat.reduceLT, Nat.reduceSub, Nat.reduceEqDiff, Nat.reduceLeDiff, Bool.not_true, Bool.not_false, Bool.false_eq_true, false_implies, forall_const, Bool.true_beq, Bool.false_beq, beq_true, beq_false, implies_true, reduceCtorEq]; (repeat (refine ⟨by clear hK; first | omega | trivial | (intros; simp_all; done) | (intros; simp_all; omega), ?_⟩)); refine hK _ ?_; clear hK K)
  ((repeat refine PWp.seq ?_); refine PWp.cond (by simp only [push_cast, Nat.reduceBEq, Nat.reduceAdd, Nat.reduceMul, Nat.reduceLT, Nat.reduceSub, Nat.reduceEqDiff, Nat.reduceLeDiff, Bool.not_true, Bool.not_false, Bool.false_eq_true, false_implies, forall_const, Bool.true_beq, Bool.false_beq, beq_true, beq_false, implies_true, reduceCtorEq]; rfl) (fun hc => ?_) (fun hc => ?_))
  · have hlt : k < p.length := by simpa using hc
    clear hc
    ((repeat refine PWp.seq ?_); refine PWp.skip ?_)
    ((repeat refine PWp.seq ?_); refine PWp.block ?_)
    ((repeat refine PWp.seq ?_); refine PWp.region TT (by rfl) (fun K hK => ?_); simp only [push_cast, Nat.reduceBEq, Nat.reduceAdd, Nat.reduceMul, Nat.reduceLT, Nat.reduceSub, Nat.reduceEqDiff, Nat.reduceLeDiff, Bool.not_true, Bool.not_false, Bool.false_eq_true, false_implies, forall_const, Bool.true_beq, Bool.false_beq, beq_true, beq_false, implies_true, reduceCtorEq, getD_map hlt]; (repeat (refine ⟨by clear hK; first | omega | trivial | (intros; simp_all; done) | (intros; simp_all; omega), ?_⟩)); refine hK _ ?_; clear hK K)
    ((repeat refine PWp.seq ?_); refine PWp.region TT (by rfl) (fun K hK => ?_); simp only [push_cast, Nat.reduceBEq, Nat.reduceAdd, Nat.reduceMul, Nat.reduceLT, Nat.reduceSub, Nat.reduceEqDiff, Nat.reduceLeDiff, Bool.not_true, Bool.not_false, Bool.false_eq_true, false_implies, forall_const, Bool.true_beq, Bool.false_beq, beq_true, beq_false, implies_true, reduceCtorEq, getD_map hlt]; (repeat (refine ⟨by clear hK; first | omega | trivial | (intros; simp_all; done) | (intros; simp_all; omega), ?_⟩)); refine hK _ ?_; clear hK K)
    have hpos : 0 < k → 0 ≤ i ∧ 0 ≤ j := fun h => by have := (hf (k - 1) (by omega)).1; have := hij h; omega
    ((repeat refine PWp.seq ?_); refine PWp.cond (by simp only [push_cast, Nat.reduceBEq, Nat.reduceAdd, Nat.reduceMul, Nat.reduceLT, Nat.reduceSub, Nat.reduceEqDiff, Nat.reduceLeDiff, Bool.not_true, Bool.not_false, Bool.false_eq_true, false_implies, forall_const, Bool.true_beq, Bool.false_beq, beq_true, beq_false, implies_true, reduceCtorEq]; rfl) (fun hc => ?_) (fun hc => ?_))
    · have hbad : ¬ rPt p n m k := by
        simp only [Bool.or_eq_true, Bool.and_eq_true, Bool.not_eq_true', Bool.not_eq_false', Bool.or_eq_false_iff, Bool.and_eq_false_iff, decide_eq_true_eq, decide_eq_false_iff_not, beq_iff_eq, beq_eq_false_iff_ne, bne_iff_ne, ne_eq, Classical.not_not, Int.not_lt, Int.not_le, ge_iff_le, gt_iff_lt] at hc
        unfold rPt
        omega
      ((repeat refine PWp.seq ?_); refine PWp.region TT (by rfl) (fun K hK => ?_); simp only [push_cast, Nat.reduceBEq, Nat.reduceAdd, Nat.reduceMul, Nat.reduceLT, Nat.reduceSub, Nat.reduceEqDiff, Nat.reduceLeDiff, Bool.not_true, Bool.not_false, Bool.false_eq_true, false_implies, forall_const, Bool.true_beq, Bool.false_beq, beq_true, beq_false, implies_true, reduceCtorEq]; (repeat (refine ⟨by clear hK; first | omega | trivial | (intros; simp_all; done) | (intros; simp_all; omega), ?_⟩)); refine hK _ ?_; clear hK K)
      ((repeat refine PWp.seq ?_); refine PWp.ret ?_)
      refine ⟨.inr rfl, Nat.le_refl _, _, [], ?_, rfl, rfl⟩
      rw [show rRight p n m = false from decide_eq_false (fun h => hbad (h k hlt))]
      (simp [push_cast])
    · have hgood : rPt p n m k := by
        simp only [Bool.or_eq_true, Bool.and_eq_true, Bool.not_eq_true', Bool.not_eq_false', Bool.or_eq_false_iff, Bool.and_eq_false_iff, decide_eq_true_eq, decide_eq_false_iff_not, beq_iff_eq, beq_eq_false_iff_ne, bne_iff_ne, ne_eq, Classical.not_not, Int.not_lt, Int.not_le, ge_iff_le, gt_iff_lt] at hc
        unfold rPt
        omega
      ((repeat refine PWp.seq ?_); refine PWp.skip ?_)
      ((repeat refine PWp.seq ?_); refine PWp.draw TT (by kernel_rfl) (by kernel_rfl) (by rfl) (by rfl) (fun K hK => ?_); simp only [push_cast, Nat.reduceBEq, Nat.reduceAdd, Nat.reduceMul, Nat.reduceLT, Nat.reduceSub, Nat.reduceEqDiff, Nat.reduceLeDiff, Bool.not_true, Bool.not_false, Bool.false_eq_true, false_implies, forall_const, Bool.true_beq, Bool.false_beq, beq_true, beq_false, implies_true, reduceCtorEq]; (repeat (refine ⟨by clear hK; first | omega | trivial | (intros; simp_all; done) | (intros; simp_all; omega), ?_⟩)); refine hK _ ?_; clear hK K)
      ((repeat refine PWp.seq ?_); refine PWp.region TT (by rfl) (fun K hK => ?_); simp only [push_cast, Nat.reduceBEq, Nat.reduceAdd, Nat.reduceMul, Nat.reduceLT, Nat.reduceSub, Nat.reduceEqDiff, Nat.reduceLeDiff, Bool.not_true, Bool.not_false, Bool.false_eq_true, false_implies, forall_const, Bool.true_beq, Bool.false_beq, beq_true, beq_false, implies_true, reduceCtorEq, wrap64_id (n := (k : Int) + 1) (by omega) (by omega)]; (repeat (refine ⟨by clear hK; first | omega | trivial | (intros; simp_all; done) | (intros; simp_all; omega), ?_⟩)); refine hK _ ?_; clear hK K)
      refine ⟨_, _, ?_, ⟨k + 1, _, _, rfl, by omega, fun j hj => ?_, fun _ => ⟨rfl, rfl⟩, by omega, rfl⟩, Gh.le (by simp [push_cast]) (by simp)⟩
      · omega
      · by_cases e : j = k
        · subst e; exact hgood
        · exact hf j (by omega)
  · have hk' : k = p.length := by simp at hc; omega
    subst hk'
    (repeat refine PWp.seq ?_); refine PWp.exit (iteT rfl ?_)
    ((repeat refine PWp.seq ?_); refine PWp.region TT (by rfl) (fun K hK => ?_); simp only [push_cast, Nat.reduceBEq, Nat.reduceAdd, Nat.reduceMul, Nat.reduceLT, Nat.reduceSub, Nat.reduceEqDiff, Nat.reduceLeDiff, Bool.not_true, Bool.not_false, Bool.false_eq_true, false_implies, forall_const, Bool.true_beq, Bool.false_beq, beq_true, beq_false, implies_true, reduceCtorEq]; (repeat (refine ⟨by clear hK; first | omega | trivial | (intros; simp_all; done) | (intros; simp_all; omega), ?_⟩)); refine hK _ ?_; clear hK K)
    ((repeat refine PWp.seq ?_); refine PWp.ret ?_)
    refine ⟨.inr rfl, Nat.le_refl _, _, [], ?_, rfl, rfl⟩
    have : rRight p n m = true := by unfold rRight; simpa using hf
    rw [this]
    (simp [push_cast])

theorem To1 (p : Int × Int) (i : Int) : PC Try.prog 39 [.iv (encP p), .bptr 0 0] [(0, .box 3 [.iv (.lit (.int .i64 i))])] 1 1 (fun t obs => t = .iv (.lit (.bool (p.1 == i))) ∧ obs = [(0, .box 3 [.iv (.lit (.int .i64 i))])]) := by
  refine PC.body [3] Try.func39 rfl (by rfl) (Nat.le_of_ble_eq_true (by rfl)) rfl ?_; simp only [enumA]
  ((repeat refine PWp.seq ?_); refine PWp.region TT (by rfl) (fun K hK => ?_); simp only [push_cast, Nat.reduceBEq, Nat.reduceAdd, Nat.reduceMul, Nat.reduceLT, Nat.reduceSub, Nat.reduceEqDiff, Nat.reduceLeDiff, Bool.not_true, Bool.not_false, Bool.false_eq_true, false_implies, forall_const, Bool.true_beq, Bool.false_beq, beq_true, beq_false, implies_true, reduceCtorEq]; (repeat (refine ⟨by clear hK; first | omega | trivial | (intros; simp_all; done) | (intros; simp_all; omega), ?_⟩)); refine hK _ ?_; clear hK K)
  ((repeat refine PWp.seq ?_); refine PWp.region TT (by rfl) (fun K hK => ?_); simp only [push_cast, Nat.reduceBEq, Nat.reduceAdd, Nat.reduceMul, Nat.reduceLT, Nat.reduceSub, Nat.reduceEqDiff, Nat.reduceLeDiff, Bool.not_true, Bool.not_false, Bool.false_eq_true, false_implies, forall_const, Bool.true_beq, Bool.false_beq, beq_true, beq_false, implies_true, reduceCtorEq]; (repeat (refine ⟨by clear hK; first | omega | trivial | (intros; simp_all; done) | (intros; simp_all; omega), ?_⟩)); refine hK _ ?_; clear hK K)
  ((repeat refine PWp.seq ?_); refine PWp.ret ?_)
  refine ⟨.inr rfl, Nat.le_refl _, _, _, ?_, rfl, rfl⟩
  (simp [push_cast])
end Go.Proofs.Ytlpoajojkkfhhaa
