/- Walks of chapter 12, in the logic over values. -/
import Derived.Test.YtjcdmdejhbmoeaaTy
namespace Go.Proofs.Ytjcdmdejhbmoeaa
open Go.PL
set_option maxRecDepth 100000
set_option linter.unusedSimpArgs false
set_option linter.unusedVariables false
def encP (p : Int × Int) : IV := .agg [.lit (.int .i64 p.1), .lit (.int .i64 p.2)]
def toI (p : List (Int × Int)) (i : Int) : Option Int := (p.find? (fun q => q.1 == i)).map (·.2)
attribute [push_cast] encP
theorem toI_none {p : List (Int × Int)} {i : Int} (h : ∀ j < p.length, (p.getD j default).1 ≠ i) : toI p i = none := by
  unfold toI
  rw [List.find?_eq_none.2]; rfl
  intro q hq
  obtain ⟨j, hj⟩ := List.getElem?_of_mem hq
  have hlt := (List.getElem?_eq_some_iff.1 hj).1
  have := h j hlt
  rw [List.getD_eq_getElem?_getD, hj] at this
  simpa using this
theorem toI_some {p : List (Int × Int)} {i : Int} {k : Nat} (hk : k < p.length) (h : ∀ j < k, (p.getD j default).1 ≠ i) (he : (p.getD k default).1 = i) : toI p i = some (p.getD k default).2 := by
  unfold toI
  have : p.find? (fun q => q.1 == i) = some (p.getD k default) := by
    have e : p.getD k default = p[k] := by simp [List.getD, hk]
    rw [List.find?_eq_some_iff_getElem]
    refine ⟨by simpa using he, k, hk, e.symm, fun j hj => ?_⟩
    have := h j hj
    rw [List.getD_eq_getElem?_getD, List.getElem?_eq_getElem (by omega)] at this
    simpa using this
  rw [this]; rfl

theorem ref12_To (p : List (Int × Int)) (i : Int) (hp : p.length ≤ 1000000) : PC Try.prog 58 [.iv (.sl 2 (p.map encP)), .iv (.lit (.int .i64 i))] [] 0 0 (fun t obs => t = .tup [.iv (.lit (.int .i64 ((toI p i).getD 0))), .iv (.lit (.bool (toI p i).isSome))] ∧ obs = []) := by
  refine PC.body [4, 5] Try.func58 rfl (by rfl) (Nat.le_of_ble_eq_true (by rfl)) rfl ?_; simp only [enumA]
  ((repeat refine PWp.seq ?_); refine PWp.region TT (by rfl) (fun K hK => ?_); simp only [push_cast, beq_self_eq_true, Int.reduceBEq, Int.reduceToNat, Int.reduceAdd, Int.reduceSub, Nat.reduceBEq, Nat.reduceAdd, Nat.reduceMul, Nat.reduceLT, Nat.reduceSub, Nat.reduceEqDiff, Nat.reduceLeDiff, Bool.not_true, Bool.not_false, Bool.false_eq_true, false_implies, forall_const, Bool.true_beq, Bool.false_beq, beq_true, beq_false, implies_true, reduceCtorEq]; (repeat (refine ⟨by clear hK; first | omega | trivial | exact id | (intro h; rw [h]; rfl) | (intro h; exact ⟨h, h⟩) | (intros; decide) | (intro h; simp only [Bool.and_eq_true, Bool.not_eq_true', Bool.or_eq_false_iff, Bool.not_eq_false'] at h; simp [h]; done) | (intros; simp_all; done) | (intros; simp_all; omega), ?_⟩)); refine hK _ ?_; clear hK K)
  ((repeat refine PWp.seq ?_); refine PWp.region TT (by rfl) (fun K hK => ?_); simp only [push_cast, beq_self_eq_true, Int.reduceBEq, Int.reduceToNat, Int.reduceAdd, Int.reduceSub, Nat.reduceBEq, Nat.reduceAdd, Nat.reduceMul, Nat.reduceLT, Nat.reduceSub, Nat.reduceEqDiff, Nat.reduceLeDiff, Bool.not_true, Bool.not_false, Bool.false_eq_true, false_implies, forall_const, Bool.true_beq, Bool.false_beq, beq_true, beq_false, implies_true, reduceCtorEq]; (repeat (refine ⟨by clear hK; first | omega | trivial | exact id | (intro h; rw [h]; rfl) | (intro h; exact ⟨h, h⟩) | (intros; decide) | (intro h; simp only [Bool.and_eq_true, Bool.not_eq_true', Bool.or_eq_false_iff, Bool.not_eq_false'] at h; simp [h]; done) | (intros; simp_all; done) | (intros; simp_all; omega), ?_⟩)); refine hK _ ?_; clear hK K)
  ((repeat refine PWp.seq ?_); refine PWp.block ?_)
  refine PWp.loop (fun m st => ∃ k : Nat, m = p.length - k ∧ k ≤ p.length ∧ (∀ j < k, (p.getD j default).1 ≠ i) ∧ st = ⟨[(0, .iv (.sl 2 (p.map encP))), (1, .iv (.lit (.int .i64 i))), (6, .iv (.lit (.int .i64 k)))], [], 0⟩) _ _ ⟨0, rfl, Nat.zero_le _, by simp, rfl⟩ (Gh.le (by simp [push_cast, -List.getD_eq_getElem?_getD]) (by simp)) ?_
  rintro m st ⟨k, rfl, hk, hf, rfl⟩
  ((repeat refine PWp.seq ?_); refine PWp.region TT (by rfl) (fun K hK => ?_); simp only [push_cast, beq_self_eq_true, Int.reduceBEq, Int.reduceToNat, Int.reduceAdd, Int.reduceSub, Nat.reduceBEq, Nat.reduceAdd, Nat.reduceMul, Nat.reduceLT, Nat.reduceSub, Nat.reduceEqDiff, Nat.reduceLeDiff, Bool.not_true, Bool.not_false, Bool.false_eq_true, false_implies, forall_const, Bool.true_beq, Bool.false_beq, beq_true, beq_false, implies_true, reduceCtorEq]; (repeat (refine ⟨by clear hK; first | omega | trivial | exact id | (intro h; rw [h]; rfl) | (intro h; exact ⟨h, h⟩) | (intros; decide) | (intro h; simp only [Bool.and_eq_true, Bool.not_eq_true', Bool.or_eq_false_iff, Bool.not_eq_false'] at h; simp [h]; done) | (intros; simp_all; done) | (intros; simp_all; omega), ?_⟩)); refine hK _ ?_; clear hK K)
  ((repeat refine PWp.seq ?_); refine PWp.cond (by simp only [push_cast, beq_self_eq_true, Int.reduceBEq, Int.reduceToNat, Int.reduceAdd, Int.reduceSub, Nat.reduceBEq, Nat.reduceAdd, Nat.reduceMul, Nat.reduceLT, Nat.reduceSub, Nat.reduceEqDiff, Nat.reduceLeDiff, Bool.not_true, Bool.not_false, Bool.false_eq_true, false_implies, forall_const, Bool.true_beq, Bool.false_beq, beq_true, beq_false, implies_true, reduceCtorEq]; rfl) (fun hc => ?_) (fun hc => ?_))
  · have hlt : k < p.length := by simpa using hc
    ((repeat refine PWp.seq ?_); refine PWp.skip ?_)
    ((repeat refine PWp.seq ?_); refine PWp.block ?_)
    ((repeat refine PWp.seq ?_); refine PWp.region TT (by rfl) (fun K hK => ?_); simp only [push_cast, beq_self_eq_true, Int.reduceBEq, Int.reduceToNat, Int.reduceAdd, Int.reduceSub, Nat.reduceBEq, Nat.reduceAdd, Nat.reduceMul, Nat.reduceLT, Nat.reduceSub, Nat.reduceEqDiff, Nat.reduceLeDiff, Bool.not_true, Bool.not_false, Bool.false_eq_true, false_implies, forall_const, Bool.true_beq, Bool.false_beq, beq_true, beq_false, implies_true, reduceCtorEq, getD_map hlt]; (repeat (refine ⟨by clear hK; first | omega | trivial | exact id | (intro h; rw [h]; rfl) | (intro h; exact ⟨h, h⟩) | (intros; decide) | (intro h; simp only [Bool.and_eq_true, Bool.not_eq_true', Bool.or_eq_false_iff, Bool.not_eq_false'] at h; simp [h]; done) | (intros; simp_all; done) | (intros; simp_all; omega), ?_⟩)); refine hK _ ?_; clear hK K)
    ((repeat refine PWp.seq ?_); refine PWp.cond (by simp only [push_cast, beq_self_eq_true, Int.reduceBEq, Int.reduceToNat, Int.reduceAdd, Int.reduceSub, Nat.reduceBEq, Nat.reduceAdd, Nat.reduceMul, Nat.reduceLT, Nat.reduceSub, Nat.reduceEqDiff, Nat.reduceLeDiff, Bool.not_true, Bool.not_false, Bool.false_eq_true, false_implies, forall_const, Bool.true_beq, Bool.false_beq, beq_true, beq_false, implies_true, reduceCtorEq]; rfl) (fun hc => ?_) (fun hc => ?_))
    · have he : (p.getD k default).1 = i := by simpa using hc
      ((repeat refine PWp.seq ?_); refine PWp.region TT (by rfl) (fun K hK => ?_); simp only [push_cast, beq_self_eq_true, Int.reduceBEq, Int.reduceToNat, Int.reduceAdd, Int.reduceSub, Nat.reduceBEq, Nat.reduceAdd, Nat.reduceMul, Nat.reduceLT, Nat.reduceSub, Nat.reduceEqDiff, Nat.reduceLeDiff, Bool.not_true, Bool.not_false, Bool.false_eq_true, false_implies, forall_const, Bool.true_beq, Bool.false_beq, beq_true, beq_false, implies_true, reduceCtorEq, getD_map hlt]; (repeat (refine ⟨by clear hK; first | omega | trivial | exact id | (intro h; rw [h]; rfl) | (intro h; exact ⟨h, h⟩) | (intros; decide) | (intro h; simp only [Bool.and_eq_true, Bool.not_eq_true', Bool.or_eq_false_iff, Bool.not_eq_false'] at h; simp [h]; done) | (intros; simp_all; done) | (intros; simp_all; omega), ?_⟩)); refine hK _ ?_; clear hK K)
      ((repeat refine PWp.seq ?_); refine PWp.ret ?_)
      refine ⟨.inr rfl, Nat.le_refl _, _, [], ?_, rfl, rfl⟩
      rw [toI_some hlt hf he]
      (simp [push_cast, -List.getD_eq_getElem?_getD])
    · ((repeat refine PWp.seq ?_); refine PWp.skip ?_)
      ((repeat refine PWp.seq ?_); refine PWp.region TT (by rfl) (fun K hK => ?_); simp only [push_cast, beq_self_eq_true, Int.reduceBEq, Int.reduceToNat, Int.reduceAdd, Int.reduceSub, Nat.reduceBEq, Nat.reduceAdd, Nat.reduceMul, Nat.reduceLT, Nat.reduceSub, Nat.reduceEqDiff, Nat.reduceLeDiff, Bool.not_true, Bool.not_false, Bool.false_eq_true, false_implies, forall_const, Bool.true_beq, Bool.false_beq, beq_true, beq_false, implies_true, reduceCtorEq, wrap64_id (n := (k : Int) + 1) (by omega) (by omega)]; (repeat (refine ⟨by clear hK; first | omega | trivial | exact id | (intro h; rw [h]; rfl) | (intro h; exact ⟨h, h⟩) | (intros; decide) | (intro h; simp only [Bool.and_eq_true, Bool.not_eq_true', Bool.or_eq_false_iff, Bool.not_eq_false'] at h; simp [h]; done) | (intros; simp_all; done) | (intros; simp_all; omega), ?_⟩)); refine hK _ ?_; clear hK K)
      refine ⟨_, _, ?_, ⟨k + 1, rfl, by omega, fun j hj => ?_, rfl⟩, Gh.le (by simp [push_cast, -List.getD_eq_getElem?_getD]) (by simp)⟩
      · omega
      · by_cases e : j = k
        · subst e; simpa using hc
        · exact hf j (by omega)
  · have hk' : k = p.length := by simp at hc; omega
    subst hk'
    (repeat refine PWp.seq ?_); refine PWp.exit (iteT rfl ?_)
    ((repeat refine PWp.seq ?_); refine PWp.region TT (by rfl) (fun K hK => ?_); simp only [push_cast, beq_self_eq_true, Int.reduceBEq, Int.reduceToNat, Int.reduceAdd, Int.reduceSub, Nat.reduceBEq, Nat.reduceAdd, Nat.reduceMul, Nat.reduceLT, Nat.reduceSub, Nat.reduceEqDiff, Nat.reduceLeDiff, Bool.not_true, Bool.not_false, Bool.false_eq_true, false_implies, forall_const, Bool.true_beq, Bool.false_beq, beq_true, beq_false, implies_true, reduceCtorEq]; (repeat (refine ⟨by clear hK; first | omega | trivial | exact id | (intro h; rw [h]; rfl) | (intro h; exact ⟨h, h⟩) | (intros; decide) | (intro h; simp only [Bool.and_eq_true, Bool.not_eq_true', Bool.or_eq_false_iff, Bool.not_eq_false'] at h; simp [h]; done) | (intros; simp_all; done) | (intros; simp_all; omega), ?_⟩)); refine hK _ ?_; clear hK K)
    ((repeat refine PWp.seq ?_); refine PWp.ret ?_)
    refine ⟨.inr rfl, Nat.le_refl _, _, [], ?_, rfl, rfl⟩
    rw [toI_none hf]
    (simp [push_cast, -List.getD_eq_getElem?_getD])
end Go.Proofs.Ytjcdmdejhbmoeaa
