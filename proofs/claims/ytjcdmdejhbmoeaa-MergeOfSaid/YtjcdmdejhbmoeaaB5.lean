/- Walks of chapter 14: clean pieces, pieces that fit, their lines. -/
import Derived.Test.YtjcdmdejhbmoeaaB4
namespace Go.Proofs.Ytjcdmdejhbmoeaa
open Go.PL
set_option maxRecDepth 100000
set_option linter.unusedSimpArgs false
set_option linter.unusedVariables false
def iPc (l : List Pc) : TV := .iv (.sl 8 (l.map encPc))
attribute [push_cast] iPc
def clashB (p : Pc) : Bool := p.side == 4
theorem Clean1 (p : Pc) : PC Try.prog 33 [.iv (encPc p)] [] 0 0 (fun t obs => t = iB (clashB p) ∧ obs = []) := by
  refine PC.body [2] Try.func33 rfl (by rfl) (Nat.le_of_ble_eq_true (by rfl)) rfl ?_; simp only [enumA]
  ((repeat refine PWp.seq ?_); refine PWp.region TT (by rfl) (fun K hK => ?_); simp only [push_cast, beq_self_eq_true, Int.reduceBEq, Int.reduceToNat, Int.reduceAdd, Int.reduceSub, Nat.reduceBEq, Nat.reduceAdd, Nat.reduceMul, Nat.reduceLT, Nat.reduceSub, Nat.reduceEqDiff, Nat.reduceLeDiff, Bool.not_true, Bool.not_false, Bool.false_eq_true, false_implies, forall_const, Bool.true_beq, Bool.false_beq, beq_true, beq_false, implies_true, reduceCtorEq]; (repeat (refine ⟨by clear hK; first | omega | trivial | exact id | (intro h; rw [h]; rfl) | (intro h; exact ⟨h, h⟩) | (intros; decide) | (intro h; simp only [Bool.and_eq_true, Bool.not_eq_true', Bool.or_eq_false_iff, Bool.not_eq_false'] at h; simp [h]; done) | (intros; simp_all; done) | (intros; simp_all; omega), ?_⟩)); refine hK _ ?_; clear hK K)
  ((repeat refine PWp.seq ?_); refine PWp.region TT (by rfl) (fun K hK => ?_); simp only [push_cast, beq_self_eq_true, Int.reduceBEq, Int.reduceToNat, Int.reduceAdd, Int.reduceSub, Nat.reduceBEq, Nat.reduceAdd, Nat.reduceMul, Nat.reduceLT, Nat.reduceSub, Nat.reduceEqDiff, Nat.reduceLeDiff, Bool.not_true, Bool.not_false, Bool.false_eq_true, false_implies, forall_const, Bool.true_beq, Bool.false_beq, beq_true, beq_false, implies_true, reduceCtorEq]; (repeat (refine ⟨by clear hK; first | omega | trivial | exact id | (intro h; rw [h]; rfl) | (intro h; exact ⟨h, h⟩) | (intros; decide) | (intro h; simp only [Bool.and_eq_true, Bool.not_eq_true', Bool.or_eq_false_iff, Bool.not_eq_false'] at h; simp [h]; done) | (intros; simp_all; done) | (intros; simp_all; omega), ?_⟩)); refine hK _ ?_; clear hK K)
  ((repeat refine PWp.seq ?_); refine PWp.ret ?_)
  refine ⟨.inr rfl, by omega, _, [], ?_, rfl, rfl⟩
  unfold clashB
  (simp [push_cast, -List.getD_eq_getElem?_getD])
theorem IndexFunc_clash (l : List Pc) (hl : l.length ≤ 1000000) : PC Try.prog 46 [iPc l, .clo 33 []] [] 0 0
    (fun t obs => (∃ i : Int, t = iI i ∧ decide (i ≥ 0) = l.any clashB) ∧ obs = []) := by
  refine PC.body [4] Try.func46 rfl (by rfl) (Nat.le_of_ble_eq_true (by rfl)) rfl ?_; simp only [enumA]
  ((repeat refine PWp.seq ?_); refine PWp.region TT (by rfl) (fun K hK => ?_); simp only [push_cast, beq_self_eq_true, Int.reduceBEq, Int.reduceToNat, Int.reduceAdd, Int.reduceSub, Nat.reduceBEq, Nat.reduceAdd, Nat.reduceMul, Nat.reduceLT, Nat.reduceSub, Nat.reduceEqDiff, Nat.reduceLeDiff, Bool.not_true, Bool.not_false, Bool.false_eq_true, false_implies, forall_const, Bool.true_beq, Bool.false_beq, beq_true, beq_false, implies_true, reduceCtorEq]; (repeat (refine ⟨by clear hK; first | omega | trivial | exact id | (intro h; rw [h]; rfl) | (intro h; exact ⟨h, h⟩) | (intros; decide) | (intro h; simp only [Bool.and_eq_true, Bool.not_eq_true', Bool.or_eq_false_iff, Bool.not_eq_false'] at h; simp [h]; done) | (intros; simp_all; done) | (intros; simp_all; omega), ?_⟩)); refine hK _ ?_; clear hK K)
  ((repeat refine PWp.seq ?_); refine PWp.region TT (by rfl) (fun K hK => ?_); simp only [push_cast, beq_self_eq_true, Int.reduceBEq, Int.reduceToNat, Int.reduceAdd, Int.reduceSub, Nat.reduceBEq, Nat.reduceAdd, Nat.reduceMul, Nat.reduceLT, Nat.reduceSub, Nat.reduceEqDiff, Nat.reduceLeDiff, Bool.not_true, Bool.not_false, Bool.false_eq_true, false_implies, forall_const, Bool.true_beq, Bool.false_beq, beq_true, beq_false, implies_true, reduceCtorEq]; (repeat (refine ⟨by clear hK; first | omega | trivial | exact id | (intro h; rw [h]; rfl) | (intro h; exact ⟨h, h⟩) | (intros; decide) | (intro h; simp only [Bool.and_eq_true, Bool.not_eq_true', Bool.or_eq_false_iff, Bool.not_eq_false'] at h; simp [h]; done) | (intros; simp_all; done) | (intros; simp_all; omega), ?_⟩)); refine hK _ ?_; clear hK K)
  ((repeat refine PWp.seq ?_); refine PWp.block ?_)
  refine PWp.loop (fun c st => ∃ k : Nat, c = l.length - k ∧ k ≤ l.length ∧ (∀ i < k, clashB (l.getD i default) = false) ∧
    st = ⟨[(0, iPc l), (1, .clo 33 []), (7, iI l.length), (8, iI k)], [], 0⟩) _ _ ⟨0, rfl, Nat.zero_le _, by simp, rfl⟩ (Gh.le (by simp [push_cast, -List.getD_eq_getElem?_getD]) (by simp)) ?_
  rintro c st ⟨k, rfl, hk, hf, rfl⟩
  ((repeat refine PWp.seq ?_); refine PWp.region TT (by rfl) (fun K hK => ?_); simp only [push_cast, beq_self_eq_true, Int.reduceBEq, Int.reduceToNat, Int.reduceAdd, Int.reduceSub, Nat.reduceBEq, Nat.reduceAdd, Nat.reduceMul, Nat.reduceLT, Nat.reduceSub, Nat.reduceEqDiff, Nat.reduceLeDiff, Bool.not_true, Bool.not_false, Bool.false_eq_true, false_implies, forall_const, Bool.true_beq, Bool.false_beq, beq_true, beq_false, implies_true, reduceCtorEq]; (repeat (refine ⟨by clear hK; first | omega | trivial | exact id | (intro h; rw [h]; rfl) | (intro h; exact ⟨h, h⟩) | (intros; decide) | (intro h; simp only [Bool.and_eq_true, Bool.not_eq_true', Bool.or_eq_false_iff, Bool.not_eq_false'] at h; simp [h]; done) | (intros; simp_all; done) | (intros; simp_all; omega), ?_⟩)); refine hK _ ?_; clear hK K)
  ((repeat refine PWp.seq ?_); refine PWp.cond (by simp only [push_cast, beq_self_eq_true, Int.reduceBEq, Int.reduceToNat, Int.reduceAdd, Int.reduceSub, Nat.reduceBEq, Nat.reduceAdd, Nat.reduceMul, Nat.reduceLT, Nat.reduceSub, Nat.reduceEqDiff, Nat.reduceLeDiff, Bool.not_true, Bool.not_false, Bool.false_eq_true, false_implies, forall_const, Bool.true_beq, Bool.false_beq, beq_true, beq_false, implies_true, reduceCtorEq]; rfl) (fun hc => ?_) (fun hc => ?_))
  · have hlt : k < l.length := by simpa using hc
    clear hc
    have hm : l.getD k default ∈ l := getD_mem hlt
    ((repeat refine PWp.seq ?_); refine PWp.skip ?_)
    ((repeat refine PWp.seq ?_); refine PWp.block ?_)
    ((repeat refine PWp.seq ?_); refine PWp.region TT (by rfl) (fun K hK => ?_); simp only [push_cast, beq_self_eq_true, Int.reduceBEq, Int.reduceToNat, Int.reduceAdd, Int.reduceSub, Nat.reduceBEq, Nat.reduceAdd, Nat.reduceMul, Nat.reduceLT, Nat.reduceSub, Nat.reduceEqDiff, Nat.reduceLeDiff, Bool.not_true, Bool.not_false, Bool.false_eq_true, false_implies, forall_const, Bool.true_beq, Bool.false_beq, beq_true, beq_false, implies_true, reduceCtorEq]; (repeat (refine ⟨by clear hK; first | omega | trivial | exact id | (intro h; rw [h]; rfl) | (intro h; exact ⟨h, h⟩) | (intros; decide) | (intro h; simp only [Bool.and_eq_true, Bool.not_eq_true', Bool.or_eq_false_iff, Bool.not_eq_false'] at h; simp [h]; done) | (intros; simp_all; done) | (intros; simp_all; omega), ?_⟩)); refine hK _ ?_; clear hK K)
    ((repeat refine PWp.seq ?_); refine PWp.region TT (by rfl) (fun K hK => ?_); simp only [push_cast, beq_self_eq_true, Int.reduceBEq, Int.reduceToNat, Int.reduceAdd, Int.reduceSub, Nat.reduceBEq, Nat.reduceAdd, Nat.reduceMul, Nat.reduceLT, Nat.reduceSub, Nat.reduceEqDiff, Nat.reduceLeDiff, Bool.not_true, Bool.not_false, Bool.false_eq_true, false_implies, forall_const, Bool.true_beq, Bool.false_beq, beq_true, beq_false, implies_true, reduceCtorEq, getD_map hlt])
    ((repeat (refine ⟨by clear hK; first | omega | trivial | exact id | (intro h; rw [h]; rfl) | (intro h; exact ⟨h, h⟩) | (intros; decide) | (intro h; simp only [Bool.and_eq_true, Bool.not_eq_true', Bool.or_eq_false_iff, Bool.not_eq_false'] at h; simp [h]; done) | (intros; simp_all; done) | (intros; simp_all; omega), ?_⟩)); refine PCall.use (Clean1 (l.getD k default)) [] rfl (by simp [push_cast]) (by simp) (by simp [push_cast]) (by simp [push_cast]) (by simp [push_cast]) (by simp [push_cast]) ?_)
    rintro _ _ ⟨rfl, rfl⟩
    (simp only [push_cast, beq_self_eq_true, Int.reduceBEq, Int.reduceToNat, Int.reduceAdd, Int.reduceSub, Nat.reduceBEq, Nat.reduceAdd, Nat.reduceMul, Nat.reduceLT, Nat.reduceSub, Nat.reduceEqDiff, Nat.reduceLeDiff, Bool.not_true, Bool.not_false, Bool.false_eq_true, false_implies, forall_const, Bool.true_beq, Bool.false_beq, beq_true, beq_false, implies_true, reduceCtorEq]; (repeat (refine ⟨by clear hK; first | omega | trivial | exact id | (intro h; rw [h]; rfl) | (intro h; exact ⟨h, h⟩) | (intros; decide) | (intro h; simp only [Bool.and_eq_true, Bool.not_eq_true', Bool.or_eq_false_iff, Bool.not_eq_false'] at h; simp [h]; done) | (intros; simp_all; done) | (intros; simp_all; omega), ?_⟩)); refine hK _ ?_; clear hK K)
    ((repeat refine PWp.seq ?_); refine PWp.cond (by simp only [push_cast, beq_self_eq_true, Int.reduceBEq, Int.reduceToNat, Int.reduceAdd, Int.reduceSub, Nat.reduceBEq, Nat.reduceAdd, Nat.reduceMul, Nat.reduceLT, Nat.reduceSub, Nat.reduceEqDiff, Nat.reduceLeDiff, Bool.not_true, Bool.not_false, Bool.false_eq_true, false_implies, forall_const, Bool.true_beq, Bool.false_beq, beq_true, beq_false, implies_true, reduceCtorEq]; rfl) (fun hc => ?_) (fun hc => ?_))
    · have ha : l.any clashB = true := List.any_eq_true.2 ⟨_, hm, hc⟩
      ((repeat refine PWp.seq ?_); refine PWp.region TT (by rfl) (fun K hK => ?_); simp only [push_cast, beq_self_eq_true, Int.reduceBEq, Int.reduceToNat, Int.reduceAdd, Int.reduceSub, Nat.reduceBEq, Nat.reduceAdd, Nat.reduceMul, Nat.reduceLT, Nat.reduceSub, Nat.reduceEqDiff, Nat.reduceLeDiff, Bool.not_true, Bool.not_false, Bool.false_eq_true, false_implies, forall_const, Bool.true_beq, Bool.false_beq, beq_true, beq_false, implies_true, reduceCtorEq]; (repeat (refine ⟨by clear hK; first | omega | trivial | exact id | (intro h; rw [h]; rfl) | (intro h; exact ⟨h, h⟩) | (intros; decide) | (intro h; simp only [Bool.and_eq_true, Bool.not_eq_true', Bool.or_eq_false_iff, Bool.not_eq_false'] at h; simp [h]; done) | (intros; simp_all; done) | (intros; simp_all; omega), ?_⟩)); refine hK _ ?_; clear hK K)
      ((repeat refine PWp.seq ?_); refine PWp.ret ?_)
      refine ⟨.inr rfl, by omega, _, [], ?_, ⟨k, rfl, by rw [ha]; simp⟩, rfl⟩
      (simp [push_cast, -List.getD_eq_getElem?_getD])
    · ((repeat refine PWp.seq ?_); refine PWp.skip ?_)
      ((repeat refine PWp.seq ?_); refine PWp.region TT (by rfl) (fun K hK => ?_); simp only [push_cast, beq_self_eq_true, Int.reduceBEq, Int.reduceToNat, Int.reduceAdd, Int.reduceSub, Nat.reduceBEq, Nat.reduceAdd, Nat.reduceMul, Nat.reduceLT, Nat.reduceSub, Nat.reduceEqDiff, Nat.reduceLeDiff, Bool.not_true, Bool.not_false, Bool.false_eq_true, false_implies, forall_const, Bool.true_beq, Bool.false_beq, beq_true, beq_false, implies_true, reduceCtorEq, wrap64_id (n := (k : Int) + 1) (by omega) (by omega)]; (repeat (refine ⟨by clear hK; first | omega | trivial | exact id | (intro h; rw [h]; rfl) | (intro h; exact ⟨h, h⟩) | (intros; decide) | (intro h; simp only [Bool.and_eq_true, Bool.not_eq_true', Bool.or_eq_false_iff, Bool.not_eq_false'] at h; simp [h]; done) | (intros; simp_all; done) | (intros; simp_all; omega), ?_⟩)); refine hK _ ?_; clear hK K)
      refine ⟨_, _, ?_, ⟨k + 1, rfl, by omega, fun i hi => ?_, rfl⟩, Gh.le (by simp [push_cast, -List.getD_eq_getElem?_getD]) (by simp)⟩
      · omega
      · by_cases e : i = k
        · subst e; exact hc
        · exact hf i (by omega)
  · have hk' : k = l.length := by simp at hc; omega
    subst hk'
    have ha : l.any clashB = false := by
      rw [← Bool.not_eq_true, List.any_eq_true]
      rintro ⟨q, hq, hd⟩
      obtain ⟨i, hi, rfl⟩ := List.getElem_of_mem hq
      have := hf i hi
      rw [show l.getD i default = l[i] by simp [List.getD, hi]] at this
      rw [this] at hd
      cases hd
    (repeat refine PWp.seq ?_); refine PWp.exit (iteT rfl ?_)
    ((repeat refine PWp.seq ?_); refine PWp.region TT (by rfl) (fun K hK => ?_); simp only [push_cast, beq_self_eq_true, Int.reduceBEq, Int.reduceToNat, Int.reduceAdd, Int.reduceSub, Nat.reduceBEq, Nat.reduceAdd, Nat.reduceMul, Nat.reduceLT, Nat.reduceSub, Nat.reduceEqDiff, Nat.reduceLeDiff, Bool.not_true, Bool.not_false, Bool.false_eq_true, false_implies, forall_const, Bool.true_beq, Bool.false_beq, beq_true, beq_false, implies_true, reduceCtorEq]; (repeat (refine ⟨by clear hK; first | omega | trivial | exact id | (intro h; rw [h]; rfl) | (intro h; exact ⟨h, h⟩) | (intros; decide) | (intro h; simp only [Bool.and_eq_true, Bool.not_eq_true', Bool.or_eq_false_iff, Bool.not_eq_false'] at h; simp [h]; done) | (intros; simp_all; done) | (intros; simp_all; omega), ?_⟩)); refine hK _ ?_; clear hK K)
    ((repeat refine PWp.seq ?_); refine PWp.ret ?_)
    refine ⟨.inr rfl, by omega, _, [], ?_, ⟨-1, rfl, by rw [ha]; rfl⟩, rfl⟩
    (simp [push_cast, -List.getD_eq_getElem?_getD])
theorem ContainsFunc_clash (l : List Pc) (hl : l.length ≤ 1000000) : PC Try.prog 32 [iPc l, .clo 33 []] [] 0 0
    (fun t obs => t = iB (l.any clashB) ∧ obs = []) := by
  refine PC.body [4] Try.func32 rfl (by rfl) (Nat.le_of_ble_eq_true (by rfl)) rfl ?_; simp only [enumA]
  ((repeat refine PWp.seq ?_); refine PWp.region TT (by rfl) (fun K hK => ?_); simp only [push_cast, beq_self_eq_true, Int.reduceBEq, Int.reduceToNat, Int.reduceAdd, Int.reduceSub, Nat.reduceBEq, Nat.reduceAdd, Nat.reduceMul, Nat.reduceLT, Nat.reduceSub, Nat.reduceEqDiff, Nat.reduceLeDiff, Bool.not_true, Bool.not_false, Bool.false_eq_true, false_implies, forall_const, Bool.true_beq, Bool.false_beq, beq_true, beq_false, implies_true, reduceCtorEq]; (repeat (refine ⟨by clear hK; first | omega | trivial | exact id | (intro h; rw [h]; rfl) | (intro h; exact ⟨h, h⟩) | (intros; decide) | (intro h; simp only [Bool.and_eq_true, Bool.not_eq_true', Bool.or_eq_false_iff, Bool.not_eq_false'] at h; simp [h]; done) | (intros; simp_all; done) | (intros; simp_all; omega), ?_⟩)); refine hK _ ?_; clear hK K)
  ((repeat refine PWp.seq ?_); refine PWp.region TT (by rfl) (fun K hK => ?_); simp only [push_cast, beq_self_eq_true, Int.reduceBEq, Int.reduceToNat, Int.reduceAdd, Int.reduceSub, Nat.reduceBEq, Nat.reduceAdd, Nat.reduceMul, Nat.reduceLT, Nat.reduceSub, Nat.reduceEqDiff, Nat.reduceLeDiff, Bool.not_true, Bool.not_false, Bool.false_eq_true, false_implies, forall_const, Bool.true_beq, Bool.false_beq, beq_true, beq_false, implies_true, reduceCtorEq])
  ((repeat (refine ⟨by clear hK; first | omega | trivial | exact id | (intro h; rw [h]; rfl) | (intro h; exact ⟨h, h⟩) | (intros; decide) | (intro h; simp only [Bool.and_eq_true, Bool.not_eq_true', Bool.or_eq_false_iff, Bool.not_eq_false'] at h; simp [h]; done) | (intros; simp_all; done) | (intros; simp_all; omega), ?_⟩)); refine PCall.use (IndexFunc_clash l hl) [] rfl (by simp [push_cast]) (by simp) (by simp [push_cast]) (by simp [push_cast]) (by simp [push_cast]) (by simp [push_cast]) ?_)
  rintro _ _ ⟨⟨i, rfl, hi⟩, rfl⟩
  (simp only [push_cast, beq_self_eq_true, Int.reduceBEq, Int.reduceToNat, Int.reduceAdd, Int.reduceSub, Nat.reduceBEq, Nat.reduceAdd, Nat.reduceMul, Nat.reduceLT, Nat.reduceSub, Nat.reduceEqDiff, Nat.reduceLeDiff, Bool.not_true, Bool.not_false, Bool.false_eq_true, false_implies, forall_const, Bool.true_beq, Bool.false_beq, beq_true, beq_false, implies_true, reduceCtorEq]; (repeat (refine ⟨by clear hK; first | omega | trivial | exact id | (intro h; rw [h]; rfl) | (intro h; exact ⟨h, h⟩) | (intros; decide) | (intro h; simp only [Bool.and_eq_true, Bool.not_eq_true', Bool.or_eq_false_iff, Bool.not_eq_false'] at h; simp [h]; done) | (intros; simp_all; done) | (intros; simp_all; omega), ?_⟩)); refine hK _ ?_; clear hK K)
  ((repeat refine PWp.seq ?_); refine PWp.ret ?_)
  refine ⟨.inr rfl, by omega, _, [], ?_, rfl, rfl⟩
  rw [← hi]
  (simp [push_cast, -List.getD_eq_getElem?_getD])
def cleanB (l : List Pc) : Bool := !l.any clashB
theorem merge_Clean (l : List Pc) (hl : l.length ≤ 1000000) : PC Try.prog 16 [iPc l] [] 0 0 (fun t obs => t = iB (cleanB l) ∧ obs = []) := by
  refine PC.body [2] Try.func16 rfl (by rfl) (Nat.le_of_ble_eq_true (by rfl)) rfl ?_; simp only [enumA]
  ((repeat refine PWp.seq ?_); refine PWp.region TT (by rfl) (fun K hK => ?_); simp only [push_cast, beq_self_eq_true, Int.reduceBEq, Int.reduceToNat, Int.reduceAdd, Int.reduceSub, Nat.reduceBEq, Nat.reduceAdd, Nat.reduceMul, Nat.reduceLT, Nat.reduceSub, Nat.reduceEqDiff, Nat.reduceLeDiff, Bool.not_true, Bool.not_false, Bool.false_eq_true, false_implies, forall_const, Bool.true_beq, Bool.false_beq, beq_true, beq_false, implies_true, reduceCtorEq]; (repeat (refine ⟨by clear hK; first | omega | trivial | exact id | (intro h; rw [h]; rfl) | (intro h; exact ⟨h, h⟩) | (intros; decide) | (intro h; simp only [Bool.and_eq_true, Bool.not_eq_true', Bool.or_eq_false_iff, Bool.not_eq_false'] at h; simp [h]; done) | (intros; simp_all; done) | (intros; simp_all; omega), ?_⟩)); refine hK _ ?_; clear hK K)
  ((repeat refine PWp.seq ?_); refine PWp.region TT (by rfl) (fun K hK => ?_); simp only [push_cast, beq_self_eq_true, Int.reduceBEq, Int.reduceToNat, Int.reduceAdd, Int.reduceSub, Nat.reduceBEq, Nat.reduceAdd, Nat.reduceMul, Nat.reduceLT, Nat.reduceSub, Nat.reduceEqDiff, Nat.reduceLeDiff, Bool.not_true, Bool.not_false, Bool.false_eq_true, false_implies, forall_const, Bool.true_beq, Bool.false_beq, beq_true, beq_false, implies_true, reduceCtorEq])
  ((repeat (refine ⟨by clear hK; first | omega | trivial | exact id | (intro h; rw [h]; rfl) | (intro h; exact ⟨h, h⟩) | (intros; decide) | (intro h; simp only [Bool.and_eq_true, Bool.not_eq_true', Bool.or_eq_false_iff, Bool.not_eq_false'] at h; simp [h]; done) | (intros; simp_all; done) | (intros; simp_all; omega), ?_⟩)); refine PCall.use (ContainsFunc_clash l hl) [] rfl (by simp [push_cast]) (by simp) (by simp [push_cast]) (by simp [push_cast]) (by simp [push_cast]) (by simp [push_cast]) ?_)
  rintro _ _ ⟨rfl, rfl⟩
  (simp only [push_cast, beq_self_eq_true, Int.reduceBEq, Int.reduceToNat, Int.reduceAdd, Int.reduceSub, Nat.reduceBEq, Nat.reduceAdd, Nat.reduceMul, Nat.reduceLT, Nat.reduceSub, Nat.reduceEqDiff, Nat.reduceLeDiff, Bool.not_true, Bool.not_false, Bool.false_eq_true, false_implies, forall_const, Bool.true_beq, Bool.false_beq, beq_true, beq_false, implies_true, reduceCtorEq]; (repeat (refine ⟨by clear hK; first | omega | trivial | exact id | (intro h; rw [h]; rfl) | (intro h; exact ⟨h, h⟩) | (intros; decide) | (intro h; simp only [Bool.and_eq_true, Bool.not_eq_true', Bool.or_eq_false_iff, Bool.not_eq_false'] at h; simp [h]; done) | (intros; simp_all; done) | (intros; simp_all; omega), ?_⟩)); refine hK _ ?_; clear hK K)
  ((repeat refine PWp.seq ?_); refine PWp.ret ?_)
  refine ⟨.inr rfl, by omega, _, [], ?_, rfl, rfl⟩
  unfold cleanB
  (simp [push_cast, -List.getD_eq_getElem?_getD])
def sideOk (p : Pc) : Bool := decide (1 ≤ p.side) && decide (p.side ≤ 4)
def fitsB (o a b : List Ln) (l : List Pc) : Bool := l.all sideOk && rightC o.length a.length b.length (l.map (·.c)) 0 0 0
theorem lensC (l : List Ck) : lens? 7 (l.map encC) := lens_map (f := encC) (fun a => ⟨trivial, rfl⟩) l
theorem three_fits (o a b : List Ln) (l : List Pc) (hl : l.length ≤ 1000000) : PC Try.prog 29 [.iv (encT o a b), iPc l] [] 0 9 (fun t obs => t = iB (fitsB o a b l) ∧ obs = []) := by
  refine PC.body [4] Try.func29 rfl (by rfl) (Nat.le_of_ble_eq_true (by rfl)) rfl ?_; simp only [enumA]
  ((repeat refine PWp.seq ?_); refine PWp.region TT (by rfl) (fun K hK => ?_); simp only [push_cast, beq_self_eq_true, Int.reduceBEq, Int.reduceToNat, Int.reduceAdd, Int.reduceSub, Nat.reduceBEq, Nat.reduceAdd, Nat.reduceMul, Nat.reduceLT, Nat.reduceSub, Nat.reduceEqDiff, Nat.reduceLeDiff, Bool.not_true, Bool.not_false, Bool.false_eq_true, false_implies, forall_const, Bool.true_beq, Bool.false_beq, beq_true, beq_false, implies_true, reduceCtorEq]; (repeat (refine ⟨by clear hK; first | omega | trivial | exact id | (intro h; rw [h]; rfl) | (intro h; exact ⟨h, h⟩) | (intros; decide) | (intro h; simp only [Bool.and_eq_true, Bool.not_eq_true', Bool.or_eq_false_iff, Bool.not_eq_false'] at h; simp [h]; done) | (intros; simp_all; done) | (intros; simp_all; omega), ?_⟩)); refine hK _ ?_; clear hK K)
  ((repeat refine PWp.seq ?_); refine PWp.region TT (by rfl) (fun K hK => ?_); simp only [push_cast, beq_self_eq_true, Int.reduceBEq, Int.reduceToNat, Int.reduceAdd, Int.reduceSub, Nat.reduceBEq, Nat.reduceAdd, Nat.reduceMul, Nat.reduceLT, Nat.reduceSub, Nat.reduceEqDiff, Nat.reduceLeDiff, Bool.not_true, Bool.not_false, Bool.false_eq_true, false_implies, forall_const, Bool.true_beq, Bool.false_beq, beq_true, beq_false, implies_true, reduceCtorEq]; (repeat (refine ⟨by clear hK; first | omega | trivial | exact id | (intro h; rw [h]; rfl) | (intro h; exact ⟨h, h⟩) | (intros; decide) | (intro h; simp only [Bool.and_eq_true, Bool.not_eq_true', Bool.or_eq_false_iff, Bool.not_eq_false'] at h; simp [h]; done) | (intros; simp_all; done) | (intros; simp_all; omega), ?_⟩)); refine hK _ ?_; clear hK K)
  refine PWp.gh (Gh.row 5 36 7 (by rfl)) ?_
  ((repeat refine PWp.seq ?_); refine PWp.region TT (by rfl) (fun K hK => ?_); simp only [push_cast, beq_self_eq_true, Int.reduceBEq, Int.reduceToNat, Int.reduceAdd, Int.reduceSub, Nat.reduceBEq, Nat.reduceAdd, Nat.reduceMul, Nat.reduceLT, Nat.reduceSub, Nat.reduceEqDiff, Nat.reduceLeDiff, Bool.not_true, Bool.not_false, Bool.false_eq_true, false_implies, forall_const, Bool.true_beq, Bool.false_beq, beq_true, beq_false, implies_true, reduceCtorEq]; (repeat (refine ⟨by clear hK; first | omega | trivial | exact id | (intro h; rw [h]; rfl) | (intro h; exact ⟨h, h⟩) | (intros; decide) | (intro h; simp only [Bool.and_eq_true, Bool.not_eq_true', Bool.or_eq_false_iff, Bool.not_eq_false'] at h; simp [h]; done) | (intros; simp_all; done) | (intros; simp_all; omega), ?_⟩)); refine hK _ ?_; clear hK K)
  ((repeat refine PWp.seq ?_); refine PWp.block ?_)
  refine PWp.loop (fun c st => ∃ k : Nat, c = l.length - k ∧ k ≤ l.length ∧ (∀ i < k, sideOk (l.getD i default) = true) ∧
    st = ⟨[(2, .bptr 0 0), (5, .acc 1 7 (((l.take k).map (·.c)).map encC)), (8, iPc l), (9, iI l.length), (10, iI k)], [(0, .box 58 [iL o, iL a, iL b]), (1, .row 36 7)], 2⟩) _ _ ⟨0, rfl, Nat.zero_le _, by simp, rfl⟩ (Gh.le (by simp [push_cast, -List.getD_eq_getElem?_getD]) (by simp)) ?_
  rintro c st ⟨k, rfl, hk, hf, rfl⟩
  ((repeat refine PWp.seq ?_); refine PWp.region TT (by rfl) (fun K hK => ?_); simp only [push_cast, beq_self_eq_true, Int.reduceBEq, Int.reduceToNat, Int.reduceAdd, Int.reduceSub, Nat.reduceBEq, Nat.reduceAdd, Nat.reduceMul, Nat.reduceLT, Nat.reduceSub, Nat.reduceEqDiff, Nat.reduceLeDiff, Bool.not_true, Bool.not_false, Bool.false_eq_true, false_implies, forall_const, Bool.true_beq, Bool.false_beq, beq_true, beq_false, implies_true, reduceCtorEq]; (repeat (refine ⟨by clear hK; first | omega | trivial | exact id | (intro h; rw [h]; rfl) | (intro h; exact ⟨h, h⟩) | (intros; decide) | (intro h; simp only [Bool.and_eq_true, Bool.not_eq_true', Bool.or_eq_false_iff, Bool.not_eq_false'] at h; simp [h]; done) | (intros; simp_all; done) | (intros; simp_all; omega), ?_⟩)); refine hK _ ?_; clear hK K)
  ((repeat refine PWp.seq ?_); refine PWp.cond (by simp only [push_cast, beq_self_eq_true, Int.reduceBEq, Int.reduceToNat, Int.reduceAdd, Int.reduceSub, Nat.reduceBEq, Nat.reduceAdd, Nat.reduceMul, Nat.reduceLT, Nat.reduceSub, Nat.reduceEqDiff, Nat.reduceLeDiff, Bool.not_true, Bool.not_false, Bool.false_eq_true, false_implies, forall_const, Bool.true_beq, Bool.false_beq, beq_true, beq_false, implies_true, reduceCtorEq]; rfl) (fun hc => ?_) (fun hc => ?_))
  · have hlt : k < l.length := by simpa using hc
    clear hc
    have hm : l.getD k default ∈ l := getD_mem hlt
    have hg : (l.map encPc).getD k .any = encPc (l.getD k default) := getD_map hlt
    have ht : (l.take (k + 1)).map (·.c) = (l.take k).map (·.c) ++ [(l.getD k default).c] := by rw [take_succ_getD hlt]; simp
    have htl : ((l.take k).map (·.c)).length ≤ 1000000 := by rw [List.length_map, List.length_take]; omega
    have good : sideOk (l.getD k default) = true → ∀ i < k + 1, sideOk (l.getD i default) = true := fun he i hi => by
      by_cases e : i = k
      · subst e; exact he
      · exact hf i (by omega)
    generalize l.getD k default = p at *
    ((repeat refine PWp.seq ?_); refine PWp.skip ?_)
    ((repeat refine PWp.seq ?_); refine PWp.block ?_)
    ((repeat refine PWp.seq ?_); refine PWp.region TT (by rfl) (fun K hK => ?_); simp only [push_cast, beq_self_eq_true, Int.reduceBEq, Int.reduceToNat, Int.reduceAdd, Int.reduceSub, Nat.reduceBEq, Nat.reduceAdd, Nat.reduceMul, Nat.reduceLT, Nat.reduceSub, Nat.reduceEqDiff, Nat.reduceLeDiff, Bool.not_true, Bool.not_false, Bool.false_eq_true, false_implies, forall_const, Bool.true_beq, Bool.false_beq, beq_true, beq_false, implies_true, reduceCtorEq, hg]; (repeat (refine ⟨by clear hK; first | omega | trivial | exact id | (intro h; rw [h]; rfl) | (intro h; exact ⟨h, h⟩) | (intros; decide) | (intro h; simp only [Bool.and_eq_true, Bool.not_eq_true', Bool.or_eq_false_iff, Bool.not_eq_false'] at h; simp [h]; done) | (intros; simp_all; done) | (intros; simp_all; omega), ?_⟩)); refine hK _ ?_; clear hK K)
    ((repeat refine PWp.seq ?_); refine PWp.region TT (by rfl) (fun K hK => ?_); simp only [push_cast, beq_self_eq_true, Int.reduceBEq, Int.reduceToNat, Int.reduceAdd, Int.reduceSub, Nat.reduceBEq, Nat.reduceAdd, Nat.reduceMul, Nat.reduceLT, Nat.reduceSub, Nat.reduceEqDiff, Nat.reduceLeDiff, Bool.not_true, Bool.not_false, Bool.false_eq_true, false_implies, forall_const, Bool.true_beq, Bool.false_beq, beq_true, beq_false, implies_true, reduceCtorEq]; (repeat (refine ⟨by clear hK; first | omega | trivial | exact id | (intro h; rw [h]; rfl) | (intro h; exact ⟨h, h⟩) | (intros; decide) | (intro h; simp only [Bool.and_eq_true, Bool.not_eq_true', Bool.or_eq_false_iff, Bool.not_eq_false'] at h; simp [h]; done) | (intros; simp_all; done) | (intros; simp_all; omega), ?_⟩)); refine hK _ ?_; clear hK K)
    ((repeat refine PWp.seq ?_); refine PWp.cond (by simp only [push_cast, beq_self_eq_true, Int.reduceBEq, Int.reduceToNat, Int.reduceAdd, Int.reduceSub, Nat.reduceBEq, Nat.reduceAdd, Nat.reduceMul, Nat.reduceLT, Nat.reduceSub, Nat.reduceEqDiff, Nat.reduceLeDiff, Bool.not_true, Bool.not_false, Bool.false_eq_true, false_implies, forall_const, Bool.true_beq, Bool.false_beq, beq_true, beq_false, implies_true, reduceCtorEq]; rfl) (fun hc => ?_) (fun hc => ?_))
    · have e : fitsB o a b l = false := by
        unfold fitsB
        rw [Bool.and_eq_false_iff]
        left
        rw [← Bool.not_eq_true, List.all_eq_true]
        intro hh
        have := hh p hm
        simp only [sideOk, Bool.and_eq_true, decide_eq_true_eq] at this
        simp only [Bool.or_eq_true, Bool.and_eq_true, Bool.not_eq_true', Bool.not_eq_false', Bool.or_eq_false_iff, Bool.and_eq_false_iff, decide_eq_true_eq, decide_eq_false_iff_not, beq_iff_eq, beq_eq_false_iff_ne, bne_iff_ne, bne_eq_false_iff_eq, ne_eq, Classical.not_not, Int.not_lt, Int.not_le, ge_iff_le, gt_iff_lt] at hc
        omega
      ((repeat refine PWp.seq ?_); refine PWp.region TT (by rfl) (fun K hK => ?_); simp only [push_cast, beq_self_eq_true, Int.reduceBEq, Int.reduceToNat, Int.reduceAdd, Int.reduceSub, Nat.reduceBEq, Nat.reduceAdd, Nat.reduceMul, Nat.reduceLT, Nat.reduceSub, Nat.reduceEqDiff, Nat.reduceLeDiff, Bool.not_true, Bool.not_false, Bool.false_eq_true, false_implies, forall_const, Bool.true_beq, Bool.false_beq, beq_true, beq_false, implies_true, reduceCtorEq]; (repeat (refine ⟨by clear hK; first | omega | trivial | exact id | (intro h; rw [h]; rfl) | (intro h; exact ⟨h, h⟩) | (intros; decide) | (intro h; simp only [Bool.and_eq_true, Bool.not_eq_true', Bool.or_eq_false_iff, Bool.not_eq_false'] at h; simp [h]; done) | (intros; simp_all; done) | (intros; simp_all; omega), ?_⟩)); refine hK _ ?_; clear hK K)
      ((repeat refine PWp.seq ?_); refine PWp.ret ?_)
      refine ⟨.inr rfl, by omega, _, [], ?_, rfl, rfl⟩
      rw [e]
      (simp [push_cast, -List.getD_eq_getElem?_getD])
    · have hs : sideOk p = true := by
        simp only [sideOk, Bool.and_eq_true, decide_eq_true_eq]
        simp only [Bool.or_eq_true, Bool.and_eq_true, Bool.not_eq_true', Bool.not_eq_false', Bool.or_eq_false_iff, Bool.and_eq_false_iff, decide_eq_true_eq, decide_eq_false_iff_not, beq_iff_eq, beq_eq_false_iff_ne, bne_iff_ne, bne_eq_false_iff_eq, ne_eq, Classical.not_not, Int.not_lt, Int.not_le, ge_iff_le, gt_iff_lt] at hc
        omega
      clear hc
      ((repeat refine PWp.seq ?_); refine PWp.skip ?_)
      ((repeat refine PWp.seq ?_); refine PWp.region TT (by rfl) (fun K hK => ?_); simp only [push_cast, beq_self_eq_true, Int.reduceBEq, Int.reduceToNat, Int.reduceAdd, Int.reduceSub, Nat.reduceBEq, Nat.reduceAdd, Nat.reduceMul, Nat.reduceLT, Nat.reduceSub, Nat.reduceEqDiff, Nat.reduceLeDiff, Bool.not_true, Bool.not_false, Bool.false_eq_true, false_implies, forall_const, Bool.true_beq, Bool.false_beq, beq_true, beq_false, implies_true, reduceCtorEq]; (repeat (refine ⟨by clear hK; first | omega | trivial | exact id | (intro h; rw [h]; rfl) | (intro h; exact ⟨h, h⟩) | (intros; decide) | (intro h; simp only [Bool.and_eq_true, Bool.not_eq_true', Bool.or_eq_false_iff, Bool.not_eq_false'] at h; simp [h]; done) | (intros; simp_all; done) | (intros; simp_all; omega), ?_⟩)); refine hK _ ?_; clear hK K)
      ((repeat refine PWp.seq ?_); refine PWp.region TT (by rfl) (fun K hK => ?_); simp only [push_cast, beq_self_eq_true, Int.reduceBEq, Int.reduceToNat, Int.reduceAdd, Int.reduceSub, Nat.reduceBEq, Nat.reduceAdd, Nat.reduceMul, Nat.reduceLT, Nat.reduceSub, Nat.reduceEqDiff, Nat.reduceLeDiff, Bool.not_true, Bool.not_false, Bool.false_eq_true, false_implies, forall_const, Bool.true_beq, Bool.false_beq, beq_true, beq_false, implies_true, reduceCtorEq, wrap64_id (n := (k : Int) + 1) (by omega) (by omega)]; (repeat (refine ⟨by clear hK; first | omega | trivial | exact id | (intro h; rw [h]; rfl) | (intro h; exact ⟨h, h⟩) | (intros; decide) | (intro h; simp only [Bool.and_eq_true, Bool.not_eq_true', Bool.or_eq_false_iff, Bool.not_eq_false'] at h; simp [h]; done) | (intros; simp_all; done) | (intros; simp_all; omega), ?_⟩)); refine hK _ ?_; clear hK K)
      refine ⟨_, _, ?_, ⟨k + 1, rfl, by omega, good hs, rfl⟩, Gh.le (by simp [push_cast, -List.getD_eq_getElem?_getD, ht]) (by simp)⟩
      omega
  · have hk' : k = l.length := by simp at hc; omega
    subst hk'
    rw [List.take_length]
    have ha : l.all sideOk = true := by
      rw [List.all_eq_true]
      intro q hq
      obtain ⟨i, hi, rfl⟩ := List.getElem_of_mem hq
      have := hf i hi
      rwa [show l.getD i default = l[i] by simp [List.getD, hi]] at this
    (repeat refine PWp.seq ?_); refine PWp.exit (iteT rfl ?_)
    ((repeat refine PWp.seq ?_); refine PWp.region TT (by rfl) (fun K hK => ?_); simp only [push_cast, beq_self_eq_true, Int.reduceBEq, Int.reduceToNat, Int.reduceAdd, Int.reduceSub, Nat.reduceBEq, Nat.reduceAdd, Nat.reduceMul, Nat.reduceLT, Nat.reduceSub, Nat.reduceEqDiff, Nat.reduceLeDiff, Bool.not_true, Bool.not_false, Bool.false_eq_true, false_implies, forall_const, Bool.true_beq, Bool.false_beq, beq_true, beq_false, implies_true, reduceCtorEq])
    ((repeat (refine ⟨by clear hK; first | omega | trivial | exact id | (intro h; rw [h]; rfl) | (intro h; exact ⟨h, h⟩) | (intros; decide) | (intro h; simp only [Bool.and_eq_true, Bool.not_eq_true', Bool.or_eq_false_iff, Bool.not_eq_false'] at h; simp [h]; done) | (intros; simp_all; done) | (intros; simp_all; omega), ?_⟩)); refine PCall.use (chunk_Right (l.map (·.c)) o.length a.length b.length (by rw [List.length_map]; omega)) [] rfl (by simp [push_cast]) (by simp) (by simp [push_cast]) (by simp [push_cast]) (by simp [push_cast]) (by simp [push_cast]) ?_)
    rintro _ _ ⟨rfl, rfl⟩
    (simp only [push_cast, beq_self_eq_true, Int.reduceBEq, Int.reduceToNat, Int.reduceAdd, Int.reduceSub, Nat.reduceBEq, Nat.reduceAdd, Nat.reduceMul, Nat.reduceLT, Nat.reduceSub, Nat.reduceEqDiff, Nat.reduceLeDiff, Bool.not_true, Bool.not_false, Bool.false_eq_true, false_implies, forall_const, Bool.true_beq, Bool.false_beq, beq_true, beq_false, implies_true, reduceCtorEq]; (repeat (refine ⟨by clear hK; first | omega | trivial | exact id | (intro h; rw [h]; rfl) | (intro h; exact ⟨h, h⟩) | (intros; decide) | (intro h; simp only [Bool.and_eq_true, Bool.not_eq_true', Bool.or_eq_false_iff, Bool.not_eq_false'] at h; simp [h]; done) | (intros; simp_all; done) | (intros; simp_all; omega), ?_⟩)); refine hK _ ?_; clear hK K)
    ((repeat refine PWp.seq ?_); refine PWp.ret ?_)
    refine ⟨.inr rfl, by omega, _, [], ?_, rfl, rfl⟩
    unfold fitsB
    rw [ha]
    (simp [push_cast, -List.getD_eq_getElem?_getD])
/-- Pieces that fit are of the texts. -/
theorem rightC_in {o a b : List Ln} (ho : o.length ≤ 1000000) (ha : a.length ≤ 1000000) (hb : b.length ≤ 1000000) : ∀ {l : List Ck} {x y z : Int}, 0 ≤ x → x ≤ o.length → 0 ≤ y → y ≤ a.length → 0 ≤ z → z ≤ b.length → rightC o.length a.length b.length l x y z = true → ∀ c ∈ l, inT o a b c
  | [], _, _, _, _, _, _, _, _, _, _, c, hc => by cases hc
  | d :: l, x, y, z, x0, x1, y0, y1, z0, z1, h, c, hc => by
    simp only [rightC, Bool.and_eq_true, decide_eq_true_eq] at h
    obtain ⟨hk, h⟩ := h
    unfold okC at hk
    rw [wrap64_id (n := (o.length : Int) - x) (by omega) (by omega), wrap64_id (n := (a.length : Int) - y) (by omega) (by omega), wrap64_id (n := (b.length : Int) - z) (by omega) (by omega)] at hk
    rw [wrap64_id (n := x + d.on) (by omega) (by omega), wrap64_id (n := y + d.an) (by omega) (by omega), wrap64_id (n := z + d.bn) (by omega) (by omega)] at h
    rcases List.mem_cons.1 hc with rfl | hc
    · unfold inT inL
      omega
    · exact rightC_in ho ha hb (by omega) (by omega) (by omega) (by omega) (by omega) (by omega) h c hc
theorem fits_in {o a b : List Ln} {l : List Pc} (ho : o.length ≤ 1000000) (ha : a.length ≤ 1000000) (hb : b.length ≤ 1000000) (h : fitsB o a b l = true) : ∀ p ∈ l, inT o a b p.c ∧ 1 ≤ p.side ∧ p.side ≤ 4 := by
  intro p hp
  unfold fitsB at h
  rw [Bool.and_eq_true, List.all_eq_true] at h
  have h1 := h.1 p hp
  simp only [sideOk, Bool.and_eq_true, decide_eq_true_eq] at h1
  exact ⟨rightC_in ho ha hb (by omega) (by omega) (by omega) (by omega) (by omega) (by omega) h.2 _ (List.mem_map_of_mem hp), h1⟩
end Go.Proofs.Ytjcdmdejhbmoeaa
