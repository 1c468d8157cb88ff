/- A mark, a line: taken, or a panic. -/
import Derived.Test.YtmocgjimlhgejaaU2
namespace Go.Proofs.Ytmocgjimlhgejaa
open Go.PL
set_option maxRecDepth 100000
set_option linter.unusedSimpArgs false
set_option linter.unusedVariables false
def markR (r : Rd) : Rd := ⟨if r.p = 0 ∨ r.p = 3 then (flushR r).out else r.out, if r.p = 0 then ⟨true, [], [], [], []⟩ else if r.p = 3 then noRg else r.now, (r.p + 1) % 4⟩
theorem mark_c (r : Rd) (n : Int) (ho : r.out.length ≤ 1000) (hp : r.p < 4) : PC Try.prog 42 [.bptr 0 0, iI r.p] (rdO r n) 6 6 (fun t obs => t = .tup [] ∧ obs = rdO (markR r) n) := by
  refine PC.body [] Try.func42 rfl (by rfl) (Nat.le_of_ble_eq_true (by rfl)) rfl ?_; simp only [enumA]
  refine PWp.post ?_
  ((repeat refine PWp.seq ?_); refine PWp.region TT (by rfl) (fun K hK => ?_); simp only [push_cast, seval, Nat.reduceEqDiff, Nat.reduceLeDiff, reduceCtorEq, beq_self_eq_true])
  ((repeat refine sk ?_); refine PCall.use (must_t) [] rfl (by simp [push_cast]) (by simp) (by simp [push_cast]) (by simp [push_cast]) (by simp [push_cast]) (by simp [push_cast]) ?_)
  rintro _ _ ⟨rfl, rfl⟩
  (simp only [push_cast, seval, Nat.reduceEqDiff, Nat.reduceLeDiff, reduceCtorEq]; (repeat refine sk ?_); refine hK _ ?_; clear hK K)
  refine PJoin ⟨[(0, .bptr 0 0)], rdO { markR r with p := r.p } n, 6⟩ ?_ ?_
  · ((repeat refine PWp.seq ?_); refine PWp.region TT (by rfl) (fun K hK => ?_); simp only [push_cast, seval, Nat.reduceEqDiff, Nat.reduceLeDiff, reduceCtorEq]; (repeat refine sk ?_); refine hK _ ?_; clear hK K)
    ((repeat refine PWp.seq ?_); refine PWp.block ?_)
    have h4 : r.p = 0 ∨ r.p = 1 ∨ r.p = 2 ∨ r.p = 3 := by omega
    obtain ⟨out, now, p⟩ := r
    simp only at h4 hp ho ⊢
    rcases h4 with rfl | rfl | rfl | rfl
    · ((repeat refine PWp.seq ?_); refine PWp.region TT (by rfl) (fun K hK => ?_); simp only [push_cast, seval, Nat.reduceEqDiff, Nat.reduceLeDiff, reduceCtorEq]; (repeat refine sk ?_); refine hK _ ?_; clear hK K)
      ((repeat refine PWp.seq ?_); refine PWp.cond (by simp only [push_cast, seval, Nat.reduceEqDiff, Nat.reduceLeDiff, reduceCtorEq]; rfl) (fun hc => ?_) (fun hc => ?_))
      · ((repeat refine PWp.seq ?_); refine PWp.region TT (by rfl) (fun K hK => ?_); simp only [push_cast, seval, Nat.reduceEqDiff, Nat.reduceLeDiff, reduceCtorEq])
        ((repeat refine sk ?_); refine PCall.use (flush_c ⟨out, now, 0⟩ n ho) [0, 1, 2, 3, 4, 5] rfl (by simp [push_cast]) (by simp) (by simp [push_cast]) (by simp [push_cast]) (by simp [push_cast]) (by simp [push_cast]) ?_)
        rintro _ _ ⟨rfl, rfl⟩
        (simp only [push_cast, seval, Nat.reduceEqDiff, Nat.reduceLeDiff, reduceCtorEq, flushR, noRg]; (repeat refine sk ?_); refine hK _ ?_; clear hK K)
        ((repeat refine PWp.seq ?_); refine PWp.region TT (by rfl) (fun K hK => ?_); simp only [push_cast, seval, Nat.reduceEqDiff, Nat.reduceLeDiff, reduceCtorEq]; (repeat refine sk ?_); refine hK _ ?_; clear hK K)
        exact ⟨rfl, Gh.le (by simp [push_cast, -List.getD_eq_getElem?_getD, markR, flushR, noRg]) (by simp)⟩
      · cases hc
    · ((repeat refine PWp.seq ?_); refine PWp.region TT (by rfl) (fun K hK => ?_); simp only [push_cast, seval, Nat.reduceEqDiff, Nat.reduceLeDiff, reduceCtorEq]; (repeat refine sk ?_); refine hK _ ?_; clear hK K)
      ((repeat refine PWp.seq ?_); refine PWp.cond (by simp only [push_cast, seval, Nat.reduceEqDiff, Nat.reduceLeDiff, reduceCtorEq]; rfl) (fun hc => ?_) (fun hc => ?_))
      · cases hc
      · ((repeat refine PWp.seq ?_); refine PWp.region TT (by rfl) (fun K hK => ?_); simp only [push_cast, seval, Nat.reduceEqDiff, Nat.reduceLeDiff, reduceCtorEq]; (repeat refine sk ?_); refine hK _ ?_; clear hK K)
        ((repeat refine PWp.seq ?_); refine PWp.cond (by simp only [push_cast, seval, Nat.reduceEqDiff, Nat.reduceLeDiff, reduceCtorEq]; rfl) (fun hc => ?_) (fun hc => ?_))
        · cases hc
        · refine PWp.skip ?_
          exact ⟨rfl, Gh.le (by simp [push_cast, -List.getD_eq_getElem?_getD, markR, flushR, noRg]) (by simp)⟩
    · ((repeat refine PWp.seq ?_); refine PWp.region TT (by rfl) (fun K hK => ?_); simp only [push_cast, seval, Nat.reduceEqDiff, Nat.reduceLeDiff, reduceCtorEq]; (repeat refine sk ?_); refine hK _ ?_; clear hK K)
      ((repeat refine PWp.seq ?_); refine PWp.cond (by simp only [push_cast, seval, Nat.reduceEqDiff, Nat.reduceLeDiff, reduceCtorEq]; rfl) (fun hc => ?_) (fun hc => ?_))
      · cases hc
      · ((repeat refine PWp.seq ?_); refine PWp.region TT (by rfl) (fun K hK => ?_); simp only [push_cast, seval, Nat.reduceEqDiff, Nat.reduceLeDiff, reduceCtorEq]; (repeat refine sk ?_); refine hK _ ?_; clear hK K)
        ((repeat refine PWp.seq ?_); refine PWp.cond (by simp only [push_cast, seval, Nat.reduceEqDiff, Nat.reduceLeDiff, reduceCtorEq]; rfl) (fun hc => ?_) (fun hc => ?_))
        · cases hc
        · refine PWp.skip ?_
          exact ⟨rfl, Gh.le (by simp [push_cast, -List.getD_eq_getElem?_getD, markR, flushR, noRg]) (by simp)⟩
    · ((repeat refine PWp.seq ?_); refine PWp.region TT (by rfl) (fun K hK => ?_); simp only [push_cast, seval, Nat.reduceEqDiff, Nat.reduceLeDiff, reduceCtorEq]; (repeat refine sk ?_); refine hK _ ?_; clear hK K)
      ((repeat refine PWp.seq ?_); refine PWp.cond (by simp only [push_cast, seval, Nat.reduceEqDiff, Nat.reduceLeDiff, reduceCtorEq]; rfl) (fun hc => ?_) (fun hc => ?_))
      · cases hc
      · ((repeat refine PWp.seq ?_); refine PWp.region TT (by rfl) (fun K hK => ?_); simp only [push_cast, seval, Nat.reduceEqDiff, Nat.reduceLeDiff, reduceCtorEq]; (repeat refine sk ?_); refine hK _ ?_; clear hK K)
        ((repeat refine PWp.seq ?_); refine PWp.cond (by simp only [push_cast, seval, Nat.reduceEqDiff, Nat.reduceLeDiff, reduceCtorEq]; rfl) (fun hc => ?_) (fun hc => ?_))
        · ((repeat refine PWp.seq ?_); refine PWp.region TT (by rfl) (fun K hK => ?_); simp only [push_cast, seval, Nat.reduceEqDiff, Nat.reduceLeDiff, reduceCtorEq])
          ((repeat refine sk ?_); refine PCall.use (flush_c ⟨out, now, 3⟩ n ho) [0, 1, 2, 3, 4, 5] rfl (by simp [push_cast]) (by simp) (by simp [push_cast]) (by simp [push_cast]) (by simp [push_cast]) (by simp [push_cast]) ?_)
          rintro _ _ ⟨rfl, rfl⟩
          (simp only [push_cast, seval, Nat.reduceEqDiff, Nat.reduceLeDiff, reduceCtorEq, flushR, noRg]; (repeat refine sk ?_); refine hK _ ?_; clear hK K)
          exact ⟨rfl, Gh.le (by simp [push_cast, -List.getD_eq_getElem?_getD, markR, flushR, noRg]) (by simp)⟩
        · cases hc
  · have hm : ((r.p : Int) + 1).tmod 4 = ((r.p + 1) % 4 : Nat) := by
      rw [Int.tmod_eq_emod_of_nonneg (by omega)]
      omega
    ((repeat refine PWp.seq ?_); refine PWp.region TT (by rfl) (fun K hK => ?_); simp only [push_cast, seval, Nat.reduceEqDiff, Nat.reduceLeDiff, reduceCtorEq, wrap64_id (n := (r.p : Int) + 1) (by omega) (by omega), hm]; (repeat refine sk ?_); refine hK _ ?_; clear hK K)
    refine ⟨_, Gh.refl _ _, .inl rfl, by omega, .tup [], _, ?_, rfl, rfl⟩
    (simp [push_cast, -List.getD_eq_getElem?_getD, markR])
theorem mark_p (r : Rd) (n : Int) (k : Nat) (hk : k ≠ r.p) : PCE EP Try.prog 42 [.bptr 0 0, iI k] (rdO r n) 6 6 (fun t obs => t = .iv (.lit faultV) ∧ obs = rdO r n) := by
  refine PCE.bodyP Try.func42 rfl (by rfl) (Nat.le_of_ble_eq_true (by rfl)) ?_; simp only [enumA]
  have hb : ((k : Int) == (r.p : Int)) = false := beq_eq_false_iff_ne.2 (by omega)
  ((repeat refine PWp.seq ?_); refine PWp.regionP 6 TT (by rfl) rfl rfl (by rfl) (fun K hK => ?_); simp only [push_cast, seval, Nat.reduceEqDiff, Nat.reduceLeDiff, reduceCtorEq, List.take_succ_cons, List.take_zero, hb]; (repeat refine sk ?_); refine hK _ ⟨26, [], rfl, (by simp [push_cast]), ?_⟩; simp only [push_cast, seval, Nat.reduceEqDiff, Nat.reduceLeDiff, reduceCtorEq, List.append_nil])
  (refine PCall.use (must_f) [] rfl (by simp [push_cast]) (by simp) (by simp [push_cast]) (by simp [push_cast]) (by simp [push_cast]) (by simp [push_cast]) ?_)
  rintro _ _ ⟨rfl, rfl⟩
  (refine ⟨_, rfl, ?_⟩)
  refine ⟨_, rdO r n, rfl, ?_, ?_, rfl, rfl⟩
  · (simp [push_cast, -List.getD_eq_getElem?_getD])
  · (simp [push_cast, -List.getD_eq_getElem?_getD])
