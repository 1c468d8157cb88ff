/- Walk of LiftDoes. -/
import Derived.Test.YtanopjcfackblaaE14
namespace Go.Proofs.Ytanopjcfackblaa
open Go.PL
set_option maxRecDepth 100000
set_option linter.unusedSimpArgs false
set_option linter.unusedVariables false
/-- Same, of a row that may be written. -/
theorem ref04_SameM (a b : List It) (ha : a.length ≤ 1000000) : PC Try.prog 11 [.mrow 0, iIt b] [(0, .mrow 41 6 (a.map encIt))] 1 1 (fun t obs => t = iB (decide (a = b)) ∧ obs = [(0, .mrow 41 6 (a.map encIt))]) := by
  refine PC.body [4] Try.func11 rfl (by rfl) (Nat.le_of_ble_eq_true (by rfl)) rfl ?_; simp only [enumA]
  ((repeat refine PWp.seq ?_); refine PWp.region TT (by rfl) (fun K hK => ?_); simp only [push_cast, seval, Nat.reduceEqDiff, Nat.reduceLeDiff, reduceCtorEq]; (repeat refine sk ?_); refine hK _ ?_; clear hK K)
  ((repeat refine PWp.seq ?_); refine PWp.region TT (by rfl) (fun K hK => ?_); simp only [push_cast, seval, Nat.reduceEqDiff, Nat.reduceLeDiff, reduceCtorEq]; (repeat refine sk ?_); refine hK _ ?_; clear hK K)
  ((repeat refine PWp.seq ?_); refine PWp.cond (by simp only [push_cast, seval, Nat.reduceEqDiff, Nat.reduceLeDiff, reduceCtorEq]; rfl) (fun hc => ?_) (fun hc => ?_))
  · have e : decide (a = b) = false := by
      simp only [Bool.or_eq_true, Bool.and_eq_true, Bool.not_eq_true', Bool.not_eq_false', Bool.or_eq_false_iff, Bool.and_eq_false_iff, decide_eq_true_eq, decide_eq_false_iff_not, beq_iff_eq, beq_eq_false_iff_ne, bne_iff_ne, bne_eq_false_iff_eq, ne_eq, Classical.not_not, Int.not_lt, Int.not_le, ge_iff_le, gt_iff_lt] at hc
      exact decide_eq_false (fun h => by subst h; exact hc rfl)
    ((repeat refine PWp.seq ?_); refine PWp.region TT (by rfl) (fun K hK => ?_); simp only [push_cast, seval, Nat.reduceEqDiff, Nat.reduceLeDiff, reduceCtorEq]; (repeat refine sk ?_); refine hK _ ?_; clear hK K)
    ((repeat refine PWp.seq ?_); refine PWp.ret ?_)
    refine ⟨.inr rfl, by omega, _, _, ?_, rfl, rfl⟩
    rw [e]
    (simp [push_cast, -List.getD_eq_getElem?_getD])
  · have hl : a.length = b.length := by
      simp only [Bool.or_eq_true, Bool.and_eq_true, Bool.not_eq_true', Bool.not_eq_false', Bool.or_eq_false_iff, Bool.and_eq_false_iff, decide_eq_true_eq, decide_eq_false_iff_not, beq_iff_eq, beq_eq_false_iff_ne, bne_iff_ne, bne_eq_false_iff_eq, ne_eq, Classical.not_not, Int.not_lt, Int.not_le, ge_iff_le, gt_iff_lt] at hc
      omega
    clear hc
    ((repeat refine PWp.seq ?_); refine PWp.skip ?_)
    ((repeat refine PWp.seq ?_); refine PWp.region TT (by rfl) (fun K hK => ?_); simp only [push_cast, seval, Nat.reduceEqDiff, Nat.reduceLeDiff, reduceCtorEq]; (repeat refine sk ?_); refine hK _ ?_; clear hK K)
    ((repeat refine PWp.seq ?_); refine PWp.block ?_)
    refine PWp.loop (fun c st => ∃ k : Nat, c = a.length - k ∧ k ≤ a.length ∧ (∀ i < k, a.getD i default = b.getD i default) ∧
      st = ⟨[(0, .mrow 0), (1, iIt b), (5, iI k)], [(0, .mrow 41 6 (a.map encIt))], 1⟩) _ _ ⟨0, rfl, Nat.zero_le _, by simp, rfl⟩ (Gh.le (by simp [push_cast, -List.getD_eq_getElem?_getD]) (by simp)) ?_
    rintro c st ⟨k, rfl, hk, hf, rfl⟩
    ((repeat refine PWp.seq ?_); refine PWp.region TT (by rfl) (fun K hK => ?_); simp only [push_cast, seval, Nat.reduceEqDiff, Nat.reduceLeDiff, reduceCtorEq]; (repeat refine sk ?_); refine hK _ ?_; clear hK K)
    ((repeat refine PWp.seq ?_); refine PWp.cond (by simp only [push_cast, seval, Nat.reduceEqDiff, Nat.reduceLeDiff, reduceCtorEq]; rfl) (fun hc => ?_) (fun hc => ?_))
    · have hlt : k < a.length := by simpa using hc
      clear hc
      ((repeat refine PWp.seq ?_); refine PWp.skip ?_)
      ((repeat refine PWp.seq ?_); refine PWp.block ?_)
      ((repeat refine PWp.seq ?_); refine PWp.draw TT (by kernel_rfl) (by kernel_rfl) (by rfl) (by rfl) (fun K hK => ?_); simp only [push_cast, seval, Nat.reduceEqDiff, Nat.reduceLeDiff, reduceCtorEq, getD_map hlt, getD_map (show k < b.length by omega)]; (repeat refine sk ?_); refine hK _ ?_; clear hK K)
      ((repeat refine PWp.seq ?_); refine PWp.cond (by simp only [push_cast, seval, Nat.reduceEqDiff, Nat.reduceLeDiff, reduceCtorEq]; rfl) (fun hc => ?_) (fun hc => ?_))
      · have e : decide (a = b) = false := decide_eq_false (fun h => by
          subst h
          simp at hc)
        ((repeat refine PWp.seq ?_); refine PWp.region TT (by rfl) (fun K hK => ?_); simp only [push_cast, seval, Nat.reduceEqDiff, Nat.reduceLeDiff, reduceCtorEq]; (repeat refine sk ?_); refine hK _ ?_; clear hK K)
        ((repeat refine PWp.seq ?_); refine PWp.ret ?_)
        refine ⟨.inr rfl, by omega, _, _, ?_, rfl, rfl⟩
        rw [e]
        (simp [push_cast, -List.getD_eq_getElem?_getD])
      · have he : a.getD k default = b.getD k default := itEq (by simpa using hc)
        ((repeat refine PWp.seq ?_); refine PWp.skip ?_)
        ((repeat refine PWp.seq ?_); refine PWp.region TT (by rfl) (fun K hK => ?_); simp only [push_cast, seval, Nat.reduceEqDiff, Nat.reduceLeDiff, reduceCtorEq, wrap64_id (n := (k : Int) + 1) (by omega) (by omega)]; (repeat refine sk ?_); refine hK _ ?_; clear hK K)
        refine ⟨_, _, ?_, ⟨k + 1, rfl, by omega, fun i hi => ?_, rfl⟩, Gh.le (by simp [push_cast, -List.getD_eq_getElem?_getD]) (by simp)⟩
        · omega
        · by_cases e : i = k
          · subst e; exact he
          · exact hf i (by omega)
    · have hk' : k = a.length := by simp at hc; omega
      subst hk'
      have e : decide (a = b) = true := decide_eq_true (lists_eq hl hf)
      (repeat refine PWp.seq ?_); refine PWp.exit (iteT rfl ?_)
      ((repeat refine PWp.seq ?_); refine PWp.region TT (by rfl) (fun K hK => ?_); simp only [push_cast, seval, Nat.reduceEqDiff, Nat.reduceLeDiff, reduceCtorEq]; (repeat refine sk ?_); refine hK _ ?_; clear hK K)
      ((repeat refine PWp.seq ?_); refine PWp.ret ?_)
      refine ⟨.inr rfl, by omega, _, _, ?_, rfl, rfl⟩
      rw [e]
      (simp [push_cast, -List.getD_eq_getElem?_getD])
set_option maxHeartbeats 1000000 in
theorem LiftDoes_walk (l : List It) (ls : List Ln) (p : List Int) (s : Lb) (m : List Md) (n : Int) (hp : p.length ≤ 9223372036854775807) : PC Try.prog 3 [iIt l, iV ls p, iLb s, iMd m, iI n] [] 0 400 (fun t obs => t = iB true ∧ obs = []) := by
  refine PC.body [10] Try.func3 rfl (by rfl) (Nat.le_of_ble_eq_true (by rfl)) rfl ?_; simp only [enumA]
  ((repeat refine PWp.seq ?_); refine PWp.region TT (by rfl) (fun K hK => ?_); simp only [push_cast, seval, Nat.reduceEqDiff, Nat.reduceLeDiff, reduceCtorEq]; (repeat refine sk ?_); refine hK _ ?_; clear hK K)
  ((repeat refine PWp.seq ?_); refine PWp.region TT (by rfl) (fun K hK => ?_); simp only [push_cast, seval, Nat.reduceEqDiff, Nat.reduceLeDiff, reduceCtorEq])
  ((repeat refine sk ?_); refine PCall.use (few18 l m) [] rfl (by simp [push_cast]) (by simp) (by simp [push_cast]) (by simp [push_cast]) (by simp [push_cast]) (by simp [push_cast]) ?_)
  rintro _ _ ⟨rfl, rfl⟩
  have hl := few_len l
  have hm := few_len m
  generalize l.take 40 = l at *
  generalize m.take 40 = m at *
  have hli := lensIt l
  have hcc : (chkF l p s m != chkF l p s m) = false := by simp
  (simp only [push_cast, seval, Nat.reduceEqDiff, Nat.reduceLeDiff, reduceCtorEq]; (repeat refine sk ?_); refine hK _ ?_; clear hK K)
  ((repeat refine PWp.seq ?_); refine PWp.region TT (by rfl) (fun K hK => ?_); simp only [push_cast, seval, Nat.reduceEqDiff, Nat.reduceLeDiff, reduceCtorEq, hli, List.nil_append]; (repeat refine sk ?_); refine hK _ ?_; clear hK K)
  refine PWp.gh (st' := ⟨[(0, iIt l), (3, iMd m), (4, iI n), (6, .bptr 0 0), (7, .bptr 1 0), (11, iIt l)], [(0, .box 26 [.iv (.sl 2 (ls.map encL)), iN p]), (1, .box 29 [iI s.v, .iv (.lit (.int .u64 s.c))])], 2⟩) (Gh.le (by simp [push_cast, -List.getD_eq_getElem?_getD]) (by simp)) ?_
  ((repeat refine PWp.seq ?_); refine PWp.region TT (by rfl) (fun K hK => ?_); simp only [push_cast, seval, Nat.reduceEqDiff, Nat.reduceLeDiff, reduceCtorEq])
  ((repeat refine sk ?_); refine PCall.use (lift_Lift l ls p s m n (by omega) hp (by omega)) [] rfl (by simp [push_cast]) (by simp) (by simp [push_cast]) (by simp [push_cast]) (by simp [push_cast]) (by simp [push_cast]) ?_)
  rintro _ _ (⟨hE, rfl, rfl⟩ | ⟨hE, rfl, rfl⟩)
  · have hee : (liftE l p s m n != liftE l p s m n) = false := by simp
    have hR : refR l p s m n = [] := by unfold refR; rw [if_neg hE]
    have hN : refN l p s m n = 0 := by unfold refN; rw [if_neg hE]
    (simp only [push_cast, seval, Nat.reduceEqDiff, Nat.reduceLeDiff, reduceCtorEq]; (repeat refine sk ?_); refine hK _ ?_; clear hK K)
    ((repeat refine PWp.seq ?_); refine PWp.region TT (by rfl) (fun K hK => ?_); simp only [push_cast, seval, Nat.reduceEqDiff, Nat.reduceLeDiff, reduceCtorEq])
    ((repeat refine sk ?_); refine PCall.use (ref18_Lift l ls p s m n (by omega) hp (by omega)) [] rfl (by simp [push_cast]) (by simp) (by simp [push_cast]) (by simp [push_cast]) (by simp [push_cast]) (by simp [push_cast]) ?_)
    rintro _ _ ⟨rfl, rfl⟩
    rw [hR, hN]
    generalize liftE l p s m n = e at *
    (simp only [push_cast, seval, Nat.reduceEqDiff, Nat.reduceLeDiff, reduceCtorEq]; (repeat refine sk ?_); refine hK _ ?_; clear hK K)
    refine PWp.gh (st' := ⟨[(0, iIt l), (3, iMd m), (6, .bptr 0 0), (7, .bptr 1 0), (11, iIt l), (12, .nilsl), (13, iI 0), (14, iI e), (15, iIt []), (16, iI 0), (17, iI e)], [(0, .box 26 [.iv (.sl 2 (ls.map encL)), iN p]), (1, .box 29 [iI s.v, .iv (.lit (.int .u64 s.c))])], 2⟩) (Gh.le (by simp [push_cast, -List.getD_eq_getElem?_getD]) (by simp)) ?_
    have h00 : ((0 : Int) != 0) = false := rfl
    ((repeat refine PWp.seq ?_); refine PWp.drawT TT (by kernel_rfl) [0, 1] (.q 0 (.q 1 (.x 2 (.q 3 (.q 4 (.q 5 (.q 6 (.q 7 (.q 8 (.q 9 (.q 10 (.q 11 (.q 12 (.q 13 (.q 14 (.q 15 (.q 16 (.q 17 (.q 18 (.q 20 (.q 21 (.q 22 (.q 23 (.x 19 (.x 24 (.q 25 (.q 26 .nil))))))))))))))))))))))))))) (by rfl) (by kernel_rfl) (by rfl) (by simp) (fun K hK => ?_); simp only [push_cast, seval, Nat.reduceEqDiff, Nat.reduceLeDiff, reduceCtorEq])
    ((repeat refine sk ?_); refine PCall.use (ref04_Same [] [] (by simp)) [] rfl (by simp [push_cast]) (by simp) (by simp [push_cast]) (by simp [push_cast]) (by simp [push_cast]) (by simp [push_cast]) ?_)
    rintro _ _ ⟨rfl, rfl⟩
    (simp only [push_cast, seval, Nat.reduceEqDiff, Nat.reduceLeDiff, reduceCtorEq, h00, hee])
    ((repeat refine sk ?_); refine PCall.use (lift_Check l ls p s m (by omega) hp (by omega)) [] rfl (by simp [push_cast]) (by simp) (by simp [push_cast]) (by simp [push_cast]) (by simp [push_cast]) (by simp [push_cast]) ?_)
    rintro _ _ ⟨rfl, rfl⟩
    (simp only [push_cast, seval, Nat.reduceEqDiff, Nat.reduceLeDiff, reduceCtorEq])
    ((repeat refine sk ?_); refine PCall.use (ref18_Check l ls p s m (by omega) hp (by omega)) [] rfl (by simp [push_cast]) (by simp) (by simp [push_cast]) (by simp [push_cast]) (by simp [push_cast]) (by simp [push_cast]) ?_)
    rintro _ _ ⟨rfl, rfl⟩
    (simp only [push_cast, seval, Nat.reduceEqDiff, Nat.reduceLeDiff, reduceCtorEq, hcc]; (repeat refine sk ?_); refine hK _ ?_; clear hK K)
    ((repeat refine PWp.seq ?_); refine PWp.cond (by simp only [push_cast, seval, Nat.reduceEqDiff, Nat.reduceLeDiff, reduceCtorEq]; rfl) (fun hc => ?_) (fun hc => ?_))
    · cases hc
    · clear hc
      ((repeat refine PWp.seq ?_); refine PWp.skip ?_)
      refine PWp.gh (st' := ⟨[(0, iIt l), (11, iIt l), (12, .nilsl)], [], 0⟩) (Gh.le (by simp [push_cast, -List.getD_eq_getElem?_getD]) (by simp)) ?_
      ((repeat refine PWp.seq ?_); refine PWp.region TT (by rfl) (fun K hK => ?_); simp only [push_cast, seval, Nat.reduceEqDiff, Nat.reduceLeDiff, reduceCtorEq]; (repeat refine sk ?_); refine hK _ ?_; clear hK K)
      ((repeat refine PWp.seq ?_); refine PWp.block ?_)
      refine PWp.loop (fun c st => st = ⟨[(0, iIt l), (11, iIt l), (12, .nilsl), (18, iI 0)], [], 0⟩) 0 _ rfl (Gh.le (by simp [push_cast, -List.getD_eq_getElem?_getD]) (by simp)) ?_
      rintro c st rfl
      ((repeat refine PWp.seq ?_); refine PWp.region TT (by rfl) (fun K hK => ?_); simp only [push_cast, seval, Nat.reduceEqDiff, Nat.reduceLeDiff, reduceCtorEq]; (repeat refine sk ?_); refine hK _ ?_; clear hK K)
      ((repeat refine PWp.seq ?_); refine PWp.cond (by simp only [push_cast, seval, Nat.reduceEqDiff, Nat.reduceLeDiff, reduceCtorEq]; rfl) (fun hc => ?_) (fun hc => ?_))
      · cases hc
      · (repeat refine PWp.seq ?_); refine PWp.exit (iteT rfl ?_)
        ((repeat refine PWp.seq ?_); refine PWp.region TT (by rfl) (fun K hK => ?_); simp only [push_cast, seval, Nat.reduceEqDiff, Nat.reduceLeDiff, reduceCtorEq])
        ((repeat refine sk ?_); refine PCall.use (live18) [] rfl (by simp [push_cast]) (by simp) (by simp [push_cast]) (by simp [push_cast]) (by simp [push_cast]) (by simp [push_cast]) ?_)
        rintro _ _ ⟨rfl, rfl⟩
        (simp only [push_cast, seval, Nat.reduceEqDiff, Nat.reduceLeDiff, reduceCtorEq])
        ((repeat refine sk ?_); refine PCall.use (ref04_Same l l (by omega)) [] rfl (by simp [push_cast]) (by simp) (by simp [push_cast]) (by simp [push_cast]) (by simp [push_cast]) (by simp [push_cast]) ?_)
        rintro _ _ ⟨rfl, rfl⟩
        rw [decide_eq_true (rfl : l = l)]
        (simp only [push_cast, seval, Nat.reduceEqDiff, Nat.reduceLeDiff, reduceCtorEq]; (repeat refine sk ?_); refine hK _ ?_; clear hK K)
        ((repeat refine PWp.seq ?_); refine PWp.ret ?_)
        refine ⟨.inr rfl, by omega, _, [], ?_, rfl, rfl⟩
        (simp [push_cast, -List.getD_eq_getElem?_getD])
  · have hR : refR l p s m n = liftN l p s m n l.length := by unfold refR; rw [if_pos hE]
    have hN : refN l p s m n = n + (m.length - (keptF m).length) := by unfold refN; rw [if_pos hE]
    have hWl := liftN_le (p := p) (s := s) (n := n) hl hm
    (simp only [push_cast, seval, Nat.reduceEqDiff, Nat.reduceLeDiff, reduceCtorEq]; (repeat refine sk ?_); refine hK _ ?_; clear hK K)
    ((repeat refine PWp.seq ?_); refine PWp.region TT (by rfl) (fun K hK => ?_); simp only [push_cast, seval, Nat.reduceEqDiff, Nat.reduceLeDiff, reduceCtorEq])
    ((repeat refine sk ?_); refine PCall.use (ref18_Lift l ls p s m n (by omega) hp (by omega)) [] rfl (by simp [push_cast]) (by simp) (by simp [push_cast]) (by simp [push_cast]) (by simp [push_cast]) (by simp [push_cast]) ?_)
    rintro _ _ ⟨rfl, rfl⟩
    rw [hR, hN, hE]
    generalize liftN l p s m n l.length = W at *
    generalize n + ((m.length : Int) - (keptF m).length) = nn at *
    have hnn : (nn != nn) = false := by simp
    (simp only [push_cast, seval, Nat.reduceEqDiff, Nat.reduceLeDiff, reduceCtorEq]; (repeat refine sk ?_); refine hK _ ?_; clear hK K)
    refine PWp.gh (st' := ⟨[(0, iIt l), (3, iMd m), (6, .bptr 0 0), (7, .bptr 1 0), (11, iIt l), (12, .mrow 2), (13, iI nn), (14, iI 0), (15, iIt W), (16, iI nn), (17, iI 0)], [(0, .box 26 [.iv (.sl 2 (ls.map encL)), iN p]), (1, .box 29 [iI s.v, .iv (.lit (.int .u64 s.c))]), (2, .mrow 41 6 (W.map encIt))], 3⟩) (Gh.leR [0, 1, 4] (by simp [push_cast, -List.getD_eq_getElem?_getD]; try decide)) ?_
    have h00 : ((0 : Int) != 0) = false := rfl
    ((repeat refine PWp.seq ?_); refine PWp.drawT TT (by kernel_rfl) [0, 1] (.q 0 (.q 1 (.x 2 (.q 3 (.q 4 (.q 5 (.q 6 (.q 7 (.q 8 (.q 9 (.q 10 (.q 11 (.q 12 (.q 13 (.q 14 (.q 15 (.q 16 (.q 17 (.q 18 (.q 20 (.q 21 (.q 22 (.q 23 (.x 19 (.x 24 (.q 25 (.q 26 .nil))))))))))))))))))))))))))) (by rfl) (by kernel_rfl) (by rfl) (by simp) (fun K hK => ?_); simp only [push_cast, seval, Nat.reduceEqDiff, Nat.reduceLeDiff, reduceCtorEq])
    ((repeat refine sk ?_); refine PCall.use (ref04_SameM W W (by omega)) [2] rfl (by simp [push_cast]) (by simp) (by simp [push_cast]) (by simp [push_cast]) (by simp [push_cast]) (by simp [push_cast]) ?_)
    rintro _ _ ⟨rfl, rfl⟩
    rw [decide_eq_true (rfl : W = W)]
    (simp only [push_cast, seval, Nat.reduceEqDiff, Nat.reduceLeDiff, reduceCtorEq, h00, hnn])
    ((repeat refine sk ?_); refine PCall.use (lift_Check l ls p s m (by omega) hp (by omega)) [] rfl (by simp [push_cast]) (by simp) (by simp [push_cast]) (by simp [push_cast]) (by simp [push_cast]) (by simp [push_cast]) ?_)
    rintro _ _ ⟨rfl, rfl⟩
    (simp only [push_cast, seval, Nat.reduceEqDiff, Nat.reduceLeDiff, reduceCtorEq])
    ((repeat refine sk ?_); refine PCall.use (ref18_Check l ls p s m (by omega) hp (by omega)) [] rfl (by simp [push_cast]) (by simp) (by simp [push_cast]) (by simp [push_cast]) (by simp [push_cast]) (by simp [push_cast]) ?_)
    rintro _ _ ⟨rfl, rfl⟩
    (simp only [push_cast, seval, Nat.reduceEqDiff, Nat.reduceLeDiff, reduceCtorEq, hcc]; (repeat refine sk ?_); refine hK _ ?_; clear hK K)
    ((repeat refine PWp.seq ?_); refine PWp.cond (by simp only [push_cast, seval, Nat.reduceEqDiff, Nat.reduceLeDiff, reduceCtorEq]; rfl) (fun hc => ?_) (fun hc => ?_))
    · cases hc
    · clear hc
      ((repeat refine PWp.seq ?_); refine PWp.skip ?_)
      refine PWp.gh (st' := ⟨[(0, iIt l), (11, iIt l), (12, .mrow 0)], [(0, .mrow 41 6 (W.map encIt))], 1⟩) (Gh.leR [2] (by simp [push_cast, -List.getD_eq_getElem?_getD]; try decide)) ?_
      ((repeat refine PWp.seq ?_); refine PWp.region TT (by rfl) (fun K hK => ?_); simp only [push_cast, seval, Nat.reduceEqDiff, Nat.reduceLeDiff, reduceCtorEq]; (repeat refine sk ?_); refine hK _ ?_; clear hK K)
      ((repeat refine PWp.seq ?_); refine PWp.block ?_)
      refine PWp.loop (fun c st => ∃ (k : Nat) (Y : List It), c = W.length - k ∧ k ≤ W.length ∧ Y.length = W.length ∧
        st = ⟨[(0, iIt l), (11, iIt l), (12, .mrow 0), (18, iI k)], [(0, .mrow 41 6 (Y.map encIt))], 1⟩) _ _ ⟨0, W, rfl, Nat.zero_le _, rfl, rfl⟩ (Gh.le (by simp [push_cast, -List.getD_eq_getElem?_getD]) (by simp)) ?_
      rintro c st ⟨k, Y, rfl, hk, hY, rfl⟩
      ((repeat refine PWp.seq ?_); refine PWp.region TT (by rfl) (fun K hK => ?_); simp only [push_cast, seval, Nat.reduceEqDiff, Nat.reduceLeDiff, reduceCtorEq]; (repeat refine sk ?_); refine hK _ ?_; clear hK K)
      ((repeat refine PWp.seq ?_); refine PWp.cond (by simp only [push_cast, seval, Nat.reduceEqDiff, Nat.reduceLeDiff, reduceCtorEq]; rfl) (fun hc => ?_) (fun hc => ?_))
      · have hlt : k < Y.length := by simpa using hc
        clear hc
        have hg : (Y.map encIt).getD k .any = encIt (Y.getD k default) := getD_map hlt
        have hset : ∀ x : It, (Y.map encIt).set k (encIt x) = (Y.set k x).map encIt := fun x => by rw [List.map_set]
        have hst := hset ⟨-1, (Y.getD k default).l, (Y.getD k default).a, (Y.getD k default).x⟩
        generalize Y.getD k default = y at *
        simp only [encIt] at hst
        ((repeat refine PWp.seq ?_); refine PWp.skip ?_)
        ((repeat refine PWp.seq ?_); refine PWp.block ?_)
        ((repeat refine PWp.seq ?_); refine PWp.region TT (by rfl) (fun K hK => ?_); simp only [push_cast, seval, Nat.reduceEqDiff, Nat.reduceLeDiff, reduceCtorEq, hg]; (repeat refine sk ?_); refine hK _ ?_; clear hK K)
        ((repeat refine PWp.seq ?_); refine PWp.region TT (by rfl) (fun K hK => ?_); simp only [push_cast, seval, Nat.reduceEqDiff, Nat.reduceLeDiff, reduceCtorEq, wrap64_id (n := (k : Int) + 1) (by omega) (by omega)]; (repeat refine sk ?_); refine hK _ ?_; clear hK K)
        refine ⟨_, _, ?_, ⟨k + 1, Y.set k ⟨-1, y.l, y.a, y.x⟩, rfl, by omega, by rw [List.length_set]; exact hY, rfl⟩, Gh.le (by simp [push_cast, -List.getD_eq_getElem?_getD, List.map_set]) (by simp)⟩
        omega
      · (repeat refine PWp.seq ?_); refine PWp.exit (iteT rfl ?_)
        ((repeat refine PWp.seq ?_); refine PWp.region TT (by rfl) (fun K hK => ?_); simp only [push_cast, seval, Nat.reduceEqDiff, Nat.reduceLeDiff, reduceCtorEq])
        ((repeat refine sk ?_); refine PCall.use (live18) [] rfl (by simp [push_cast]) (by simp) (by simp [push_cast]) (by simp [push_cast]) (by simp [push_cast]) (by simp [push_cast]) ?_)
        rintro _ _ ⟨rfl, rfl⟩
        (simp only [push_cast, seval, Nat.reduceEqDiff, Nat.reduceLeDiff, reduceCtorEq])
        ((repeat refine sk ?_); refine PCall.use (ref04_Same l l (by omega)) [] rfl (by simp [push_cast]) (by simp) (by simp [push_cast]) (by simp [push_cast]) (by simp [push_cast]) (by simp [push_cast]) ?_)
        rintro _ _ ⟨rfl, rfl⟩
        rw [decide_eq_true (rfl : l = l)]
        (simp only [push_cast, seval, Nat.reduceEqDiff, Nat.reduceLeDiff, reduceCtorEq]; (repeat refine sk ?_); refine hK _ ?_; clear hK K)
        ((repeat refine PWp.seq ?_); refine PWp.ret ?_)
        refine ⟨.inr rfl, by omega, _, [], ?_, rfl, rfl⟩
        (simp [push_cast, -List.getD_eq_getElem?_getD])
end Go.Proofs.Ytanopjcfackblaa
