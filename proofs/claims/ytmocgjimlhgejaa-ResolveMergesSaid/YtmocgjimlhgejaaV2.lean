/- Several texts in one: A9, A10, A11, A12, A13. -/
import Derived.Test.YtmocgjimlhgejaaV1
namespace Go.Proofs.Ytmocgjimlhgejaa
open Go.PL
set_option maxRecDepth 100000
set_option linter.unusedSimpArgs false
set_option linter.unusedVariables false
def cObjs (oa ob : List (Int × Int)) (o a b : Int) (N : Nat) (ps : List Nat) (ac bd : Code) (e0 : Nat) (pre : List Ck) : List (Nat × Ob) :=
  [(0, .box 76 [.acc 1 7 (pre.map encC)]), (1, .row 52 7), (2, .box 3 [iI o]), (3, .box 3 [iI a]), (4, .box 3 [iI b]), (5, .box 45 [.iv (.sl 2 (oa.map encP))]), (6, .box 45 [.iv (.sl 2 (ob.map encP))]), (7, .lp N ps ac bd [(e0, .bptr 0 0)])]
def cObjs8 (oa ob : List (Int × Int)) (o a b : Int) (N : Nat) (ps : List Nat) (ac bd : Code) (e0 : Nat) (c8 : Ck) (pre : List Ck) : List (Nat × Ob) :=
  (8, .box 52 (cellsC c8)) :: cObjs oa ob o a b N ps ac bd e0 pre
attribute [push_cast] cObjs cObjs8
theorem chunks_length {oa ob : List (Int × Int)} {o a b : Int} : ∀ (f : Nat) (x y z : Int), (chunksF oa ob o a b f x y z).length ≤ f
  | 0, x, y, z => Nat.le_refl _
  | f + 1, x, y, z => by
    unfold chunksF
    split
    · have := chunks_length (oa := oa) (ob := ob) (o := o) (a := a) (b := b) f (x + (stepC oa ob o a b x y z).on) (y + (stepC oa ob o a b x y z).an) (z + (stepC oa ob o a b x y z).bn)
      rw [List.length_cons]; omega
    · simp
theorem ref13_Of (oa ob : List (Int × Int)) (o a b : Int) (ha : oa.length ≤ 400) (hb : ob.length ≤ 400) : PC Try.prog 35 [.iv (.sl 2 (oa.map encP)), .iv (.sl 2 (ob.map encP)), iI o, iI a, iI b] [] 0 0
    (fun t obs => t = .tup [.iv (.sl 7 ((ofL oa ob o a b).map encC)), iI (ofE oa ob o a b)] ∧ obs = []) := by
  refine PC.body [10, 11] Try.func35 rfl (by rfl) (Nat.le_of_ble_eq_true (by rfl)) rfl ?_; simp only [enumA]
  ((repeat refine PWp.seq ?_); refine PWp.region TT (by rfl) (fun K hK => ?_); simp only [push_cast, seval, Nat.reduceEqDiff, Nat.reduceLeDiff, reduceCtorEq]; (repeat refine sk ?_); refine hK _ ?_; clear hK K)
  have hokE : okOf oa ob o a b = false → ofE oa ob o a b = 2 ∧ ofL oa ob o a b = [] := fun h => by unfold ofE ofL; rw [h]; exact ⟨rfl, rfl⟩
  have hbad : ∀ h : ¬ (0 ≤ o ∧ o ≤ 400 ∧ 0 ≤ a ∧ a ≤ 400 ∧ 0 ≤ b ∧ b ≤ 400), okOf oa ob o a b = false := fun h => by
    rw [← Bool.not_eq_true]
    intro hh
    simp only [okOf, Bool.and_eq_true, decide_eq_true_eq] at hh
    exact h ⟨hh.1.1.1.1.1.1.1, hh.1.1.1.1.1.1.2, hh.1.1.1.1.1.2, hh.1.1.1.1.2, hh.1.1.1.2, hh.1.1.2⟩
  cases hbd : (decide (o < 0) || decide (o > 400) || decide (a < 0) || decide (a > 400) || decide (b < 0) || decide (b > 400)) with
  | true =>
    obtain ⟨hE, hL⟩ := hokE (hbad (by simp only [Bool.or_eq_true, Bool.and_eq_true, Bool.not_eq_true', Bool.not_eq_false', Bool.or_eq_false_iff, Bool.and_eq_false_iff, decide_eq_true_eq, decide_eq_false_iff_not, beq_iff_eq, beq_eq_false_iff_ne, bne_iff_ne, bne_eq_false_iff_eq, ne_eq, Classical.not_not, Int.not_lt, Int.not_le, ge_iff_le, gt_iff_lt] at hbd; omega))
    ((repeat refine PWp.seq ?_); refine PWp.region TT (by rfl) (fun K hK => ?_); simp only [push_cast, seval, Nat.reduceEqDiff, Nat.reduceLeDiff, reduceCtorEq, hbd]; (repeat refine sk ?_); refine hK _ ?_; clear hK K)
    ((repeat refine PWp.seq ?_); refine PWp.cond (by simp only [push_cast, seval, Nat.reduceEqDiff, Nat.reduceLeDiff, reduceCtorEq]; rfl) (fun hc => ?_) (fun hc => ?_))
    · ((repeat refine PWp.seq ?_); refine PWp.region TT (by rfl) (fun K hK => ?_); simp only [push_cast, seval, Nat.reduceEqDiff, Nat.reduceLeDiff, reduceCtorEq]; (repeat refine sk ?_); refine hK _ ?_; clear hK K)
      ((repeat refine PWp.seq ?_); refine PWp.ret ?_)
      refine ⟨.inr rfl, by omega, _, [], ?_, rfl, rfl⟩
      rw [hE, hL]
      (simp [push_cast, -List.getD_eq_getElem?_getD])
    · cases hc
  | false =>
    have hbb := hbd
    simp only [Bool.or_eq_true, Bool.and_eq_true, Bool.not_eq_true', Bool.not_eq_false', Bool.or_eq_false_iff, Bool.and_eq_false_iff, decide_eq_true_eq, decide_eq_false_iff_not, beq_iff_eq, beq_eq_false_iff_ne, bne_iff_ne, bne_eq_false_iff_eq, ne_eq, Classical.not_not, Int.not_lt, Int.not_le, ge_iff_le, gt_iff_lt] at hbb
    have hok : okOf oa ob o a b = (rRight oa o a && rRight ob o b) := by
      unfold okOf
      simp [show 0 ≤ o by omega, show o ≤ 400 by omega, show 0 ≤ a by omega, show a ≤ 400 by omega, show 0 ≤ b by omega, show b ≤ 400 by omega]
    ((repeat refine PWp.seq ?_); refine PWp.region TT (by rfl) (fun K hK => ?_); simp only [push_cast, seval, Nat.reduceEqDiff, Nat.reduceLeDiff, reduceCtorEq, hbd])
    ((repeat refine sk ?_); refine PCall.use (ref12_Right oa o a (by omega)) [] rfl (by simp [push_cast]) (by simp) (by simp [push_cast]) (by simp [push_cast]) (by simp [push_cast]) (by simp [push_cast]) ?_)
    rintro _ _ ⟨rfl, rfl⟩
    cases hra : rRight oa o a with
    | false =>
      obtain ⟨hE, hL⟩ := hokE (by rw [hok, hra]; rfl)
      (simp only [push_cast, seval, Nat.reduceEqDiff, Nat.reduceLeDiff, reduceCtorEq, hbd])
      ((repeat refine sk ?_); refine hK _ ?_; clear hK K)
      ((repeat refine PWp.seq ?_); refine PWp.cond (by simp only [push_cast, seval, Nat.reduceEqDiff, Nat.reduceLeDiff, reduceCtorEq]; rfl) (fun hc => ?_) (fun hc => ?_))
      · ((repeat refine PWp.seq ?_); refine PWp.region TT (by rfl) (fun K hK => ?_); simp only [push_cast, seval, Nat.reduceEqDiff, Nat.reduceLeDiff, reduceCtorEq]; (repeat refine sk ?_); refine hK _ ?_; clear hK K)
        ((repeat refine PWp.seq ?_); refine PWp.ret ?_)
        refine ⟨.inr rfl, by omega, _, [], ?_, rfl, rfl⟩
        rw [hE, hL]
        (simp [push_cast, -List.getD_eq_getElem?_getD])
      · cases hc
    | true =>
      (simp only [push_cast, seval, Nat.reduceEqDiff, Nat.reduceLeDiff, reduceCtorEq, hbd])
      ((repeat refine sk ?_); refine PCall.use (ref12_Right ob o b (by omega)) [] rfl (by simp [push_cast]) (by simp) (by simp [push_cast]) (by simp [push_cast]) (by simp [push_cast]) (by simp [push_cast]) ?_)
      rintro _ _ ⟨rfl, rfl⟩
      (simp only [push_cast, seval, Nat.reduceEqDiff, Nat.reduceLeDiff, reduceCtorEq, hbd]; (repeat refine sk ?_); refine hK _ ?_; clear hK K)
      ((repeat refine PWp.seq ?_); refine PWp.cond (by simp only [push_cast, seval, Nat.reduceEqDiff, Nat.reduceLeDiff, reduceCtorEq]; rfl) (fun hc => ?_) (fun hc => ?_))
      · have hrb : rRight ob o b = false := by simpa using hc
        obtain ⟨hE, hL⟩ := hokE (by rw [hok, hrb, Bool.and_false])
        ((repeat refine PWp.seq ?_); refine PWp.region TT (by rfl) (fun K hK => ?_); simp only [push_cast, seval, Nat.reduceEqDiff, Nat.reduceLeDiff, reduceCtorEq]; (repeat refine sk ?_); refine hK _ ?_; clear hK K)
        ((repeat refine PWp.seq ?_); refine PWp.ret ?_)
        refine ⟨.inr rfl, by omega, _, [], ?_, rfl, rfl⟩
        rw [hE, hL]
        (simp [push_cast, -List.getD_eq_getElem?_getD])
      · have hrb : rRight ob o b = true := by simpa using hc
        clear hc
        have hk : okOf oa ob o a b = true := by rw [hok, hra, hrb]; rfl
        have hE : ofE oa ob o a b = 0 := by unfold ofE; rw [hk]; rfl
        have hL : ofL oa ob o a b = chunks oa ob o a b 0 0 0 := by unfold ofL; rw [hk]; rfl
        ((repeat refine PWp.seq ?_); refine PWp.skip ?_)
        ((repeat refine PWp.seq ?_); refine PWp.region TT (by rfl) (fun K hK => ?_); simp only [push_cast, seval, Nat.reduceEqDiff, Nat.reduceLeDiff, reduceCtorEq]; (repeat refine sk ?_); refine hK _ ?_; clear hK K)
        ((repeat refine PWp.seq ?_); refine PWp.region TT (by rfl) (fun K hK => ?_); simp only [push_cast, seval, Nat.reduceEqDiff, Nat.reduceLeDiff, reduceCtorEq]; (repeat refine sk ?_); refine hK _ ?_; clear hK K)
        ((repeat refine PWp.seq ?_); refine PWp.block ?_)
        refine PWp.loop (fun cc st => ∃ (x y z : Int) (pre : List Ck), inB o a b x y z ∧ cc = meas o a b x y z ∧ pre.length + cc ≤ 1200 ∧ pre ++ chunks oa ob o a b x y z = chunks oa ob o a b 0 0 0 ∧
          st = ⟨[(0, .iv (.sl 2 (oa.map encP))), (1, .iv (.sl 2 (ob.map encP))), (2, iI o), (3, iI a), (4, iI b), (12, .acc 0 7 (pre.map encC)), (13, .bptr 1 0)], [(1, .box 52 (cellsC ⟨false, x, 0, y, 0, z, 0⟩)), (0, .row 52 7)], 2⟩) _ _ ⟨0, 0, 0, [], by unfold inB; omega, rfl, by unfold meas; simp; omega, rfl, rfl⟩ (Gh.le (by simp [push_cast, -List.getD_eq_getElem?_getD]) (by simp)) ?_
        rintro cc st ⟨x, y, z, pre, hin, rfl, hlen, hpre, rfl⟩
        have hin' := hin
        unfold inB at hin'
        ((repeat refine PWp.seq ?_); refine PWp.region TT (by rfl) (fun K hK => ?_); simp only [push_cast, seval, Nat.reduceEqDiff, Nat.reduceLeDiff, reduceCtorEq]; (repeat refine sk ?_); refine hK _ ?_; clear hK K)
        ((repeat refine PWp.seq ?_); refine PWp.cond (by simp only [push_cast, seval, Nat.reduceEqDiff, Nat.reduceLeDiff, reduceCtorEq]; rfl) (fun hc => ?_) (fun hc => ?_))
        · have hcc : x < o ∨ y < a ∨ z < b := by
            simp only [Bool.or_eq_true, Bool.and_eq_true, Bool.not_eq_true', Bool.not_eq_false', Bool.or_eq_false_iff, Bool.and_eq_false_iff, decide_eq_true_eq, decide_eq_false_iff_not, beq_iff_eq, beq_eq_false_iff_ne, bne_iff_ne, bne_eq_false_iff_eq, ne_eq, Classical.not_not, Int.not_lt, Int.not_le, ge_iff_le, gt_iff_lt] at hc
            omega
          clear hc
          obtain ⟨r1, r2, r3⟩ := runN_spec oa ob x y z
          obtain ⟨s1, s2, s3, s4, s5, s6, s7, s8⟩ := stepC_ok hra hrb hin hcc
          have hst := chunks_step hra hrb hin hcc
          have sx : sm x := by unfold sm; omega
          have sy : sm y := by unfold sm; omega
          have sz : sm z := by unfold sm; omega
          ((repeat refine PWp.seq ?_); refine PWp.skip ?_)
          ((repeat refine PWp.seq ?_); refine PWp.block ?_)
          ((repeat refine PWp.seq ?_); refine PWp.region TT (by rfl) (fun K hK => ?_); simp only [push_cast, seval, Nat.reduceEqDiff, Nat.reduceLeDiff, reduceCtorEq])
          ((repeat refine sk ?_); refine PCall.use (ref13_Run oa ob ⟨false, x, 0, y, 0, z, 0⟩ (by omega) (by omega) sx sy sz) [] rfl (by simp [push_cast]) (by simp) (by simp [push_cast]) (by simp [push_cast]) (by simp [push_cast]) (by simp [push_cast]) ?_)
          rintro _ _ ⟨rfl, rfl⟩
          (simp only [push_cast, seval, Nat.reduceEqDiff, Nat.reduceLeDiff, reduceCtorEq]; (repeat refine sk ?_); refine hK _ ?_; clear hK K)
          ((repeat refine PWp.seq ?_); refine PWp.region TT (by rfl) (fun K hK => ?_); simp only [push_cast, seval, Nat.reduceEqDiff, Nat.reduceLeDiff, reduceCtorEq]; (repeat refine sk ?_); refine hK _ ?_; clear hK K)
          ((repeat refine PWp.seq ?_); refine PWp.cond (by simp only [push_cast, seval, Nat.reduceEqDiff, Nat.reduceLeDiff, reduceCtorEq]; rfl) (fun hc => ?_) (fun hc => ?_))
          · have hn : 0 < runN oa ob x y z := by simpa using hc
            clear hc
            have hs : stepC oa ob o a b x y z = ⟨true, x, runN oa ob x y z, y, runN oa ob x y z, z, runN oa ob x y z⟩ := by unfold stepC; rw [if_pos hn]
            rw [hs] at hst s1 s2 s3 s4 s5 s6 s7 s8
            ((repeat refine PWp.seq ?_); refine PWp.region TT (by rfl) (fun K hK => ?_); simp only [push_cast, seval, Nat.reduceEqDiff, Nat.reduceLeDiff, reduceCtorEq]; (repeat refine sk ?_); refine hK _ ?_; clear hK K)
            ((repeat refine PWp.seq ?_); refine PWp.region TT (by rfl) (fun K hK => ?_); simp only [push_cast, seval, Nat.reduceEqDiff, Nat.reduceLeDiff, reduceCtorEq, wrap64_id (n := x + (runN oa ob x y z : Int)) (by omega) (by omega), wrap64_id (n := y + (runN oa ob x y z : Int)) (by omega) (by omega), wrap64_id (n := z + (runN oa ob x y z : Int)) (by omega) (by omega)]; (repeat refine sk ?_); refine hK _ ?_; clear hK K)
            (repeat refine PWp.seq ?_); refine PWp.exit (iteT rfl ?_)
            refine ⟨_, _, ?_, ⟨x + (runN oa ob x y z : Int), y + (runN oa ob x y z : Int), z + (runN oa ob x y z : Int), pre ++ [⟨true, x, runN oa ob x y z, y, runN oa ob x y z, z, runN oa ob x y z⟩], s8, rfl, ?_, ?_, rfl⟩, Gh.le (by simp [push_cast, -List.getD_eq_getElem?_getD]) (by simp)⟩
            · unfold inB at s8; unfold meas; simp only at s8; omega
            · have : meas o a b (x + (runN oa ob x y z : Int)) (y + (runN oa ob x y z : Int)) (z + (runN oa ob x y z : Int)) < meas o a b x y z := by unfold inB at s8; unfold meas; simp only at s8; omega
              rw [List.length_append, List.length_singleton]
              omega
            · rw [← hpre, hst, List.append_assoc]; rfl
          · have hn : ¬ 0 < runN oa ob x y z := by simpa using hc
            clear hc
            ((repeat refine PWp.seq ?_); refine PWp.skip ?_)
            ((repeat refine PWp.seq ?_); refine PWp.region TT (by rfl) (fun K hK => ?_); simp only [push_cast, seval, Nat.reduceEqDiff, Nat.reduceLeDiff, reduceCtorEq])
            ((repeat refine sk ?_); refine PCall.use (ref13_Next oa ob ⟨false, x, 0, y, 0, z, 0⟩ (by omega) (by omega)) [] rfl (by simp [push_cast]) (by simp) (by simp [push_cast]) (by simp [push_cast]) (by simp [push_cast]) (by simp [push_cast]) ?_)
            rintro _ _ ⟨rfl, rfl⟩
            cases hnx : nextO oa ob x y z with
            | none =>
              have hs : stepC oa ob o a b x y z = ⟨false, x, o - x, y, a - y, z, b - z⟩ := by unfold stepC; rw [if_neg hn, hnx]
              rw [hs] at hst s1 s2 s3 s4 s5 s6 s7 s8
              simp only [nextTV, hnx]
              (simp only [push_cast, seval, Nat.reduceEqDiff, Nat.reduceLeDiff, reduceCtorEq]; (repeat refine sk ?_); refine hK _ ?_; clear hK K)
              ((repeat refine PWp.seq ?_); refine PWp.region TT (by rfl) (fun K hK => ?_); simp only [push_cast, seval, Nat.reduceEqDiff, Nat.reduceLeDiff, reduceCtorEq]; (repeat refine sk ?_); refine hK _ ?_; clear hK K)
              ((repeat refine PWp.seq ?_); refine PWp.cond (by simp only [push_cast, seval, Nat.reduceEqDiff, Nat.reduceLeDiff, reduceCtorEq]; rfl) (fun hc => ?_) (fun hc => ?_))
              · clear hc
                ((repeat refine PWp.seq ?_); refine PWp.region TT (by rfl) (fun K hK => ?_); simp only [push_cast, seval, Nat.reduceEqDiff, Nat.reduceLeDiff, reduceCtorEq]; (repeat refine sk ?_); refine hK _ ?_; clear hK K)
                ((repeat refine PWp.seq ?_); refine PWp.region TT (by rfl) (fun K hK => ?_); simp only [push_cast, seval, Nat.reduceEqDiff, Nat.reduceLeDiff, reduceCtorEq]; (repeat refine sk ?_); refine hK _ ?_; clear hK K)
                ((repeat refine PWp.seq ?_); refine PWp.region TT (by rfl) (fun K hK => ?_); simp only [push_cast, seval, Nat.reduceEqDiff, Nat.reduceLeDiff, reduceCtorEq]; (repeat refine sk ?_); refine hK _ ?_; clear hK K)
                ((repeat refine PWp.seq ?_); refine PWp.region TT (by rfl) (fun K hK => ?_); simp only [push_cast, seval, Nat.reduceEqDiff, Nat.reduceLeDiff, reduceCtorEq, wrap64_id (n := o - x) (by omega) (by omega), wrap64_id (n := a - y) (by omega) (by omega), wrap64_id (n := b - z) (by omega) (by omega)]; (repeat refine sk ?_); refine hK _ ?_; clear hK K)
                ((repeat refine PWp.seq ?_); refine PWp.region TT (by rfl) (fun K hK => ?_); simp only [push_cast, seval, Nat.reduceEqDiff, Nat.reduceLeDiff, reduceCtorEq]; (repeat refine sk ?_); refine hK _ ?_; clear hK K)
                have e1 : x + (o - x) = o := by omega
                have e2 : y + (a - y) = a := by omega
                have e3 : z + (b - z) = b := by omega
                simp only [e1, e2, e3] at hst s8
                refine ⟨_, _, ?_, ⟨o, a, b, pre ++ [⟨false, x, o - x, y, a - y, z, b - z⟩], s8, rfl, ?_, ?_, rfl⟩, Gh.le (by simp [push_cast, -List.getD_eq_getElem?_getD]) (by simp)⟩
                · unfold inB at s8; unfold meas; simp only at s7; omega
                · have : meas o a b o a b < meas o a b x y z := by unfold inB at s8; unfold meas; simp only at s7; omega
                  rw [List.length_append, List.length_singleton]
                  omega
                · rw [← hpre, hst, List.append_assoc]; rfl
              · cases hc
            | some u =>
              obtain ⟨v, w, hv, hw, g1, g2, g3⟩ := cand_mem (minOpt_spec hnx).1
              have c1 := toI_bound hra hv
              have c2 := toI_bound hrb hw
              have hs : stepC oa ob o a b x y z = ⟨false, x, u - x, y, v - y, z, w - z⟩ := by unfold stepC; rw [if_neg hn, hnx]; simp [hv, hw]
              rw [hs] at hst s1 s2 s3 s4 s5 s6 s7 s8
              simp only [nextTV, hnx, hv, hw, Option.getD_some]
              (simp only [push_cast, seval, Nat.reduceEqDiff, Nat.reduceLeDiff, reduceCtorEq]; (repeat refine sk ?_); refine hK _ ?_; clear hK K)
              ((repeat refine PWp.seq ?_); refine PWp.region TT (by rfl) (fun K hK => ?_); simp only [push_cast, seval, Nat.reduceEqDiff, Nat.reduceLeDiff, reduceCtorEq]; (repeat refine sk ?_); refine hK _ ?_; clear hK K)
              ((repeat refine PWp.seq ?_); refine PWp.cond (by simp only [push_cast, seval, Nat.reduceEqDiff, Nat.reduceLeDiff, reduceCtorEq]; rfl) (fun hc => ?_) (fun hc => ?_))
              · cases hc
              · clear hc
                ((repeat refine PWp.seq ?_); refine PWp.skip ?_)
                ((repeat refine PWp.seq ?_); refine PWp.region TT (by rfl) (fun K hK => ?_); simp only [push_cast, seval, Nat.reduceEqDiff, Nat.reduceLeDiff, reduceCtorEq, wrap64_id (n := u - x) (by omega) (by omega), wrap64_id (n := v - y) (by omega) (by omega), wrap64_id (n := w - z) (by omega) (by omega)]; (repeat refine sk ?_); refine hK _ ?_; clear hK K)
                ((repeat refine PWp.seq ?_); refine PWp.region TT (by rfl) (fun K hK => ?_); simp only [push_cast, seval, Nat.reduceEqDiff, Nat.reduceLeDiff, reduceCtorEq]; (repeat refine sk ?_); refine hK _ ?_; clear hK K)
                have e1 : x + (u - x) = u := by omega
                have e2 : y + (v - y) = v := by omega
                have e3 : z + (w - z) = w := by omega
                simp only [e1, e2, e3] at hst s8
                refine ⟨_, _, ?_, ⟨u, v, w, pre ++ [⟨false, x, u - x, y, v - y, z, w - z⟩], s8, rfl, ?_, ?_, rfl⟩, Gh.le (by simp [push_cast, -List.getD_eq_getElem?_getD]) (by simp)⟩
                · unfold inB at s8; unfold meas; simp only at s7; omega
                · have : meas o a b u v w < meas o a b x y z := by unfold inB at s8; unfold meas; simp only at s7; omega
                  rw [List.length_append, List.length_singleton]
                  omega
                · rw [← hpre, hst, List.append_assoc]; rfl
        · have hcc : ¬ (x < o ∨ y < a ∨ z < b) := by
            simp only [Bool.or_eq_true, Bool.and_eq_true, Bool.not_eq_true', Bool.not_eq_false', Bool.or_eq_false_iff, Bool.and_eq_false_iff, decide_eq_true_eq, decide_eq_false_iff_not, beq_iff_eq, beq_eq_false_iff_ne, bne_iff_ne, bne_eq_false_iff_eq, ne_eq, Classical.not_not, Int.not_lt, Int.not_le, ge_iff_le, gt_iff_lt] at hc
            omega
          clear hc
          rw [chunks_done hin hcc, List.append_nil] at hpre
          subst hpre
          (repeat refine PWp.seq ?_); refine PWp.exit (iteT rfl ?_)
          ((repeat refine PWp.seq ?_); refine PWp.region TT (by rfl) (fun K hK => ?_); simp only [push_cast, seval, Nat.reduceEqDiff, Nat.reduceLeDiff, reduceCtorEq]; (repeat refine sk ?_); refine hK _ ?_; clear hK K)
          ((repeat refine PWp.seq ?_); refine PWp.ret ?_)
          refine ⟨.inr rfl, by omega, _, [], ?_, rfl, rfl⟩
          rw [hE, hL]
          (simp [push_cast, -List.getD_eq_getElem?_getD])
set_option maxRecDepth 100000
set_option linter.unusedSimpArgs false
set_option linter.unusedVariables false
theorem Ck.ext' {a b : Ck} (h : a.s = b.s ∧ a.o = b.o ∧ a.on = b.on ∧ a.a = b.a ∧ a.an = b.an ∧ a.b = b.b ∧ a.bn = b.bn) : a = b := by
  cases a; cases b
  simp only at h
  obtain ⟨rfl, rfl, rfl, rfl, rfl, rfl, rfl⟩ := h
  rfl
/-- Is a chunk one at a place? -/
def okC (o a b : Int) (c : Ck) (x y z : Int) : Prop := c.o = x ∧ c.a = y ∧ c.b = z ∧ 0 ≤ c.on ∧ 0 ≤ c.an ∧ 0 ≤ c.bn ∧ ¬ (c.on = 0 ∧ c.an = 0 ∧ c.bn = 0) ∧ (c.s = true → c.on = c.an ∧ c.an = c.bn) ∧ c.on ≤ IntKind.i64.wrap (o - x) ∧ c.an ≤ IntKind.i64.wrap (a - y) ∧ c.bn ≤ IntKind.i64.wrap (b - z)
instance (o a b : Int) (c : Ck) (x y z : Int) : Decidable (okC o a b c x y z) := by unfold okC; infer_instance
def rightC (o a b : Int) : List Ck → Int → Int → Int → Bool
  | [], x, y, z => x == o && y == a && z == b
  | c :: l, x, y, z => decide (okC o a b c x y z) && rightC o a b l (IntKind.i64.wrap (x + c.on)) (IntKind.i64.wrap (y + c.an)) (IntKind.i64.wrap (z + c.bn))
theorem mn3 (a b c : Int) : mn (mn a b) c ≤ a ∧ mn (mn a b) c ≤ b ∧ mn (mn a b) c ≤ c ∧ (mn (mn a b) c = a ∨ mn (mn a b) c = b ∨ mn (mn a b) c = c) := by unfold mn; split <;> split <;> omega
theorem mx3 (a b c : Int) : a ≤ mx (mx a b) c ∧ b ≤ mx (mx a b) c ∧ c ≤ mx (mx a b) c ∧ (mx (mx a b) c = a ∨ mx (mx a b) c = b ∨ mx (mx a b) c = c) := by unfold mx; split <;> split <;> omega
def p3 (x y z : Int) : Ck := ⟨false, x, 0, y, 0, z, 0⟩
attribute [push_cast] p3
theorem ref13_Right (l : List Ck) (o a b : Int) (hl : l.length ≤ 9223372036854775807) : PC Try.prog 49 [.iv (.sl 7 (l.map encC)), iI o, iI a, iI b] [] 0 0 (fun t obs => t = .iv (.lit (.bool (rightC o a b l 0 0 0))) ∧ obs = []) := by
  refine PC.body [8] Try.func49 rfl (by rfl) (Nat.le_of_ble_eq_true (by rfl)) rfl ?_; simp only [enumA]
  ((repeat refine PWp.seq ?_); refine PWp.region TT (by rfl) (fun K hK => ?_); simp only [push_cast, seval, Nat.reduceEqDiff, Nat.reduceLeDiff, reduceCtorEq]; (repeat refine sk ?_); refine hK _ ?_; clear hK K)
  ((repeat refine PWp.seq ?_); refine PWp.region TT (by rfl) (fun K hK => ?_); simp only [push_cast, seval, Nat.reduceEqDiff, Nat.reduceLeDiff, reduceCtorEq]; (repeat refine sk ?_); refine hK _ ?_; clear hK K)
  ((repeat refine PWp.seq ?_); refine PWp.region TT (by rfl) (fun K hK => ?_); simp only [push_cast, seval, Nat.reduceEqDiff, Nat.reduceLeDiff, reduceCtorEq]; (repeat refine sk ?_); refine hK _ ?_; clear hK K)
  ((repeat refine PWp.seq ?_); refine PWp.block ?_)
  refine PWp.loop (fun cc st => ∃ (k : Nat) (x y z : Int), cc = l.length - k ∧ k ≤ l.length ∧ rightC o a b l 0 0 0 = rightC o a b (l.drop k) x y z ∧
    st = ⟨[(0, .iv (.sl 7 (l.map encC))), (1, iI o), (2, iI a), (3, iI b), (9, iI x), (10, iI y), (11, iI z), (12, .iv (.lit (.int .i64 k)))], [], 0⟩) _ _ ⟨0, 0, 0, 0, rfl, Nat.zero_le _, rfl, rfl⟩ (Gh.le (by simp [push_cast, -List.getD_eq_getElem?_getD]) (by simp)) ?_
  rintro cc st ⟨k, x, y, z, rfl, hk, hR, rfl⟩
  ((repeat refine PWp.seq ?_); refine PWp.region TT (by rfl) (fun K hK => ?_); simp only [push_cast, seval, Nat.reduceEqDiff, Nat.reduceLeDiff, reduceCtorEq]; (repeat refine sk ?_); refine hK _ ?_; clear hK K)
  ((repeat refine PWp.seq ?_); refine PWp.cond (by simp only [push_cast, seval, Nat.reduceEqDiff, Nat.reduceLeDiff, reduceCtorEq]; rfl) (fun hc => ?_) (fun hc => ?_))
  · have hlt : k < l.length := by simpa using hc
    clear hc
    rw [drop_getD hlt] at hR
    generalize hcg : l.getD k default = c at *
    have hgm : (l.map encC).getD k .any = encC c := by rw [getD_map hlt, hcg]
    ((repeat refine PWp.seq ?_); refine PWp.skip ?_)
    ((repeat refine PWp.seq ?_); refine PWp.block ?_)
    ((repeat refine PWp.seq ?_); refine PWp.region TT (by rfl) (fun K hK => ?_); simp only [push_cast, seval, Nat.reduceEqDiff, Nat.reduceLeDiff, reduceCtorEq, hgm]; (repeat refine sk ?_); refine hK _ ?_; clear hK K)
    ((repeat refine PWp.seq ?_); refine PWp.region TT (by rfl) (fun K hK => ?_); simp only [push_cast, seval, Nat.reduceEqDiff, Nat.reduceLeDiff, reduceCtorEq]; (repeat refine sk ?_); refine hK _ ?_; clear hK K)
    ((repeat refine PWp.seq ?_); refine PWp.cond (by simp only [push_cast, seval, Nat.reduceEqDiff, Nat.reduceLeDiff, reduceCtorEq]; rfl) (fun hc => ?_) (fun hc => ?_))
    · have hno : ¬ okC o a b c x y z := by
        simp only [Bool.or_eq_true, Bool.and_eq_true, Bool.not_eq_true', Bool.not_eq_false', Bool.or_eq_false_iff, Bool.and_eq_false_iff, decide_eq_true_eq, decide_eq_false_iff_not, beq_iff_eq, beq_eq_false_iff_ne, bne_iff_ne, bne_eq_false_iff_eq, ne_eq, Classical.not_not, Int.not_lt, Int.not_le, ge_iff_le, gt_iff_lt] at hc
        intro hok
        obtain ⟨h1, h2, h3, h4, h5, h6, h7, h8, h9, h10, h11⟩ := hok
        omega
      ((repeat refine PWp.seq ?_); refine PWp.region TT (by rfl) (fun K hK => ?_); simp only [push_cast, seval, Nat.reduceEqDiff, Nat.reduceLeDiff, reduceCtorEq]; (repeat refine sk ?_); refine hK _ ?_; clear hK K)
      ((repeat refine PWp.seq ?_); refine PWp.ret ?_)
      refine ⟨.inr rfl, by omega, _, [], ?_, rfl, rfl⟩
      rw [hR, rightC, decide_eq_false hno, Bool.false_and]
      (simp [push_cast, -List.getD_eq_getElem?_getD])
    · simp only [Bool.or_eq_true, Bool.and_eq_true, Bool.not_eq_true', Bool.not_eq_false', Bool.or_eq_false_iff, Bool.and_eq_false_iff, decide_eq_true_eq, decide_eq_false_iff_not, beq_iff_eq, beq_eq_false_iff_ne, bne_iff_ne, bne_eq_false_iff_eq, ne_eq, Classical.not_not, Int.not_lt, Int.not_le, ge_iff_le, gt_iff_lt] at hc
      have hc1 := hc
      ((repeat refine PWp.seq ?_); refine PWp.skip ?_)
      ((repeat refine PWp.seq ?_); refine PWp.region TT (by rfl) (fun K hK => ?_); simp only [push_cast, seval, Nat.reduceEqDiff, Nat.reduceLeDiff, reduceCtorEq]; (repeat refine sk ?_); refine hK _ ?_; clear hK K)
      ((repeat refine PWp.seq ?_); refine PWp.cond (by simp only [push_cast, seval, Nat.reduceEqDiff, Nat.reduceLeDiff, reduceCtorEq]; rfl) (fun hc => ?_) (fun hc => ?_))
      · have hno : ¬ okC o a b c x y z := by
          simp only [Bool.or_eq_true, Bool.and_eq_true, Bool.not_eq_true', Bool.not_eq_false', Bool.or_eq_false_iff, Bool.and_eq_false_iff, decide_eq_true_eq, decide_eq_false_iff_not, beq_iff_eq, beq_eq_false_iff_ne, bne_iff_ne, bne_eq_false_iff_eq, ne_eq, Classical.not_not, Int.not_lt, Int.not_le, ge_iff_le, gt_iff_lt] at hc
          intro hok
          obtain ⟨h1, h2, h3, h4, h5, h6, h7, h8, h9, h10, h11⟩ := hok
          cases hs : c.s
          · rw [hs] at hc; simp only [Bool.false_eq_true, false_and, false_or] at hc; omega
          · have := h8 hs; omega
        ((repeat refine PWp.seq ?_); refine PWp.region TT (by rfl) (fun K hK => ?_); simp only [push_cast, seval, Nat.reduceEqDiff, Nat.reduceLeDiff, reduceCtorEq]; (repeat refine sk ?_); refine hK _ ?_; clear hK K)
        ((repeat refine PWp.seq ?_); refine PWp.ret ?_)
        refine ⟨.inr rfl, by omega, _, [], ?_, rfl, rfl⟩
        rw [hR, rightC, decide_eq_false hno, Bool.false_and]
        (simp [push_cast, -List.getD_eq_getElem?_getD])
      · have hok : okC o a b c x y z := by
          simp only [Bool.or_eq_true, Bool.and_eq_true, Bool.not_eq_true', Bool.not_eq_false', Bool.or_eq_false_iff, Bool.and_eq_false_iff, decide_eq_true_eq, decide_eq_false_iff_not, beq_iff_eq, beq_eq_false_iff_ne, bne_iff_ne, bne_eq_false_iff_eq, ne_eq, Classical.not_not, Int.not_lt, Int.not_le, ge_iff_le, gt_iff_lt] at hc
          unfold okC
          obtain ⟨⟨⟨h6, h7⟩, h8⟩, h9⟩ := hc
          refine ⟨by omega, by omega, by omega, by omega, by omega, by omega, by omega, fun hs => ?_, h7, h8, h9⟩
          rw [hs] at h6
          simp only [Bool.true_eq_false, false_or] at h6
          omega
        ((repeat refine PWp.seq ?_); refine PWp.skip ?_)
        ((repeat refine PWp.seq ?_); refine PWp.region TT (by rfl) (fun K hK => ?_); simp only [push_cast, seval, Nat.reduceEqDiff, Nat.reduceLeDiff, reduceCtorEq]; (repeat refine sk ?_); refine hK _ ?_; clear hK K)
        ((repeat refine PWp.seq ?_); refine PWp.region TT (by rfl) (fun K hK => ?_); simp only [push_cast, seval, Nat.reduceEqDiff, Nat.reduceLeDiff, reduceCtorEq]; (repeat refine sk ?_); refine hK _ ?_; clear hK K)
        ((repeat refine PWp.seq ?_); refine PWp.region TT (by rfl) (fun K hK => ?_); simp only [push_cast, seval, Nat.reduceEqDiff, Nat.reduceLeDiff, reduceCtorEq]; (repeat refine sk ?_); refine hK _ ?_; clear hK K)
        ((repeat refine PWp.seq ?_); refine PWp.region TT (by rfl) (fun K hK => ?_); simp only [push_cast, seval, Nat.reduceEqDiff, Nat.reduceLeDiff, reduceCtorEq, wrap64_id (n := (k : Int) + 1) (by omega) (by omega)]; (repeat refine sk ?_); refine hK _ ?_; clear hK K)
        refine ⟨_, _, ?_, ⟨k + 1, IntKind.i64.wrap (x + c.on), IntKind.i64.wrap (y + c.an), IntKind.i64.wrap (z + c.bn), rfl, by omega, ?_, rfl⟩, Gh.le (by simp [push_cast, -List.getD_eq_getElem?_getD]) (by simp)⟩
        · omega
        · rw [hR, rightC, decide_eq_true hok, Bool.true_and]
  · have hk' : k = l.length := by simp at hc; omega
    subst hk'
    rw [List.drop_length] at hR
    (repeat refine PWp.seq ?_); refine PWp.exit (iteT rfl ?_)
    ((repeat refine PWp.seq ?_); refine PWp.region TT (by rfl) (fun K hK => ?_); simp only [push_cast, seval, Nat.reduceEqDiff, Nat.reduceLeDiff, reduceCtorEq]; (repeat refine sk ?_); refine hK _ ?_; clear hK K)
    ((repeat refine PWp.seq ?_); refine PWp.ret ?_)
    refine ⟨.inr rfl, by omega, _, [], ?_, rfl, rfl⟩
    rw [hR, rightC]
    (simp [push_cast, -List.getD_eq_getElem?_getD])

set_option maxRecDepth 100000
set_option linter.unusedSimpArgs false
set_option linter.unusedVariables false
theorem runN_miss {oa ob : List (Int × Int)} {n m : Int} (h : rRight oa n m = true) (x y z : Int) : hit oa ob x y z (runN oa ob x y z) = false := by
  obtain ⟨r1, r2, r3⟩ := runN_spec oa ob x y z
  rcases Nat.lt_or_ge (runN oa ob x y z) oa.length with hl | hl
  · exact r3 hl
  · obtain ⟨d, hd, hm⟩ := miss (ob := ob) h x y z
    have : d = runN oa ob x y z := by
      rcases Nat.lt_or_ge d (runN oa ob x y z) with hlt | hge
      · have := r2 d hlt
        simp [hit, this] at hm
      · omega
    rw [← this]; exact hm
theorem runN_uniq {oa ob : List (Int × Int)} {x y z : Int} {n : Nat} (h1 : ∀ j, j < n → hit oa ob x y z j = true) (h2 : hit oa ob x y z n = false) (hr : hit oa ob x y z (runN oa ob x y z) = false) : runN oa ob x y z = n := by
  obtain ⟨r1, r2, r3⟩ := runN_spec oa ob x y z
  rcases Nat.lt_trichotomy (runN oa ob x y z) n with hlt | he | hlt
  · rw [h1 _ hlt] at hr; cases hr
  · exact he
  · have := r2 n hlt
    simp [hit, this] at h2
theorem hit_comm (oa ob : List (Int × Int)) (x y z : Int) (n : Nat) : hit ob oa x z y n = hit oa ob x y z n := Bool.and_comm _ _
theorem runN_comm {oa ob : List (Int × Int)} {o a b : Int} (ha : rRight oa o a = true) (hb : rRight ob o b = true) (x y z : Int) : runN ob oa x z y = runN oa ob x y z := by
  refine runN_uniq (fun j hj => ?_) ?_ (runN_miss hb _ _ _)
  · rw [hit_comm]
    have := (runN_spec oa ob x y z).2.1 j hj
    simp [hit, this]
  · rw [hit_comm]; exact runN_miss ha _ _ _
theorem minOpt_congr {l l' : List Int} (h : ∀ x, x ∈ l ↔ x ∈ l') : minOpt l = minOpt l' := by
  cases h1 : minOpt l with
  | none =>
    rw [minOpt_none h1] at h
    cases l' with
    | nil => rfl
    | cons y l' => exact absurd ((h y).2 (List.mem_cons_self ..)) (by simp)
  | some m =>
    obtain ⟨hm, hle⟩ := minOpt_spec h1
    cases h2 : minOpt l' with
    | none => rw [minOpt_none h2] at h; exact absurd ((h m).1 hm) (by simp)
    | some m' =>
      obtain ⟨hm', hle'⟩ := minOpt_spec h2
      have e1 := hle m' ((h m').2 hm')
      have e2 := hle' m ((h m).1 hm)
      congr 1
      omega
theorem cand_iff {oa ob : List (Int × Int)} {o a b x : Int} : x ∈ cand oa ob o a b ↔ ∃ u v, toI oa x = some u ∧ toI ob x = some v ∧ o ≤ x ∧ a ≤ u ∧ b ≤ v := by
  refine ⟨cand_mem, ?_⟩
  rintro ⟨u, v, hu, hv, h1, h2, h3⟩
  refine List.mem_filter.2 ⟨?_, ?_⟩
  · obtain ⟨k, hk, e1, _⟩ := toI_mem hu
    refine List.mem_map.2 ⟨oa.getD k default, ?_, e1⟩
    simp [List.getD, hk]
  · simp [okP, hu, hv, h1, h2, h3]
theorem nextO_comm (oa ob : List (Int × Int)) (x y z : Int) : nextO ob oa x z y = nextO oa ob x y z := by
  refine minOpt_congr fun u => ?_
  rw [cand_iff, cand_iff]
  constructor
  · rintro ⟨v, w, h1, h2, h3, h4, h5⟩; exact ⟨w, v, h2, h1, h3, h5, h4⟩
  · rintro ⟨v, w, h1, h2, h3, h4, h5⟩; exact ⟨w, v, h2, h1, h3, h5, h4⟩
def swapC (c : Ck) : Ck := ⟨c.s, c.o, c.on, c.b, c.bn, c.a, c.an⟩
theorem stepC_comm {oa ob : List (Int × Int)} {o a b : Int} (ha : rRight oa o a = true) (hb : rRight ob o b = true) (x y z : Int) : stepC ob oa o b a x z y = swapC (stepC oa ob o a b x y z) := by
  unfold stepC
  rw [runN_comm ha hb, nextO_comm]
  split
  · rfl
  · cases nextO oa ob x y z <;> rfl
theorem chunksF_comm {oa ob : List (Int × Int)} {o a b : Int} (ha : rRight oa o a = true) (hb : rRight ob o b = true) : ∀ (f : Nat) (x y z : Int), chunksF ob oa o b a f x z y = (chunksF oa ob o a b f x y z).map swapC
  | 0, x, y, z => rfl
  | f + 1, x, y, z => by
    unfold chunksF
    rw [stepC_comm ha hb]
    by_cases h : x < o ∨ y < a ∨ z < b
    · rw [if_pos h, if_pos (by omega), List.map_cons]
      congr 1
      exact chunksF_comm ha hb f _ _ _
    · rw [if_neg h, if_neg (by omega)]; rfl
theorem okOf_comm (oa ob : List (Int × Int)) (o a b : Int) : okOf ob oa o b a = okOf oa ob o a b := by
  rw [Bool.eq_iff_iff]
  simp only [okOf, Bool.and_eq_true, decide_eq_true_eq]
  constructor <;> (rintro ⟨⟨⟨⟨⟨⟨⟨h1, h2⟩, h3⟩, h4⟩, h5⟩, h6⟩, h7⟩, h8⟩; exact ⟨⟨⟨⟨⟨⟨⟨h1, h2⟩, h5⟩, h6⟩, h3⟩, h4⟩, h8⟩, h7⟩)
theorem ofL_comm (oa ob : List (Int × Int)) (o a b : Int) : ofL oa ob o a b = (ofL ob oa o b a).map swapC := by
  unfold ofL
  rw [okOf_comm]
  split
  · rename_i h
    simp only [okOf, Bool.and_eq_true, decide_eq_true_eq] at h
    unfold chunks
    rw [show meas o b a 0 0 0 = meas o a b 0 0 0 by unfold meas; congr 1; omega]
    first | exact chunksF_comm h.1.2 h.2 _ _ _ _ | exact chunksF_comm h.2 h.1.2 _ _ _ _
  · rfl
theorem ofE_comm (oa ob : List (Int × Int)) (o a b : Int) : ofE ob oa o b a = ofE oa ob o a b := by unfold ofE; rw [okOf_comm]

/-! ### All of the three texts -/
theorem chunksF_right {oa ob : List (Int × Int)} {o a b : Int} (ha : rRight oa o a = true) (hb : rRight ob o b = true) (ho : o ≤ 400) (hao : a ≤ 400) (hbo : b ≤ 400) : ∀ (f : Nat) (x y z : Int), inB o a b x y z → meas o a b x y z ≤ f → rightC o a b (chunksF oa ob o a b f x y z) x y z = true
  | 0, x, y, z, h, hf => by
    unfold chunksF rightC
    unfold inB at h
    unfold meas at hf
    simp only [Bool.and_eq_true, beq_iff_eq]
    omega
  | f + 1, x, y, z, h, hf => by
    unfold chunksF
    by_cases hc : x < o ∨ y < a ∨ z < b
    · rw [if_pos hc]
      obtain ⟨e1, e2, e3, h1, h2, h3, h4, h5⟩ := stepC_ok ha hb h hc
      have hin := h
      have hin5 := h5
      unfold inB at hin hin5
      unfold rightC
      rw [wrap64_id (n := x + (stepC oa ob o a b x y z).on) (by omega) (by omega), wrap64_id (n := y + (stepC oa ob o a b x y z).an) (by omega) (by omega), wrap64_id (n := z + (stepC oa ob o a b x y z).bn) (by omega) (by omega)]
      rw [chunksF_right ha hb ho hao hbo f _ _ _ h5 (by unfold meas at *; omega), Bool.and_true, decide_eq_true_eq]
      unfold okC
      rw [wrap64_id (n := o - x) (by omega) (by omega), wrap64_id (n := a - y) (by omega) (by omega), wrap64_id (n := b - z) (by omega) (by omega)]
      refine ⟨e1, e2, e3, h1, h2, h3, by omega, ?_, by omega, by omega, by omega⟩
      unfold stepC
      split
      · intro _; exact ⟨rfl, rfl⟩
      · split <;> (intro hh; cases hh)
    · rw [if_neg hc]
      unfold rightC
      unfold inB at h
      simp only [Bool.and_eq_true, beq_iff_eq]
      omega
theorem ofL_right {oa ob : List (Int × Int)} {o a b : Int} (h : okOf oa ob o a b = true) : rightC o a b (ofL oa ob o a b) 0 0 0 = true := by
  unfold ofL
  rw [h, if_pos rfl]
  simp only [okOf, Bool.and_eq_true, decide_eq_true_eq] at h
  obtain ⟨⟨⟨⟨⟨⟨⟨b1, b2⟩, b3⟩, b4⟩, b5⟩, b6⟩, hra⟩, hrb⟩ := h
  exact chunksF_right hra hrb b2 b4 b6 _ 0 0 0 (by unfold inB; omega) (Nat.le_refl _)
/-- Lines of a stable chunk are matched one by one. -/
theorem chunksF_stable {oa ob : List (Int × Int)} {o a b : Int} : ∀ (f : Nat) (x y z : Int) (c : Ck), c ∈ chunksF oa ob o a b f x y z → c.s = true → ∀ k : Nat, (k : Int) < c.on → toI oa (c.o + k) = some (c.a + k) ∧ toI ob (c.o + k) = some (c.b + k)
  | 0, x, y, z, c, h => by simp [chunksF] at h
  | f + 1, x, y, z, c, h => by
    unfold chunksF at h
    split at h
    · rcases List.mem_cons.1 h with rfl | h
      · intro hs k hk
        unfold stepC at hs hk ⊢
        split at hs
        · rename_i hn
          rw [if_pos hn] at hk ⊢
          exact (runN_spec oa ob x y z).2.1 k (by simp only at hk; omega)
        · split at hs <;> cases hs
      · exact chunksF_stable f _ _ _ c h
    · simp at h
def altC : List Ck → Prop
  | c :: d :: l => d.s ≠ c.s ∧ altC (d :: l)
  | _ => True
theorem altC_get : ∀ (l : List Ck), altC l → ∀ i, i + 1 < l.length → (l.getD (i + 1) default).s ≠ (l.getD i default).s
  | [], _, i, h => by simp at h
  | [c], _, i, h => by simp at h
  | c :: d :: l, h, 0, _ => by simpa using h.1
  | c :: d :: l, h, i + 1, hl => by
    have := altC_get (d :: l) h.2 i (by simpa using hl)
    simpa using this
theorem stepC_s (oa ob : List (Int × Int)) (o a b x y z : Int) : (stepC oa ob o a b x y z).s = decide (0 < runN oa ob x y z) := by
  unfold stepC
  split
  · rename_i h; simp [h]
  · rename_i h
    rw [decide_eq_false h]
    split <;> rfl
theorem runN_pos {oa ob : List (Int × Int)} {n m : Int} (h : rRight oa n m = true) {x y z : Int} (h0 : hit oa ob x y z 0 = true) : 0 < runN oa ob x y z := by
  rcases Nat.eq_zero_or_pos (runN oa ob x y z) with h1 | h1
  · have := runN_miss (ob := ob) h x y z
    rw [h1, h0] at this; cases this
  · exact h1
theorem chunksF_alt {oa ob : List (Int × Int)} {o a b : Int} (ha : rRight oa o a = true) (hb : rRight ob o b = true) : ∀ (f : Nat) (x y z : Int), inB o a b x y z → altC (chunksF oa ob o a b f x y z)
  | 0, x, y, z, _ => trivial
  | f + 1, x, y, z, h => by
    unfold chunksF
    by_cases hc : x < o ∨ y < a ∨ z < b
    · rw [if_pos hc]
      obtain ⟨e1, e2, e3, h1, h2, h3, h4, h5⟩ := stepC_ok ha hb h hc
      have ih := chunksF_alt ha hb f _ _ _ h5
      cases f with
      | zero => trivial
      | succ f =>
        unfold chunksF at ih ⊢
        by_cases hc2 : x + (stepC oa ob o a b x y z).on < o ∨ y + (stepC oa ob o a b x y z).an < a ∨ z + (stepC oa ob o a b x y z).bn < b
        · rw [if_pos hc2] at ih ⊢
          refine ⟨?_, ih⟩
          rw [stepC_s, stepC_s]
          by_cases hn : 0 < runN oa ob x y z
          · -- behind a run
            have hm := runN_miss (ob := ob) ha x y z
            have hs : stepC oa ob o a b x y z = ⟨true, x, runN oa ob x y z, y, runN oa ob x y z, z, runN oa ob x y z⟩ := by unfold stepC; rw [if_pos hn]
            rw [hs]
            simp only
            have h0 : runN oa ob (x + runN oa ob x y z) (y + runN oa ob x y z) (z + runN oa ob x y z) = 0 := by
              refine runN_uniq (fun j hj => by omega) ?_ (runN_miss ha _ _ _)
              simpa [hit] using hm
            rw [h0, decide_eq_true hn]
            simp
          · rw [decide_eq_false hn]
            cases hx : nextO oa ob x y z with
            | none =>
              have hs : stepC oa ob o a b x y z = ⟨false, x, o - x, y, a - y, z, b - z⟩ := by unfold stepC; rw [if_neg hn, hx]
              rw [hs] at hc2
              simp only at hc2
              omega
            | some u =>
              obtain ⟨v, w, hv, hw, g1, g2, g3⟩ := cand_mem (minOpt_spec hx).1
              have hs : stepC oa ob o a b x y z = ⟨false, x, u - x, y, v - y, z, w - z⟩ := by unfold stepC; rw [if_neg hn, hx]; simp [hv, hw]
              rw [hs]
              simp only
              have : 0 < runN oa ob (x + (u - x)) (y + (v - y)) (z + (w - z)) := runN_pos ha (by
                rw [show x + (u - x) = u by omega, show y + (v - y) = v by omega, show z + (w - z) = w by omega]
                simp [hit, hv, hw])
              rw [decide_eq_true this]
              simp
        · rw [if_neg hc2]; trivial
    · rw [if_neg hc]; trivial
theorem ofL_alt (oa ob : List (Int × Int)) (o a b : Int) : altC (ofL oa ob o a b) := by
  unfold ofL
  split
  · rename_i h
    simp only [okOf, Bool.and_eq_true, decide_eq_true_eq] at h
    exact chunksF_alt h.1.2 h.2 _ _ _ _ (by unfold inB; omega)
  · trivial
theorem ofL_stable {oa ob : List (Int × Int)} {o a b : Int} {c : Ck} (h : c ∈ ofL oa ob o a b) (hs : c.s = true) (k : Nat) (hk : (k : Int) < c.on) : toI oa (c.o + k) = some (c.a + k) ∧ toI ob (c.o + k) = some (c.b + k) := by
  unfold ofL at h
  split at h
  · exact chunksF_stable _ _ _ _ c h hs k hk
  · simp at h
theorem chunksF_bound {oa ob : List (Int × Int)} {o a b : Int} (ha : rRight oa o a = true) (hb : rRight ob o b = true) : ∀ (f : Nat) (x y z : Int), inB o a b x y z → ∀ c ∈ chunksF oa ob o a b f x y z, 0 ≤ c.o ∧ 0 ≤ c.on ∧ c.o + c.on ≤ o ∧ 0 ≤ c.a ∧ 0 ≤ c.an ∧ c.a + c.an ≤ a ∧ 0 ≤ c.b ∧ 0 ≤ c.bn ∧ c.b + c.bn ≤ b
  | 0, x, y, z, _, c, h => by simp [chunksF] at h
  | f + 1, x, y, z, hin, c, h => by
    unfold chunksF at h
    split at h
    · rename_i hc
      obtain ⟨e1, e2, e3, h1, h2, h3, h4, h5⟩ := stepC_ok ha hb hin hc
      rcases List.mem_cons.1 h with rfl | h
      · unfold inB at hin h5
        omega
      · exact chunksF_bound ha hb f _ _ _ h5 c h
    · simp at h
theorem ofL_bound {oa ob : List (Int × Int)} {o a b : Int} {c : Ck} (h : c ∈ ofL oa ob o a b) : 0 ≤ c.o ∧ 0 ≤ c.on ∧ c.o + c.on ≤ o ∧ 0 ≤ c.a ∧ 0 ≤ c.an ∧ c.a + c.an ≤ a ∧ 0 ≤ c.b ∧ 0 ≤ c.bn ∧ c.b + c.bn ≤ b ∧ o ≤ 400 ∧ a ≤ 400 ∧ b ≤ 400 := by
  unfold ofL at h
  split at h
  · rename_i hk
    simp only [okOf, Bool.and_eq_true, decide_eq_true_eq] at hk
    have := chunksF_bound hk.1.2 hk.2 _ _ _ _ (by unfold inB; omega) c h
    omega
  · simp at h

