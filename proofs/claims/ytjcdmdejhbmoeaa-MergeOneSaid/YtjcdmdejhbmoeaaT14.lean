/- Walk of MergeOne. -/
import Derived.Test.YtjcdmdejhbmoeaaT13
namespace Go.Proofs.Ytjcdmdejhbmoeaa
open Go.PL
set_option maxRecDepth 100000
set_option linter.unusedSimpArgs false
set_option linter.unusedVariables false
set_option maxHeartbeats 1000000 in
theorem MergeOne_walk (o a : List Ln) (hto : okT o) (hta : okT a) : PC Try.prog 7 [iL o, iL a] [] 0 900 (fun t obs => t = iB true ∧ obs = []) := by
  refine PC.body [4] Try.func7 rfl (by rfl) (Nat.le_of_ble_eq_true (by rfl)) rfl ?_; simp only [enumA]
  ((repeat refine PWp.seq ?_); refine PWp.region TT (by rfl) (fun K hK => ?_); simp only [push_cast, seval, Nat.reduceEqDiff, Nat.reduceLeDiff, reduceCtorEq]; (repeat refine sk ?_); refine hK _ ?_; clear hK K)
  ((repeat refine PWp.seq ?_); refine PWp.region TT (by rfl) (fun K hK => ?_); simp only [push_cast, seval, Nat.reduceEqDiff, Nat.reduceLeDiff, reduceCtorEq])
  ((repeat refine sk ?_); refine PCall.quse (few14_q o) (by simp [push_cast]) (by simp [push_cast]) ?_)
  (simp only [push_cast, seval, Nat.reduceEqDiff, Nat.reduceLeDiff, reduceCtorEq])
  ((repeat refine sk ?_); refine PCall.quse (few14_q a) (by simp [push_cast]) (by simp [push_cast]) ?_)
  (simp only [push_cast, seval, Nat.reduceEqDiff, Nat.reduceLeDiff, reduceCtorEq]; (repeat refine sk ?_); refine hK _ ?_; clear hK K)
  have ho := few_len o
  have ha := few_len a
  have hto : okT (o.take 40) := fun x hx => hto x (List.mem_of_mem_take hx)
  have hta : okT (a.take 40) := fun x hx => hta x (List.mem_of_mem_take hx)
  generalize o.take 40 = o at *
  generalize a.take 40 = a at *
  ((repeat refine PWp.seq ?_); refine PWp.region TT (by rfl) (fun K hK => ?_); simp only [push_cast, seval, Nat.reduceEqDiff, Nat.reduceLeDiff, reduceCtorEq])
  ((repeat refine sk ?_); refine PCall.use (ref01_Right o (by omega) hto) [] rfl (by simp [push_cast]) (by simp) (by simp [push_cast]) (by simp [push_cast]) (by simp [push_cast]) (by simp [push_cast]) ?_)
  rintro _ _ ⟨rfl, rfl⟩
  cases hr1 : rightB o with
  | false =>
    (simp only [push_cast, seval, Nat.reduceEqDiff, Nat.reduceLeDiff, reduceCtorEq])
    ((repeat refine sk ?_); refine hK _ ?_; clear hK K)
    ((repeat refine PWp.seq ?_); refine PWp.cond (by simp only [push_cast, seval, Nat.reduceEqDiff, Nat.reduceLeDiff, reduceCtorEq]; rfl) (fun hc => ?_) (fun hc => ?_))
    · clear hc
      ((repeat refine PWp.seq ?_); refine PWp.region TT (by rfl) (fun K hK => ?_); simp only [push_cast, seval, Nat.reduceEqDiff, Nat.reduceLeDiff, reduceCtorEq])
      ((repeat refine sk ?_); refine PCall.use (live14) [] rfl (by simp [push_cast]) (by simp) (by simp [push_cast]) (by simp [push_cast]) (by simp [push_cast]) (by simp [push_cast]) ?_)
      rintro _ _ ⟨rfl, rfl⟩
      (simp only [push_cast, seval, Nat.reduceEqDiff, Nat.reduceLeDiff, reduceCtorEq]; (repeat refine sk ?_); refine hK _ ?_; clear hK K)
      ((repeat refine PWp.seq ?_); refine PWp.ret ?_)
      refine ⟨.inr rfl, by omega, _, [], ?_, rfl, rfl⟩
      (simp [push_cast, -List.getD_eq_getElem?_getD])
    · cases hc
  | true =>
    (simp only [push_cast, seval, Nat.reduceEqDiff, Nat.reduceLeDiff, reduceCtorEq])
    ((repeat refine sk ?_); refine PCall.use (ref01_Right a (by omega) hta) [] rfl (by simp [push_cast]) (by simp) (by simp [push_cast]) (by simp [push_cast]) (by simp [push_cast]) (by simp [push_cast]) ?_)
    rintro _ _ ⟨rfl, rfl⟩
    cases hr2 : rightB a with
    | false =>
      (simp only [push_cast, seval, Nat.reduceEqDiff, Nat.reduceLeDiff, reduceCtorEq]; (repeat refine sk ?_); refine hK _ ?_; clear hK K)
      ((repeat refine PWp.seq ?_); refine PWp.cond (by simp only [push_cast, seval, Nat.reduceEqDiff, Nat.reduceLeDiff, reduceCtorEq]; rfl) (fun hc => ?_) (fun hc => ?_))
      · clear hc
        ((repeat refine PWp.seq ?_); refine PWp.region TT (by rfl) (fun K hK => ?_); simp only [push_cast, seval, Nat.reduceEqDiff, Nat.reduceLeDiff, reduceCtorEq])
        ((repeat refine sk ?_); refine PCall.use (live14) [] rfl (by simp [push_cast]) (by simp) (by simp [push_cast]) (by simp [push_cast]) (by simp [push_cast]) (by simp [push_cast]) ?_)
        rintro _ _ ⟨rfl, rfl⟩
        (simp only [push_cast, seval, Nat.reduceEqDiff, Nat.reduceLeDiff, reduceCtorEq]; (repeat refine sk ?_); refine hK _ ?_; clear hK K)
        ((repeat refine PWp.seq ?_); refine PWp.ret ?_)
        refine ⟨.inr rfl, by omega, _, [], ?_, rfl, rfl⟩
        (simp [push_cast, -List.getD_eq_getElem?_getD])
      · cases hc
    | true =>
      (simp only [push_cast, seval, Nat.reduceEqDiff, Nat.reduceLeDiff, reduceCtorEq]; (repeat refine sk ?_); refine hK _ ?_; clear hK K)
      ((repeat refine PWp.seq ?_); refine PWp.cond (by simp only [push_cast, seval, Nat.reduceEqDiff, Nat.reduceLeDiff, reduceCtorEq]; rfl) (fun hc => ?_) (fun hc => ?_))
      · cases hc
      · clear hc
        ((repeat refine PWp.seq ?_); refine PWp.skip ?_)
        ((repeat refine PWp.seq ?_); refine PWp.region TT (by rfl) (fun K hK => ?_); simp only [push_cast, seval, Nat.reduceEqDiff, Nat.reduceLeDiff, reduceCtorEq])
        ((repeat refine sk ?_); refine PCall.use (law14_pairs o a (by omega) (by omega)) [] rfl (by simp [push_cast]) (by simp) (by simp [push_cast]) (by simp [push_cast]) (by simp [push_cast]) (by simp [push_cast]) ?_)
        rintro _ _ ⟨⟨oa, hoa, rfl⟩, rfl⟩
        (simp only [push_cast, seval, Nat.reduceEqDiff, Nat.reduceLeDiff, reduceCtorEq])
        ((repeat refine sk ?_); refine PCall.use (law14_pairs_self o (by omega)) [] rfl (by simp [push_cast]) (by simp) (by simp [push_cast]) (by simp [push_cast]) (by simp [push_cast]) (by simp [push_cast]) ?_)
        rintro _ _ ⟨rfl, rfl⟩
        have hoo := idP_match o (by omega)
        have f1 := match_fits (by omega) (by omega) (by omega) hoa hoo
        have f3 := match_fits (by omega) (by omega) (by omega) hoa hoa
        have f2 := match_fits (by omega) (by omega) (by omega) hoo hoa
        have z1 := (match_mof (by omega) (by omega) (by omega) hoa hoo).1
        have z2 := (match_mof (by omega) (by omega) (by omega) hoo hoa).1
        have z3 := (match_mof (by omega) (by omega) (by omega) hoa hoa).1
        have p1 := one_pieces (by omega) (by omega) hoa
        have p3 := same_pieces (by omega) (by omega) hoa
        have tn := mof_turn (by omega) (by omega) (by omega) hoa hoo
        have gd := mof_good (by omega) (by omega) (by omega) hoa hoo
        have c1 := clean_all fun p hp => (p1 p hp).2
        obtain ⟨e1, r1⟩ := merge_is ho ha ho hr2 f1 p1
        obtain ⟨e3, r3⟩ := merge_is ho ha ha hr2 f3 p3
        have e2 : lnE (mofL o o a (idP o.length) oa) o o a = 0 := by
          unfold lnE
          rw [f2, tn, turn_clean, c1]
          rfl
        have r2 : lnR (mofL o o a (idP o.length) oa) o o a = a := by
          unfold lnR
          rw [f2, tn, turn_clean, c1, if_pos rfl, if_pos rfl, flat_turn gd c1, flat_is ho ha ho f1 fun p hp => (p1 p hp).1, evenL_right hr2]
        have l1 := mofL_length (o := o) (a := a) (b := o) (oa := oa) (ob := idP o.length)
        have l2 := mofL_length (o := o) (a := o) (b := a) (oa := idP o.length) (ob := oa)
        have l3 := mofL_length (o := o) (a := a) (b := a) (oa := oa) (ob := oa)
        have hol : (idP o.length).length ≤ 400 := by rw [idP_length]; omega
        clear p1 p3 tn gd c1 f1 f2 f3
        generalize idP o.length = oo at *
        (simp only [push_cast, seval, Nat.reduceEqDiff, Nat.reduceLeDiff, reduceCtorEq]; (repeat refine sk ?_); refine hK _ ?_; clear hK K)
        refine PWp.gh (st' := ⟨[(0, iL o), (1, iL a), (5, .iv (.sl 2 (oa.map encP))), (6, .iv (.sl 2 (oo.map encP)))], [], 0⟩) (Gh.le (by simp [push_cast, -List.getD_eq_getElem?_getD]) (by simp)) ?_
        ((repeat refine PWp.seq ?_); refine PWp.region TT (by rfl) (fun K hK => ?_); simp only [push_cast, seval, Nat.reduceEqDiff, Nat.reduceLeDiff, reduceCtorEq])
        ((repeat refine sk ?_); refine PCall.use (merge_Of o a o oa oo hoa.2.1 hol) [] rfl (by simp [push_cast]) (by simp) (by simp [push_cast]) (by simp [push_cast]) (by simp [push_cast]) (by simp [push_cast]) ?_)
        rintro _ _ ⟨rfl, rfl⟩
        rw [z1]
        generalize mofL o a o oa oo = m1 at *
        (simp only [push_cast, seval, Nat.reduceEqDiff, Nat.reduceLeDiff, reduceCtorEq]; (repeat refine sk ?_); refine hK _ ?_; clear hK K)
        refine PWp.gh (st' := ⟨[(0, iL o), (1, iL a), (5, .iv (.sl 2 (oa.map encP))), (6, .iv (.sl 2 (oo.map encP))), (7, iPc m1), (8, iI 0)], [], 0⟩) (Gh.le (by simp [push_cast, -List.getD_eq_getElem?_getD]) (by simp)) ?_
        ((repeat refine PWp.seq ?_); refine PWp.region TT (by rfl) (fun K hK => ?_); simp only [push_cast, seval, Nat.reduceEqDiff, Nat.reduceLeDiff, reduceCtorEq])
        ((repeat refine sk ?_); refine PCall.use (merge_Lines m1 o a o (by omega) (by omega) (by omega) (by omega)) [] rfl (by simp [push_cast]) (by simp) (by simp [push_cast]) (by simp [push_cast]) (by simp [push_cast]) (by simp [push_cast]) ?_)
        rintro _ _ ⟨rfl, rfl⟩
        rw [e1, r1]
        (simp only [push_cast, seval, Nat.reduceEqDiff, Nat.reduceLeDiff, reduceCtorEq]; (repeat refine sk ?_); refine hK _ ?_; clear hK K)
        refine PWp.gh (st' := ⟨[(0, iL o), (1, iL a), (5, .iv (.sl 2 (oa.map encP))), (6, .iv (.sl 2 (oo.map encP))), (8, iI 0), (9, iL a), (10, iI 0)], [], 0⟩) (Gh.le (by simp [push_cast, -List.getD_eq_getElem?_getD]) (by simp)) ?_
        ((repeat refine PWp.seq ?_); refine PWp.region TT (by rfl) (fun K hK => ?_); simp only [push_cast, seval, Nat.reduceEqDiff, Nat.reduceLeDiff, reduceCtorEq])
        ((repeat refine sk ?_); refine PCall.use (merge_Of o o a oo oa hol hoa.2.1) [] rfl (by simp [push_cast]) (by simp) (by simp [push_cast]) (by simp [push_cast]) (by simp [push_cast]) (by simp [push_cast]) ?_)
        rintro _ _ ⟨rfl, rfl⟩
        rw [z2]
        generalize mofL o o a oo oa = m2 at *
        (simp only [push_cast, seval, Nat.reduceEqDiff, Nat.reduceLeDiff, reduceCtorEq]; (repeat refine sk ?_); refine hK _ ?_; clear hK K)
        refine PWp.gh (st' := ⟨[(0, iL o), (1, iL a), (5, .iv (.sl 2 (oa.map encP))), (8, iI 0), (9, iL a), (10, iI 0), (11, iPc m2), (12, iI 0)], [], 0⟩) (Gh.le (by simp [push_cast, -List.getD_eq_getElem?_getD]) (by simp)) ?_
        ((repeat refine PWp.seq ?_); refine PWp.region TT (by rfl) (fun K hK => ?_); simp only [push_cast, seval, Nat.reduceEqDiff, Nat.reduceLeDiff, reduceCtorEq])
        ((repeat refine sk ?_); refine PCall.use (merge_Lines m2 o o a (by omega) (by omega) (by omega) (by omega)) [] rfl (by simp [push_cast]) (by simp) (by simp [push_cast]) (by simp [push_cast]) (by simp [push_cast]) (by simp [push_cast]) ?_)
        rintro _ _ ⟨rfl, rfl⟩
        rw [e2, r2]
        (simp only [push_cast, seval, Nat.reduceEqDiff, Nat.reduceLeDiff, reduceCtorEq]; (repeat refine sk ?_); refine hK _ ?_; clear hK K)
        refine PWp.gh (st' := ⟨[(0, iL o), (1, iL a), (5, .iv (.sl 2 (oa.map encP))), (8, iI 0), (9, iL a), (10, iI 0), (12, iI 0), (13, iL a), (14, iI 0)], [], 0⟩) (Gh.le (by simp [push_cast, -List.getD_eq_getElem?_getD]) (by simp)) ?_
        ((repeat refine PWp.seq ?_); refine PWp.region TT (by rfl) (fun K hK => ?_); simp only [push_cast, seval, Nat.reduceEqDiff, Nat.reduceLeDiff, reduceCtorEq])
        ((repeat refine sk ?_); refine PCall.use (merge_Of o a a oa oa hoa.2.1 hoa.2.1) [] rfl (by simp [push_cast]) (by simp) (by simp [push_cast]) (by simp [push_cast]) (by simp [push_cast]) (by simp [push_cast]) ?_)
        rintro _ _ ⟨rfl, rfl⟩
        rw [z3]
        generalize mofL o a a oa oa = m3 at *
        (simp only [push_cast, seval, Nat.reduceEqDiff, Nat.reduceLeDiff, reduceCtorEq]; (repeat refine sk ?_); refine hK _ ?_; clear hK K)
        refine PWp.gh (st' := ⟨[(0, iL o), (1, iL a), (8, iI 0), (9, iL a), (10, iI 0), (12, iI 0), (13, iL a), (14, iI 0), (15, iPc m3), (16, iI 0)], [], 0⟩) (Gh.le (by simp [push_cast, -List.getD_eq_getElem?_getD]) (by simp)) ?_
        ((repeat refine PWp.seq ?_); refine PWp.region TT (by rfl) (fun K hK => ?_); simp only [push_cast, seval, Nat.reduceEqDiff, Nat.reduceLeDiff, reduceCtorEq])
        ((repeat refine sk ?_); refine PCall.use (merge_Lines m3 o a a (by omega) (by omega) (by omega) (by omega)) [] rfl (by simp [push_cast]) (by simp) (by simp [push_cast]) (by simp [push_cast]) (by simp [push_cast]) (by simp [push_cast]) ?_)
        rintro _ _ ⟨rfl, rfl⟩
        rw [e3, r3]
        (simp only [push_cast, seval, Nat.reduceEqDiff, Nat.reduceLeDiff, reduceCtorEq]; (repeat refine sk ?_); refine hK _ ?_; clear hK K)
        refine PWp.gh (st' := ⟨[(1, iL a), (8, iI 0), (9, iL a), (10, iI 0), (12, iI 0), (13, iL a), (14, iI 0), (16, iI 0), (17, iL a), (18, iI 0)], [], 0⟩) (Gh.le (by simp [push_cast, -List.getD_eq_getElem?_getD]) (by simp)) ?_
        have h00 : ((0 : Int) != 0) = false := rfl
        ((repeat refine PWp.seq ?_); refine PWp.region TT (by rfl) (fun K hK => ?_); simp only [push_cast, seval, Nat.reduceEqDiff, Nat.reduceLeDiff, reduceCtorEq, h00]; (repeat refine sk ?_); refine hK _ ?_; clear hK K)
        ((repeat refine PWp.seq ?_); refine PWp.cond (by simp only [push_cast, seval, Nat.reduceEqDiff, Nat.reduceLeDiff, reduceCtorEq]; rfl) (fun hc => ?_) (fun hc => ?_))
        · cases hc
        · clear hc
          ((repeat refine PWp.seq ?_); refine PWp.skip ?_)
          ((repeat refine PWp.seq ?_); refine PWp.region TT (by rfl) (fun K hK => ?_); simp only [push_cast, seval, Nat.reduceEqDiff, Nat.reduceLeDiff, reduceCtorEq])
          ((repeat refine sk ?_); refine PCall.use (live14) [] rfl (by simp [push_cast]) (by simp) (by simp [push_cast]) (by simp [push_cast]) (by simp [push_cast]) (by simp [push_cast]) ?_)
          rintro _ _ ⟨rfl, rfl⟩
          (simp only [push_cast, seval, Nat.reduceEqDiff, Nat.reduceLeDiff, reduceCtorEq])
          ((repeat refine sk ?_); refine PCall.use (ref01_Same a a (by omega)) [] rfl (by simp [push_cast]) (by simp) (by simp [push_cast]) (by simp [push_cast]) (by simp [push_cast]) (by simp [push_cast]) ?_)
          rintro _ _ ⟨rfl, rfl⟩
          rw [decide_eq_true (rfl : a = a)]
          (simp only [push_cast, seval, Nat.reduceEqDiff, Nat.reduceLeDiff, reduceCtorEq])
          ((repeat refine sk ?_); refine PCall.use (ref01_Same a a (by omega)) [] rfl (by simp [push_cast]) (by simp) (by simp [push_cast]) (by simp [push_cast]) (by simp [push_cast]) (by simp [push_cast]) ?_)
          rintro _ _ ⟨rfl, rfl⟩
          rw [decide_eq_true (rfl : a = a)]
          (simp only [push_cast, seval, Nat.reduceEqDiff, Nat.reduceLeDiff, reduceCtorEq])
          ((repeat refine sk ?_); refine PCall.use (ref01_Same a a (by omega)) [] rfl (by simp [push_cast]) (by simp) (by simp [push_cast]) (by simp [push_cast]) (by simp [push_cast]) (by simp [push_cast]) ?_)
          rintro _ _ ⟨rfl, rfl⟩
          rw [decide_eq_true (rfl : a = a)]
          (simp only [push_cast, seval, Nat.reduceEqDiff, Nat.reduceLeDiff, reduceCtorEq]; (repeat refine sk ?_); refine hK _ ?_; clear hK K)
          ((repeat refine PWp.seq ?_); refine PWp.ret ?_)
          refine ⟨.inr rfl, by omega, _, [], ?_, rfl, rfl⟩
          (simp [push_cast, -List.getD_eq_getElem?_getD])
end Go.Proofs.Ytjcdmdejhbmoeaa
