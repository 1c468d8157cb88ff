/- A line taken. -/
import Derived.Test.YtmocgjimlhgejaaU3
namespace Go.Proofs.Ytmocgjimlhgejaa
open Go.PL
set_option maxRecDepth 100000
set_option linter.unusedSimpArgs false
set_option linter.unusedVariables false
def takeL (r : Rd) (x : Ln) : Rd :=
  if r.p = 0 then { r with now := { r.now with l := r.now.l ++ [x] } } else if r.p = 1 then { r with now := { r.now with m := r.now.m ++ [x] } }
  else if r.p = 2 then { r with now := { r.now with o := r.now.o ++ [x] } } else { r with now := { r.now with h := r.now.h ++ [x] } }
/-- A line is taken, or it is a mark out of its order. -/
def takeR (r : Rd) (x : Ln) : Option Rd := if mk x.t = 0 then some (takeL r x) else if mk x.t = r.p + 1 then some (markR r) else none
theorem take_c (r : Rd) (n : Int) (x : Ln) {r' : Rd} (ht : takeR r x = some r') (ho : r.out.length ≤ 1000) (hp : r.p < 4) (h1 : r.now.l.length ≤ 1000) (h2 : r.now.m.length ≤ 1000) (h3 : r.now.o.length ≤ 1000) (h4 : r.now.h.length ≤ 1000) :
    PC Try.prog 25 [.bptr 0 0, .iv (encL x)] (rdO r n) 6 6 (fun t obs => t = .tup [] ∧ obs = rdO r' n) := by
  have hl := lensL [x]
  refine PC.body [] Try.func25 rfl (by rfl) (Nat.le_of_ble_eq_true (by rfl)) rfl ?_; simp only [enumA]
  ((repeat refine PWp.seq ?_); refine PWp.region TT (by rfl) (fun K hK => ?_); simp only [push_cast, seval, Nat.reduceEqDiff, Nat.reduceLeDiff, reduceCtorEq]; (repeat refine sk ?_); refine hK _ ?_; clear hK K)
  ((repeat refine PWp.seq ?_); refine PWp.drawT TT (by kernel_rfl) [6] (.q 1 (.q 2 (.x 0 (.x 3 (.q 4 .nil))))) (by rfl) (by kernel_rfl) (by rfl) (by simp) (fun K hK => ?_); simp only [push_cast, seval, Nat.reduceEqDiff, Nat.reduceLeDiff, reduceCtorEq])
  ((repeat refine sk ?_); refine PCall.use (marks_c) [] rfl (by simp [push_cast]) (by simp) (by simp [push_cast]) (by simp [push_cast]) (by simp [push_cast]) (by simp [push_cast]) ?_)
  rintro _ _ ⟨rfl, rfl⟩
  (simp only [push_cast, seval, Nat.reduceEqDiff, Nat.reduceLeDiff, reduceCtorEq])
  ((repeat refine sk ?_); refine PCall.use (Index_c x.t) [] rfl (by simp [push_cast]) (by simp) (by simp [push_cast]) (by simp [push_cast]) (by simp [push_cast]) (by simp [push_cast]) ?_)
  rintro _ _ ⟨rfl, rfl⟩
  (simp only [push_cast, seval, Nat.reduceEqDiff, Nat.reduceLeDiff, reduceCtorEq]; (repeat refine sk ?_); refine hK _ ?_; clear hK K)
  unfold takeR at ht
  by_cases hm : mk x.t = 0
  · rw [if_pos hm] at ht
    injection ht with ht
    subst ht
    ((repeat refine PWp.seq ?_); refine PWp.region TT (by rfl) (fun K hK => ?_); simp only [push_cast, seval, Nat.reduceEqDiff, Nat.reduceLeDiff, reduceCtorEq, hm]; (repeat refine sk ?_); refine hK _ ?_; clear hK K)
    ((repeat refine PWp.seq ?_); refine PWp.cond (by simp only [push_cast, seval, Nat.reduceEqDiff, Nat.reduceLeDiff, reduceCtorEq]; rfl) (fun hc => ?_) (fun hc => ?_))
    · cases hc
    · clear hc
      ((repeat refine PWp.seq ?_); refine PWp.skip ?_)
      ((repeat refine PWp.seq ?_); refine PWp.region TT (by rfl) (fun K hK => ?_); simp only [push_cast, seval, Nat.reduceEqDiff, Nat.reduceLeDiff, reduceCtorEq]; (repeat refine sk ?_); refine hK _ ?_; clear hK K)
      obtain ⟨out, now, p⟩ := r
      simp only at hp ho h1 h2 h3 h4 ⊢
      have hp4 : p = 0 ∨ p = 1 ∨ p = 2 ∨ p = 3 := by omega
      ((repeat refine PWp.seq ?_); refine PWp.block ?_)
      rcases hp4 with rfl | rfl | rfl | rfl
      · ((repeat refine PWp.seq ?_); refine PWp.region TT (by rfl) (fun K hK => ?_); simp only [push_cast, seval, Nat.reduceEqDiff, Nat.reduceLeDiff, reduceCtorEq]; (repeat refine sk ?_); refine hK _ ?_; clear hK K)
        ((repeat refine PWp.seq ?_); refine PWp.cond (by simp only [push_cast, seval, Nat.reduceEqDiff, Nat.reduceLeDiff, reduceCtorEq]; rfl) (fun hc => ?_) (fun hc => ?_))
        · ((repeat refine PWp.seq ?_); refine PWp.drawT TT (by kernel_rfl) [6] (.q 0 (.q 1 (.q 2 (.q 3 (.q 4 (.q 6 (.alt 5 (.x 7 (.x 8 (.q 9 (.q 10 (.q 11 (.x 12 .nil)))))) (.x 7 (.x 5 (.x 8 (.q 9 (.q 10 (.q 11 (.x 12 .nil)))))))))))))) (by rfl) (by kernel_rfl) (by rfl) (by simp) (fun K hK => ?_); simp only [push_cast, seval, Nat.reduceEqDiff, Nat.reduceLeDiff, reduceCtorEq])
          repeat' (first | (refine hK _ ?_; exact ⟨.inl rfl, by omega, .tup [], _, by simp [push_cast, -List.getD_eq_getElem?_getD, takeL], rfl, rfl⟩) | refine sk ?_ | refine ⟨?_, ?_⟩)
        · cases hc
      · ((repeat refine PWp.seq ?_); refine PWp.region TT (by rfl) (fun K hK => ?_); simp only [push_cast, seval, Nat.reduceEqDiff, Nat.reduceLeDiff, reduceCtorEq]; (repeat refine sk ?_); refine hK _ ?_; clear hK K)
        ((repeat refine PWp.seq ?_); refine PWp.cond (by simp only [push_cast, seval, Nat.reduceEqDiff, Nat.reduceLeDiff, reduceCtorEq]; rfl) (fun hc => ?_) (fun hc => ?_))
        · cases hc
        · ((repeat refine PWp.seq ?_); refine PWp.region TT (by rfl) (fun K hK => ?_); simp only [push_cast, seval, Nat.reduceEqDiff, Nat.reduceLeDiff, reduceCtorEq]; (repeat refine sk ?_); refine hK _ ?_; clear hK K)
          ((repeat refine PWp.seq ?_); refine PWp.cond (by simp only [push_cast, seval, Nat.reduceEqDiff, Nat.reduceLeDiff, reduceCtorEq]; rfl) (fun hc => ?_) (fun hc => ?_))
          · ((repeat refine PWp.seq ?_); refine PWp.drawT TT (by kernel_rfl) [6] (.q 0 (.q 1 (.q 2 (.q 3 (.q 4 (.q 6 (.alt 5 (.x 7 (.x 8 (.q 9 (.q 10 (.q 11 (.x 12 .nil)))))) (.x 7 (.x 5 (.x 8 (.q 9 (.q 10 (.q 11 (.x 12 .nil)))))))))))))) (by rfl) (by kernel_rfl) (by rfl) (by simp) (fun K hK => ?_); simp only [push_cast, seval, Nat.reduceEqDiff, Nat.reduceLeDiff, reduceCtorEq])
            repeat' (first | (refine hK _ ?_; exact ⟨.inl rfl, by omega, .tup [], _, by simp [push_cast, -List.getD_eq_getElem?_getD, takeL], rfl, rfl⟩) | refine sk ?_ | refine ⟨?_, ?_⟩)
          · cases hc
      · ((repeat refine PWp.seq ?_); refine PWp.region TT (by rfl) (fun K hK => ?_); simp only [push_cast, seval, Nat.reduceEqDiff, Nat.reduceLeDiff, reduceCtorEq]; (repeat refine sk ?_); refine hK _ ?_; clear hK K)
        ((repeat refine PWp.seq ?_); refine PWp.cond (by simp only [push_cast, seval, Nat.reduceEqDiff, Nat.reduceLeDiff, reduceCtorEq]; rfl) (fun hc => ?_) (fun hc => ?_))
        · cases hc
        · ((repeat refine PWp.seq ?_); refine PWp.region TT (by rfl) (fun K hK => ?_); simp only [push_cast, seval, Nat.reduceEqDiff, Nat.reduceLeDiff, reduceCtorEq]; (repeat refine sk ?_); refine hK _ ?_; clear hK K)
          ((repeat refine PWp.seq ?_); refine PWp.cond (by simp only [push_cast, seval, Nat.reduceEqDiff, Nat.reduceLeDiff, reduceCtorEq]; rfl) (fun hc => ?_) (fun hc => ?_))
          · cases hc
          · ((repeat refine PWp.seq ?_); refine PWp.region TT (by rfl) (fun K hK => ?_); simp only [push_cast, seval, Nat.reduceEqDiff, Nat.reduceLeDiff, reduceCtorEq]; (repeat refine sk ?_); refine hK _ ?_; clear hK K)
            ((repeat refine PWp.seq ?_); refine PWp.cond (by simp only [push_cast, seval, Nat.reduceEqDiff, Nat.reduceLeDiff, reduceCtorEq]; rfl) (fun hc => ?_) (fun hc => ?_))
            · ((repeat refine PWp.seq ?_); refine PWp.drawT TT (by kernel_rfl) [6] (.q 0 (.q 1 (.q 2 (.q 3 (.q 4 (.q 6 (.alt 5 (.x 7 (.x 8 (.q 9 (.q 10 (.q 11 (.x 12 .nil)))))) (.x 7 (.x 5 (.x 8 (.q 9 (.q 10 (.q 11 (.x 12 .nil)))))))))))))) (by rfl) (by kernel_rfl) (by rfl) (by simp) (fun K hK => ?_); simp only [push_cast, seval, Nat.reduceEqDiff, Nat.reduceLeDiff, reduceCtorEq])
              repeat' (first | (refine hK _ ?_; exact ⟨.inl rfl, by omega, .tup [], _, by simp [push_cast, -List.getD_eq_getElem?_getD, takeL], rfl, rfl⟩) | refine sk ?_ | refine ⟨?_, ?_⟩)
            · cases hc
      · ((repeat refine PWp.seq ?_); refine PWp.region TT (by rfl) (fun K hK => ?_); simp only [push_cast, seval, Nat.reduceEqDiff, Nat.reduceLeDiff, reduceCtorEq]; (repeat refine sk ?_); refine hK _ ?_; clear hK K)
        ((repeat refine PWp.seq ?_); refine PWp.cond (by simp only [push_cast, seval, Nat.reduceEqDiff, Nat.reduceLeDiff, reduceCtorEq]; rfl) (fun hc => ?_) (fun hc => ?_))
        · cases hc
        · ((repeat refine PWp.seq ?_); refine PWp.region TT (by rfl) (fun K hK => ?_); simp only [push_cast, seval, Nat.reduceEqDiff, Nat.reduceLeDiff, reduceCtorEq]; (repeat refine sk ?_); refine hK _ ?_; clear hK K)
          ((repeat refine PWp.seq ?_); refine PWp.cond (by simp only [push_cast, seval, Nat.reduceEqDiff, Nat.reduceLeDiff, reduceCtorEq]; rfl) (fun hc => ?_) (fun hc => ?_))
          · cases hc
          · ((repeat refine PWp.seq ?_); refine PWp.region TT (by rfl) (fun K hK => ?_); simp only [push_cast, seval, Nat.reduceEqDiff, Nat.reduceLeDiff, reduceCtorEq]; (repeat refine sk ?_); refine hK _ ?_; clear hK K)
            ((repeat refine PWp.seq ?_); refine PWp.cond (by simp only [push_cast, seval, Nat.reduceEqDiff, Nat.reduceLeDiff, reduceCtorEq]; rfl) (fun hc => ?_) (fun hc => ?_))
            · cases hc
            · ((repeat refine PWp.seq ?_); refine PWp.drawT TT (by kernel_rfl) [6] (.q 0 (.q 1 (.q 2 (.q 3 (.q 4 (.q 6 (.alt 5 (.x 7 (.x 8 (.q 9 (.q 10 (.q 11 (.x 12 .nil)))))) (.x 7 (.x 5 (.x 8 (.q 9 (.q 10 (.q 11 (.x 12 .nil)))))))))))))) (by rfl) (by kernel_rfl) (by rfl) (by simp) (fun K hK => ?_); simp only [push_cast, seval, Nat.reduceEqDiff, Nat.reduceLeDiff, reduceCtorEq])
              repeat' (first | (refine hK _ ?_; exact ⟨.inl rfl, by omega, .tup [], _, by simp [push_cast, -List.getD_eq_getElem?_getD, takeL], rfl, rfl⟩) | refine sk ?_ | refine ⟨?_, ?_⟩)
  · rw [if_neg hm] at ht
    have hge : decide ((mk x.t : Int) - 1 ≥ 0) = true := decide_eq_true (by omega)
    split at ht
    · rename_i hmp
      injection ht with ht
      subst ht
      have hq : (mk x.t : Int) - 1 = r.p := by omega
      ((repeat refine PWp.seq ?_); refine PWp.region TT (by rfl) (fun K hK => ?_); simp only [push_cast, seval, Nat.reduceEqDiff, Nat.reduceLeDiff, reduceCtorEq, hge]; (repeat refine sk ?_); refine hK _ ?_; clear hK K)
      ((repeat refine PWp.seq ?_); refine PWp.cond (by simp only [push_cast, seval, Nat.reduceEqDiff, Nat.reduceLeDiff, reduceCtorEq]; rfl) (fun hc => ?_) (fun hc => ?_))
      · clear hc
        ((repeat refine PWp.seq ?_); refine PWp.region TT (by rfl) (fun K hK => ?_); simp only [push_cast, seval, Nat.reduceEqDiff, Nat.reduceLeDiff, reduceCtorEq, hq])
        ((repeat refine sk ?_); refine PCall.use (mark_c r n ho hp) [0, 1, 2, 3, 4, 5] rfl (by simp [push_cast, hq]) (by simp) (by simp [push_cast, hq]) (by simp [push_cast, hq]) (by simp [push_cast, hq]) (by simp [push_cast, hq]) ?_)
        rintro _ _ ⟨rfl, rfl⟩
        (simp only [push_cast, seval, Nat.reduceEqDiff, Nat.reduceLeDiff, reduceCtorEq]; (repeat refine sk ?_); refine hK _ ?_; clear hK K)
        ((repeat refine PWp.seq ?_); refine PWp.ret ?_)
        refine ⟨.inr rfl, by omega, .tup [], _, ?_, rfl, rfl⟩
        (simp [push_cast, -List.getD_eq_getElem?_getD])
      · cases hc
    · cases ht
theorem take_p (r : Rd) (n : Int) (x : Ln) (ht : takeR r x = none) : PCE EP Try.prog 25 [.bptr 0 0, .iv (encL x)] (rdO r n) 6 6 (fun t obs => t = .iv (.lit faultV) ∧ obs = rdO r n) := by
  refine PCE.bodyP Try.func25 rfl (by rfl) (Nat.le_of_ble_eq_true (by rfl)) ?_; simp only [enumA]
  ((repeat refine PWp.seq ?_); refine PWp.region TT (by rfl) (fun K hK => ?_); simp only [push_cast, seval, Nat.reduceEqDiff, Nat.reduceLeDiff, reduceCtorEq]; (repeat refine sk ?_); refine hK _ ?_; clear hK K)
  ((repeat refine PWp.seq ?_); refine PWp.drawT TT (by kernel_rfl) [6] (.q 1 (.q 2 (.x 0 (.x 3 (.q 4 .nil))))) (by rfl) (by kernel_rfl) (by rfl) (by simp) (fun K hK => ?_); simp only [push_cast, seval, Nat.reduceEqDiff, Nat.reduceLeDiff, reduceCtorEq])
  ((repeat refine sk ?_); refine PCall.use (marks_c) [] rfl (by simp [push_cast]) (by simp) (by simp [push_cast]) (by simp [push_cast]) (by simp [push_cast]) (by simp [push_cast]) ?_)
  rintro _ _ ⟨rfl, rfl⟩
  (simp only [push_cast, seval, Nat.reduceEqDiff, Nat.reduceLeDiff, reduceCtorEq])
  ((repeat refine sk ?_); refine PCall.use (Index_c x.t) [] rfl (by simp [push_cast]) (by simp) (by simp [push_cast]) (by simp [push_cast]) (by simp [push_cast]) (by simp [push_cast]) ?_)
  rintro _ _ ⟨rfl, rfl⟩
  (simp only [push_cast, seval, Nat.reduceEqDiff, Nat.reduceLeDiff, reduceCtorEq]; (repeat refine sk ?_); refine hK _ ?_; clear hK K)
  unfold takeR at ht
  by_cases hm : mk x.t = 0
  · rw [if_pos hm] at ht
    cases ht
  · rw [if_neg hm] at ht
    have hge : decide ((mk x.t : Int) - 1 ≥ 0) = true := decide_eq_true (by omega)
    split at ht
    · cases ht
    · rename_i hmp
      have hq : (mk x.t : Int) - 1 = (mk x.t - 1 : Nat) := by omega
      ((repeat refine PWp.seq ?_); refine PWp.region TT (by rfl) (fun K hK => ?_); simp only [push_cast, seval, Nat.reduceEqDiff, Nat.reduceLeDiff, reduceCtorEq, hge]; (repeat refine sk ?_); refine hK _ ?_; clear hK K)
      ((repeat refine PWp.seq ?_); refine PWp.cond (by simp only [push_cast, seval, Nat.reduceEqDiff, Nat.reduceLeDiff, reduceCtorEq]; rfl) (fun hc => ?_) (fun hc => ?_))
      · clear hc
        ((repeat refine PWp.seq ?_); refine PWp.regionP 2 TT (by rfl) rfl rfl (by rfl) (fun K hK => ?_); simp only [push_cast, seval, Nat.reduceEqDiff, Nat.reduceLeDiff, reduceCtorEq, List.take_succ_cons, List.take_zero]; (repeat refine sk ?_); refine hK _ ⟨42, [], rfl, (by simp [push_cast]), ?_⟩; simp only [push_cast, seval, Nat.reduceEqDiff, Nat.reduceLeDiff, reduceCtorEq, List.append_nil])
        (refine PCall.use (mark_p r n (mk x.t - 1) (by omega)) [0, 1, 2, 3, 4, 5] rfl (by simp [push_cast, hq]) (by simp) (by simp [push_cast, hq]) (by simp [push_cast, hq]) (by simp [push_cast, hq]) (by simp [push_cast, hq]) ?_)
        rintro _ _ ⟨rfl, rfl⟩
        (refine ⟨_, rfl, ?_⟩)
        refine ⟨_, rdO r n, rfl, ?_, ?_, rfl, rfl⟩
        · (simp [push_cast, -List.getD_eq_getElem?_getD])
        · (simp [push_cast, -List.getD_eq_getElem?_getD])
      · cases hc
