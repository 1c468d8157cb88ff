/- find.Around. -/
import Derived.Test.YtjlnialglahdoaaH13
namespace Go.Proofs.Ytjlnialglahdoaa
open Go.PL
set_option maxRecDepth 100000
set_option linter.unusedSimpArgs false
set_option linter.unusedVariables false
theorem bad_iff (n r : Int) : badA n r = true ↔ n < 0 ∨ n > 1073741824 ∨ r < 0 ∨ r > 20 := by
  unfold badA
  simp only [Bool.or_eq_true, decide_eq_true_eq]
  omega
theorem find_Around (P : List Int) (n r : Int) (hP : P.length ≤ 400) : PC Try.prog 16 [iN P, iI n, iI r] [] 0 0
    (fun t obs => t = .tup [iR (arL n r P), iI (arE n r P)] ∧ obs = []) := by
  refine PC.body [6, 7] Try.func16 rfl (by rfl) (Nat.le_of_ble_eq_true (by rfl)) rfl ?_; simp only [enumA]
  ((repeat refine PWp.seq ?_); refine PWp.region TT (by rfl) (fun K hK => ?_); simp only [push_cast, seval, Nat.reduceEqDiff, Nat.reduceLeDiff, reduceCtorEq]; (repeat refine sk ?_); refine hK _ ?_; clear hK K)
  ((repeat refine PWp.seq ?_); refine PWp.region TT (by rfl) (fun K hK => ?_); simp only [push_cast, seval, Nat.reduceEqDiff, Nat.reduceLeDiff, reduceCtorEq]; (repeat refine sk ?_); refine hK _ ?_; clear hK K)
  ((repeat refine PWp.seq ?_); refine PWp.cond (by simp only [push_cast, seval, Nat.reduceEqDiff, Nat.reduceLeDiff, reduceCtorEq]; rfl) (fun hc => ?_) (fun hc => ?_))
  · have hb : badA n r = true := by
      rw [bad_iff]
      simp only [Bool.or_eq_true, Bool.and_eq_true, Bool.not_eq_true', Bool.not_eq_false', Bool.or_eq_false_iff, Bool.and_eq_false_iff, decide_eq_true_eq, decide_eq_false_iff_not, beq_iff_eq, beq_eq_false_iff_ne, bne_iff_ne, bne_eq_false_iff_eq, ne_eq, Classical.not_not, Int.not_lt, Int.not_le, ge_iff_le, gt_iff_lt] at hc
      omega
    have e1 : arL n r P = [] := by unfold arL; rw [hb]; rfl
    have e2 : arE n r P = 2 := by unfold arE; rw [hb]; rfl
    ((repeat refine PWp.seq ?_); refine PWp.region TT (by rfl) (fun K hK => ?_); simp only [push_cast, seval, Nat.reduceEqDiff, Nat.reduceLeDiff, reduceCtorEq]; (repeat refine sk ?_); refine hK _ ?_; clear hK K)
    ((repeat refine PWp.seq ?_); refine PWp.ret ?_)
    refine ⟨.inr rfl, by omega, _, [], ?_, rfl, rfl⟩
    rw [e1, e2]
    (simp [push_cast, -List.getD_eq_getElem?_getD])
  · have hb : badA n r = false := by
      rw [← Bool.not_eq_true, bad_iff]
      simp only [Bool.or_eq_true, Bool.and_eq_true, Bool.not_eq_true', Bool.not_eq_false', Bool.or_eq_false_iff, Bool.and_eq_false_iff, decide_eq_true_eq, decide_eq_false_iff_not, beq_iff_eq, beq_eq_false_iff_ne, bne_iff_ne, bne_eq_false_iff_eq, ne_eq, Classical.not_not, Int.not_lt, Int.not_le, ge_iff_le, gt_iff_lt] at hc
      omega
    have e1 : ∀ b, okP n (-1) P = b → arL n r P = if b then arF n r P else [] := fun b h => by unfold arL; rw [hb, h]; rfl
    have e2 : ∀ b, okP n (-1) P = b → arE n r P = if b then 0 else 2 := fun b h => by unfold arE; rw [hb, h]; rfl
    clear hc
    ((repeat refine PWp.seq ?_); refine PWp.skip ?_)
    ((repeat refine PWp.seq ?_); refine PWp.region TT (by rfl) (fun K hK => ?_); simp only [push_cast, seval, Nat.reduceEqDiff, Nat.reduceLeDiff, reduceCtorEq]; (repeat refine sk ?_); refine hK _ ?_; clear hK K)
    ((repeat refine PWp.seq ?_); refine PWp.region TT (by rfl) (fun K hK => ?_); simp only [push_cast, seval, Nat.reduceEqDiff, Nat.reduceLeDiff, reduceCtorEq]; (repeat refine sk ?_); refine hK _ ?_; clear hK K)
    ((repeat refine PWp.seq ?_); refine PWp.block ?_)
    refine PWp.loop (fun d st => ∃ (k : Nat) (last : Int), d = P.length - k ∧ k ≤ P.length ∧ okP n (-1) P = okP n last (P.drop k) ∧
      st = ⟨[(0, iN P), (1, iI n), (2, iI r), (8, iI last), (27, iN P), (28, iI P.length), (29, iI k)], [], 0⟩) _ _ ⟨0, -1, rfl, Nat.zero_le _, rfl, rfl⟩ (Gh.le (by simp [push_cast, -List.getD_eq_getElem?_getD]) (by simp)) ?_
    rintro d st ⟨k, last, rfl, hk, hN, rfl⟩
    ((repeat refine PWp.seq ?_); refine PWp.region TT (by rfl) (fun K hK => ?_); simp only [push_cast, seval, Nat.reduceEqDiff, Nat.reduceLeDiff, reduceCtorEq]; (repeat refine sk ?_); refine hK _ ?_; clear hK K)
    ((repeat refine PWp.seq ?_); refine PWp.cond (by simp only [push_cast, seval, Nat.reduceEqDiff, Nat.reduceLeDiff, reduceCtorEq]; rfl) (fun hc => ?_) (fun hc => ?_))
    · have hlt : k < P.length := by simp at hc; omega
      clear hc
      rw [drop_getD hlt] at hN
      have hN' : okP n (-1) P = (decide (last < P.getD k default) && decide (P.getD k default < n) && okP n (P.getD k default) (P.drop (k + 1))) := hN
      clear hN
      have hg : (P.map encI).getD k .any = encI (P.getD k default) := getD_map hlt
      generalize P.getD k default = p at *
      ((repeat refine PWp.seq ?_); refine PWp.skip ?_)
      ((repeat refine PWp.seq ?_); refine PWp.block ?_)
      ((repeat refine PWp.seq ?_); refine PWp.region TT (by rfl) (fun K hK => ?_); simp only [push_cast, seval, Nat.reduceEqDiff, Nat.reduceLeDiff, reduceCtorEq, hg]; (repeat refine sk ?_); refine hK _ ?_; clear hK K)
      ((repeat refine PWp.seq ?_); refine PWp.region TT (by rfl) (fun K hK => ?_); simp only [push_cast, seval, Nat.reduceEqDiff, Nat.reduceLeDiff, reduceCtorEq]; (repeat refine sk ?_); refine hK _ ?_; clear hK K)
      ((repeat refine PWp.seq ?_); refine PWp.cond (by simp only [push_cast, seval, Nat.reduceEqDiff, Nat.reduceLeDiff, reduceCtorEq]; rfl) (fun hc => ?_) (fun hc => ?_))
      · have hf : okP n (-1) P = false := by
          rw [hN']
          simp only [Bool.or_eq_true, Bool.and_eq_true, Bool.not_eq_true', Bool.not_eq_false', Bool.or_eq_false_iff, Bool.and_eq_false_iff, decide_eq_true_eq, decide_eq_false_iff_not, beq_iff_eq, beq_eq_false_iff_ne, bne_iff_ne, bne_eq_false_iff_eq, ne_eq, Classical.not_not, Int.not_lt, Int.not_le, ge_iff_le, gt_iff_lt] at hc
          rcases hc with h | h
          · rw [decide_eq_false (by omega : ¬ last < p)]; rfl
          · rw [decide_eq_false (by omega : ¬ p < n), Bool.and_false]; rfl
        have f1 := e1 _ hf
        have f2 := e2 _ hf
        rw [if_neg (by decide)] at f1 f2
        ((repeat refine PWp.seq ?_); refine PWp.region TT (by rfl) (fun K hK => ?_); simp only [push_cast, seval, Nat.reduceEqDiff, Nat.reduceLeDiff, reduceCtorEq]; (repeat refine sk ?_); refine hK _ ?_; clear hK K)
        ((repeat refine PWp.seq ?_); refine PWp.ret ?_)
        refine ⟨.inr rfl, by omega, _, [], ?_, rfl, rfl⟩
        rw [f1, f2]
        (simp [push_cast, -List.getD_eq_getElem?_getD])
      · simp only [Bool.or_eq_true, Bool.and_eq_true, Bool.not_eq_true', Bool.not_eq_false', Bool.or_eq_false_iff, Bool.and_eq_false_iff, decide_eq_true_eq, decide_eq_false_iff_not, beq_iff_eq, beq_eq_false_iff_ne, bne_iff_ne, bne_eq_false_iff_eq, ne_eq, Classical.not_not, Int.not_lt, Int.not_le, ge_iff_le, gt_iff_lt] at hc
        rw [decide_eq_true (by omega : last < p), decide_eq_true (by omega : p < n), Bool.true_and, Bool.true_and] at hN'
        ((repeat refine PWp.seq ?_); refine PWp.skip ?_)
        ((repeat refine PWp.seq ?_); refine PWp.region TT (by rfl) (fun K hK => ?_); simp only [push_cast, seval, Nat.reduceEqDiff, Nat.reduceLeDiff, reduceCtorEq]; (repeat refine sk ?_); refine hK _ ?_; clear hK K)
        ((repeat refine PWp.seq ?_); refine PWp.region TT (by rfl) (fun K hK => ?_); simp only [push_cast, seval, Nat.reduceEqDiff, Nat.reduceLeDiff, reduceCtorEq, wrap64_id (n := (k : Int) + 1) (by omega) (by omega)]; (repeat refine sk ?_); refine hK _ ?_; clear hK K)
        refine ⟨_, _, ?_, ⟨k + 1, p, rfl, by omega, hN', rfl⟩, Gh.le (by simp [push_cast, -List.getD_eq_getElem?_getD]) (by simp)⟩
        omega
    · have hk' : k = P.length := by simp at hc; omega
      subst hk'
      rw [List.drop_length] at hN
      have f1 := e1 _ hN
      have f2 := e2 _ hN
      have hok : okP n (-1) P = true := hN
      simp only [okP, if_true] at f1 f2
      clear hc
      (repeat refine PWp.seq ?_); refine PWp.exit (iteT rfl ?_)
      refine PWp.gh (st' := ⟨[(0, iN P), (1, iI n), (2, iI r)], [], 0⟩) (Gh.le (by simp [push_cast, -List.getD_eq_getElem?_getD]) (by simp)) ?_
      ((repeat refine PWp.seq ?_); refine PWp.region TT (by rfl) (fun K hK => ?_); simp only [push_cast, seval, Nat.reduceEqDiff, Nat.reduceLeDiff, reduceCtorEq]; (repeat refine sk ?_); refine hK _ ?_; clear hK K)
      refine PWp.gh (Gh.rowc 0 0 65 2 (by rfl) (by rfl)) ?_
      ((repeat refine PWp.seq ?_); refine PWp.region TT (by rfl) (fun K hK => ?_); simp only [push_cast, seval, Nat.reduceEqDiff, Nat.reduceLeDiff, reduceCtorEq])
      ((repeat refine sk ?_); refine PCall.use (find_ranges P n r) [] rfl (by simp [push_cast]) (by simp) (by simp [push_cast]) (by simp [push_cast]) (by simp [push_cast]) (by simp [push_cast]) ?_)
      rintro _ _ ⟨rfl, rfl⟩
      (simp only [push_cast, seval, Nat.reduceEqDiff, Nat.reduceLeDiff, reduceCtorEq]; (repeat refine sk ?_); refine hK _ ?_; clear hK K)
      ((repeat refine PWp.seq ?_); refine PWp.block ?_)
      refine PWp.rangeFunc (gf := 41) (caps := [.bptr 2 0, .bptr 4 0, .bptr 3 0]) (by rfl) (by trivial) [(11, .bptr 0 0)] (by simp [push_cast]) (fun ac bd hac hbd => ?_)
      have HY : ∀ (m : Nat) (e : List (Nat × TV)) (pre : List Rg) (x : Rg) (K : TV → St → Prop), pre.length ≤ 1200 → K (boolTV true) ⟨keepE e, aObjs P n r (4 * Try.f16.ntmps) [47] ac bd 11 (pre ++ [x]), 6⟩ → PYield Try.prog m 5 [.iv (encR x)] ⟨e, aObjs P n r (4 * Try.f16.ntmps) [47] ac bd 11 pre, 6⟩ K := by
        intro m e pre x K hl hK
        subst hac hbd
        refine PYield.round (M := Try.f16.ntmps) rfl rfl (by rfl) (fun l => ?_)
        ((repeat refine PWp.seq ?_); refine PWp.region TT (by rfl) (fun K hK => ?_); simp only [push_cast, seval, Nat.reduceEqDiff, Nat.reduceLeDiff, reduceCtorEq]; (repeat refine sk ?_); refine hK _ ?_; clear hK K)
        refine ⟨rfl, _, by rfl, ?_⟩
        ((repeat refine PWp.seq ?_); refine PWp.block ?_)
        ((repeat refine PWp.seq ?_); refine PWp.region TT (by rfl) (fun K hK => ?_); simp only [push_cast, seval, Nat.reduceEqDiff, Nat.reduceLeDiff, reduceCtorEq]; (repeat refine sk ?_); refine hK _ ?_; clear hK K)
        refine ⟨rfl, _, by rfl, ⟨[], aObjs P n r (4 * Try.f16.ntmps) [47] _ _ 11 (pre ++ [x]), 6⟩, Gh.le (by simp [push_cast, -List.getD_eq_getElem?_getD]) (by simp), hK⟩
      refine PCall.use (ranges1 P n r (4 * Try.f16.ntmps) [47] ac bd 11 hb hok hP HY) [0, 1, 2, 3, 4, 5] rfl (by simp [push_cast]) (by simp) (by simp [push_cast]) (by simp [push_cast]) (by simp [push_cast]) (by simp [push_cast]) ?_
      rintro _ _ rfl
      refine ⟨[(11, .bptr 0 0)], by simp [push_cast], ?_⟩
      ((repeat refine PWp.seq ?_); refine PWp.region TT (by rfl) (fun K hK => ?_); simp only [push_cast, seval, Nat.reduceEqDiff, Nat.reduceLeDiff, reduceCtorEq]; (repeat refine sk ?_); refine hK _ ?_; clear hK K)
      ((repeat refine PWp.seq ?_); refine PWp.ret ?_)
      refine ⟨.inr rfl, by omega, _, [], ?_, rfl, rfl⟩
      rw [f1, f2]
      (simp [push_cast, -List.getD_eq_getElem?_getD])
end Go.Proofs.Ytjlnialglahdoaa
