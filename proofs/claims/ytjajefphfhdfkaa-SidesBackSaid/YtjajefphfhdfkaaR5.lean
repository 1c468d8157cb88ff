/- Rows the same; columns; texts the same; how many there are of each sign. -/
import Derived.Test.YtjajefphfhdfkaaR4
import Derived.Lib.Bytealg
import Derived.Laws.Externs
namespace Go.Proofs.Ytjajefphfhdfkaa
open Go.PL
set_option maxRecDepth 100000
set_option linter.unusedSimpArgs false
set_option linter.unusedVariables false
theorem lists_eq {α : Type} [Inhabited α] {a b : List α} (hl : a.length = b.length) (h : ∀ i < a.length, a.getD i default = b.getD i default) : a = b := by
  apply List.ext_getElem hl
  intro i h1 h2
  have := h i h1
  rw [List.getD_eq_getElem?_getD, List.getD_eq_getElem?_getD, List.getElem?_eq_getElem h1, List.getElem?_eq_getElem h2] at this
  exact this
theorem prEq {a b : Pr} (h : a.g = b.g ∧ a.l = b.l ∧ a.r = b.r) : a = b := by
  cases a; cases b
  simp only [Pr.mk.injEq]
  exact h
theorem ref29_Same (a b : List Pr) (ha : a.length ≤ 1000000) : PC Try.prog 10 [iR a, iR b] [] 0 0 (fun t obs => t = iB (decide (a = b)) ∧ obs = []) := by
  refine PC.body [4] Try.func10 rfl (by rfl) (Nat.le_of_ble_eq_true (by rfl)) rfl ?_; simp only [enumA]
  ((repeat refine PWp.seq ?_); refine PWp.region TT (by rfl) (fun K hK => ?_); simp only [push_cast, seval, Nat.reduceEqDiff, Nat.reduceLeDiff, reduceCtorEq]; (repeat refine sk ?_); refine hK _ ?_; clear hK K)
  ((repeat refine PWp.seq ?_); refine PWp.region TT (by rfl) (fun K hK => ?_); simp only [push_cast, seval, Nat.reduceEqDiff, Nat.reduceLeDiff, reduceCtorEq]; (repeat refine sk ?_); refine hK _ ?_; clear hK K)
  ((repeat refine PWp.seq ?_); refine PWp.cond (by simp only [push_cast, seval, Nat.reduceEqDiff, Nat.reduceLeDiff, reduceCtorEq]; rfl) (fun hc => ?_) (fun hc => ?_))
  · have e : decide (a = b) = false := decide_eq_false (fun h => by
      subst h
      simp at hc)
    ((repeat refine PWp.seq ?_); refine PWp.region TT (by rfl) (fun K hK => ?_); simp only [push_cast, seval, Nat.reduceEqDiff, Nat.reduceLeDiff, reduceCtorEq]; (repeat refine sk ?_); refine hK _ ?_; clear hK K)
    ((repeat refine PWp.seq ?_); refine PWp.ret ?_)
    refine ⟨.inr rfl, by omega, _, [], ?_, rfl, rfl⟩
    rw [e]
    (simp [push_cast, -List.getD_eq_getElem?_getD])
  · have hl : a.length = b.length := by have := bne_eq_false_iff_eq.1 hc; omega
    clear hc
    ((repeat refine PWp.seq ?_); refine PWp.skip ?_)
    ((repeat refine PWp.seq ?_); refine PWp.region TT (by rfl) (fun K hK => ?_); simp only [push_cast, seval, Nat.reduceEqDiff, Nat.reduceLeDiff, reduceCtorEq]; (repeat refine sk ?_); refine hK _ ?_; clear hK K)
    ((repeat refine PWp.seq ?_); refine PWp.block ?_)
    refine PWp.loop (fun c st => ∃ k : Nat, c = a.length - k ∧ k ≤ a.length ∧ (∀ i < k, a.getD i default = b.getD i default) ∧
      st = ⟨[(0, iR a), (1, iR b), (5, iI k)], [], 0⟩) _ _ ⟨0, rfl, Nat.zero_le _, by simp, rfl⟩ (Gh.le (by simp [push_cast, -List.getD_eq_getElem?_getD]) (by simp)) ?_
    rintro c st ⟨k, rfl, hk, hf, rfl⟩
    ((repeat refine PWp.seq ?_); refine PWp.region TT (by rfl) (fun K hK => ?_); simp only [push_cast, seval, Nat.reduceEqDiff, Nat.reduceLeDiff, reduceCtorEq]; (repeat refine sk ?_); refine hK _ ?_; clear hK K)
    ((repeat refine PWp.seq ?_); refine PWp.cond (by simp only [push_cast, seval, Nat.reduceEqDiff, Nat.reduceLeDiff, reduceCtorEq]; rfl) (fun hc => ?_) (fun hc => ?_))
    · have hlt : k < a.length := by simpa using hc
      clear hc
      ((repeat refine PWp.seq ?_); refine PWp.skip ?_)
      ((repeat refine PWp.seq ?_); refine PWp.block ?_)
      ((repeat refine PWp.seq ?_); refine PWp.draw TT (by kernel_rfl) (by kernel_rfl) (by rfl) (by rfl) (fun K hK => ?_); simp only [push_cast, seval, Nat.reduceEqDiff, Nat.reduceLeDiff, reduceCtorEq, getD_map hlt, getD_map (show k < b.length by omega)]; (repeat refine sk ?_); refine hK _ ?_; clear hK K)
      ((repeat refine PWp.seq ?_); refine PWp.cond (by simp only [push_cast, seval, Nat.reduceEqDiff, Nat.reduceLeDiff, reduceCtorEq]; rfl) (fun hc => ?_) (fun hc => ?_))
      · have e : decide (a = b) = false := decide_eq_false (fun h => by
          subst h
          simp at hc)
        ((repeat refine PWp.seq ?_); refine PWp.region TT (by rfl) (fun K hK => ?_); simp only [push_cast, seval, Nat.reduceEqDiff, Nat.reduceLeDiff, reduceCtorEq]; (repeat refine sk ?_); refine hK _ ?_; clear hK K)
        ((repeat refine PWp.seq ?_); refine PWp.ret ?_)
        refine ⟨.inr rfl, by omega, _, [], ?_, rfl, rfl⟩
        rw [e]
        (simp [push_cast, -List.getD_eq_getElem?_getD])
      · have he : a.getD k default = b.getD k default := prEq (by simp only [Bool.or_eq_true, Bool.and_eq_true, Bool.not_eq_true', Bool.not_eq_false', Bool.or_eq_false_iff, Bool.and_eq_false_iff, decide_eq_true_eq, decide_eq_false_iff_not, beq_iff_eq, beq_eq_false_iff_ne, bne_iff_ne, bne_eq_false_iff_eq, ne_eq, Classical.not_not, Int.not_lt, Int.not_le, ge_iff_le, gt_iff_lt] at hc; exact hc)
        ((repeat refine PWp.seq ?_); refine PWp.skip ?_)
        ((repeat refine PWp.seq ?_); refine PWp.region TT (by rfl) (fun K hK => ?_); simp only [push_cast, seval, Nat.reduceEqDiff, Nat.reduceLeDiff, reduceCtorEq, wrap64_id (n := (k : Int) + 1) (by omega) (by omega)]; (repeat refine sk ?_); refine hK _ ?_; clear hK K)
        refine ⟨_, _, ?_, ⟨k + 1, rfl, by omega, fun i hi => ?_, rfl⟩, Gh.le (by simp [push_cast, -List.getD_eq_getElem?_getD]) (by simp)⟩
        · omega
        · by_cases e : i = k
          · subst e; exact he
          · exact hf i (by omega)
    · have hk' : k = a.length := by simp at hc; omega
      subst hk'
      have e : decide (a = b) = true := decide_eq_true (lists_eq hl hf)
      (repeat refine PWp.seq ?_); refine PWp.exit (iteT rfl ?_)
      ((repeat refine PWp.seq ?_); refine PWp.region TT (by rfl) (fun K hK => ?_); simp only [push_cast, seval, Nat.reduceEqDiff, Nat.reduceLeDiff, reduceCtorEq]; (repeat refine sk ?_); refine hK _ ?_; clear hK K)
      ((repeat refine PWp.seq ?_); refine PWp.ret ?_)
      refine ⟨.inr rfl, by omega, _, [], ?_, rfl, rfl⟩
      rw [e]
      (simp [push_cast, -List.getD_eq_getElem?_getD])
theorem ref24_SameTexts (a b : List (List UInt8)) (ha : a.length ≤ 1000000) : PC Try.prog 17 [iT a, iT b] [] 0 0 (fun t obs => t = iB (decide (a = b)) ∧ obs = []) := by
  refine PC.body [4] Try.func17 rfl (by rfl) (Nat.le_of_ble_eq_true (by rfl)) rfl ?_; simp only [enumA]
  ((repeat refine PWp.seq ?_); refine PWp.region TT (by rfl) (fun K hK => ?_); simp only [push_cast, seval, Nat.reduceEqDiff, Nat.reduceLeDiff, reduceCtorEq]; (repeat refine sk ?_); refine hK _ ?_; clear hK K)
  ((repeat refine PWp.seq ?_); refine PWp.region TT (by rfl) (fun K hK => ?_); simp only [push_cast, seval, Nat.reduceEqDiff, Nat.reduceLeDiff, reduceCtorEq]; (repeat refine sk ?_); refine hK _ ?_; clear hK K)
  ((repeat refine PWp.seq ?_); refine PWp.cond (by simp only [push_cast, seval, Nat.reduceEqDiff, Nat.reduceLeDiff, reduceCtorEq]; rfl) (fun hc => ?_) (fun hc => ?_))
  · have e : decide (a = b) = false := decide_eq_false (fun h => by
      subst h
      simp at hc)
    ((repeat refine PWp.seq ?_); refine PWp.region TT (by rfl) (fun K hK => ?_); simp only [push_cast, seval, Nat.reduceEqDiff, Nat.reduceLeDiff, reduceCtorEq]; (repeat refine sk ?_); refine hK _ ?_; clear hK K)
    ((repeat refine PWp.seq ?_); refine PWp.ret ?_)
    refine ⟨.inr rfl, by omega, _, [], ?_, rfl, rfl⟩
    rw [e]
    (simp [push_cast, -List.getD_eq_getElem?_getD])
  · have hl : a.length = b.length := by have := bne_eq_false_iff_eq.1 hc; omega
    clear hc
    ((repeat refine PWp.seq ?_); refine PWp.skip ?_)
    ((repeat refine PWp.seq ?_); refine PWp.region TT (by rfl) (fun K hK => ?_); simp only [push_cast, seval, Nat.reduceEqDiff, Nat.reduceLeDiff, reduceCtorEq]; (repeat refine sk ?_); refine hK _ ?_; clear hK K)
    ((repeat refine PWp.seq ?_); refine PWp.block ?_)
    refine PWp.loop (fun c st => ∃ k : Nat, c = a.length - k ∧ k ≤ a.length ∧ (∀ i < k, a.getD i default = b.getD i default) ∧
      st = ⟨[(0, iT a), (1, iT b), (5, iI k)], [], 0⟩) _ _ ⟨0, rfl, Nat.zero_le _, by simp, rfl⟩ (Gh.le (by simp [push_cast, -List.getD_eq_getElem?_getD]) (by simp)) ?_
    rintro c st ⟨k, rfl, hk, hf, rfl⟩
    ((repeat refine PWp.seq ?_); refine PWp.region TT (by rfl) (fun K hK => ?_); simp only [push_cast, seval, Nat.reduceEqDiff, Nat.reduceLeDiff, reduceCtorEq]; (repeat refine sk ?_); refine hK _ ?_; clear hK K)
    ((repeat refine PWp.seq ?_); refine PWp.cond (by simp only [push_cast, seval, Nat.reduceEqDiff, Nat.reduceLeDiff, reduceCtorEq]; rfl) (fun hc => ?_) (fun hc => ?_))
    · have hlt : k < a.length := by simpa using hc
      clear hc
      ((repeat refine PWp.seq ?_); refine PWp.skip ?_)
      ((repeat refine PWp.seq ?_); refine PWp.block ?_)
      ((repeat refine PWp.seq ?_); refine PWp.draw TT (by kernel_rfl) (by kernel_rfl) (by rfl) (by rfl) (fun K hK => ?_); simp only [push_cast, seval, Nat.reduceEqDiff, Nat.reduceLeDiff, reduceCtorEq, getD_map hlt, getD_map (show k < b.length by omega)]; (repeat refine sk ?_); refine hK _ ?_; clear hK K)
      ((repeat refine PWp.seq ?_); refine PWp.cond (by simp only [push_cast, seval, Nat.reduceEqDiff, Nat.reduceLeDiff, reduceCtorEq]; rfl) (fun hc => ?_) (fun hc => ?_))
      · have e : decide (a = b) = false := decide_eq_false (fun h => by
          subst h
          simp at hc)
        ((repeat refine PWp.seq ?_); refine PWp.region TT (by rfl) (fun K hK => ?_); simp only [push_cast, seval, Nat.reduceEqDiff, Nat.reduceLeDiff, reduceCtorEq]; (repeat refine sk ?_); refine hK _ ?_; clear hK K)
        ((repeat refine PWp.seq ?_); refine PWp.ret ?_)
        refine ⟨.inr rfl, by omega, _, [], ?_, rfl, rfl⟩
        rw [e]
        (simp [push_cast, -List.getD_eq_getElem?_getD])
      · have he : a.getD k default = b.getD k default := by simp only [Bool.or_eq_true, Bool.and_eq_true, Bool.not_eq_true', Bool.not_eq_false', Bool.or_eq_false_iff, Bool.and_eq_false_iff, decide_eq_true_eq, decide_eq_false_iff_not, beq_iff_eq, beq_eq_false_iff_ne, bne_iff_ne, bne_eq_false_iff_eq, ne_eq, Classical.not_not, Int.not_lt, Int.not_le, ge_iff_le, gt_iff_lt] at hc; exact hc
        ((repeat refine PWp.seq ?_); refine PWp.skip ?_)
        ((repeat refine PWp.seq ?_); refine PWp.region TT (by rfl) (fun K hK => ?_); simp only [push_cast, seval, Nat.reduceEqDiff, Nat.reduceLeDiff, reduceCtorEq, wrap64_id (n := (k : Int) + 1) (by omega) (by omega)]; (repeat refine sk ?_); refine hK _ ?_; clear hK K)
        refine ⟨_, _, ?_, ⟨k + 1, rfl, by omega, fun i hi => ?_, rfl⟩, Gh.le (by simp [push_cast, -List.getD_eq_getElem?_getD]) (by simp)⟩
        · omega
        · by_cases e : i = k
          · subst e; exact he
          · exact hf i (by omega)
    · have hk' : k = a.length := by simp at hc; omega
      subst hk'
      have e : decide (a = b) = true := decide_eq_true (lists_eq hl hf)
      (repeat refine PWp.seq ?_); refine PWp.exit (iteT rfl ?_)
      ((repeat refine PWp.seq ?_); refine PWp.region TT (by rfl) (fun K hK => ?_); simp only [push_cast, seval, Nat.reduceEqDiff, Nat.reduceLeDiff, reduceCtorEq]; (repeat refine sk ?_); refine hK _ ?_; clear hK K)
      ((repeat refine PWp.seq ?_); refine PWp.ret ?_)
      refine ⟨.inr rfl, by omega, _, [], ?_, rfl, rfl⟩
      rw [e]
      (simp [push_cast, -List.getD_eq_getElem?_getD])
/-! ### Columns -/
def cA : List Pr → List (List UInt8)
  | [] => []
  | p :: l => (if p.g ≠ 62 then [p.l] else []) ++ cA l
def cB : List Pr → List (List UInt8)
  | [] => []
  | p :: l => (if p.g ≠ 60 then [p.r] else []) ++ cB l
theorem cA_app (a b : List Pr) : cA (a ++ b) = cA a ++ cA b := by
  induction a with
  | nil => rfl
  | cons p a ih => simp only [List.cons_append, cA, ih, List.append_assoc]
theorem cB_app (a b : List Pr) : cB (a ++ b) = cB a ++ cB b := by
  induction a with
  | nil => rfl
  | cons p a ih => simp only [List.cons_append, cB, ih, List.append_assoc]
theorem cA_succ {l : List Pr} {k : Nat} (h : k < l.length) : cA (l.take (k + 1)) = cA (l.take k) ++ (if (l.getD k default).g ≠ 62 then [(l.getD k default).l] else []) := by
  rw [take_succ_getD h, cA_app]
  simp [cA]
theorem cB_succ {l : List Pr} {k : Nat} (h : k < l.length) : cB (l.take (k + 1)) = cB (l.take k) ++ (if (l.getD k default).g ≠ 60 then [(l.getD k default).r] else []) := by
  rw [take_succ_getD h, cB_app]
  simp [cB]
theorem cA_len (l : List Pr) : (cA l).length ≤ l.length := by
  induction l with
  | nil => simp [cA]
  | cons p l ih =>
    simp only [cA, List.length_append, List.length_cons]
    split <;> simp <;> omega
theorem cB_len (l : List Pr) : (cB l).length ≤ l.length := by
  induction l with
  | nil => simp [cB]
  | cons p l ih =>
    simp only [cB, List.length_append, List.length_cons]
    split <;> simp <;> omega
set_option maxHeartbeats 1000000 in
theorem sides_Columns (l : List Pr) (hl : l.length ≤ 1000000) : PC Try.prog 15 [iR l] [] 0 9 (fun t obs => t = .tup [iT (cA l), iT (cB l)] ∧ obs = []) := by
  refine PC.body [2, 3] Try.func15 rfl (by rfl) (Nat.le_of_ble_eq_true (by rfl)) rfl ?_; simp only [enumA]
  ((repeat refine PWp.seq ?_); refine PWp.region TT (by rfl) (fun K hK => ?_); simp only [push_cast, seval, Nat.reduceEqDiff, Nat.reduceLeDiff, reduceCtorEq]; (repeat refine sk ?_); refine hK _ ?_; clear hK K)
  ((repeat refine PWp.seq ?_); refine PWp.region TT (by rfl) (fun K hK => ?_); simp only [push_cast, seval, Nat.reduceEqDiff, Nat.reduceLeDiff, reduceCtorEq]; (repeat refine sk ?_); refine hK _ ?_; clear hK K)
  ((repeat refine PWp.seq ?_); refine PWp.region TT (by rfl) (fun K hK => ?_); simp only [push_cast, seval, Nat.reduceEqDiff, Nat.reduceLeDiff, reduceCtorEq]; (repeat refine sk ?_); refine hK _ ?_; clear hK K)
  refine PWp.gh (Gh.row 4 9 1 (by rfl)) ?_
  refine PWp.gh (Gh.row 5 9 1 (by rfl)) ?_
  refine PWp.gh (st' := ⟨[(4, .acc 0 1 []), (5, .acc 1 1 []), (8, iR l), (9, iI l.length), (10, iI 0)], [(0, .row 9 1), (1, .row 9 1)], 2⟩) (Gh.le (by simp [push_cast, -List.getD_eq_getElem?_getD]) (by simp)) ?_
  ((repeat refine PWp.seq ?_); refine PWp.block ?_)
  refine PWp.loop (fun c st => ∃ k : Nat, c = l.length - k ∧ k ≤ l.length ∧
    st = ⟨[(4, .acc 0 1 ((cA (l.take k)).map encT)), (5, .acc 1 1 ((cB (l.take k)).map encT)), (8, iR l), (9, iI l.length), (10, iI k)], [(0, .row 9 1), (1, .row 9 1)], 2⟩) _ _ ⟨0, rfl, Nat.zero_le _, rfl⟩ (Gh.le (by simp [push_cast, -List.getD_eq_getElem?_getD, cA, cB]) (by simp)) ?_
  rintro c st ⟨k, rfl, hk, rfl⟩
  ((repeat refine PWp.seq ?_); refine PWp.region TT (by rfl) (fun K hK => ?_); simp only [push_cast, seval, Nat.reduceEqDiff, Nat.reduceLeDiff, reduceCtorEq]; (repeat refine sk ?_); refine hK _ ?_; clear hK K)
  ((repeat refine PWp.seq ?_); refine PWp.cond (by simp only [push_cast, seval, Nat.reduceEqDiff, Nat.reduceLeDiff, reduceCtorEq]; rfl) (fun hc => ?_) (fun hc => ?_))
  · have hlt : k < l.length := by have := of_decide_eq_true hc; omega
    clear hc
    have hg : (l.map encP).getD k .any = encP (l.getD k default) := getD_map hlt
    have hs1 := cA_succ hlt
    have hs2 := cB_succ hlt
    have hn1 : (cA (l.take k)).length ≤ k := by have := cA_len (l.take k); rw [List.length_take] at this; omega
    have hn2 : (cB (l.take k)).length ≤ k := by have := cB_len (l.take k); rw [List.length_take] at this; omega
    generalize l.getD k default = x at *
    generalize cA (l.take k) = X at *
    generalize cB (l.take k) = Y at *
    have w1 := wrap64_id (n := (k : Int) + 1) (by omega) (by omega)
    ((repeat refine PWp.seq ?_); refine PWp.skip ?_)
    ((repeat refine PWp.seq ?_); refine PWp.block ?_)
    ((repeat refine PWp.seq ?_); refine PWp.region TT (by rfl) (fun K hK => ?_); simp only [push_cast, seval, Nat.reduceEqDiff, Nat.reduceLeDiff, reduceCtorEq, hg]; (repeat refine sk ?_); refine hK _ ?_; clear hK K)
    refine PJoin ⟨[(4, .acc 0 1 ((cA (l.take (k + 1))).map encT)), (5, .acc 1 1 (Y.map encT)), (7, .bptr 2 0), (8, iR l), (9, iI l.length), (10, iI k)], [(0, .row 9 1), (1, .row 9 1), (2, .box 61 [.iv (.lit (.int .u8 x.g)), iS x.l, iS x.r])], 3⟩ ?_ ?_
    · ((repeat refine PWp.seq ?_); refine PWp.region TT (by rfl) (fun K hK => ?_); simp only [push_cast, seval, Nat.reduceEqDiff, Nat.reduceLeDiff, reduceCtorEq]; (repeat refine sk ?_); refine hK _ ?_; clear hK K)
      ((repeat refine PWp.seq ?_); refine PWp.cond (by simp only [push_cast, seval, Nat.reduceEqDiff, Nat.reduceLeDiff, reduceCtorEq]; rfl) (fun hc => ?_) (fun hc => ?_))
      · rw [if_pos (bne_iff_ne.1 hc)] at hs1
        ((repeat refine PWp.seq ?_); refine PWp.region TT (by rfl) (fun K hK => ?_); simp only [push_cast, seval, Nat.reduceEqDiff, Nat.reduceLeDiff, reduceCtorEq]; (repeat refine sk ?_); refine hK _ ?_; clear hK K)
        exact ⟨rfl, Gh.le (by simp [push_cast, -List.getD_eq_getElem?_getD, hs1]) (by simp)⟩
      · rw [if_neg (by simpa using hc), List.append_nil] at hs1
        ((repeat refine PWp.seq ?_); refine PWp.skip ?_)
        exact ⟨rfl, Gh.le (by simp [push_cast, -List.getD_eq_getElem?_getD, hs1]) (by simp)⟩
    ((repeat refine PWp.seq ?_); refine PWp.region TT (by rfl) (fun K hK => ?_); simp only [push_cast, seval, Nat.reduceEqDiff, Nat.reduceLeDiff, reduceCtorEq]; (repeat refine sk ?_); refine hK _ ?_; clear hK K)
    ((repeat refine PWp.seq ?_); refine PWp.cond (by simp only [push_cast, seval, Nat.reduceEqDiff, Nat.reduceLeDiff, reduceCtorEq]; rfl) (fun hc => ?_) (fun hc => ?_))
    · rw [if_pos (bne_iff_ne.1 hc)] at hs2
      ((repeat refine PWp.seq ?_); refine PWp.region TT (by rfl) (fun K hK => ?_); simp only [push_cast, seval, Nat.reduceEqDiff, Nat.reduceLeDiff, reduceCtorEq]; (repeat refine sk ?_); refine hK _ ?_; clear hK K)
      ((repeat refine PWp.seq ?_); refine PWp.region TT (by rfl) (fun K hK => ?_); simp only [push_cast, seval, Nat.reduceEqDiff, Nat.reduceLeDiff, reduceCtorEq, w1]; (repeat refine sk ?_); refine hK _ ?_; clear hK K)
      refine ⟨_, _, ?_, ⟨k + 1, rfl, by omega, rfl⟩, Gh.le (by simp [push_cast, -List.getD_eq_getElem?_getD, hs2]) (by simp)⟩
      omega
    · rw [if_neg (by simpa using hc), List.append_nil] at hs2
      ((repeat refine PWp.seq ?_); refine PWp.skip ?_)
      ((repeat refine PWp.seq ?_); refine PWp.region TT (by rfl) (fun K hK => ?_); simp only [push_cast, seval, Nat.reduceEqDiff, Nat.reduceLeDiff, reduceCtorEq, w1]; (repeat refine sk ?_); refine hK _ ?_; clear hK K)
      refine ⟨_, _, ?_, ⟨k + 1, rfl, by omega, rfl⟩, Gh.le (by simp [push_cast, -List.getD_eq_getElem?_getD, hs2]) (by simp)⟩
      omega
  · have hk' : k = l.length := by have := of_decide_eq_false hc; omega
    subst hk'
    rw [List.take_length]
    (repeat refine PWp.seq ?_); refine PWp.exit (iteT rfl ?_)
    ((repeat refine PWp.seq ?_); refine PWp.region TT (by rfl) (fun K hK => ?_); simp only [push_cast, seval, Nat.reduceEqDiff, Nat.reduceLeDiff, reduceCtorEq]; (repeat refine sk ?_); refine hK _ ?_; clear hK K)
    ((repeat refine PWp.seq ?_); refine PWp.ret ?_)
    refine ⟨.inr rfl, by omega, _, [], ?_, rfl, rfl⟩
    (simp [push_cast, -List.getD_eq_getElem?_getD])
set_option maxHeartbeats 1000000 in
theorem ref29_Columns (l : List Pr) (hl : l.length ≤ 1000000) : PC Try.prog 16 [iR l] [] 0 9 (fun t obs => t = .tup [iT (cA l), iT (cB l)] ∧ obs = []) := by
  refine PC.body [2, 3] Try.func16 rfl (by rfl) (Nat.le_of_ble_eq_true (by rfl)) rfl ?_; simp only [enumA]
  ((repeat refine PWp.seq ?_); refine PWp.region TT (by rfl) (fun K hK => ?_); simp only [push_cast, seval, Nat.reduceEqDiff, Nat.reduceLeDiff, reduceCtorEq]; (repeat refine sk ?_); refine hK _ ?_; clear hK K)
  ((repeat refine PWp.seq ?_); refine PWp.region TT (by rfl) (fun K hK => ?_); simp only [push_cast, seval, Nat.reduceEqDiff, Nat.reduceLeDiff, reduceCtorEq]; (repeat refine sk ?_); refine hK _ ?_; clear hK K)
  ((repeat refine PWp.seq ?_); refine PWp.region TT (by rfl) (fun K hK => ?_); simp only [push_cast, seval, Nat.reduceEqDiff, Nat.reduceLeDiff, reduceCtorEq]; (repeat refine sk ?_); refine hK _ ?_; clear hK K)
  ((repeat refine PWp.seq ?_); refine PWp.region TT (by rfl) (fun K hK => ?_); simp only [push_cast, seval, Nat.reduceEqDiff, Nat.reduceLeDiff, reduceCtorEq]; (repeat refine sk ?_); refine hK _ ?_; clear hK K)
  refine PWp.gh (st' := ⟨[(0, iR l), (4, .acc 0 1 []), (5, .acc 1 1 []), (6, iI 0)], [(0, .row 9 1), (1, .row 9 1)], 2⟩) (Gh.le (by simp [push_cast, -List.getD_eq_getElem?_getD]) (by simp)) ?_
  ((repeat refine PWp.seq ?_); refine PWp.block ?_)
  refine PWp.loop (fun c st => ∃ k : Nat, c = l.length - k ∧ k ≤ l.length ∧
    st = ⟨[(0, iR l), (4, .acc 0 1 ((cA (l.take k)).map encT)), (5, .acc 1 1 ((cB (l.take k)).map encT)), (6, iI k)], [(0, .row 9 1), (1, .row 9 1)], 2⟩) _ _ ⟨0, rfl, Nat.zero_le _, rfl⟩ (Gh.le (by simp [push_cast, -List.getD_eq_getElem?_getD, cA, cB]) (by simp)) ?_
  rintro c st ⟨k, rfl, hk, rfl⟩
  ((repeat refine PWp.seq ?_); refine PWp.region TT (by rfl) (fun K hK => ?_); simp only [push_cast, seval, Nat.reduceEqDiff, Nat.reduceLeDiff, reduceCtorEq]; (repeat refine sk ?_); refine hK _ ?_; clear hK K)
  ((repeat refine PWp.seq ?_); refine PWp.cond (by simp only [push_cast, seval, Nat.reduceEqDiff, Nat.reduceLeDiff, reduceCtorEq]; rfl) (fun hc => ?_) (fun hc => ?_))
  · have hlt : k < l.length := by have := of_decide_eq_true hc; omega
    clear hc
    have hg : (l.map encP).getD k .any = encP (l.getD k default) := getD_map hlt
    have hs1 := cA_succ hlt
    have hs2 := cB_succ hlt
    have hn1 : (cA (l.take k)).length ≤ k := by have := cA_len (l.take k); rw [List.length_take] at this; omega
    have hn2 : (cB (l.take k)).length ≤ k := by have := cB_len (l.take k); rw [List.length_take] at this; omega
    generalize l.getD k default = x at *
    generalize cA (l.take k) = X at *
    generalize cB (l.take k) = Y at *
    have w1 := wrap64_id (n := (k : Int) + 1) (by omega) (by omega)
    ((repeat refine PWp.seq ?_); refine PWp.skip ?_)
    ((repeat refine PWp.seq ?_); refine PWp.block ?_)
    refine PJoin ⟨[(0, iR l), (4, .acc 0 1 ((cA (l.take (k + 1))).map encT)), (5, .acc 1 1 (Y.map encT)), (6, iI k)], [(0, .row 9 1), (1, .row 9 1)], 2⟩ ?_ ?_
    · ((repeat refine PWp.seq ?_); refine PWp.region TT (by rfl) (fun K hK => ?_); simp only [push_cast, seval, Nat.reduceEqDiff, Nat.reduceLeDiff, reduceCtorEq, hg]; (repeat refine sk ?_); refine hK _ ?_; clear hK K)
      ((repeat refine PWp.seq ?_); refine PWp.cond (by simp only [push_cast, seval, Nat.reduceEqDiff, Nat.reduceLeDiff, reduceCtorEq]; rfl) (fun hc => ?_) (fun hc => ?_))
      · rw [if_pos (bne_iff_ne.1 hc)] at hs1
        ((repeat refine PWp.seq ?_); refine PWp.region TT (by rfl) (fun K hK => ?_); simp only [push_cast, seval, Nat.reduceEqDiff, Nat.reduceLeDiff, reduceCtorEq, hg]; (repeat refine sk ?_); refine hK _ ?_; clear hK K)
        exact ⟨rfl, Gh.le (by simp [push_cast, -List.getD_eq_getElem?_getD, hs1]) (by simp)⟩
      · rw [if_neg (by simpa using hc), List.append_nil] at hs1
        ((repeat refine PWp.seq ?_); refine PWp.skip ?_)
        exact ⟨rfl, Gh.le (by simp [push_cast, -List.getD_eq_getElem?_getD, hs1]) (by simp)⟩
    ((repeat refine PWp.seq ?_); refine PWp.region TT (by rfl) (fun K hK => ?_); simp only [push_cast, seval, Nat.reduceEqDiff, Nat.reduceLeDiff, reduceCtorEq, hg]; (repeat refine sk ?_); refine hK _ ?_; clear hK K)
    ((repeat refine PWp.seq ?_); refine PWp.cond (by simp only [push_cast, seval, Nat.reduceEqDiff, Nat.reduceLeDiff, reduceCtorEq]; rfl) (fun hc => ?_) (fun hc => ?_))
    · rw [if_pos (bne_iff_ne.1 hc)] at hs2
      ((repeat refine PWp.seq ?_); refine PWp.region TT (by rfl) (fun K hK => ?_); simp only [push_cast, seval, Nat.reduceEqDiff, Nat.reduceLeDiff, reduceCtorEq, hg]; (repeat refine sk ?_); refine hK _ ?_; clear hK K)
      ((repeat refine PWp.seq ?_); refine PWp.region TT (by rfl) (fun K hK => ?_); simp only [push_cast, seval, Nat.reduceEqDiff, Nat.reduceLeDiff, reduceCtorEq, w1]; (repeat refine sk ?_); refine hK _ ?_; clear hK K)
      refine ⟨_, _, ?_, ⟨k + 1, rfl, by omega, rfl⟩, Gh.le (by simp [push_cast, -List.getD_eq_getElem?_getD, hs2]) (by simp)⟩
      omega
    · rw [if_neg (by simpa using hc), List.append_nil] at hs2
      ((repeat refine PWp.seq ?_); refine PWp.skip ?_)
      ((repeat refine PWp.seq ?_); refine PWp.region TT (by rfl) (fun K hK => ?_); simp only [push_cast, seval, Nat.reduceEqDiff, Nat.reduceLeDiff, reduceCtorEq, w1]; (repeat refine sk ?_); refine hK _ ?_; clear hK K)
      refine ⟨_, _, ?_, ⟨k + 1, rfl, by omega, rfl⟩, Gh.le (by simp [push_cast, -List.getD_eq_getElem?_getD, hs2]) (by simp)⟩
      omega
  · have hk' : k = l.length := by have := of_decide_eq_false hc; omega
    subst hk'
    rw [List.take_length]
    (repeat refine PWp.seq ?_); refine PWp.exit (iteT rfl ?_)
    ((repeat refine PWp.seq ?_); refine PWp.region TT (by rfl) (fun K hK => ?_); simp only [push_cast, seval, Nat.reduceEqDiff, Nat.reduceLeDiff, reduceCtorEq]; (repeat refine sk ?_); refine hK _ ?_; clear hK K)
    ((repeat refine PWp.seq ?_); refine PWp.ret ?_)
    refine ⟨.inr rfl, by omega, _, [], ?_, rfl, rfl⟩
    (simp [push_cast, -List.getD_eq_getElem?_getD])
end Go.Proofs.Ytjajefphfhdfkaa
