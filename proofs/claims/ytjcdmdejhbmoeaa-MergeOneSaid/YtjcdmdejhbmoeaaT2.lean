/- Walk of jalousieref07.Steps and Pairs. -/
import Derived.Test.YtjcdmdejhbmoeaaT1
namespace Go.Proofs.Ytjcdmdejhbmoeaa
open Go.PL
set_option maxRecDepth 100000
set_option linter.unusedSimpArgs false
set_option linter.unusedVariables false
/-- Steps that lead from one place to another one. -/
def okS (a b : List Int) : Nat → Nat → List Int → Nat → Nat → Prop
  | i, j, [], i', j' => i = i' ∧ j = j'
  | i, j, x :: S, i', j' => (x = 1 ∧ i < a.length ∧ j < b.length ∧ a.getD i 0 = b.getD j 0 ∧ okS a b (i + 1) (j + 1) S i' j') ∨ (x = 2 ∧ i < a.length ∧ okS a b (i + 1) j S i' j') ∨ (x = 3 ∧ j < b.length ∧ okS a b i (j + 1) S i' j')
theorem okS_app (a b : List Int) : ∀ (S : List Int) (i j i' j' : Nat) (x : Int) (i'' j'' : Nat), okS a b i j S i' j' → okS a b i' j' [x] i'' j'' → okS a b i j (S ++ [x]) i'' j''
  | [], i, j, i', j', x, i'', j'', h, h2 => by obtain ⟨rfl, rfl⟩ := h; exact h2
  | y :: S, i, j, i', j', x, i'', j'', h, h2 => by
    rcases h with ⟨e, h1, h2', h3, h4⟩ | ⟨e, h1, h4⟩ | ⟨e, h1, h4⟩
    · exact .inl ⟨e, h1, h2', h3, okS_app a b S _ _ _ _ x _ _ h4 h2⟩
    · exact .inr (.inl ⟨e, h1, okS_app a b S _ _ _ _ x _ _ h4 h2⟩)
    · exact .inr (.inr ⟨e, h1, okS_app a b S _ _ _ _ x _ _ h4 h2⟩)
theorem okS_le (a b : List Int) : ∀ (S : List Int) (i j i' j' : Nat), okS a b i j S i' j' → i ≤ i' ∧ j ≤ j'
  | [], i, j, i', j', h => by obtain ⟨rfl, rfl⟩ := h; exact ⟨Nat.le_refl _, Nat.le_refl _⟩
  | y :: S, i, j, i', j', h => by
    rcases h with ⟨e, h1, h2', h3, h4⟩ | ⟨e, h1, h4⟩ | ⟨e, h1, h4⟩
    all_goals (have := okS_le a b S _ _ _ _ h4; omega)
theorem rows_get {T : List (List Int)} {i : Nat} (h : i < T.length) : (T.map fun r => IV.sl 1 (r.map encI)).getD i .any = .sl 1 ((T.getD i []).map encI) := by simp [List.getD, h]
theorem ref07_Steps (a b : List Int) (ha : a.length ≤ 400) (hb : b.length ≤ 400) : PC Try.prog 43 [iN a, iN b] [] 0 9 (fun t obs => (∃ S, okS a b 0 0 S a.length b.length ∧ S.length ≤ a.length + b.length ∧ t = .iv (.sl 1 (S.map encI))) ∧ obs = []) := by
  refine PC.body [4] Try.func43 rfl (by rfl) (Nat.le_of_ble_eq_true (by rfl)) rfl ?_; simp only [enumA]
  ((repeat refine PWp.seq ?_); refine PWp.region TT (by rfl) (fun K hK => ?_); simp only [push_cast, seval, Nat.reduceEqDiff, Nat.reduceLeDiff, reduceCtorEq]; (repeat refine sk ?_); refine hK _ ?_; clear hK K)
  ((repeat refine PWp.seq ?_); refine PWp.region TT (by rfl) (fun K hK => ?_); simp only [push_cast, seval, Nat.reduceEqDiff, Nat.reduceLeDiff, reduceCtorEq]; (repeat refine sk ?_); refine hK _ ?_; clear hK K)
  ((repeat refine PWp.seq ?_); refine PWp.region TT (by rfl) (fun K hK => ?_); simp only [push_cast, seval, Nat.reduceEqDiff, Nat.reduceLeDiff, reduceCtorEq]; (repeat refine sk ?_); refine hK _ ?_; clear hK K)
  ((repeat refine PWp.seq ?_); refine PWp.cond (by simp only [push_cast, seval, Nat.reduceEqDiff, Nat.reduceLeDiff, reduceCtorEq]; rfl) (fun hc => ?_) (fun hc => ?_))
  · exfalso
    simp at hc
    omega
  · clear hc
    ((repeat refine PWp.seq ?_); refine PWp.skip ?_)
    ((repeat refine PWp.seq ?_); refine PWp.region TT (by rfl) (fun K hK => ?_); simp only [push_cast, seval, Nat.reduceEqDiff, Nat.reduceLeDiff, reduceCtorEq])
    ((repeat refine sk ?_); refine PCall.use (ref07_Table a b ha hb) [] rfl (by simp [push_cast]) (by simp) (by simp [push_cast]) (by simp [push_cast]) (by simp [push_cast]) (by simp [push_cast]) ?_)
    rintro _ _ ⟨⟨T, hT, rfl⟩, rfl⟩
    obtain ⟨hTl, hTr⟩ := hT
    unfold iTab
    (simp only [push_cast, seval, Nat.reduceEqDiff, Nat.reduceLeDiff, reduceCtorEq]; (repeat refine sk ?_); refine hK _ ?_; clear hK K)
    ((repeat refine PWp.seq ?_); refine PWp.region TT (by rfl) (fun K hK => ?_); simp only [push_cast, seval, Nat.reduceEqDiff, Nat.reduceLeDiff, reduceCtorEq]; (repeat refine sk ?_); refine hK _ ?_; clear hK K)
    ((repeat refine PWp.seq ?_); refine PWp.region TT (by rfl) (fun K hK => ?_); simp only [push_cast, seval, Nat.reduceEqDiff, Nat.reduceLeDiff, reduceCtorEq]; (repeat refine sk ?_); refine hK _ ?_; clear hK K)
    ((repeat refine PWp.seq ?_); refine PWp.block ?_)
    refine PWp.loop (fun c st => ∃ (i j : Nat) (S : List Int), c = (a.length - i) + (b.length - j) ∧ i ≤ a.length ∧ j ≤ b.length ∧ S.length + ((a.length - i) + (b.length - j)) ≤ a.length + b.length ∧ okS a b 0 0 S i j ∧
      st = ⟨[(0, iN a), (1, iN b), (5, .acc 0 1 (S.map encI)), (6, .iv (.sl 1 (T.map fun r => .sl 1 (r.map encI)))), (7, iI i), (8, iI j)], [(0, .row 79 1)], 1⟩) _ _ ⟨0, 0, [], rfl, Nat.zero_le _, Nat.zero_le _, by simp, ⟨rfl, rfl⟩, rfl⟩ (Gh.le (by simp [push_cast, -List.getD_eq_getElem?_getD]) (by simp)) ?_
    rintro c st ⟨i, j, S, rfl, hi, hj, hSl, hS, rfl⟩
    ((repeat refine PWp.seq ?_); refine PWp.region TT (by rfl) (fun K hK => ?_); simp only [push_cast, seval, Nat.reduceEqDiff, Nat.reduceLeDiff, reduceCtorEq]; (repeat refine sk ?_); refine hK _ ?_; clear hK K)
    ((repeat refine PWp.seq ?_); refine PWp.cond (by simp only [push_cast, seval, Nat.reduceEqDiff, Nat.reduceLeDiff, reduceCtorEq]; rfl) (fun hc => ?_) (fun hc => ?_))
    · have hij : i < a.length ∨ j < b.length := by simp at hc; omega
      clear hc
      ((repeat refine PWp.seq ?_); refine PWp.skip ?_)
      ((repeat refine PWp.seq ?_); refine PWp.block ?_)
      by_cases hia : i < a.length
      · have hd1 : decide ((i : Int) < (a.length : Int)) = true := decide_eq_true (by omega)
        have r0 := hTr i (by omega)
        have r1 := hTr (i + 1) (by omega)
        have g0 : (T.map fun r => IV.sl 1 (r.map encI)).getD i .any = .sl 1 ((T.getD i []).map encI) := rows_get (by omega)
        have g1 : (T.map fun r => IV.sl 1 (r.map encI)).getD (i + 1) .any = .sl 1 ((T.getD (i + 1) []).map encI) := rows_get (by omega)
        have ti : ((i : Int) + 1).toNat = i + 1 := by omega
        have l0 := r0.1
        have l1 := r1.1
        have v0 : ((T.getD i []).map encI).getD j .any = .lit (.int .i64 ((T.getD i []).getD j 0)) := getD_map (show j < (T.getD i []).length by omega)
        have v1 : ((T.getD (i + 1) []).map encI).getD j .any = .lit (.int .i64 ((T.getD (i + 1) []).getD j 0)) := getD_map (show j < (T.getD (i + 1) []).length by omega)
        have b0 := r0.2.1 j (Nat.zero_le _) hj
        have b1 := r1.2.1 j (Nat.zero_le _) hj
        by_cases hjb : j < b.length
        · have hd2 : decide ((j : Int) < (b.length : Int)) = true := decide_eq_true (by omega)
          ((repeat refine PWp.seq ?_); refine PWp.draw TT (by kernel_rfl) (by kernel_rfl) (by rfl) (by rfl) (fun K hK => ?_); simp only [push_cast, seval, Nat.reduceEqDiff, Nat.reduceLeDiff, reduceCtorEq, hd1, hd2, getD_map hia, getD_map hjb]; (repeat refine sk ?_); refine hK _ ?_; clear hK K)
          ((repeat refine PWp.seq ?_); refine PWp.cond (by simp only [push_cast, seval, Nat.reduceEqDiff, Nat.reduceLeDiff, reduceCtorEq]; rfl) (fun hc => ?_) (fun hc => ?_))
          · have he : a.getD i 0 = b.getD j 0 := by simpa [encI] using hc
            ((repeat refine PWp.seq ?_); refine PWp.region TT (by rfl) (fun K hK => ?_); simp only [push_cast, seval, Nat.reduceEqDiff, Nat.reduceLeDiff, reduceCtorEq]; (repeat refine sk ?_); refine hK _ ?_; clear hK K)
            ((repeat refine PWp.seq ?_); refine PWp.region TT (by rfl) (fun K hK => ?_); simp only [push_cast, seval, Nat.reduceEqDiff, Nat.reduceLeDiff, reduceCtorEq, wrap64_id (n := (i : Int) + 1) (by omega) (by omega)]; (repeat refine sk ?_); refine hK _ ?_; clear hK K)
            ((repeat refine PWp.seq ?_); refine PWp.region TT (by rfl) (fun K hK => ?_); simp only [push_cast, seval, Nat.reduceEqDiff, Nat.reduceLeDiff, reduceCtorEq, wrap64_id (n := (j : Int) + 1) (by omega) (by omega)]; (repeat refine sk ?_); refine hK _ ?_; clear hK K)
            refine ⟨_, _, ?_, ⟨i + 1, j + 1, S ++ [1], rfl, by omega, by omega, by simp; omega, okS_app a b S 0 0 i j 1 _ _ hS (.inl ⟨rfl, hia, hjb, he, rfl, rfl⟩), rfl⟩, Gh.le (by simp [push_cast, -List.getD_eq_getElem?_getD]) (by simp)⟩
            omega
          · clear hc
            ((repeat refine PWp.seq ?_); refine PWp.draw TT (by kernel_rfl) (by kernel_rfl) (by rfl) (by rfl) (fun K hK => ?_); simp only [push_cast, seval, Nat.reduceEqDiff, Nat.reduceLeDiff, reduceCtorEq, hd1, g0, g1, ti, v0, v1, l0, l1, wrap64_id (n := (i : Int) + 1) (by omega) (by omega), wrap64_id (n := (T.getD (i + 1) []).getD j 0 + 1) (by omega) (by omega)]; (repeat refine sk ?_); refine hK _ ?_; clear hK K)
            ((repeat refine PWp.seq ?_); refine PWp.cond (by simp only [push_cast, seval, Nat.reduceEqDiff, Nat.reduceLeDiff, reduceCtorEq]; rfl) (fun hc => ?_) (fun hc => ?_))
            · clear hc
              ((repeat refine PWp.seq ?_); refine PWp.region TT (by rfl) (fun K hK => ?_); simp only [push_cast, seval, Nat.reduceEqDiff, Nat.reduceLeDiff, reduceCtorEq]; (repeat refine sk ?_); refine hK _ ?_; clear hK K)
              ((repeat refine PWp.seq ?_); refine PWp.region TT (by rfl) (fun K hK => ?_); simp only [push_cast, seval, Nat.reduceEqDiff, Nat.reduceLeDiff, reduceCtorEq, wrap64_id (n := (i : Int) + 1) (by omega) (by omega)]; (repeat refine sk ?_); refine hK _ ?_; clear hK K)
              refine ⟨_, _, ?_, ⟨i + 1, j, S ++ [2], rfl, by omega, hj, by simp; omega, okS_app a b S 0 0 i j 2 _ _ hS (.inr (.inl ⟨rfl, hia, rfl, rfl⟩)), rfl⟩, Gh.le (by simp [push_cast, -List.getD_eq_getElem?_getD]) (by simp)⟩
              omega
            · clear hc
              ((repeat refine PWp.seq ?_); refine PWp.region TT (by rfl) (fun K hK => ?_); simp only [push_cast, seval, Nat.reduceEqDiff, Nat.reduceLeDiff, reduceCtorEq]; (repeat refine sk ?_); refine hK _ ?_; clear hK K)
              ((repeat refine PWp.seq ?_); refine PWp.region TT (by rfl) (fun K hK => ?_); simp only [push_cast, seval, Nat.reduceEqDiff, Nat.reduceLeDiff, reduceCtorEq, wrap64_id (n := (j : Int) + 1) (by omega) (by omega)]; (repeat refine sk ?_); refine hK _ ?_; clear hK K)
              refine ⟨_, _, ?_, ⟨i, j + 1, S ++ [3], rfl, hi, by omega, by simp; omega, okS_app a b S 0 0 i j 3 _ _ hS (.inr (.inr ⟨rfl, hjb, rfl, rfl⟩)), rfl⟩, Gh.le (by simp [push_cast, -List.getD_eq_getElem?_getD]) (by simp)⟩
              omega
        · have hd2 : decide ((j : Int) < (b.length : Int)) = false := decide_eq_false (by omega)
          have hjl : j = b.length := by omega
          have q0 := r0.2.2 (Nat.zero_le _)
          have q1 := r1.2.2 (Nat.zero_le _)
          rw [← hjl] at q0 q1
          have hcc : ((T.getD (i + 1) []).getD j 0 + 1 == (T.getD i []).getD j 0) = true := by
            rw [beq_iff_eq]; omega
          have hgb : (b.map encI).getD j .any = .any := by simp [List.getD, hjl]
          ((repeat refine PWp.seq ?_); refine PWp.draw TT (by kernel_rfl) (by kernel_rfl) (by rfl) (by rfl) (fun K hK => ?_); simp only [push_cast, seval, Nat.reduceEqDiff, Nat.reduceLeDiff, reduceCtorEq, hd1, hd2, getD_map hia, hgb]; (repeat refine sk ?_); refine hK _ ?_; clear hK K)
          ((repeat refine PWp.seq ?_); refine PWp.cond (by simp only [push_cast, seval, Nat.reduceEqDiff, Nat.reduceLeDiff, reduceCtorEq]; rfl) (fun hc => ?_) (fun hc => ?_))
          · cases hc
          · clear hc
            ((repeat refine PWp.seq ?_); refine PWp.draw TT (by kernel_rfl) (by kernel_rfl) (by rfl) (by rfl) (fun K hK => ?_); simp only [push_cast, seval, Nat.reduceEqDiff, Nat.reduceLeDiff, reduceCtorEq, hcc, hd1, g0, g1, ti, v0, v1, l0, l1, wrap64_id (n := (i : Int) + 1) (by omega) (by omega), wrap64_id (n := (T.getD (i + 1) []).getD j 0 + 1) (by omega) (by omega)]; (repeat refine sk ?_); refine hK _ ?_; clear hK K)
            ((repeat refine PWp.seq ?_); refine PWp.cond (by simp only [push_cast, seval, Nat.reduceEqDiff, Nat.reduceLeDiff, reduceCtorEq]; rfl) (fun hc => ?_) (fun hc => ?_))
            · clear hc
              ((repeat refine PWp.seq ?_); refine PWp.region TT (by rfl) (fun K hK => ?_); simp only [push_cast, seval, Nat.reduceEqDiff, Nat.reduceLeDiff, reduceCtorEq]; (repeat refine sk ?_); refine hK _ ?_; clear hK K)
              ((repeat refine PWp.seq ?_); refine PWp.region TT (by rfl) (fun K hK => ?_); simp only [push_cast, seval, Nat.reduceEqDiff, Nat.reduceLeDiff, reduceCtorEq, wrap64_id (n := (i : Int) + 1) (by omega) (by omega)]; (repeat refine sk ?_); refine hK _ ?_; clear hK K)
              refine ⟨_, _, ?_, ⟨i + 1, j, S ++ [2], rfl, by omega, hj, by simp; omega, okS_app a b S 0 0 i j 2 _ _ hS (.inr (.inl ⟨rfl, hia, rfl, rfl⟩)), rfl⟩, Gh.le (by simp [push_cast, -List.getD_eq_getElem?_getD]) (by simp)⟩
              omega
            · cases hc
      · have hd1 : decide ((i : Int) < (a.length : Int)) = false := decide_eq_false (by omega)
        have hjb : j < b.length := by omega
        have hil : i = a.length := by omega
        have hga : (a.map encI).getD i .any = .any := by simp [List.getD, hil]
        have r0 := hTr i (by omega)
        have g0 : (T.map fun r => IV.sl 1 (r.map encI)).getD i .any = .sl 1 ((T.getD i []).map encI) := rows_get (by omega)
        have g1 : (T.map fun r => IV.sl 1 (r.map encI)).getD (i + 1) .any = .any := by simp [List.getD, show T.length ≤ i + 1 by omega]
        have ti : ((i : Int) + 1).toNat = i + 1 := by omega
        have l0 := r0.1
        have v0 : ((T.getD i []).map encI).getD j .any = .lit (.int .i64 ((T.getD i []).getD j 0)) := getD_map (show j < (T.getD i []).length by omega)
        ((repeat refine PWp.seq ?_); refine PWp.draw TT (by kernel_rfl) (by kernel_rfl) (by rfl) (by rfl) (fun K hK => ?_); simp only [push_cast, seval, Nat.reduceEqDiff, Nat.reduceLeDiff, reduceCtorEq, hd1, Bool.false_and, hga, getD_map hjb]; (repeat refine sk ?_); refine hK _ ?_; clear hK K)
        ((repeat refine PWp.seq ?_); refine PWp.cond (by simp only [push_cast, seval, Nat.reduceEqDiff, Nat.reduceLeDiff, reduceCtorEq]; rfl) (fun hc => ?_) (fun hc => ?_))
        · cases hc
        · clear hc
          ((repeat refine PWp.seq ?_); refine PWp.draw TT (by kernel_rfl) (by kernel_rfl) (by rfl) (by rfl) (fun K hK => ?_); simp only [push_cast, seval, Nat.reduceEqDiff, Nat.reduceLeDiff, reduceCtorEq, hd1, Bool.false_and, g0, g1, ti, v0, l0, wrap64_id (n := (i : Int) + 1) (by omega) (by omega)]; (repeat refine sk ?_); refine hK _ ?_; clear hK K)
          ((repeat refine PWp.seq ?_); refine PWp.cond (by simp only [push_cast, seval, Nat.reduceEqDiff, Nat.reduceLeDiff, reduceCtorEq]; rfl) (fun hc => ?_) (fun hc => ?_))
          · cases hc
          · clear hc
            ((repeat refine PWp.seq ?_); refine PWp.region TT (by rfl) (fun K hK => ?_); simp only [push_cast, seval, Nat.reduceEqDiff, Nat.reduceLeDiff, reduceCtorEq]; (repeat refine sk ?_); refine hK _ ?_; clear hK K)
            ((repeat refine PWp.seq ?_); refine PWp.region TT (by rfl) (fun K hK => ?_); simp only [push_cast, seval, Nat.reduceEqDiff, Nat.reduceLeDiff, reduceCtorEq, wrap64_id (n := (j : Int) + 1) (by omega) (by omega)]; (repeat refine sk ?_); refine hK _ ?_; clear hK K)
            refine ⟨_, _, ?_, ⟨i, j + 1, S ++ [3], rfl, hi, by omega, by simp; omega, okS_app a b S 0 0 i j 3 _ _ hS (.inr (.inr ⟨rfl, hjb, rfl, rfl⟩)), rfl⟩, Gh.le (by simp [push_cast, -List.getD_eq_getElem?_getD]) (by simp)⟩
            omega
    · have hij : i = a.length ∧ j = b.length := by simp at hc; omega
      obtain ⟨rfl, rfl⟩ := hij
      (repeat refine PWp.seq ?_); refine PWp.exit (iteT rfl ?_)
      ((repeat refine PWp.seq ?_); refine PWp.region TT (by rfl) (fun K hK => ?_); simp only [push_cast, seval, Nat.reduceEqDiff, Nat.reduceLeDiff, reduceCtorEq]; (repeat refine sk ?_); refine hK _ ?_; clear hK K)
      ((repeat refine PWp.seq ?_); refine PWp.ret ?_)
      refine ⟨.inr rfl, by omega, _, [], ?_, ⟨S, hS, by omega, rfl⟩, rfl⟩
      (simp [push_cast, -List.getD_eq_getElem?_getD])
end Go.Proofs.Ytjcdmdejhbmoeaa
