/- ResolveSettles. -/
import Derived.Test.YtmocgjimlhgejaaU15
namespace Go.Proofs.Ytmocgjimlhgejaa
open Go.PL
set_option maxRecDepth 100000
set_option linter.unusedSimpArgs false
set_option linter.unusedVariables false
theorem prL_len {x : Rg} {K : Nat} (h : rgK x K) : (prL x).length ≤ 3 * K + 4 := by
  obtain ⟨a, b, c, d⟩ := h
  unfold prL
  split
  · simp only [List.length_append, List.length_cons, List.length_nil]
    omega
  · omega
theorem printL_bound : ∀ (l : List Rg) (K : Nat), (∀ x ∈ l, rgK x K) → (printL l).length ≤ l.length * (3 * K + 4)
  | [], K, _ => Nat.zero_le _
  | x :: l, K, h => by
    have h1 := prL_len (h x (List.mem_cons_self ..))
    have h2 := printL_bound l K (fun y hy => h y (List.mem_cons_of_mem _ hy))
    have e : printL (x :: l) = prL x ++ printL l := by simp [printL]
    rw [e, List.length_append, List.length_cons, Nat.succ_mul]
    omega
theorem chosen_len {x : Rg} {K : Nat} (h : rgK x K) (c : Int) : (chosenL x c).length ≤ 2 * K := by
  obtain ⟨a, b, d, e⟩ := h
  unfold chosenL
  split
  · omega
  · split
    · omega
    · split
      · omega
      · split
        · rw [List.length_append]; omega
        · exact Nat.zero_le _
theorem selL_bound (l : List Rg) (cs : List Int) (K : Nat) (h : ∀ x ∈ l, rgK x K) : ∀ k, k ≤ l.length → (selL l cs k).length ≤ k * (2 * K)
  | 0, _ => Nat.zero_le _
  | k + 1, hk => by
    have ih := selL_bound l cs K h k (by omega)
    have hx := h _ (getD_mem (show k < l.length by omega))
    have hc := chosen_len hx (cs.getD (clashN (l.take k)) default)
    have hl := hx.1
    rw [selL_succ, List.length_append, Nat.succ_mul]
    split
    · omega
    · omega
theorem bareL_le (a : List Ln) : (bareL a).length ≤ a.length := by rw [bareL_len]; exact Nat.le_refl _
theorem setL_len (l : List Rg) (cs : List Int) : (setL l cs).1.length ≤ (selL l cs l.length).length := by
  unfold setL
  split
  · exact bareL_le _
  · exact Nat.zero_le _
theorem ResolveSettles_walk (l : List Rg) (cs : List Int) (hl : ∀ x ∈ l, rgK x 1048576) (hcs : cs.length ≤ 1048576) (hll : l.length ≤ 1048576) :
    PC Try.prog 4 [iR l, iC cs] [] 0 900 (fun t obs => t = iB true ∧ obs = []) := by
  have h1 : 0 ≤ mn (l.length : Int) 20 := by unfold mn; split <;> omega
  have h2 : mn (l.length : Int) 20 ≤ l.length := by unfold mn; split <;> omega
  have e1 : (l.map encR).take (mn (l.length : Int) 20).toNat = (l.take 20).map encR := by
    rw [← List.map_take]
    have := mn_takeN l 20
    exact congrArg _ this
  have hM : ∀ x ∈ l.take 20, rgK x 1048576 := fun x hx => hl x (List.mem_of_mem_take hx)
  refine PC.body [4] Try.func4 rfl (by rfl) (Nat.le_of_ble_eq_true (by rfl)) rfl ?_; simp only [enumA]
  ((repeat refine PWp.seq ?_); refine PWp.region TT (by rfl) (fun K hK => ?_); simp only [push_cast, seval, Nat.reduceEqDiff, Nat.reduceLeDiff, reduceCtorEq]; (repeat refine sk ?_); refine hK _ ?_; clear hK K)
  ((repeat refine PWp.seq ?_); refine PWp.region TT (by rfl) (fun K hK => ?_); simp only [push_cast, seval, Nat.reduceEqDiff, Nat.reduceLeDiff, reduceCtorEq, e1]; (repeat refine sk ?_); refine hK _ ?_; clear hK K)
  clear h1 h2 e1
  have hL : (l.take 20).length ≤ 20 := by rw [List.length_take]; omega
  clear hl hll
  generalize l.take 20 = M at *
  have b1 := printL_bound M 1048576 hM
  have b2 := selL_bound M cs 1048576 hM M.length (Nat.le_refl _)
  have b3 := setL_len M cs
  have b4 : M.length * (3 * 1048576 + 4) ≤ 20 * (3 * 1048576 + 4) := Nat.mul_le_mul_right _ hL
  have b5 : M.length * (2 * 1048576) ≤ 20 * (2 * 1048576) := Nat.mul_le_mul_right _ hL
  have b6 : rgLe M := fun x hx => by
    obtain ⟨a, b, c, d⟩ := hM x hx
    omega
  have c1 : (printL M).length ≤ 400000000 := by omega
  have c2 : (selL M cs M.length).length ≤ 400000000 := by omega
  have c3 : (setL M cs).1.length ≤ 400000000 := by omega
  clear b1 b2 b3 b4 b5 hM
  ((repeat refine PWp.seq ?_); refine PWp.region TT (by rfl) (fun K hK => ?_); simp only [push_cast, seval, Nat.reduceEqDiff, Nat.reduceLeDiff, reduceCtorEq])
  ((repeat refine sk ?_); refine PCall.use (Settle_c M cs (by omega) (by omega) b6 c2) [] rfl (by simp [push_cast]) (by simp) (by simp [push_cast]) (by simp [push_cast]) (by simp [push_cast]) (by simp [push_cast]) ?_)
  rintro _ _ ⟨rfl, rfl⟩
  (simp only [push_cast, seval, Nat.reduceEqDiff, Nat.reduceLeDiff, reduceCtorEq]; (repeat refine sk ?_); refine hK _ ?_; clear hK K)
  ((repeat refine PWp.seq ?_); refine PWp.region TT (by rfl) (fun K hK => ?_); simp only [push_cast, seval, Nat.reduceEqDiff, Nat.reduceLeDiff, reduceCtorEq])
  ((repeat refine sk ?_); refine PCall.use (ref_Settle_c M cs (by omega) (by omega) c2) [] rfl (by simp [push_cast]) (by simp) (by simp [push_cast]) (by simp [push_cast]) (by simp [push_cast]) (by simp [push_cast]) ?_)
  rintro _ _ ⟨rfl, rfl⟩
  (simp only [push_cast, seval, Nat.reduceEqDiff, Nat.reduceLeDiff, reduceCtorEq]; (repeat refine sk ?_); refine hK _ ?_; clear hK K)
  clear c2 b6
  generalize hS : setL M cs = S at *
  ((repeat refine PWp.seq ?_); refine PWp.region TT (by rfl) (fun K hK => ?_); simp only [push_cast, seval, Nat.reduceEqDiff, Nat.reduceLeDiff, reduceCtorEq])
  ((repeat refine sk ?_); refine PCall.use (live30_c) [] rfl (by simp [push_cast]) (by simp) (by simp [push_cast]) (by simp [push_cast]) (by simp [push_cast]) (by simp [push_cast]) ?_)
  rintro _ _ ⟨rfl, rfl⟩
  (simp only [push_cast, seval, Nat.reduceEqDiff, Nat.reduceLeDiff, reduceCtorEq])
  ((repeat refine sk ?_); refine PCall.use (ref01_Same S.1 S.1 c3) [] rfl (by simp [push_cast]) (by simp) (by simp [push_cast]) (by simp [push_cast]) (by simp [push_cast]) (by simp [push_cast]) ?_)
  rintro _ _ ⟨rfl, rfl⟩
  (simp only [push_cast, seval, Nat.reduceEqDiff, Nat.reduceLeDiff, reduceCtorEq, show decide (S.1 = S.1) = true from decide_eq_true rfl, beq_self_eq_true])
  ((repeat refine sk ?_); refine PCall.use (Print_c M (by omega) c1) [] rfl (by simp [push_cast]) (by simp) (by simp [push_cast]) (by simp [push_cast]) (by simp [push_cast]) (by simp [push_cast]) ?_)
  rintro _ _ ⟨rfl, rfl⟩
  (simp only [push_cast, seval, Nat.reduceEqDiff, Nat.reduceLeDiff, reduceCtorEq])
  ((repeat refine sk ?_); refine PCall.use (ref_Print_c M (by omega) c1) [] rfl (by simp [push_cast]) (by simp) (by simp [push_cast]) (by simp [push_cast]) (by simp [push_cast]) (by simp [push_cast]) ?_)
  rintro _ _ ⟨rfl, rfl⟩
  (simp only [push_cast, seval, Nat.reduceEqDiff, Nat.reduceLeDiff, reduceCtorEq])
  ((repeat refine sk ?_); refine PCall.use (ref01_Same (printL M) (printL M) c1) [] rfl (by simp [push_cast]) (by simp) (by simp [push_cast]) (by simp [push_cast]) (by simp [push_cast]) (by simp [push_cast]) ?_)
  rintro _ _ ⟨rfl, rfl⟩
  (simp only [push_cast, seval, Nat.reduceEqDiff, Nat.reduceLeDiff, reduceCtorEq, show decide (printL M = printL M) = true from decide_eq_true rfl])
  ((repeat refine sk ?_); refine PCall.use (Clashes_c M (by omega)) [] rfl (by simp [push_cast]) (by simp) (by simp [push_cast]) (by simp [push_cast]) (by simp [push_cast]) (by simp [push_cast]) ?_)
  rintro _ _ ⟨rfl, rfl⟩
  (simp only [push_cast, seval, Nat.reduceEqDiff, Nat.reduceLeDiff, reduceCtorEq])
  ((repeat refine sk ?_); refine PCall.use (ref_Clashes_c M (by omega)) [] rfl (by simp [push_cast]) (by simp) (by simp [push_cast]) (by simp [push_cast]) (by simp [push_cast]) (by simp [push_cast]) ?_)
  rintro _ _ ⟨rfl, rfl⟩
  (simp only [push_cast, seval, Nat.reduceEqDiff, Nat.reduceLeDiff, reduceCtorEq, beq_self_eq_true]; (repeat refine sk ?_); refine hK _ ?_; clear hK K)
  ((repeat refine PWp.seq ?_); refine PWp.ret ?_)
  refine ⟨.inr rfl, by omega, _, [], ?_, rfl, rfl⟩
  (simp [push_cast, -List.getD_eq_getElem?_getD])
