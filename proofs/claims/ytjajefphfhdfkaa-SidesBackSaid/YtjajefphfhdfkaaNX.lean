/- Several texts in one: N1, N2, N3, N4, N5, N6, N7. -/
import Derived.Test.YtjajefphfhdfkaaF1
namespace Go.Proofs.Ytjajefphfhdfkaa
open Go.PL
set_option maxRecDepth 100000
set_option linter.unusedSimpArgs false
set_option linter.unusedVariables false
/-- An edit. -/
structure Ed where
  d : Int
  l : List Ln
  deriving DecidableEq, Inhabited
def encE (e : Ed) : IV := .agg [.lit (.int .i64 e.d), .sl 2 (e.l.map encL)]
def iE (l : List Ed) : TV := .iv (.sl 2 (l.map encE))
attribute [push_cast] encE iE
theorem lensLn (l : List Ln) : lens? 2 (l.map encL) := lens_map (f := encL) (fun a => ⟨trivial, rfl⟩) l
theorem lensEd (l : List Ed) : lens? 2 (l.map encE) := lens_map (f := encE) (fun a => ⟨trivial, rfl⟩) l
/-- Edits whose lines can be counted. -/
def bigE (s : List Ed) : Prop := ∀ e ∈ s, e.l.length ≤ 1000000000000000
def totL : List Ed → Nat
  | [] => 0
  | e :: s => e.l.length + totL s
def okD (e : Ed) : Bool := decide (1 ≤ e.d) && decide (e.d ≤ 3)
def chkE (s : List Ed) : Int := if 800 < s.length ∨ 800 < totL s then 4 else if s.all okD then 0 else 3
theorem totL_append (s r : List Ed) : totL (s ++ r) = totL s + totL r := by
  induction s with
  | nil => simp [totL]
  | cons e s ih => simp only [List.cons_append, totL, ih]; omega
theorem totL_succ {s : List Ed} {k : Nat} (h : k < s.length) : totL (s.take (k + 1)) = totL (s.take k) + (s.getD k default).l.length := by
  rw [take_succ_getD h, totL_append]
  simp [totL]
theorem totL_le (s : List Ed) (k : Nat) : totL (s.take k) ≤ totL s := by
  have := totL_append (s.take k) (s.drop k)
  rw [List.take_append_drop] at this
  omega
theorem all_succ {s : List Ed} {k : Nat} (h : k < s.length) : (s.take (k + 1)).all okD = ((s.take k).all okD && okD (s.getD k default)) := by
  rw [take_succ_getD h, List.all_append]
  simp
theorem chk_big {s : List Ed} (h : 800 < s.length ∨ 800 < totL s) : chkE s = 4 := if_pos h
theorem chk_small {s : List Ed} (h1 : s.length ≤ 800) (h2 : totL s ≤ 800) : chkE s = if s.all okD then 0 else 3 := if_neg (by omega)
set_option maxHeartbeats 1000000 in
theorem script_Check (s : List Ed) (hs : bigE s) : PC Try.prog 30 [iE s] [] 0 0 (fun t obs => t = iI (chkE s) ∧ obs = []) := by
  refine PC.body [2] Try.func30 rfl (by rfl) (Nat.le_of_ble_eq_true (by rfl)) rfl ?_; simp only [enumA]
  ((repeat refine PWp.seq ?_); refine PWp.region TT (by rfl) (fun K hK => ?_); simp only [push_cast, seval, Nat.reduceEqDiff, Nat.reduceLeDiff, reduceCtorEq]; (repeat refine sk ?_); refine hK _ ?_; clear hK K)
  ((repeat refine PWp.seq ?_); refine PWp.region TT (by rfl) (fun K hK => ?_); simp only [push_cast, seval, Nat.reduceEqDiff, Nat.reduceLeDiff, reduceCtorEq]; (repeat refine sk ?_); refine hK _ ?_; clear hK K)
  ((repeat refine PWp.seq ?_); refine PWp.cond (by simp only [push_cast, seval, Nat.reduceEqDiff, Nat.reduceLeDiff, reduceCtorEq]; rfl) (fun hc => ?_) (fun hc => ?_))
  · have e : chkE s = 4 := chk_big (.inl (by have := of_decide_eq_true hc; omega))
    ((repeat refine PWp.seq ?_); refine PWp.region TT (by rfl) (fun K hK => ?_); simp only [push_cast, seval, Nat.reduceEqDiff, Nat.reduceLeDiff, reduceCtorEq]; (repeat refine sk ?_); refine hK _ ?_; clear hK K)
    ((repeat refine PWp.seq ?_); refine PWp.ret ?_)
    refine ⟨.inr rfl, by omega, _, [], ?_, rfl, rfl⟩
    rw [e]
    (simp [push_cast, -List.getD_eq_getElem?_getD])
  · have hl : s.length ≤ 800 := by have := of_decide_eq_false hc; omega
    clear hc
    ((repeat refine PWp.seq ?_); refine PWp.skip ?_)
    ((repeat refine PWp.seq ?_); refine PWp.region TT (by rfl) (fun K hK => ?_); simp only [push_cast, seval, Nat.reduceEqDiff, Nat.reduceLeDiff, reduceCtorEq]; (repeat refine sk ?_); refine hK _ ?_; clear hK K)
    ((repeat refine PWp.seq ?_); refine PWp.region TT (by rfl) (fun K hK => ?_); simp only [push_cast, seval, Nat.reduceEqDiff, Nat.reduceLeDiff, reduceCtorEq]; (repeat refine sk ?_); refine hK _ ?_; clear hK K)
    refine PWp.gh (st' := ⟨[(3, iI 0), (4, iI 0), (10, iE s), (11, iI s.length), (12, iI 0)], [], 0⟩) (Gh.le (by simp [push_cast, -List.getD_eq_getElem?_getD]) (by simp)) ?_
    ((repeat refine PWp.seq ?_); refine PWp.block ?_)
    refine PWp.loop (fun c st => ∃ k : Nat, c = s.length - k ∧ k ≤ s.length ∧ totL (s.take k) ≤ 800 ∧
      st = ⟨[(3, iI (totL (s.take k))), (4, iI (if (s.take k).all okD then 0 else 3)), (10, iE s), (11, iI s.length), (12, iI k)], [], 0⟩) _ _ ⟨0, rfl, Nat.zero_le _, by simp [totL], rfl⟩ (Gh.le (by simp [push_cast, -List.getD_eq_getElem?_getD, totL]) (by simp)) ?_
    rintro c st ⟨k, rfl, hk, ht, rfl⟩
    ((repeat refine PWp.seq ?_); refine PWp.region TT (by rfl) (fun K hK => ?_); simp only [push_cast, seval, Nat.reduceEqDiff, Nat.reduceLeDiff, reduceCtorEq]; (repeat refine sk ?_); refine hK _ ?_; clear hK K)
    ((repeat refine PWp.seq ?_); refine PWp.cond (by simp only [push_cast, seval, Nat.reduceEqDiff, Nat.reduceLeDiff, reduceCtorEq]; rfl) (fun hc => ?_) (fun hc => ?_))
    · have hlt : k < s.length := by have := of_decide_eq_true hc; omega
      clear hc
      have hg : (s.map encE).getD k .any = encE (s.getD k default) := getD_map hlt
      have hb := hs _ (getD_mem hlt)
      have h1 := totL_succ hlt
      have h2 := all_succ hlt
      have h3 := totL_le s (k + 1)
      generalize s.getD k default = x at *
      generalize totL (s.take k) = n at *
      have w1 := wrap64_id (n := (n : Int) + x.l.length) (by omega) (by omega)
      ((repeat refine PWp.seq ?_); refine PWp.skip ?_)
      ((repeat refine PWp.seq ?_); refine PWp.block ?_)
      ((repeat refine PWp.seq ?_); refine PWp.region TT (by rfl) (fun K hK => ?_); simp only [push_cast, seval, Nat.reduceEqDiff, Nat.reduceLeDiff, reduceCtorEq, hg]; (repeat refine sk ?_); refine hK _ ?_; clear hK K)
      ((repeat refine PWp.seq ?_); refine PWp.region TT (by rfl) (fun K hK => ?_); simp only [push_cast, seval, Nat.reduceEqDiff, Nat.reduceLeDiff, reduceCtorEq, w1]; (repeat refine sk ?_); refine hK _ ?_; clear hK K)
      by_cases hbig : 800 < n + x.l.length
      · have e := chk_big (s := s) (.inr (by omega))
        have hm : mn ((n : Int) + x.l.length) 801 = 801 := by unfold mn; split <;> omega
        ((repeat refine PWp.seq ?_); refine PWp.region TT (by rfl) (fun K hK => ?_); simp only [push_cast, seval, Nat.reduceEqDiff, Nat.reduceLeDiff, reduceCtorEq, hm]; (repeat refine sk ?_); refine hK _ ?_; clear hK K)
        ((repeat refine PWp.seq ?_); refine PWp.cond (by simp only [push_cast, seval, Nat.reduceEqDiff, Nat.reduceLeDiff, reduceCtorEq]; rfl) (fun hc => ?_) (fun hc => ?_))
        · ((repeat refine PWp.seq ?_); refine PWp.region TT (by rfl) (fun K hK => ?_); simp only [push_cast, seval, Nat.reduceEqDiff, Nat.reduceLeDiff, reduceCtorEq]; (repeat refine sk ?_); refine hK _ ?_; clear hK K)
          ((repeat refine PWp.seq ?_); refine PWp.ret ?_)
          refine ⟨.inr rfl, by omega, _, [], ?_, rfl, rfl⟩
          rw [e]
          (simp [push_cast, -List.getD_eq_getElem?_getD])
        · cases hc
      · have hm : mn ((n : Int) + x.l.length) 801 = n + x.l.length := by unfold mn; split <;> omega
        have hd : decide ((n : Int) + x.l.length > 800) = false := decide_eq_false (by omega)
        ((repeat refine PWp.seq ?_); refine PWp.region TT (by rfl) (fun K hK => ?_); simp only [push_cast, seval, Nat.reduceEqDiff, Nat.reduceLeDiff, reduceCtorEq, hm, hd]; (repeat refine sk ?_); refine hK _ ?_; clear hK K)
        ((repeat refine PWp.seq ?_); refine PWp.cond (by simp only [push_cast, seval, Nat.reduceEqDiff, Nat.reduceLeDiff, reduceCtorEq]; rfl) (fun hc => ?_) (fun hc => ?_))
        · cases hc
        clear hc
        ((repeat refine PWp.seq ?_); refine PWp.skip ?_)
        ((repeat refine PWp.seq ?_); refine PWp.region TT (by rfl) (fun K hK => ?_); simp only [push_cast, seval, Nat.reduceEqDiff, Nat.reduceLeDiff, reduceCtorEq]; (repeat refine sk ?_); refine hK _ ?_; clear hK K)
        ((repeat refine PWp.seq ?_); refine PWp.cond (by simp only [push_cast, seval, Nat.reduceEqDiff, Nat.reduceLeDiff, reduceCtorEq]; rfl) (fun hc => ?_) (fun hc => ?_))
        · have hok : okD x = false := by
            unfold okD
            simp only [Bool.or_eq_true, Bool.and_eq_true, Bool.not_eq_true', Bool.not_eq_false', Bool.or_eq_false_iff, Bool.and_eq_false_iff, decide_eq_true_eq, decide_eq_false_iff_not, beq_iff_eq, beq_eq_false_iff_ne, bne_iff_ne, bne_eq_false_iff_eq, ne_eq, Classical.not_not, Int.not_lt, Int.not_le, ge_iff_le, gt_iff_lt] at hc
            rcases hc with h | h
            · rw [decide_eq_false (by omega : ¬ 1 ≤ x.d)]; rfl
            · rw [decide_eq_false (by omega : ¬ x.d ≤ 3), Bool.and_false]
          rw [hok, Bool.and_false] at h2
          ((repeat refine PWp.seq ?_); refine PWp.region TT (by rfl) (fun K hK => ?_); simp only [push_cast, seval, Nat.reduceEqDiff, Nat.reduceLeDiff, reduceCtorEq]; (repeat refine sk ?_); refine hK _ ?_; clear hK K)
          ((repeat refine PWp.seq ?_); refine PWp.region TT (by rfl) (fun K hK => ?_); simp only [push_cast, seval, Nat.reduceEqDiff, Nat.reduceLeDiff, reduceCtorEq, wrap64_id (n := (k : Int) + 1) (by omega) (by omega)]; (repeat refine sk ?_); refine hK _ ?_; clear hK K)
          refine ⟨_, _, ?_, ⟨k + 1, rfl, by omega, by omega, rfl⟩, Gh.le (by simp [push_cast, -List.getD_eq_getElem?_getD, h1, h2]) (by simp)⟩
          omega
        · have hok : okD x = true := by
            unfold okD
            simp only [Bool.or_eq_true, Bool.and_eq_true, Bool.not_eq_true', Bool.not_eq_false', Bool.or_eq_false_iff, Bool.and_eq_false_iff, decide_eq_true_eq, decide_eq_false_iff_not, beq_iff_eq, beq_eq_false_iff_ne, bne_iff_ne, bne_eq_false_iff_eq, ne_eq, Classical.not_not, Int.not_lt, Int.not_le, ge_iff_le, gt_iff_lt] at hc
            rw [decide_eq_true (by omega : 1 ≤ x.d), decide_eq_true (by omega : x.d ≤ 3)]; rfl
          rw [hok, Bool.and_true] at h2
          ((repeat refine PWp.seq ?_); refine PWp.skip ?_)
          ((repeat refine PWp.seq ?_); refine PWp.region TT (by rfl) (fun K hK => ?_); simp only [push_cast, seval, Nat.reduceEqDiff, Nat.reduceLeDiff, reduceCtorEq, wrap64_id (n := (k : Int) + 1) (by omega) (by omega)]; (repeat refine sk ?_); refine hK _ ?_; clear hK K)
          refine ⟨_, _, ?_, ⟨k + 1, rfl, by omega, by omega, rfl⟩, Gh.le (by simp [push_cast, -List.getD_eq_getElem?_getD, h1, h2]) (by simp)⟩
          omega
    · have hk' : k = s.length := by have := of_decide_eq_false hc; omega
      subst hk'
      rw [List.take_length] at ht ⊢
      have e := chk_small hl ht
      (repeat refine PWp.seq ?_); refine PWp.exit (iteT rfl ?_)
      ((repeat refine PWp.seq ?_); refine PWp.region TT (by rfl) (fun K hK => ?_); simp only [push_cast, seval, Nat.reduceEqDiff, Nat.reduceLeDiff, reduceCtorEq]; (repeat refine sk ?_); refine hK _ ?_; clear hK K)
      ((repeat refine PWp.seq ?_); refine PWp.ret ?_)
      refine ⟨.inr rfl, by omega, _, [], ?_, rfl, rfl⟩
      rw [e]
      (simp [push_cast, -List.getD_eq_getElem?_getD])
set_option maxHeartbeats 1000000 in
theorem ref08_Check (s : List Ed) (hs : bigE s) : PC Try.prog 28 [iE s] [] 0 0 (fun t obs => t = iI (chkE s) ∧ obs = []) := by
  refine PC.body [2] Try.func28 rfl (by rfl) (Nat.le_of_ble_eq_true (by rfl)) rfl ?_; simp only [enumA]
  ((repeat refine PWp.seq ?_); refine PWp.region TT (by rfl) (fun K hK => ?_); simp only [push_cast, seval, Nat.reduceEqDiff, Nat.reduceLeDiff, reduceCtorEq]; (repeat refine sk ?_); refine hK _ ?_; clear hK K)
  ((repeat refine PWp.seq ?_); refine PWp.region TT (by rfl) (fun K hK => ?_); simp only [push_cast, seval, Nat.reduceEqDiff, Nat.reduceLeDiff, reduceCtorEq]; (repeat refine sk ?_); refine hK _ ?_; clear hK K)
  ((repeat refine PWp.seq ?_); refine PWp.cond (by simp only [push_cast, seval, Nat.reduceEqDiff, Nat.reduceLeDiff, reduceCtorEq]; rfl) (fun hc => ?_) (fun hc => ?_))
  · have e : chkE s = 4 := chk_big (.inl (by have := of_decide_eq_true hc; omega))
    ((repeat refine PWp.seq ?_); refine PWp.region TT (by rfl) (fun K hK => ?_); simp only [push_cast, seval, Nat.reduceEqDiff, Nat.reduceLeDiff, reduceCtorEq]; (repeat refine sk ?_); refine hK _ ?_; clear hK K)
    ((repeat refine PWp.seq ?_); refine PWp.ret ?_)
    refine ⟨.inr rfl, by omega, _, [], ?_, rfl, rfl⟩
    rw [e]
    (simp [push_cast, -List.getD_eq_getElem?_getD])
  · have hl : s.length ≤ 800 := by have := of_decide_eq_false hc; omega
    clear hc
    ((repeat refine PWp.seq ?_); refine PWp.skip ?_)
    ((repeat refine PWp.seq ?_); refine PWp.region TT (by rfl) (fun K hK => ?_); simp only [push_cast, seval, Nat.reduceEqDiff, Nat.reduceLeDiff, reduceCtorEq]; (repeat refine sk ?_); refine hK _ ?_; clear hK K)
    ((repeat refine PWp.seq ?_); refine PWp.region TT (by rfl) (fun K hK => ?_); simp only [push_cast, seval, Nat.reduceEqDiff, Nat.reduceLeDiff, reduceCtorEq]; (repeat refine sk ?_); refine hK _ ?_; clear hK K)
    refine PWp.gh (st' := ⟨[(0, iE s), (3, iI 0), (4, iI 0)], [], 0⟩) (Gh.le (by simp [push_cast, -List.getD_eq_getElem?_getD]) (by simp)) ?_
    ((repeat refine PWp.seq ?_); refine PWp.block ?_)
    refine PWp.loop (fun c st => ∃ k : Nat, c = s.length - k ∧ k ≤ s.length ∧ totL (s.take k) ≤ 800 ∧
      st = ⟨[(0, iE s), (3, iI (totL (s.take k))), (4, iI k)], [], 0⟩) _ _ ⟨0, rfl, Nat.zero_le _, by simp [totL], rfl⟩ (Gh.le (by simp [push_cast, -List.getD_eq_getElem?_getD, totL]) (by simp)) ?_
    rintro c st ⟨k, rfl, hk, ht, rfl⟩
    ((repeat refine PWp.seq ?_); refine PWp.region TT (by rfl) (fun K hK => ?_); simp only [push_cast, seval, Nat.reduceEqDiff, Nat.reduceLeDiff, reduceCtorEq]; (repeat refine sk ?_); refine hK _ ?_; clear hK K)
    ((repeat refine PWp.seq ?_); refine PWp.cond (by simp only [push_cast, seval, Nat.reduceEqDiff, Nat.reduceLeDiff, reduceCtorEq]; rfl) (fun hc => ?_) (fun hc => ?_))
    · have hlt : k < s.length := by have := of_decide_eq_true hc; omega
      clear hc
      have hg : (s.map encE).getD k .any = encE (s.getD k default) := getD_map hlt
      have hb := hs _ (getD_mem hlt)
      have h1 := totL_succ hlt
      have h3 := totL_le s (k + 1)
      generalize s.getD k default = x at *
      generalize totL (s.take k) = n at *
      have w1 := wrap64_id (n := (n : Int) + x.l.length) (by omega) (by omega)
      have w2 := wrap64_id (n := 800 - (n : Int)) (by omega) (by omega)
      ((repeat refine PWp.seq ?_); refine PWp.skip ?_)
      ((repeat refine PWp.seq ?_); refine PWp.block ?_)
      ((repeat refine PWp.seq ?_); refine PWp.region TT (by rfl) (fun K hK => ?_); simp only [push_cast, seval, Nat.reduceEqDiff, Nat.reduceLeDiff, reduceCtorEq, hg, w2]; (repeat refine sk ?_); refine hK _ ?_; clear hK K)
      ((repeat refine PWp.seq ?_); refine PWp.cond (by simp only [push_cast, seval, Nat.reduceEqDiff, Nat.reduceLeDiff, reduceCtorEq]; rfl) (fun hc => ?_) (fun hc => ?_))
      · have e := chk_big (s := s) (.inr (by have := of_decide_eq_true hc; omega))
        ((repeat refine PWp.seq ?_); refine PWp.region TT (by rfl) (fun K hK => ?_); simp only [push_cast, seval, Nat.reduceEqDiff, Nat.reduceLeDiff, reduceCtorEq]; (repeat refine sk ?_); refine hK _ ?_; clear hK K)
        ((repeat refine PWp.seq ?_); refine PWp.ret ?_)
        refine ⟨.inr rfl, by omega, _, [], ?_, rfl, rfl⟩
        rw [e]
        (simp [push_cast, -List.getD_eq_getElem?_getD])
      · have hsm : n + x.l.length ≤ 800 := by have := of_decide_eq_false hc; omega
        clear hc
        ((repeat refine PWp.seq ?_); refine PWp.skip ?_)
        ((repeat refine PWp.seq ?_); refine PWp.region TT (by rfl) (fun K hK => ?_); simp only [push_cast, seval, Nat.reduceEqDiff, Nat.reduceLeDiff, reduceCtorEq, hg, w1]; (repeat refine sk ?_); refine hK _ ?_; clear hK K)
        ((repeat refine PWp.seq ?_); refine PWp.region TT (by rfl) (fun K hK => ?_); simp only [push_cast, seval, Nat.reduceEqDiff, Nat.reduceLeDiff, reduceCtorEq, wrap64_id (n := (k : Int) + 1) (by omega) (by omega)]; (repeat refine sk ?_); refine hK _ ?_; clear hK K)
        refine ⟨_, _, ?_, ⟨k + 1, rfl, by omega, by omega, rfl⟩, Gh.le (by simp [push_cast, -List.getD_eq_getElem?_getD, h1]) (by simp)⟩
        omega
    · have hk' : k = s.length := by have := of_decide_eq_false hc; omega
      subst hk'
      rw [List.take_length] at ht ⊢
      have e := chk_small hl ht
      clear hc
      (repeat refine PWp.seq ?_); refine PWp.exit (iteT rfl ?_)
      ((repeat refine PWp.seq ?_); refine PWp.region TT (by rfl) (fun K hK => ?_); simp only [push_cast, seval, Nat.reduceEqDiff, Nat.reduceLeDiff, reduceCtorEq]; (repeat refine sk ?_); refine hK _ ?_; clear hK K)
      refine PWp.gh (st' := ⟨[(0, iE s), (5, iI 0)], [], 0⟩) (Gh.le (by simp [push_cast, -List.getD_eq_getElem?_getD]) (by simp)) ?_
      ((repeat refine PWp.seq ?_); refine PWp.block ?_)
      refine PWp.loop (fun c st => ∃ k : Nat, c = s.length - k ∧ k ≤ s.length ∧ (s.take k).all okD = true ∧
        st = ⟨[(0, iE s), (5, iI k)], [], 0⟩) _ _ ⟨0, rfl, Nat.zero_le _, rfl, rfl⟩ (Gh.le (by simp [push_cast, -List.getD_eq_getElem?_getD]) (by simp)) ?_
      rintro c st ⟨k, rfl, hk, ha, rfl⟩
      ((repeat refine PWp.seq ?_); refine PWp.region TT (by rfl) (fun K hK => ?_); simp only [push_cast, seval, Nat.reduceEqDiff, Nat.reduceLeDiff, reduceCtorEq]; (repeat refine sk ?_); refine hK _ ?_; clear hK K)
      ((repeat refine PWp.seq ?_); refine PWp.cond (by simp only [push_cast, seval, Nat.reduceEqDiff, Nat.reduceLeDiff, reduceCtorEq]; rfl) (fun hc => ?_) (fun hc => ?_))
      · have hlt : k < s.length := by have := of_decide_eq_true hc; omega
        clear hc
        have hg : (s.map encE).getD k .any = encE (s.getD k default) := getD_map hlt
        have h2 := all_succ hlt
        have h4 : s.all okD = true → okD (s.getD k default) = true := fun h => List.all_eq_true.1 h _ (getD_mem hlt)
        generalize s.getD k default = x at *
        rw [ha, Bool.true_and] at h2
        ((repeat refine PWp.seq ?_); refine PWp.skip ?_)
        ((repeat refine PWp.seq ?_); refine PWp.block ?_)
        ((repeat refine PWp.seq ?_); refine PWp.region TT (by rfl) (fun K hK => ?_); simp only [push_cast, seval, Nat.reduceEqDiff, Nat.reduceLeDiff, reduceCtorEq, hg]; (repeat refine sk ?_); refine hK _ ?_; clear hK K)
        ((repeat refine PWp.seq ?_); refine PWp.cond (by simp only [push_cast, seval, Nat.reduceEqDiff, Nat.reduceLeDiff, reduceCtorEq]; rfl) (fun hc => ?_) (fun hc => ?_))
        · have hok : okD x = false := by
            unfold okD
            simp only [Bool.or_eq_true, Bool.and_eq_true, Bool.not_eq_true', Bool.not_eq_false', Bool.or_eq_false_iff, Bool.and_eq_false_iff, decide_eq_true_eq, decide_eq_false_iff_not, beq_iff_eq, beq_eq_false_iff_ne, bne_iff_ne, bne_eq_false_iff_eq, ne_eq, Classical.not_not, Int.not_lt, Int.not_le, ge_iff_le, gt_iff_lt] at hc
            by_cases h : 1 ≤ x.d
            · rw [decide_eq_false (by omega : ¬ x.d ≤ 3), Bool.and_false]
            · rw [decide_eq_false h]; rfl
          have hall : s.all okD = false := by
            cases h : s.all okD with
            | false => rfl
            | true => rw [h4 h] at hok; cases hok
          rw [hall] at e
          ((repeat refine PWp.seq ?_); refine PWp.region TT (by rfl) (fun K hK => ?_); simp only [push_cast, seval, Nat.reduceEqDiff, Nat.reduceLeDiff, reduceCtorEq]; (repeat refine sk ?_); refine hK _ ?_; clear hK K)
          ((repeat refine PWp.seq ?_); refine PWp.ret ?_)
          refine ⟨.inr rfl, by omega, _, [], ?_, rfl, rfl⟩
          rw [e]
          (simp [push_cast, -List.getD_eq_getElem?_getD])
        · have hok : okD x = true := by
            unfold okD
            simp only [Bool.or_eq_true, Bool.and_eq_true, Bool.not_eq_true', Bool.not_eq_false', Bool.or_eq_false_iff, Bool.and_eq_false_iff, decide_eq_true_eq, decide_eq_false_iff_not, beq_iff_eq, beq_eq_false_iff_ne, bne_iff_ne, bne_eq_false_iff_eq, ne_eq, Classical.not_not, Int.not_lt, Int.not_le, ge_iff_le, gt_iff_lt] at hc
            rw [decide_eq_true (by omega : 1 ≤ x.d), decide_eq_true (by omega : x.d ≤ 3)]; rfl
          rw [hok] at h2
          ((repeat refine PWp.seq ?_); refine PWp.skip ?_)
          ((repeat refine PWp.seq ?_); refine PWp.region TT (by rfl) (fun K hK => ?_); simp only [push_cast, seval, Nat.reduceEqDiff, Nat.reduceLeDiff, reduceCtorEq, wrap64_id (n := (k : Int) + 1) (by omega) (by omega)]; (repeat refine sk ?_); refine hK _ ?_; clear hK K)
          refine ⟨_, _, ?_, ⟨k + 1, rfl, by omega, h2, rfl⟩, Gh.le (by simp [push_cast, -List.getD_eq_getElem?_getD]) (by simp)⟩
          omega
      · have hk' : k = s.length := by have := of_decide_eq_false hc; omega
        subst hk'
        rw [List.take_length] at ha
        rw [ha] at e
        (repeat refine PWp.seq ?_); refine PWp.exit (iteT rfl ?_)
        ((repeat refine PWp.seq ?_); refine PWp.region TT (by rfl) (fun K hK => ?_); simp only [push_cast, seval, Nat.reduceEqDiff, Nat.reduceLeDiff, reduceCtorEq]; (repeat refine sk ?_); refine hK _ ?_; clear hK K)
        ((repeat refine PWp.seq ?_); refine PWp.ret ?_)
        refine ⟨.inr rfl, by omega, _, [], ?_, rfl, rfl⟩
        rw [e]
        (simp [push_cast, -List.getD_eq_getElem?_getD])
/-- A copy of lines, its value known to the letter. -/
theorem Clone_lit (p : List Ln) (hp : p.length ≤ 1000000) : PC Try.prog 39 [iL p] [] 0 1 (fun t obs => ∃ v : Value, v.oneCell' = true ∧ t = .iv (.lit v) ∧ obs = [(0, .lrow 47 2 v (p.map encL))]) := by
  refine PC.body [2] Try.func39 rfl (by rfl) (Nat.le_of_ble_eq_true (by rfl)) rfl ?_; simp only [enumA]
  refine PWp.nilcase 0 (by rfl) (fun hx => ?_) ?_
  · ((repeat refine PWp.seq ?_); refine PWp.region TT (by rfl) (fun K hK => ?_); simp only [push_cast, seval, Nat.reduceEqDiff, Nat.reduceLeDiff, reduceCtorEq]; (repeat refine sk ?_); refine hK _ ?_; clear hK K)
    ((repeat refine PWp.seq ?_); refine PWp.region TT (by rfl) (fun K hK => ?_); simp only [push_cast, seval, Nat.reduceEqDiff, Nat.reduceLeDiff, reduceCtorEq]; (repeat refine sk ?_); refine hK _ ?_; clear hK K)
    ((repeat refine PWp.seq ?_); refine PWp.cond (by simp only [push_cast, seval, Nat.reduceEqDiff, Nat.reduceLeDiff, reduceCtorEq]; rfl) (fun hc => ?_) (fun hc => ?_))
    · ((repeat refine PWp.seq ?_); refine PWp.region TT (by rfl) (fun K hK => ?_); simp only [push_cast, seval, Nat.reduceEqDiff, Nat.reduceLeDiff, reduceCtorEq]; (repeat refine sk ?_); refine hK _ ?_; clear hK K)
      refine PWp.gh (Gh.row 2 47 2 (by rfl)) ?_
      refine PWp.lrow 2 0 (by rfl) (by rfl) (fun v hv => ?_)
      ((repeat refine PWp.seq ?_); refine PWp.ret ?_)
      refine ⟨.inr rfl, by omega, _, _, ?_, v, hv, rfl, rfl⟩
      simp [push_cast, hx]
    · simp at hc
  · ((repeat refine PWp.seq ?_); refine PWp.region TT (by rfl) (fun K hK => ?_); simp only [push_cast, seval, Nat.reduceEqDiff, Nat.reduceLeDiff, reduceCtorEq]; (repeat refine sk ?_); refine hK _ ?_; clear hK K)
    ((repeat refine PWp.seq ?_); refine PWp.region TT (by rfl) (fun K hK => ?_); simp only [push_cast, seval, Nat.reduceEqDiff, Nat.reduceLeDiff, reduceCtorEq]; (repeat refine sk ?_); refine hK _ ?_; clear hK K)
    ((repeat refine PWp.seq ?_); refine PWp.cond (by simp only [push_cast, seval, Nat.reduceEqDiff, Nat.reduceLeDiff, reduceCtorEq]; rfl) (fun hc => ?_) (fun hc => ?_))
    · simp at hc
    · ((repeat refine PWp.seq ?_); refine PWp.skip ?_)
      have hl := lensLn p
      ((repeat refine PWp.seq ?_); refine PWp.region TT (by rfl) (fun K hK => ?_); simp only [push_cast, seval, Nat.reduceEqDiff, Nat.reduceLeDiff, reduceCtorEq, hl]; (repeat refine sk ?_); refine hK _ ?_; clear hK K)
      refine PWp.lrow 2 0 (by rfl) (by rfl) (fun v hv => ?_)
      ((repeat refine PWp.seq ?_); refine PWp.ret ?_)
      refine ⟨.inr rfl, by omega, _, _, ?_, v, hv, rfl, rfl⟩
      (simp [push_cast, -List.getD_eq_getElem?_getD])
end Go.Proofs.Ytjajefphfhdfkaa
namespace Go.Proofs.Ytjajefphfhdfkaa
open Go.PL
set_option maxRecDepth 100000
set_option linter.unusedSimpArgs false
set_option linter.unusedVariables false
def addF (S : List Ed) (d : Int) (l : List Ln) : List Ed :=
  if l = [] then S else match S.getLast? with
    | some e => if e.d = d then S.dropLast ++ [⟨d, e.l ++ l⟩] else S ++ [⟨d, l⟩]
    | none => [⟨d, l⟩]
theorem addF_no (S : List Ed) (d : Int) : addF S d [] = S := if_pos rfl
theorem addF_first {d : Int} {l : List Ln} (h : l ≠ []) : addF [] d l = [⟨d, l⟩] := by unfold addF; rw [if_neg h]; rfl
theorem addF_same {A : List Ed} {e : Ed} {l : List Ln} (h : l ≠ []) : addF (A ++ [e]) e.d l = A ++ [⟨e.d, e.l ++ l⟩] := by
  unfold addF
  rw [if_neg h, List.getLast?_concat, List.dropLast_concat]
  exact if_pos rfl
theorem addF_new {A : List Ed} {e : Ed} {d : Int} {l : List Ln} (h : l ≠ []) (hd : e.d ≠ d) : addF (A ++ [e]) d l = A ++ [e] ++ [⟨d, l⟩] := by
  unfold addF
  rw [if_neg h, List.getLast?_concat]
  exact if_neg hd
def encSv (S : List Ed) (v : Value) : List IV := match S.getLast? with
  | none => []
  | some e => S.dropLast.map encE ++ [.agg [.lit (.int .i64 e.d), .lit v]]
def lastL (S : List Ed) : List Ln := match S.getLast? with
  | none => []
  | some e => e.l
theorem encSv_nil (v : Value) : encSv [] v = [] := rfl
theorem encSv_concat (A : List Ed) (e : Ed) (v : Value) : encSv (A ++ [e]) v = A.map encE ++ [.agg [.lit (.int .i64 e.d), .lit v]] := by
  unfold encSv
  rw [List.getLast?_concat, List.dropLast_concat]
theorem encSv_one (e : Ed) (v : Value) : encSv [e] v = [.agg [.lit (.int .i64 e.d), .lit v]] := rfl
theorem lastL_nil : lastL [] = [] := rfl
theorem lastL_concat (A : List Ed) (e : Ed) : lastL (A ++ [e]) = e.l := by
  unfold lastL
  rw [List.getLast?_concat]
theorem lastL_one (e : Ed) : lastL [e] = e.l := rfl
theorem encSv_concat2 (A : List Ed) (e x : Ed) (v : Value) : encSv (A ++ [e, x]) v = A.map encE ++ [encE e, .agg [.lit (.int .i64 x.d), .lit v]] := by
  have := encSv_concat (A ++ [e]) x v
  rw [List.append_assoc, List.map_append, List.append_assoc] at this
  exact this
theorem lastL_concat2 (A : List Ed) (e x : Ed) : lastL (A ++ [e, x]) = x.l := by
  have := lastL_concat (A ++ [e]) x
  rw [List.append_assoc] at this
  exact this
/-- The growing script, under names. -/
def rowO (j q k : Nat) (S : List Ed) (w : List Ln) (v : Value) : List (Nat × Ob) :=
  [(0, .box 71 [.mrow j, .acc q 2 (w.map encL)]), (j, .mrow 57 2 (encSv S v)), (q, .row 47 2), (k, .lrow 47 2 v ((lastL S).map encL))]
attribute [push_cast] rowO
theorem getD_last {L : List IV} {x d : IV} {n : Nat} (h : L.length = n) : (L ++ [x]).getD n d = x := by subst h; simp [List.getD]
theorem set_last {L : List IV} {x y : IV} {n : Nat} (h : L.length = n) : (L ++ [x]).set n y = L ++ [y] := by subst h; simp
theorem app_one (L : List IV) (x y : IV) : L ++ [x] ++ [y] = L ++ [x, y] := by simp
set_option maxHeartbeats 2000000 in
theorem row_add (S : List Ed) (w l : List Ln) (d : Int) (v : Value) (hv : v.oneCell' = true) (hS : S.length ≤ 100000) (hl : (lastL S).length + l.length ≤ 1000000) :
    PC Try.prog 38 [.bptr 0 0, iI d, iL l] (rowO 1 2 3 S w v) 4 7 (fun t obs => ∃ v' : Value, v'.oneCell' = true ∧ obs = rowO 4 5 6 (addF S d l) w v') := by
  refine PC.body [] Try.func38 rfl (by rfl) (Nat.le_of_ble_eq_true (by rfl)) rfl ?_; simp only [enumA]
  refine PWp.post ?_
  by_cases hn : l = []
  · subst hn
    ((repeat refine PWp.seq ?_); refine PWp.region TT (by rfl) (fun K hK => ?_); simp only [push_cast, seval, Nat.reduceEqDiff, Nat.reduceLeDiff, reduceCtorEq]; (repeat refine sk ?_); refine hK _ ?_; clear hK K)
    ((repeat refine PWp.seq ?_); refine PWp.block ?_)
    ((repeat refine PWp.seq ?_); refine PWp.region TT (by rfl) (fun K hK => ?_); simp only [push_cast, seval, Nat.reduceEqDiff, Nat.reduceLeDiff, reduceCtorEq]; (repeat refine sk ?_); refine hK _ ?_; clear hK K)
    ((repeat refine PWp.seq ?_); refine PWp.cond (by simp only [push_cast, seval, Nat.reduceEqDiff, Nat.reduceLeDiff, reduceCtorEq]; rfl) (fun hc => ?_) (fun hc => ?_))
    · ((repeat refine PWp.seq ?_); refine PWp.skip ?_)
      refine ⟨⟨[], rowO 4 5 6 S w v, 7⟩, Gh.leD [0, 1, 2, 3, 1, 2, 3] (by simp [push_cast, -List.getD_eq_getElem?_getD]; try decide), .inl rfl, by omega, .tup [], _, ?_, v, hv, by rw [addF_no]⟩
      (simp [push_cast, -List.getD_eq_getElem?_getD])
    · cases hc
  have hlen : ((l.length : Int) == 0) = false := beq_eq_false_iff_ne.2 (by have := List.length_pos_iff.2 hn; omega)
  rcases List.eq_nil_or_concat S with rfl | ⟨A, e, hSe⟩
  · rw [addF_first hn]
    ((repeat refine PWp.seq ?_); refine PWp.region TT (by rfl) (fun K hK => ?_); simp only [push_cast, seval, Nat.reduceEqDiff, Nat.reduceLeDiff, reduceCtorEq, encSv_nil, lastL_nil]; (repeat refine sk ?_); refine hK _ ?_; clear hK K)
    ((repeat refine PWp.seq ?_); refine PWp.block ?_)
    ((repeat refine PWp.seq ?_); refine PWp.region TT (by rfl) (fun K hK => ?_); simp only [push_cast, seval, Nat.reduceEqDiff, Nat.reduceLeDiff, reduceCtorEq, hlen]; (repeat refine sk ?_); refine hK _ ?_; clear hK K)
    ((repeat refine PWp.seq ?_); refine PWp.cond (by simp only [push_cast, seval, Nat.reduceEqDiff, Nat.reduceLeDiff, reduceCtorEq]; rfl) (fun hc => ?_) (fun hc => ?_))
    · cases hc
    clear hc
    ((repeat refine PWp.seq ?_); refine PWp.region TT (by rfl) (fun K hK => ?_); simp only [push_cast, seval, Nat.reduceEqDiff, Nat.reduceLeDiff, reduceCtorEq, List.getD_nil]; (repeat refine sk ?_); refine hK _ ?_; clear hK K)
    ((repeat refine PWp.seq ?_); refine PWp.cond (by simp only [push_cast, seval, Nat.reduceEqDiff, Nat.reduceLeDiff, reduceCtorEq]; rfl) (fun hc => ?_) (fun hc => ?_))
    · cases hc
    clear hc
    ((repeat refine PWp.seq ?_); refine PWp.drawT TT (by kernel_rfl) [] (.q 0 (.q 1 (.q 2 (.q 3 (.q 5 (.q 6 (.alt 4 (.x 7 (.q 8 (.x 9 (.x 10 (.q 11 (.q 12 (.x 13 .nil))))))) (.x 7 (.q 8 (.alt 4 (.x 9 (.x 10 (.q 11 (.q 12 (.x 13 .nil))))) (.x 9 (.x 4 (.x 10 (.q 11 (.q 12 (.x 13 .nil)))))))))))))))) (by rfl) (by kernel_rfl) (by rfl) (by simp) (fun K hK => ?_); simp only [push_cast, seval, Nat.reduceEqDiff, Nat.reduceLeDiff, reduceCtorEq])
    (repeat refine sk ?_)
    refine ⟨?_, ?_⟩
    · ((repeat refine sk ?_); refine PCall.use (Clone_lit l (by omega)) [] rfl (by simp [push_cast]) (by simp) (by simp [push_cast]) (by simp [push_cast]) (by simp [push_cast]) (by simp [push_cast]) ?_)
      rintro _ _ ⟨v', hv', rfl, rfl⟩
      (simp only [push_cast, seval, Nat.reduceEqDiff, Nat.reduceLeDiff, reduceCtorEq, hv']; (repeat refine sk ?_); refine hK _ ?_; clear hK K)
      refine ⟨⟨[], rowO 4 5 6 [⟨d, l⟩] w v', 7⟩, Gh.leD [0, 1, 2, 3, 5, 2, 4] (by simp [push_cast, -List.getD_eq_getElem?_getD, encSv_one, lastL_one]; try decide), .inl rfl, by omega, .tup [], _, ?_, v', hv', rfl⟩
      (simp [push_cast, -List.getD_eq_getElem?_getD])
    · (repeat refine sk ?_)
      ((repeat refine sk ?_); refine PCall.use (Clone_lit l (by omega)) [] rfl (by simp [push_cast]) (by simp) (by simp [push_cast]) (by simp [push_cast]) (by simp [push_cast]) (by simp [push_cast]) ?_)
      rintro _ _ ⟨v', hv', rfl, rfl⟩
      (simp only [push_cast, seval, Nat.reduceEqDiff, Nat.reduceLeDiff, reduceCtorEq, hv'])
      (repeat refine sk ?_)
      refine ⟨?_, ?_⟩
      · ((repeat refine sk ?_); refine hK _ ?_; clear hK K)
        refine ⟨⟨[], rowO 4 5 6 [⟨d, l⟩] w v', 7⟩, Gh.leD [0, 1, 2, 3, 5, 2, 4] (by simp [push_cast, -List.getD_eq_getElem?_getD, encSv_one, lastL_one]; try decide), .inl rfl, by omega, .tup [], _, ?_, v', hv', rfl⟩
        (simp [push_cast, -List.getD_eq_getElem?_getD])
      · ((repeat refine sk ?_); refine hK _ ?_; clear hK K)
        refine ⟨⟨[], rowO 4 5 6 [⟨d, l⟩] w v', 7⟩, Gh.leD [0, 1, 2, 3, 5, 2, 4] (by simp [push_cast, -List.getD_eq_getElem?_getD, encSv_one, lastL_one]; try decide), .inl rfl, by omega, .tup [], _, ?_, v', hv', rfl⟩
        (simp [push_cast, -List.getD_eq_getElem?_getD])
  · have hSe' : S = A ++ [e] := by simpa using hSe
    clear hSe
    subst hSe'
    rw [lastL_concat] at hl
    have hAl : A.length + 1 ≤ 100000 := by simpa using hS
    have hml : (A.map encE).length = A.length := List.length_map ..
    have w1 : IntKind.i64.wrap ((A.length : Int) + 1 - 1) = (A.length : Int) := by rw [wrap64_id (by omega) (by omega)]; omega
    have d1 : decide ((A.length : Int) + 1 > 0) = true := decide_eq_true (by omega)
    have g1 := fun (x y : IV) => getD_last (L := A.map encE) (x := x) (d := y) hml
    have g2 := fun (x y : IV) => set_last (L := A.map encE) (x := x) (y := y) hml
    ((repeat refine PWp.seq ?_); refine PWp.region TT (by rfl) (fun K hK => ?_); simp only [push_cast, seval, Nat.reduceEqDiff, Nat.reduceLeDiff, reduceCtorEq, encSv_concat, lastL_concat]; (repeat refine sk ?_); refine hK _ ?_; clear hK K)
    ((repeat refine PWp.seq ?_); refine PWp.block ?_)
    ((repeat refine PWp.seq ?_); refine PWp.region TT (by rfl) (fun K hK => ?_); simp only [push_cast, seval, Nat.reduceEqDiff, Nat.reduceLeDiff, reduceCtorEq, hlen]; (repeat refine sk ?_); refine hK _ ?_; clear hK K)
    ((repeat refine PWp.seq ?_); refine PWp.cond (by simp only [push_cast, seval, Nat.reduceEqDiff, Nat.reduceLeDiff, reduceCtorEq]; rfl) (fun hc => ?_) (fun hc => ?_))
    · cases hc
    clear hc
    ((repeat refine PWp.seq ?_); refine PWp.region TT (by rfl) (fun K hK => ?_); simp only [push_cast, seval, Nat.reduceEqDiff, Nat.reduceLeDiff, reduceCtorEq, w1, d1, g1]; (repeat refine sk ?_); refine hK _ ?_; clear hK K)
    ((repeat refine PWp.seq ?_); refine PWp.cond (by simp only [push_cast, seval, Nat.reduceEqDiff, Nat.reduceLeDiff, reduceCtorEq]; rfl) (fun hc => ?_) (fun hc => ?_))
    · have hd : e.d = d := beq_iff_eq.1 hc
      subst hd
      clear hc
      rw [addF_same hn]
      ((repeat refine PWp.seq ?_); refine PWp.drawT TT (by kernel_rfl) [] (.q 0 (.q 1 (.q 2 (.q 4 (.q 5 (.q 6 (.q 7 (.q 8 (.q 10 (.q 11 (.q 15 (.alt 3 (.x 9 (.x 12 (.q 13 (.x 14 (.x 16 (.x 17 (.q 18 (.x 19 .nil)))))))) (.x 9 (.alt 3 (.x 12 (.q 13 (.x 14 (.x 16 (.x 17 (.q 18 (.x 19 .nil))))))) (.x 12 (.q 13 (.alt 3 (.x 14 (.x 16 (.x 17 (.q 18 (.x 19 .nil))))) (.x 14 (.alt 3 (.x 16 (.x 17 (.q 18 (.x 19 .nil)))) (.x 16 (.x 3 (.x 17 (.q 18 (.x 19 .nil)))))))))))))))))))))))) (by rfl) (by kernel_rfl) (by rfl) (by simp) (fun K hK => ?_); simp only [push_cast, seval, Nat.reduceEqDiff, Nat.reduceLeDiff, reduceCtorEq, w1, g1, lensLn l])
      (repeat refine sk ?_)
      refine ⟨?_, ?_⟩
      · (repeat refine sk ?_)
        intro q hq
        (simp only [push_cast, seval, Nat.reduceEqDiff, Nat.reduceLeDiff, reduceCtorEq, g1, g2, hq]; (repeat refine sk ?_); refine hK _ ?_; clear hK K)
        refine ⟨⟨[], rowO 4 5 6 (A ++ [⟨e.d, e.l ++ l⟩]) w q, 7⟩, Gh.leD [0, 1, 2, 3, 1, 2, 3] (by simp [push_cast, -List.getD_eq_getElem?_getD, encSv_concat, lastL_concat]; try decide), .inl rfl, by omega, .tup [], _, ?_, q, hq, rfl⟩
        (simp [push_cast, -List.getD_eq_getElem?_getD])
      (repeat refine sk ?_)
      refine ⟨?_, ?_⟩
      · (repeat refine sk ?_)
        intro q hq
        (simp only [push_cast, seval, Nat.reduceEqDiff, Nat.reduceLeDiff, reduceCtorEq, g1, g2, hq]; (repeat refine sk ?_); refine hK _ ?_; clear hK K)
        refine ⟨⟨[], rowO 4 5 6 (A ++ [⟨e.d, e.l ++ l⟩]) w q, 7⟩, Gh.leD [0, 1, 2, 3, 1, 2, 3] (by simp [push_cast, -List.getD_eq_getElem?_getD, encSv_concat, lastL_concat]; try decide), .inl rfl, by omega, .tup [], _, ?_, q, hq, rfl⟩
        (simp [push_cast, -List.getD_eq_getElem?_getD])
      (repeat refine sk ?_)
      refine ⟨?_, ?_⟩
      · (repeat refine sk ?_)
        intro q hq
        (simp only [push_cast, seval, Nat.reduceEqDiff, Nat.reduceLeDiff, reduceCtorEq, g1, g2, hq]; (repeat refine sk ?_); refine hK _ ?_; clear hK K)
        refine ⟨⟨[], rowO 4 5 6 (A ++ [⟨e.d, e.l ++ l⟩]) w q, 7⟩, Gh.leD [0, 1, 2, 3, 1, 2, 3] (by simp [push_cast, -List.getD_eq_getElem?_getD, encSv_concat, lastL_concat]; try decide), .inl rfl, by omega, .tup [], _, ?_, q, hq, rfl⟩
        (simp [push_cast, -List.getD_eq_getElem?_getD])
      (repeat refine sk ?_)
      refine ⟨?_, ?_⟩
      · (repeat refine sk ?_)
        intro q hq
        (simp only [push_cast, seval, Nat.reduceEqDiff, Nat.reduceLeDiff, reduceCtorEq, g1, g2, hq]; (repeat refine sk ?_); refine hK _ ?_; clear hK K)
        refine ⟨⟨[], rowO 4 5 6 (A ++ [⟨e.d, e.l ++ l⟩]) w q, 7⟩, Gh.leD [0, 1, 2, 3, 1, 2, 3] (by simp [push_cast, -List.getD_eq_getElem?_getD, encSv_concat, lastL_concat]; try decide), .inl rfl, by omega, .tup [], _, ?_, q, hq, rfl⟩
        (simp [push_cast, -List.getD_eq_getElem?_getD])
      (repeat refine sk ?_)
      intro q hq
      (simp only [push_cast, seval, Nat.reduceEqDiff, Nat.reduceLeDiff, reduceCtorEq, g1, g2, hq]; (repeat refine sk ?_); refine hK _ ?_; clear hK K)
      refine ⟨⟨[], rowO 4 5 6 (A ++ [⟨e.d, e.l ++ l⟩]) w q, 7⟩, Gh.leD [0, 1, 2, 3, 1, 2, 3] (by simp [push_cast, -List.getD_eq_getElem?_getD, encSv_concat, lastL_concat]; try decide), .inl rfl, by omega, .tup [], _, ?_, q, hq, rfl⟩
      (simp [push_cast, -List.getD_eq_getElem?_getD])
    · have hd : e.d ≠ d := beq_eq_false_iff_ne.1 hc
      clear hc
      rw [addF_new hn hd]
      refine PWp.gh (Gh.unl 3 1 (by rfl) (by rfl)) ?_
      ((repeat refine PWp.seq ?_); refine PWp.drawT TT (by kernel_rfl) [] (.q 0 (.q 1 (.q 2 (.q 3 (.q 5 (.q 6 (.alt 4 (.x 7 (.q 8 (.x 9 (.x 10 (.q 11 (.q 12 (.x 13 .nil))))))) (.x 7 (.q 8 (.alt 4 (.x 9 (.x 10 (.q 11 (.q 12 (.x 13 .nil))))) (.x 9 (.x 4 (.x 10 (.q 11 (.q 12 (.x 13 .nil)))))))))))))))) (by rfl) (by kernel_rfl) (by rfl) (by simp) (fun K hK => ?_); simp only [push_cast, seval, Nat.reduceEqDiff, Nat.reduceLeDiff, reduceCtorEq])
      (repeat refine sk ?_)
      refine ⟨?_, ?_⟩
      · ((repeat refine sk ?_); refine PCall.use (Clone_lit l (by omega)) [] rfl (by simp [push_cast]) (by simp) (by simp [push_cast]) (by simp [push_cast]) (by simp [push_cast]) (by simp [push_cast]) ?_)
        rintro _ _ ⟨v', hv', rfl, rfl⟩
        (simp only [push_cast, seval, Nat.reduceEqDiff, Nat.reduceLeDiff, reduceCtorEq, hv']; (repeat refine sk ?_); refine hK _ ?_; clear hK K)
        refine ⟨⟨[], rowO 4 5 6 (A ++ [e] ++ [⟨d, l⟩]) w v', 7⟩, Gh.leD [0, 1, 2, 3, 5, 2, 4] (by simp [push_cast, -List.getD_eq_getElem?_getD, encSv_concat2, lastL_concat2]; try decide), .inl rfl, by omega, .tup [], _, ?_, v', hv', rfl⟩
        (simp [push_cast, -List.getD_eq_getElem?_getD])
      · (repeat refine sk ?_)
        ((repeat refine sk ?_); refine PCall.use (Clone_lit l (by omega)) [] rfl (by simp [push_cast]) (by simp) (by simp [push_cast]) (by simp [push_cast]) (by simp [push_cast]) (by simp [push_cast]) ?_)
        rintro _ _ ⟨v', hv', rfl, rfl⟩
        (simp only [push_cast, seval, Nat.reduceEqDiff, Nat.reduceLeDiff, reduceCtorEq, hv'])
        (repeat refine sk ?_)
        refine ⟨?_, ?_⟩
        · ((repeat refine sk ?_); refine hK _ ?_; clear hK K)
          refine ⟨⟨[], rowO 4 5 6 (A ++ [e] ++ [⟨d, l⟩]) w v', 7⟩, Gh.leD [0, 1, 2, 3, 5, 2, 4] (by simp [push_cast, -List.getD_eq_getElem?_getD, encSv_concat2, lastL_concat2]; try decide), .inl rfl, by omega, .tup [], _, ?_, v', hv', rfl⟩
          (simp [push_cast, -List.getD_eq_getElem?_getD])
        · ((repeat refine sk ?_); refine hK _ ?_; clear hK K)
          refine ⟨⟨[], rowO 4 5 6 (A ++ [e] ++ [⟨d, l⟩]) w v', 7⟩, Gh.leD [0, 1, 2, 3, 5, 2, 4] (by simp [push_cast, -List.getD_eq_getElem?_getD, encSv_concat2, lastL_concat2]; try decide), .inl rfl, by omega, .tup [], _, ?_, v', hv', rfl⟩
          (simp [push_cast, -List.getD_eq_getElem?_getD])
end Go.Proofs.Ytjajefphfhdfkaa
namespace Go.Proofs.Ytjajefphfhdfkaa
open Go.PL
set_option maxRecDepth 100000
set_option linter.unusedSimpArgs false
set_option linter.unusedVariables false
theorem addF_len (S : List Ed) (d : Int) (l : List Ln) : (addF S d l).length ≤ S.length + 1 := by
  unfold addF
  split
  · omega
  · split
    · split
      · simp
      · simp
    · simp
theorem addF_tot (S : List Ed) (d : Int) (l : List Ln) : totL (addF S d l) = totL S + l.length := by
  by_cases h : l = []
  · subst h; rw [addF_no]; simp
  · rcases List.eq_nil_or_concat S with rfl | ⟨A, e, hSe⟩
    · rw [addF_first h]; simp [totL]
    · have hS : S = A ++ [e] := by simpa using hSe
      subst hS
      by_cases hd : e.d = d
      · subst hd
        rw [addF_same h, totL_append, totL_append]
        simp [totL]
        omega
      · rw [addF_new h hd, totL_append]
        simp [totL]
theorem lastL_le (S : List Ed) : (lastL S).length ≤ totL S := by
  rcases List.eq_nil_or_concat S with rfl | ⟨A, e, hSe⟩
  · simp [lastL_nil]
  · have hS : S = A ++ [e] := by simpa using hSe
    subst hS
    rw [lastL_concat, totL_append]
    simp [totL]
theorem row_flush (S : List Ed) (w : List Ln) (v : Value) (hv : v.oneCell' = true) (hS : S.length ≤ 100000) (hl : totL S + w.length ≤ 1000000) :
    PC Try.prog 36 [.bptr 0 0] (rowO 1 2 3 S w v) 4 7 (fun t obs => ∃ v' : Value, v'.oneCell' = true ∧ obs = rowO 4 5 6 (addF S 3 w) [] v') := by
  have h0 := lastL_le S
  refine PC.body [] Try.func36 rfl (by rfl) (Nat.le_of_ble_eq_true (by rfl)) rfl ?_; simp only [enumA]
  refine PWp.post ?_
  ((repeat refine PWp.seq ?_); refine PWp.region TT (by rfl) (fun K hK => ?_); simp only [push_cast, seval, Nat.reduceEqDiff, Nat.reduceLeDiff, reduceCtorEq])
  ((repeat refine sk ?_); refine PCall.use (row_add S w w 3 v hv hS (by omega)) [0, 1, 2, 3] rfl (by simp [push_cast]) (by simp) (by simp [push_cast]) (by simp [push_cast]) (by simp [push_cast]) (by simp [push_cast]) ?_)
  rintro _ _ ⟨v', hv', rfl⟩
  (simp only [push_cast, seval, Nat.reduceEqDiff, Nat.reduceLeDiff, reduceCtorEq]; (repeat refine sk ?_); refine hK _ ?_; clear hK K)
  ((repeat refine PWp.seq ?_); refine PWp.region TT (by rfl) (fun K hK => ?_); simp only [push_cast, seval, Nat.reduceEqDiff, Nat.reduceLeDiff, reduceCtorEq]; (repeat refine sk ?_); refine hK _ ?_; clear hK K)
  refine ⟨⟨[], rowO 4 5 6 (addF S 3 w) [] v', 7⟩, Gh.trans (Gh.rowc 0 1 47 2 (by rfl) (by rfl)) (Gh.leD [0, 1, 2, 3, 4, 7, 6] (by simp [push_cast, -List.getD_eq_getElem?_getD]; try decide)), .inl rfl, by omega, .tup [], _, ?_, v', hv', rfl⟩
  (simp [push_cast, -List.getD_eq_getElem?_getD])
/-- An edit is taken. -/
def takF (p : List Ed × List Ln) (x : Ed) : List Ed × List Ln :=
  if x.d = 3 then (p.1, p.2 ++ x.l)
  else if x.d = 1 then (if x.l = [] then p else (addF (addF p.1 3 p.2) 1 x.l, []))
  else (addF p.1 x.d x.l, p.2)
set_option maxHeartbeats 1000000 in
theorem row_take (S : List Ed) (w : List Ln) (x : Ed) (v : Value) (hv : v.oneCell' = true) (hS : S.length ≤ 10000) (hl : totL S + w.length + x.l.length ≤ 1000000) (hx : okD x = true) :
    PC Try.prog 35 [.bptr 0 0, .iv (encE x)] (rowO 1 2 3 S w v) 4 7 (fun t obs => ∃ v' : Value, v'.oneCell' = true ∧ obs = rowO 4 5 6 (takF (S, w) x).1 (takF (S, w) x).2 v') := by
  have h0 := lastL_le S
  have hd : x.d = 3 ∨ x.d = 1 ∨ x.d = 2 := by
    unfold okD at hx
    simp only [Bool.or_eq_true, Bool.and_eq_true, Bool.not_eq_true', Bool.not_eq_false', Bool.or_eq_false_iff, Bool.and_eq_false_iff, decide_eq_true_eq, decide_eq_false_iff_not, beq_iff_eq, beq_eq_false_iff_ne, bne_iff_ne, bne_eq_false_iff_eq, ne_eq, Classical.not_not, Int.not_lt, Int.not_le, ge_iff_le, gt_iff_lt] at hx
    omega
  refine PC.body [] Try.func35 rfl (by rfl) (Nat.le_of_ble_eq_true (by rfl)) rfl ?_; simp only [enumA]
  refine PWp.post ?_
  ((repeat refine PWp.seq ?_); refine PWp.region TT (by rfl) (fun K hK => ?_); simp only [push_cast, seval, Nat.reduceEqDiff, Nat.reduceLeDiff, reduceCtorEq]; (repeat refine sk ?_); refine hK _ ?_; clear hK K)
  ((repeat refine PWp.seq ?_); refine PWp.region TT (by rfl) (fun K hK => ?_); simp only [push_cast, seval, Nat.reduceEqDiff, Nat.reduceLeDiff, reduceCtorEq]; (repeat refine sk ?_); refine hK _ ?_; clear hK K)
  ((repeat refine PWp.seq ?_); refine PWp.block ?_)
  ((repeat refine PWp.seq ?_); refine PWp.block ?_)
  ((repeat refine PWp.seq ?_); refine PWp.block ?_)
  ((repeat refine PWp.seq ?_); refine PWp.block ?_)
  rcases hd with hd | hd | hd
  · have e1 : takF (S, w) x = (S, w ++ x.l) := if_pos hd
    ((repeat refine PWp.seq ?_); refine PWp.region TT (by rfl) (fun K hK => ?_); simp only [push_cast, seval, Nat.reduceEqDiff, Nat.reduceLeDiff, reduceCtorEq, hd]; (repeat refine sk ?_); refine hK _ ?_; clear hK K)
    ((repeat refine PWp.seq ?_); refine PWp.cond (by simp only [push_cast, seval, Nat.reduceEqDiff, Nat.reduceLeDiff, reduceCtorEq]; rfl) (fun hc => ?_) (fun hc => ?_))
    · (repeat refine PWp.seq ?_); refine PWp.exit (iteT rfl ?_)
      ((repeat refine PWp.seq ?_); refine PWp.drawT TT (by kernel_rfl) [4] (.q 0 (.q 1 (.q 2 (.q 3 (.q 5 (.q 6 (.x 4 (.x 7 (.q 8 (.q 9 (.x 10 .nil))))))))))) (by rfl) (by kernel_rfl) (by rfl) (by simp) (fun K hK => ?_); simp only [push_cast, seval, Nat.reduceEqDiff, Nat.reduceLeDiff, reduceCtorEq, lensLn x.l]; (repeat refine sk ?_); refine hK _ ?_; clear hK K)
      (repeat refine PWp.seq ?_); refine PWp.exit (iteF (by decide) (iteF (by decide) (iteT rfl ?_)))
      rw [e1]
      refine ⟨⟨[], rowO 4 5 6 S (w ++ x.l) v, 7⟩, Gh.leD [0, 1, 2, 3, 1, 2, 3] (by simp [push_cast, -List.getD_eq_getElem?_getD]; try decide), .inl rfl, by omega, .tup [], _, ?_, v, hv, rfl⟩
      (simp [push_cast, -List.getD_eq_getElem?_getD])
    · cases hc
  · have e1 : takF (S, w) x = if x.l = [] then (S, w) else (addF (addF S 3 w) 1 x.l, []) := by
      unfold takF
      rw [if_neg (by omega), if_pos hd]
    ((repeat refine PWp.seq ?_); refine PWp.region TT (by rfl) (fun K hK => ?_); simp only [push_cast, seval, Nat.reduceEqDiff, Nat.reduceLeDiff, reduceCtorEq, hd]; (repeat refine sk ?_); refine hK _ ?_; clear hK K)
    ((repeat refine PWp.seq ?_); refine PWp.cond (by simp only [push_cast, seval, Nat.reduceEqDiff, Nat.reduceLeDiff, reduceCtorEq]; rfl) (fun hc => ?_) (fun hc => ?_))
    · cases hc
    ((repeat refine PWp.seq ?_); refine PWp.skip ?_)
    ((repeat refine PWp.seq ?_); refine PWp.region TT (by rfl) (fun K hK => ?_); simp only [push_cast, seval, Nat.reduceEqDiff, Nat.reduceLeDiff, reduceCtorEq, hd]; (repeat refine sk ?_); refine hK _ ?_; clear hK K)
    ((repeat refine PWp.seq ?_); refine PWp.cond (by simp only [push_cast, seval, Nat.reduceEqDiff, Nat.reduceLeDiff, reduceCtorEq]; rfl) (fun hc => ?_) (fun hc => ?_))
    · clear hc
      (repeat refine PWp.seq ?_); refine PWp.exit (iteF (by decide) (iteT rfl ?_))
      by_cases hn : x.l = []
      · rw [if_pos hn] at e1
        have hlen : decide ((x.l.length : Int) > 0) = false := by rw [hn]; rfl
        ((repeat refine PWp.seq ?_); refine PWp.region TT (by rfl) (fun K hK => ?_); simp only [push_cast, seval, Nat.reduceEqDiff, Nat.reduceLeDiff, reduceCtorEq, hlen]; (repeat refine sk ?_); refine hK _ ?_; clear hK K)
        ((repeat refine PWp.seq ?_); refine PWp.cond (by simp only [push_cast, seval, Nat.reduceEqDiff, Nat.reduceLeDiff, reduceCtorEq]; rfl) (fun hc => ?_) (fun hc => ?_))
        · cases hc
        ((repeat refine PWp.seq ?_); refine PWp.skip ?_)
        ((repeat refine PWp.seq ?_); refine PWp.region TT (by rfl) (fun K hK => ?_); simp only [push_cast, seval, Nat.reduceEqDiff, Nat.reduceLeDiff, reduceCtorEq, hd])
        ((repeat refine sk ?_); refine PCall.use (row_add S w x.l 1 v hv (by omega) (by omega)) [0, 1, 2, 3] rfl (by simp [push_cast]) (by simp) (by simp [push_cast]) (by simp [push_cast]) (by simp [push_cast]) (by simp [push_cast]) ?_)
        rintro _ _ ⟨v', hv', rfl⟩
        (simp only [push_cast, seval, Nat.reduceEqDiff, Nat.reduceLeDiff, reduceCtorEq]; (repeat refine sk ?_); refine hK _ ?_; clear hK K)
        rw [e1]
        (repeat refine PWp.seq ?_); refine PWp.exit (iteT rfl ?_)
        refine ⟨⟨[], rowO 4 5 6 S w v', 7⟩, Gh.leD [0, 1, 2, 3, 5, 6, 7] (by simp [push_cast, -List.getD_eq_getElem?_getD, hn, addF_no]; try decide), .inl rfl, by omega, .tup [], _, ?_, v', hv', rfl⟩
        (simp [push_cast, -List.getD_eq_getElem?_getD])
      · rw [if_neg hn] at e1
        have hlen : decide ((x.l.length : Int) > 0) = true := decide_eq_true (by have := List.length_pos_iff.2 hn; omega)
        have h1 := addF_len S 3 w
        have h2 := addF_tot S 3 w
        have h3 := lastL_le (addF S 3 w)
        ((repeat refine PWp.seq ?_); refine PWp.region TT (by rfl) (fun K hK => ?_); simp only [push_cast, seval, Nat.reduceEqDiff, Nat.reduceLeDiff, reduceCtorEq, hlen]; (repeat refine sk ?_); refine hK _ ?_; clear hK K)
        ((repeat refine PWp.seq ?_); refine PWp.cond (by simp only [push_cast, seval, Nat.reduceEqDiff, Nat.reduceLeDiff, reduceCtorEq]; rfl) (fun hc => ?_) (fun hc => ?_))
        · ((repeat refine PWp.seq ?_); refine PWp.region TT (by rfl) (fun K hK => ?_); simp only [push_cast, seval, Nat.reduceEqDiff, Nat.reduceLeDiff, reduceCtorEq])
          ((repeat refine sk ?_); refine PCall.use (row_flush S w v hv (by omega) (by omega)) [0, 1, 2, 3] rfl (by simp [push_cast]) (by simp) (by simp [push_cast]) (by simp [push_cast]) (by simp [push_cast]) (by simp [push_cast]) ?_)
          rintro _ _ ⟨v', hv', rfl⟩
          (simp only [push_cast, seval, Nat.reduceEqDiff, Nat.reduceLeDiff, reduceCtorEq]; (repeat refine sk ?_); refine hK _ ?_; clear hK K)
          ((repeat refine PWp.seq ?_); refine PWp.region TT (by rfl) (fun K hK => ?_); simp only [push_cast, seval, Nat.reduceEqDiff, Nat.reduceLeDiff, reduceCtorEq, hd])
          ((repeat refine sk ?_); refine PCall.use (row_add (addF S 3 w) [] x.l 1 v' hv' (by omega) (by omega)) [0, 5, 6, 7] rfl (by simp [push_cast]) (by simp) (by simp [push_cast]) (by simp [push_cast]) (by simp [push_cast]) (by simp [push_cast]) ?_)
          rintro _ _ ⟨v2, hv2, rfl⟩
          (simp only [push_cast, seval, Nat.reduceEqDiff, Nat.reduceLeDiff, reduceCtorEq]; (repeat refine sk ?_); refine hK _ ?_; clear hK K)
          rw [e1]
          (repeat refine PWp.seq ?_); refine PWp.exit (iteT rfl ?_)
          refine ⟨⟨[], rowO 4 5 6 (addF (addF S 3 w) 1 x.l) [] v2, 7⟩, Gh.leD [0, 1, 2, 3, 8, 9, 10] (by simp [push_cast, -List.getD_eq_getElem?_getD]; try decide), .inl rfl, by omega, .tup [], _, ?_, v2, hv2, rfl⟩
          (simp [push_cast, -List.getD_eq_getElem?_getD])
        · cases hc
    · cases hc
  · have e1 : takF (S, w) x = (addF S 2 x.l, w) := by
      unfold takF
      rw [if_neg (by omega), if_neg (by omega), hd]
    ((repeat refine PWp.seq ?_); refine PWp.region TT (by rfl) (fun K hK => ?_); simp only [push_cast, seval, Nat.reduceEqDiff, Nat.reduceLeDiff, reduceCtorEq, hd]; (repeat refine sk ?_); refine hK _ ?_; clear hK K)
    ((repeat refine PWp.seq ?_); refine PWp.cond (by simp only [push_cast, seval, Nat.reduceEqDiff, Nat.reduceLeDiff, reduceCtorEq]; rfl) (fun hc => ?_) (fun hc => ?_))
    · cases hc
    ((repeat refine PWp.seq ?_); refine PWp.skip ?_)
    ((repeat refine PWp.seq ?_); refine PWp.region TT (by rfl) (fun K hK => ?_); simp only [push_cast, seval, Nat.reduceEqDiff, Nat.reduceLeDiff, reduceCtorEq, hd]; (repeat refine sk ?_); refine hK _ ?_; clear hK K)
    ((repeat refine PWp.seq ?_); refine PWp.cond (by simp only [push_cast, seval, Nat.reduceEqDiff, Nat.reduceLeDiff, reduceCtorEq]; rfl) (fun hc => ?_) (fun hc => ?_))
    · cases hc
    ((repeat refine PWp.seq ?_); refine PWp.skip ?_)
    (repeat refine PWp.seq ?_); refine PWp.exit (iteF (by decide) (iteF (by decide) (iteT rfl ?_)))
    ((repeat refine PWp.seq ?_); refine PWp.region TT (by rfl) (fun K hK => ?_); simp only [push_cast, seval, Nat.reduceEqDiff, Nat.reduceLeDiff, reduceCtorEq, hd])
    ((repeat refine sk ?_); refine PCall.use (row_add S w x.l 2 v hv (by omega) (by omega)) [0, 1, 2, 3] rfl (by simp [push_cast]) (by simp) (by simp [push_cast]) (by simp [push_cast]) (by simp [push_cast]) (by simp [push_cast]) ?_)
    rintro _ _ ⟨v', hv', rfl⟩
    (simp only [push_cast, seval, Nat.reduceEqDiff, Nat.reduceLeDiff, reduceCtorEq]; (repeat refine sk ?_); refine hK _ ?_; clear hK K)
    rw [e1]
    (repeat refine PWp.seq ?_); refine PWp.exit (iteT rfl ?_)
    refine ⟨⟨[], rowO 4 5 6 (addF S 2 x.l) w v', 7⟩, Gh.leD [0, 1, 2, 3, 5, 6, 7] (by simp [push_cast, -List.getD_eq_getElem?_getD]; try decide), .inl rfl, by omega, .tup [], _, ?_, v', hv', rfl⟩
    (simp [push_cast, -List.getD_eq_getElem?_getD])
end Go.Proofs.Ytjajefphfhdfkaa
namespace Go.Proofs.Ytjajefphfhdfkaa
open Go.PL
set_option maxRecDepth 100000
set_option linter.unusedSimpArgs false
set_option linter.unusedVariables false
def nF (s : List Ed) (k : Nat) : List Ed × List Ln := (s.take k).foldl takF ([], [])
theorem nF_succ {s : List Ed} {k : Nat} (h : k < s.length) : nF s (k + 1) = takF (nF s k) (s.getD k default) := by
  unfold nF
  rw [take_succ_getD h, List.foldl_append]
  rfl
theorem takF_b (p : List Ed × List Ln) (x : Ed) : (takF p x).1.length ≤ p.1.length + 2 ∧ totL (takF p x).1 + (takF p x).2.length = totL p.1 + p.2.length + x.l.length := by
  unfold takF
  split
  · simp; omega
  · split
    · split
      · rename_i h
        rw [h]; simp
      · have h1 := addF_len p.1 3 p.2
        have h2 := addF_len (addF p.1 3 p.2) 1 x.l
        have h3 := addF_tot p.1 3 p.2
        have h4 := addF_tot (addF p.1 3 p.2) 1 x.l
        simp
        omega
    · have h1 := addF_len p.1 x.d x.l
      have h3 := addF_tot p.1 x.d x.l
      simp
      omega
theorem nF_b (s : List Ed) : ∀ k, k ≤ s.length → (nF s k).1.length ≤ 2 * k ∧ totL (nF s k).1 + (nF s k).2.length = totL (s.take k)
  | 0, _ => by simp [nF, totL]
  | k + 1, h => by
    have ih := nF_b s k (by omega)
    have hb := takF_b (nF s k) (s.getD k default)
    rw [nF_succ (by omega), totL_succ (by omega)]
    omega
def normF (s : List Ed) : List Ed := addF (nF s s.length).1 3 (nF s s.length).2
def norL (s : List Ed) : List Ed := if chkE s = 0 then normF s else []
theorem chk_zero {s : List Ed} (h : chkE s = 0) : s.length ≤ 800 ∧ totL s ≤ 800 ∧ s.all okD = true := by
  unfold chkE at h
  split at h
  · cases h
  · split at h
    · rename_i h1 h2
      exact ⟨by omega, by omega, h2⟩
    · cases h
set_option maxHeartbeats 1000000 in
theorem script_normal (s : List Ed) (hc0 : chkE s = 0) : PC Try.prog 31 [iE s] [] 0 60 (fun t obs => t = iE (normF s) ∧ obs = []) := by
  obtain ⟨c1, c2, c3⟩ := chk_zero hc0
  refine PC.body [2] Try.func31 rfl (by rfl) (Nat.le_of_ble_eq_true (by rfl)) rfl ?_; simp only [enumA]
  ((repeat refine PWp.seq ?_); refine PWp.region TT (by rfl) (fun K hK => ?_); simp only [push_cast, seval, Nat.reduceEqDiff, Nat.reduceLeDiff, reduceCtorEq]; (repeat refine sk ?_); refine hK _ ?_; clear hK K)
  ((repeat refine PWp.seq ?_); refine PWp.region TT (by rfl) (fun K hK => ?_); simp only [push_cast, seval, Nat.reduceEqDiff, Nat.reduceLeDiff, reduceCtorEq]; (repeat refine sk ?_); refine hK _ ?_; clear hK K)
  refine PWp.gh (st' := ⟨[(0, iE s), (2, .nilsl), (3, .bptr 0 0)], [(0, .box 71 [.nilsl, .nilsl])], 1⟩) (Gh.le (by simp [push_cast, -List.getD_eq_getElem?_getD]) (by simp)) ?_
  refine PWp.gh (Gh.mrowc 0 0 57 2 (by rfl) (by rfl)) ?_
  refine PWp.gh (Gh.rowc 0 1 47 2 (by rfl) (by rfl)) ?_
  refine PWp.gh (Gh.row 2 47 2 (by rfl)) ?_
  refine PWp.lrow 2 3 (by rfl) (by rfl) (fun v hv => ?_)
  refine PWp.gh (st' := ⟨[(0, iE s), (3, .bptr 0 0)], rowO 1 2 3 [] [] v, 4⟩) (Gh.le (by simp [push_cast, -List.getD_eq_getElem?_getD, encSv_nil, lastL_nil]) (by simp)) ?_
  ((repeat refine PWp.seq ?_); refine PWp.region TT (by rfl) (fun K hK => ?_); simp only [push_cast, seval, Nat.reduceEqDiff, Nat.reduceLeDiff, reduceCtorEq]; (repeat refine sk ?_); refine hK _ ?_; clear hK K)
  ((repeat refine PWp.seq ?_); refine PWp.block ?_)
  refine PWp.loop (fun c st => ∃ (k : Nat) (v : Value), c = s.length - k ∧ k ≤ s.length ∧ v.oneCell' = true ∧
    st = ⟨[(3, .bptr 0 0), (8, iE s), (9, iI s.length), (10, iI k)], rowO 1 2 3 (nF s k).1 (nF s k).2 v, 4⟩) _ _ ⟨0, v, rfl, Nat.zero_le _, hv, rfl⟩ (Gh.le (by simp [push_cast, -List.getD_eq_getElem?_getD, nF]) (by simp)) ?_
  rintro c st ⟨k, v, rfl, hk, hv, rfl⟩
  ((repeat refine PWp.seq ?_); refine PWp.region TT (by rfl) (fun K hK => ?_); simp only [push_cast, seval, Nat.reduceEqDiff, Nat.reduceLeDiff, reduceCtorEq]; (repeat refine sk ?_); refine hK _ ?_; clear hK K)
  ((repeat refine PWp.seq ?_); refine PWp.cond (by simp only [push_cast, seval, Nat.reduceEqDiff, Nat.reduceLeDiff, reduceCtorEq]; rfl) (fun hc => ?_) (fun hc => ?_))
  · have hlt : k < s.length := by have := of_decide_eq_true hc; omega
    clear hc
    have hg : (s.map encE).getD k .any = encE (s.getD k default) := getD_map hlt
    have hok : okD (s.getD k default) = true := List.all_eq_true.1 c3 _ (getD_mem hlt)
    have hb := nF_b s k hk
    have h1 := totL_succ hlt
    have h3 := totL_le s (k + 1)
    have hs := nF_succ hlt
    generalize s.getD k default = x at *
    generalize hp : nF s k = p at *
    obtain ⟨S, w⟩ := p
    simp only at hb
    ((repeat refine PWp.seq ?_); refine PWp.skip ?_)
    ((repeat refine PWp.seq ?_); refine PWp.block ?_)
    ((repeat refine PWp.seq ?_); refine PWp.region TT (by rfl) (fun K hK => ?_); simp only [push_cast, seval, Nat.reduceEqDiff, Nat.reduceLeDiff, reduceCtorEq, hg]; (repeat refine sk ?_); refine hK _ ?_; clear hK K)
    ((repeat refine PWp.seq ?_); refine PWp.region TT (by rfl) (fun K hK => ?_); simp only [push_cast, seval, Nat.reduceEqDiff, Nat.reduceLeDiff, reduceCtorEq])
    ((repeat refine sk ?_); refine PCall.use (row_take S w x v hv (by omega) (by omega) hok) [0, 1, 2, 3] rfl (by simp [push_cast]) (by simp) (by simp [push_cast]) (by simp [push_cast]) (by simp [push_cast]) (by simp [push_cast]) ?_)
    rintro _ _ ⟨v', hv', rfl⟩
    (simp only [push_cast, seval, Nat.reduceEqDiff, Nat.reduceLeDiff, reduceCtorEq]; (repeat refine sk ?_); refine hK _ ?_; clear hK K)
    ((repeat refine PWp.seq ?_); refine PWp.region TT (by rfl) (fun K hK => ?_); simp only [push_cast, seval, Nat.reduceEqDiff, Nat.reduceLeDiff, reduceCtorEq, wrap64_id (n := (k : Int) + 1) (by omega) (by omega)]; (repeat refine sk ?_); refine hK _ ?_; clear hK K)
    refine ⟨_, _, ?_, ⟨k + 1, v', rfl, by omega, hv', rfl⟩, Gh.leR [0, 5, 6, 7] (by simp [push_cast, -List.getD_eq_getElem?_getD, hs]; try decide)⟩
    omega
  · have hk' : k = s.length := by have := of_decide_eq_false hc; omega
    subst hk'
    clear hc
    have hb := nF_b s s.length hk
    rw [List.take_length] at hb
    have hn : normF s = addF (nF s s.length).1 3 (nF s s.length).2 := rfl
    generalize nF s s.length = p at *
    obtain ⟨S, w⟩ := p
    simp only at hb hn
    (repeat refine PWp.seq ?_); refine PWp.exit (iteT rfl ?_)
    ((repeat refine PWp.seq ?_); refine PWp.region TT (by rfl) (fun K hK => ?_); simp only [push_cast, seval, Nat.reduceEqDiff, Nat.reduceLeDiff, reduceCtorEq])
    ((repeat refine sk ?_); refine PCall.use (row_flush S w v hv (by omega) (by omega)) [0, 1, 2, 3] rfl (by simp [push_cast]) (by simp) (by simp [push_cast]) (by simp [push_cast]) (by simp [push_cast]) (by simp [push_cast]) ?_)
    rintro _ _ ⟨v', hv', rfl⟩
    (simp only [push_cast, seval, Nat.reduceEqDiff, Nat.reduceLeDiff, reduceCtorEq]; (repeat refine sk ?_); refine hK _ ?_; clear hK K)
    rw [← hn]
    generalize normF s = L at *
    rcases List.eq_nil_or_concat L with rfl | ⟨A, e, hL⟩
    · ((repeat refine PWp.seq ?_); refine PWp.region TT (by rfl) (fun K hK => ?_); simp only [push_cast, seval, Nat.reduceEqDiff, Nat.reduceLeDiff, reduceCtorEq, encSv_nil]; (repeat refine sk ?_); refine hK _ ?_; clear hK K)
      refine PWp.gh (Gh.freeze 4 (by rfl)) ?_
      ((repeat refine PWp.seq ?_); refine PWp.ret ?_)
      refine ⟨.inr rfl, by omega, _, [], ?_, rfl, rfl⟩
      (simp [push_cast, -List.getD_eq_getElem?_getD])
    · have hL' : L = A ++ [e] := by simpa using hL
      clear hL
      subst hL'
      ((repeat refine PWp.seq ?_); refine PWp.region TT (by rfl) (fun K hK => ?_); simp only [push_cast, seval, Nat.reduceEqDiff, Nat.reduceLeDiff, reduceCtorEq, encSv_concat, lastL_concat]; (repeat refine sk ?_); refine hK _ ?_; clear hK K)
      refine PWp.gh (Gh.unl 6 4 (by rfl) (by rfl)) ?_
      refine PWp.gh (Gh.freeze 4 (by rfl)) ?_
      ((repeat refine PWp.seq ?_); refine PWp.ret ?_)
      refine ⟨.inr rfl, by omega, _, [], ?_, rfl, rfl⟩
      (simp [push_cast, -List.getD_eq_getElem?_getD])
theorem script_Normal (s : List Ed) (hs : bigE s) : PC Try.prog 22 [iE s] [] 0 60 (fun t obs => t = .tup [iE (norL s), iI (chkE s)] ∧ obs = []) := by
  refine PC.body [2, 3] Try.func22 rfl (by rfl) (Nat.le_of_ble_eq_true (by rfl)) rfl ?_; simp only [enumA]
  ((repeat refine PWp.seq ?_); refine PWp.region TT (by rfl) (fun K hK => ?_); simp only [push_cast, seval, Nat.reduceEqDiff, Nat.reduceLeDiff, reduceCtorEq]; (repeat refine sk ?_); refine hK _ ?_; clear hK K)
  ((repeat refine PWp.seq ?_); refine PWp.region TT (by rfl) (fun K hK => ?_); simp only [push_cast, seval, Nat.reduceEqDiff, Nat.reduceLeDiff, reduceCtorEq])
  ((repeat refine sk ?_); refine PCall.use (script_Check s hs) [] rfl (by simp [push_cast]) (by simp) (by simp [push_cast]) (by simp [push_cast]) (by simp [push_cast]) (by simp [push_cast]) ?_)
  rintro _ _ ⟨rfl, rfl⟩
  (simp only [push_cast, seval, Nat.reduceEqDiff, Nat.reduceLeDiff, reduceCtorEq]; (repeat refine sk ?_); refine hK _ ?_; clear hK K)
  by_cases h : chkE s = 0
  · have hb : (chkE s != 0) = false := by rw [h]; rfl
    have hn : norL s = normF s := if_pos h
    ((repeat refine PWp.seq ?_); refine PWp.region TT (by rfl) (fun K hK => ?_); simp only [push_cast, seval, Nat.reduceEqDiff, Nat.reduceLeDiff, reduceCtorEq, hb]; (repeat refine sk ?_); refine hK _ ?_; clear hK K)
    ((repeat refine PWp.seq ?_); refine PWp.cond (by simp only [push_cast, seval, Nat.reduceEqDiff, Nat.reduceLeDiff, reduceCtorEq]; rfl) (fun hc => ?_) (fun hc => ?_))
    · cases hc
    ((repeat refine PWp.seq ?_); refine PWp.skip ?_)
    ((repeat refine PWp.seq ?_); refine PWp.region TT (by rfl) (fun K hK => ?_); simp only [push_cast, seval, Nat.reduceEqDiff, Nat.reduceLeDiff, reduceCtorEq])
    ((repeat refine sk ?_); refine PCall.use (script_normal s h) [] rfl (by simp [push_cast]) (by simp) (by simp [push_cast]) (by simp [push_cast]) (by simp [push_cast]) (by simp [push_cast]) ?_)
    rintro _ _ ⟨rfl, rfl⟩
    (simp only [push_cast, seval, Nat.reduceEqDiff, Nat.reduceLeDiff, reduceCtorEq]; (repeat refine sk ?_); refine hK _ ?_; clear hK K)
    ((repeat refine PWp.seq ?_); refine PWp.ret ?_)
    refine ⟨.inr rfl, by omega, _, [], ?_, rfl, rfl⟩
    rw [hn, h]
    (simp [push_cast, -List.getD_eq_getElem?_getD])
  · have hb : (chkE s != 0) = true := bne_iff_ne.2 h
    have hn : norL s = [] := if_neg h
    ((repeat refine PWp.seq ?_); refine PWp.region TT (by rfl) (fun K hK => ?_); simp only [push_cast, seval, Nat.reduceEqDiff, Nat.reduceLeDiff, reduceCtorEq, hb]; (repeat refine sk ?_); refine hK _ ?_; clear hK K)
    ((repeat refine PWp.seq ?_); refine PWp.cond (by simp only [push_cast, seval, Nat.reduceEqDiff, Nat.reduceLeDiff, reduceCtorEq]; rfl) (fun hc => ?_) (fun hc => ?_))
    · ((repeat refine PWp.seq ?_); refine PWp.region TT (by rfl) (fun K hK => ?_); simp only [push_cast, seval, Nat.reduceEqDiff, Nat.reduceLeDiff, reduceCtorEq]; (repeat refine sk ?_); refine hK _ ?_; clear hK K)
      ((repeat refine PWp.seq ?_); refine PWp.ret ?_)
      refine ⟨.inr rfl, by omega, _, [], ?_, rfl, rfl⟩
      rw [hn]
      (simp [push_cast, -List.getD_eq_getElem?_getD])
    · cases hc
end Go.Proofs.Ytjajefphfhdfkaa
namespace Go.Proofs.Ytjajefphfhdfkaa
open Go.PL
set_option maxRecDepth 100000
set_option linter.unusedSimpArgs false
set_option linter.unusedVariables false
def layF (S : List Ed) (d : Int) (l : List Ln) : List Ed := if l = [] then S else S ++ [⟨d, l⟩]
theorem layF_no (S : List Ed) (d : Int) : layF S d [] = S := if_pos rfl
theorem layF_yes {S : List Ed} {d : Int} {l : List Ln} (h : l ≠ []) : layF S d l = S ++ [⟨d, l⟩] := if_neg h
structure RS where
  o : List Ed
  k : List Ln
  g : List Ln
  m : List Ln
def cutR (r : RS) (x : Ed) : Bool := decide (x.d = 1) && decide (x.l ≠ []) && decide (0 < r.g.length + r.m.length)
def layR (r : RS) : List Ed := layF (layF (layF r.o 1 r.k) 2 r.g) 3 r.m
def putR (r : RS) (x : Ed) : RS :=
  if x.d = 1 then { r with k := r.k ++ x.l } else if x.d = 2 then { r with g := r.g ++ x.l } else if x.d = 3 then { r with m := r.m ++ x.l } else r
def stepR (r : RS) (x : Ed) : RS := putR (if cutR r x then ⟨layR r, [], [], []⟩ else r) x
def srcR (r : RS) : List Ed := layF (layF r.o 1 r.k) 2 r.g
theorem addF_lay {S : List Ed} {d : Int} {l : List Ln} (h : ∀ e, S.getLast? = some e → e.d ≠ d) : addF S d l = layF S d l := by
  unfold addF layF
  split
  · rfl
  · split
    · rename_i e he
      rw [if_neg (h e he)]
    · rename_i he
      have : S = [] := by simpa using he
      rw [this]; rfl
/-- What the last edit of a script so far does. -/
theorem srcR_last (r : RS) (h : r.o = [] ∨ r.k ≠ []) : ∀ e, (srcR r).getLast? = some e → (r.g ≠ [] ∧ e.d = 2) ∨ (r.g = [] ∧ e.d = 1) := by
  intro e he
  unfold srcR at he
  by_cases hg : r.g = []
  · rw [hg, layF_no] at he
    by_cases hk : r.k = []
    · rw [hk, layF_no] at he
      rcases h with h | h
      · rw [h] at he; cases he
      · exact absurd hk h
    · rw [layF_yes hk, List.getLast?_concat] at he
      injection he with he
      subst he
      exact .inr ⟨hg, rfl⟩
  · rw [layF_yes hg, List.getLast?_concat] at he
    injection he with he
    subst he
    exact .inl ⟨hg, rfl⟩
theorem layR_eq (r : RS) (h : r.o = [] ∨ r.k ≠ []) : addF (srcR r) 3 r.m = layR r := by
  refine addF_lay fun e he => ?_
  rcases srcR_last r h e he with ⟨_, h⟩ | ⟨_, h⟩ <;> omega
theorem step_eq (r : RS) (x : Ed) (hx : okD x = true) (h : r.o = [] ∨ r.k ≠ []) : takF (srcR r, r.m) x = (srcR (stepR r x), (stepR r x).m) ∧ ((stepR r x).o = [] ∨ (stepR r x).k ≠ []) := by
  have hd : x.d = 1 ∨ x.d = 2 ∨ x.d = 3 := by
    unfold okD at hx
    simp only [Bool.and_eq_true, decide_eq_true_eq] at hx
    omega
  rcases hd with hd | hd | hd
  · have e1 : takF (srcR r, r.m) x = if x.l = [] then (srcR r, r.m) else (addF (addF (srcR r) 3 r.m) 1 x.l, []) := by
      unfold takF
      rw [if_neg (by omega), if_pos hd]
    have e2 : ∀ q : RS, putR q x = { q with k := q.k ++ x.l } := fun q => if_pos hd
    by_cases hn : x.l = []
    · have hcut : cutR r x = false := by unfold cutR; rw [hn]; simp
      rw [e1, if_pos hn]
      unfold stepR
      rw [hcut, if_neg (by decide), e2, hn, List.append_nil]
      exact ⟨rfl, h⟩
    · rw [e1, if_neg hn, layR_eq r h]
      by_cases hgm : 0 < r.g.length + r.m.length
      · have hcut : cutR r x = true := by unfold cutR; rw [decide_eq_true hd, decide_eq_true hn, decide_eq_true hgm]; rfl
        have e3 : stepR r x = ⟨layR r, [] ++ x.l, [], []⟩ := by
          unfold stepR
          rw [hcut, if_pos rfl, e2]
        rw [e3]
        refine ⟨?_, .inr (by simpa using hn)⟩
        unfold srcR
        rw [layF_no, List.nil_append]
        congr 1
        refine addF_lay fun e he => ?_
        unfold layR at he
        by_cases hm : r.m = []
        · rw [hm, layF_no] at he
          have hg : r.g ≠ [] := by
            intro h0
            rw [h0, hm] at hgm
            simp at hgm
          rw [layF_yes hg, List.getLast?_concat] at he
          injection he with he
          subst he
          show (2 : Int) ≠ 1
          omega
        · rw [layF_yes hm, List.getLast?_concat] at he
          injection he with he
          subst he
          show (3 : Int) ≠ 1
          omega
      · have hg : r.g = [] := List.eq_nil_of_length_eq_zero (by omega)
        have hm : r.m = [] := List.eq_nil_of_length_eq_zero (by omega)
        have hcut : cutR r x = false := by unfold cutR; rw [decide_eq_false hgm, Bool.and_false]
        have e3 : stepR r x = { r with k := r.k ++ x.l } := by
          unfold stepR
          rw [hcut, if_neg (by decide), e2]
        rw [e3]
        refine ⟨?_, .inr (by simp [hn])⟩
        unfold layR srcR
        simp only [hg, hm, layF_no]
        congr 1
        by_cases hk : r.k = []
        · have ho : r.o = [] := by
            rcases h with h | h
            · exact h
            · exact absurd hk h
          rw [hk, ho, layF_no, List.nil_append, addF_first hn, layF_yes hn]
          rfl
        · rw [layF_yes hk, layF_yes (by simp [hk])]
          exact addF_same (e := ⟨1, r.k⟩) hn
  · have e1 : takF (srcR r, r.m) x = (addF (srcR r) 2 x.l, r.m) := by
      unfold takF
      rw [if_neg (by omega), if_neg (by omega), hd]
    have hcut : cutR r x = false := by unfold cutR; rw [decide_eq_false (by omega : ¬ x.d = 1)]; rfl
    have e3 : stepR r x = { r with g := r.g ++ x.l } := by
      unfold stepR
      rw [hcut]
      show putR r x = _
      unfold putR
      rw [if_neg (by omega), if_pos hd]
    rw [e1, e3]
    refine ⟨?_, h⟩
    congr 1
    by_cases hn : x.l = []
    · rw [hn, addF_no]
      unfold srcR
      rw [List.append_nil]
    · by_cases hg : r.g = []
      · rw [addF_lay (fun e he => ?_)]
        · unfold srcR
          simp only [hg, layF_no, List.nil_append]
        · rcases srcR_last r h e he with ⟨h1, _⟩ | ⟨_, h1⟩
          · exact absurd hg h1
          · omega
      · unfold srcR
        have hg2 : r.g ++ x.l ≠ [] := by simp [hg]
        show addF (layF (layF r.o 1 r.k) 2 r.g) 2 x.l = layF (layF r.o 1 r.k) 2 (r.g ++ x.l)
        generalize layF r.o 1 r.k = B
        rw [layF_yes hg, layF_yes hg2]
        exact addF_same (e := ⟨2, r.g⟩) hn
  · have e1 : takF (srcR r, r.m) x = (srcR r, r.m ++ x.l) := if_pos hd
    have hcut : cutR r x = false := by unfold cutR; rw [decide_eq_false (by omega : ¬ x.d = 1)]; rfl
    have e3 : stepR r x = { r with m := r.m ++ x.l } := by
      unfold stepR
      rw [hcut]
      show putR r x = _
      unfold putR
      rw [if_neg (by omega), if_neg (by omega), if_pos hd]
    rw [e1, e3]
    exact ⟨rfl, h⟩
def rF (s : List Ed) (k : Nat) : RS := (s.take k).foldl stepR ⟨[], [], [], []⟩
theorem rF_succ {s : List Ed} {k : Nat} (h : k < s.length) : rF s (k + 1) = stepR (rF s k) (s.getD k default) := by
  unfold rF
  rw [take_succ_getD h, List.foldl_append]
  rfl
theorem rF_eq {s : List Ed} (h : s.all okD = true) : ∀ k, k ≤ s.length → nF s k = (srcR (rF s k), (rF s k).m) ∧ ((rF s k).o = [] ∨ (rF s k).k ≠ [])
  | 0, _ => ⟨rfl, .inl rfl⟩
  | k + 1, hk => by
    obtain ⟨h1, h2⟩ := rF_eq h k (by omega)
    have := step_eq (rF s k) (s.getD k default) (List.all_eq_true.1 h _ (getD_mem (by omega))) h2
    rw [nF_succ (by omega), rF_succ (by omega), h1]
    exact this
theorem normF_eq {s : List Ed} (h : s.all okD = true) : normF s = layR (rF s s.length) := by
  obtain ⟨h1, h2⟩ := rF_eq h s.length (Nat.le_refl _)
  unfold normF
  rw [h1]
  exact layR_eq _ h2
theorem layF_len (S : List Ed) (d : Int) (l : List Ln) : (layF S d l).length ≤ S.length + 1 := by
  unfold layF
  split <;> simp
theorem layF_tot (S : List Ed) (d : Int) (l : List Ln) : totL (layF S d l) = totL S + l.length := by
  by_cases h : l = []
  · subst h; rw [layF_no]; simp
  · rw [layF_yes h, totL_append]
    simp [totL]
theorem putR_b (r : RS) (x : Ed) (hx : okD x = true) : (putR r x).o = r.o ∧ totL (putR r x).o + (putR r x).k.length + (putR r x).g.length + (putR r x).m.length = totL r.o + r.k.length + r.g.length + r.m.length + x.l.length := by
  have hd : x.d = 1 ∨ x.d = 2 ∨ x.d = 3 := by
    unfold okD at hx
    simp only [Bool.and_eq_true, decide_eq_true_eq] at hx
    omega
  unfold putR
  rcases hd with hd | hd | hd
  · rw [if_pos hd]; simp; omega
  · rw [if_neg (by omega), if_pos hd]; simp; omega
  · rw [if_neg (by omega), if_neg (by omega), if_pos hd]; simp; omega
theorem layR_b (r : RS) : (layR r).length ≤ r.o.length + 3 ∧ totL (layR r) = totL r.o + r.k.length + r.g.length + r.m.length := by
  unfold layR
  have a1 := layF_len r.o 1 r.k
  have a2 := layF_len (layF r.o 1 r.k) 2 r.g
  have a3 := layF_len (layF (layF r.o 1 r.k) 2 r.g) 3 r.m
  rw [layF_tot, layF_tot, layF_tot]
  omega
theorem rF_b {s : List Ed} (h : s.all okD = true) : ∀ k, k ≤ s.length → (rF s k).o.length ≤ 3 * k ∧ totL (rF s k).o + (rF s k).k.length + (rF s k).g.length + (rF s k).m.length = totL (s.take k)
  | 0, _ => by simp [rF, totL]
  | k + 1, hk => by
    have ih := rF_b h k (by omega)
    have hx : okD (s.getD k default) = true := List.all_eq_true.1 h _ (getD_mem (by omega))
    rw [rF_succ (by omega), totL_succ (by omega)]
    unfold stepR
    generalize rF s k = r at *
    have hl := layR_b r
    split
    · obtain ⟨p1, p2⟩ := putR_b ⟨layR r, [], [], []⟩ (s.getD k default) hx
      rw [p1] at p2 ⊢
      dsimp only at p2 ⊢
      simp only [List.length_nil] at p2
      omega
    · obtain ⟨p1, p2⟩ := putR_b r (s.getD k default) hx
      rw [p1] at p2 ⊢
      omega
end Go.Proofs.Ytjajefphfhdfkaa
namespace Go.Proofs.Ytjajefphfhdfkaa
open Go.PL
set_option maxRecDepth 100000
set_option linter.unusedSimpArgs false
set_option linter.unusedVariables false
/-- Ways that join again. -/
theorem PJoin {r : Option Nat} {P : Program} {N m : Nat} {x y : Code} {Q : Exit → St → Prop} {st : St} (S : St) (h : PWpF r P N m x (fun e st' => e = .normal ∧ Gh m st' S) st) (k : PWpF r P N m y Q S) : PWpF r P N m (.seq x y) Q st :=
  PWp.seq (PWp.mono h (fun e st' hh => by
    obtain ⟨rfl, hg⟩ := hh
    exact PWp.gh hg k))
theorem ref08_lay (S : List Ed) (d : Int) (l : List Ln) (hS : S.length ≤ 1000000) (hl : l.length ≤ 1000000) :
    PC Try.prog 33 [.acc 0 2 (S.map encE), iI d, iL l] [(0, .row 57 2)] 1 1 (fun t obs => t = .acc 0 2 ((layF S d l).map encE) ∧ obs = [(0, .row 57 2)]) := by
  refine PC.body [6] Try.func33 rfl (by rfl) (Nat.le_of_ble_eq_true (by rfl)) rfl ?_; simp only [enumA]
  ((repeat refine PWp.seq ?_); refine PWp.region TT (by rfl) (fun K hK => ?_); simp only [push_cast, seval, Nat.reduceEqDiff, Nat.reduceLeDiff, reduceCtorEq]; (repeat refine sk ?_); refine hK _ ?_; clear hK K)
  by_cases hn : l = []
  · subst hn
    rw [layF_no]
    ((repeat refine PWp.seq ?_); refine PWp.region TT (by rfl) (fun K hK => ?_); simp only [push_cast, seval, Nat.reduceEqDiff, Nat.reduceLeDiff, reduceCtorEq]; (repeat refine sk ?_); refine hK _ ?_; clear hK K)
    ((repeat refine PWp.seq ?_); refine PWp.cond (by simp only [push_cast, seval, Nat.reduceEqDiff, Nat.reduceLeDiff, reduceCtorEq]; rfl) (fun hc => ?_) (fun hc => ?_))
    · ((repeat refine PWp.seq ?_); refine PWp.region TT (by rfl) (fun K hK => ?_); simp only [push_cast, seval, Nat.reduceEqDiff, Nat.reduceLeDiff, reduceCtorEq]; (repeat refine sk ?_); refine hK _ ?_; clear hK K)
      ((repeat refine PWp.seq ?_); refine PWp.ret ?_)
      refine ⟨.inr rfl, by omega, _, _, ?_, rfl, rfl⟩
      (simp [push_cast, -List.getD_eq_getElem?_getD])
    · cases hc
  · have hlen : ((l.length : Int) == 0) = false := beq_eq_false_iff_ne.2 (by have := List.length_pos_iff.2 hn; omega)
    rw [layF_yes hn]
    ((repeat refine PWp.seq ?_); refine PWp.region TT (by rfl) (fun K hK => ?_); simp only [push_cast, seval, Nat.reduceEqDiff, Nat.reduceLeDiff, reduceCtorEq, hlen]; (repeat refine sk ?_); refine hK _ ?_; clear hK K)
    ((repeat refine PWp.seq ?_); refine PWp.cond (by simp only [push_cast, seval, Nat.reduceEqDiff, Nat.reduceLeDiff, reduceCtorEq]; rfl) (fun hc => ?_) (fun hc => ?_))
    · cases hc
    ((repeat refine PWp.seq ?_); refine PWp.skip ?_)
    ((repeat refine PWp.seq ?_); refine PWp.region TT (by rfl) (fun K hK => ?_); simp only [push_cast, seval, Nat.reduceEqDiff, Nat.reduceLeDiff, reduceCtorEq, lensLn l]; (repeat refine sk ?_); refine hK _ ?_; clear hK K)
    ((repeat refine PWp.seq ?_); refine PWp.ret ?_)
    refine ⟨.inr rfl, by omega, _, _, ?_, rfl, rfl⟩
    (simp [push_cast, -List.getD_eq_getElem?_getD])
def rO : List (Nat × Ob) := [(0, .row 57 2), (1, .row 47 2), (2, .row 47 2), (3, .row 47 2)]
attribute [push_cast] rO
def rSt (s : List Ed) (r : RS) (k : Nat) : St :=
  ⟨[(0, iE s), (5, .acc 0 2 (r.o.map encE)), (6, .acc 1 2 (r.k.map encL)), (7, .acc 2 2 (r.g.map encL)), (8, .acc 3 2 (r.m.map encL)), (9, iI k)], rO, 4⟩
attribute [push_cast] rSt
set_option maxHeartbeats 4000000 in
theorem ref08_Normal (s : List Ed) (hs : bigE s) : PC Try.prog 25 [iE s] [] 0 60 (fun t obs => t = .tup [iE (norL s), iI (chkE s)] ∧ obs = []) := by
  refine PC.body [2, 3] Try.func25 rfl (by rfl) (Nat.le_of_ble_eq_true (by rfl)) rfl ?_; simp only [enumA]
  ((repeat refine PWp.seq ?_); refine PWp.region TT (by rfl) (fun K hK => ?_); simp only [push_cast, seval, Nat.reduceEqDiff, Nat.reduceLeDiff, reduceCtorEq]; (repeat refine sk ?_); refine hK _ ?_; clear hK K)
  ((repeat refine PWp.seq ?_); refine PWp.region TT (by rfl) (fun K hK => ?_); simp only [push_cast, seval, Nat.reduceEqDiff, Nat.reduceLeDiff, reduceCtorEq])
  ((repeat refine sk ?_); refine PCall.use (ref08_Check s hs) [] rfl (by simp [push_cast]) (by simp) (by simp [push_cast]) (by simp [push_cast]) (by simp [push_cast]) (by simp [push_cast]) ?_)
  rintro _ _ ⟨rfl, rfl⟩
  (simp only [push_cast, seval, Nat.reduceEqDiff, Nat.reduceLeDiff, reduceCtorEq]; (repeat refine sk ?_); refine hK _ ?_; clear hK K)
  by_cases h : chkE s = 0
  case neg =>
    have hb : (chkE s != 0) = true := bne_iff_ne.2 h
    have hn : norL s = [] := if_neg h
    ((repeat refine PWp.seq ?_); refine PWp.region TT (by rfl) (fun K hK => ?_); simp only [push_cast, seval, Nat.reduceEqDiff, Nat.reduceLeDiff, reduceCtorEq, hb]; (repeat refine sk ?_); refine hK _ ?_; clear hK K)
    ((repeat refine PWp.seq ?_); refine PWp.cond (by simp only [push_cast, seval, Nat.reduceEqDiff, Nat.reduceLeDiff, reduceCtorEq]; rfl) (fun hc => ?_) (fun hc => ?_))
    · ((repeat refine PWp.seq ?_); refine PWp.region TT (by rfl) (fun K hK => ?_); simp only [push_cast, seval, Nat.reduceEqDiff, Nat.reduceLeDiff, reduceCtorEq]; (repeat refine sk ?_); refine hK _ ?_; clear hK K)
      ((repeat refine PWp.seq ?_); refine PWp.ret ?_)
      refine ⟨.inr rfl, by omega, _, [], ?_, rfl, rfl⟩
      rw [hn]
      (simp [push_cast, -List.getD_eq_getElem?_getD])
    · cases hc
  obtain ⟨c1, c2, c3⟩ := chk_zero h
  have hb : (chkE s != 0) = false := by rw [h]; rfl
  have hnor : norL s = normF s := if_pos h
  rw [normF_eq c3] at hnor
  ((repeat refine PWp.seq ?_); refine PWp.region TT (by rfl) (fun K hK => ?_); simp only [push_cast, seval, Nat.reduceEqDiff, Nat.reduceLeDiff, reduceCtorEq, hb]; (repeat refine sk ?_); refine hK _ ?_; clear hK K)
  ((repeat refine PWp.seq ?_); refine PWp.cond (by simp only [push_cast, seval, Nat.reduceEqDiff, Nat.reduceLeDiff, reduceCtorEq]; rfl) (fun hc => ?_) (fun hc => ?_))
  · cases hc
  clear hc
  ((repeat refine PWp.seq ?_); refine PWp.skip ?_)
  ((repeat refine PWp.seq ?_); refine PWp.region TT (by rfl) (fun K hK => ?_); simp only [push_cast, seval, Nat.reduceEqDiff, Nat.reduceLeDiff, reduceCtorEq]; (repeat refine sk ?_); refine hK _ ?_; clear hK K)
  ((repeat refine PWp.seq ?_); refine PWp.region TT (by rfl) (fun K hK => ?_); simp only [push_cast, seval, Nat.reduceEqDiff, Nat.reduceLeDiff, reduceCtorEq]; (repeat refine sk ?_); refine hK _ ?_; clear hK K)
  ((repeat refine PWp.seq ?_); refine PWp.region TT (by rfl) (fun K hK => ?_); simp only [push_cast, seval, Nat.reduceEqDiff, Nat.reduceLeDiff, reduceCtorEq]; (repeat refine sk ?_); refine hK _ ?_; clear hK K)
  ((repeat refine PWp.seq ?_); refine PWp.region TT (by rfl) (fun K hK => ?_); simp only [push_cast, seval, Nat.reduceEqDiff, Nat.reduceLeDiff, reduceCtorEq]; (repeat refine sk ?_); refine hK _ ?_; clear hK K)
  ((repeat refine PWp.seq ?_); refine PWp.region TT (by rfl) (fun K hK => ?_); simp only [push_cast, seval, Nat.reduceEqDiff, Nat.reduceLeDiff, reduceCtorEq]; (repeat refine sk ?_); refine hK _ ?_; clear hK K)
  refine PWp.gh (st' := rSt s (rF s 0) 0) (Gh.le (by simp [push_cast, -List.getD_eq_getElem?_getD, rF]) (by simp)) ?_
  ((repeat refine PWp.seq ?_); refine PWp.block ?_)
  refine PWp.loop (fun c st => ∃ k : Nat, c = s.length - k ∧ k ≤ s.length ∧ st = rSt s (rF s k) k) _ _ ⟨0, rfl, Nat.zero_le _, rfl⟩ (Gh.refl _ _) ?_
  rintro c st ⟨k, rfl, hk, rfl⟩
  ((repeat refine PWp.seq ?_); refine PWp.region TT (by rfl) (fun K hK => ?_); simp only [push_cast, seval, Nat.reduceEqDiff, Nat.reduceLeDiff, reduceCtorEq]; (repeat refine sk ?_); refine hK _ ?_; clear hK K)
  ((repeat refine PWp.seq ?_); refine PWp.cond (by simp only [push_cast, seval, Nat.reduceEqDiff, Nat.reduceLeDiff, reduceCtorEq]; rfl) (fun hc => ?_) (fun hc => ?_))
  · have hlt : k < s.length := by have := of_decide_eq_true hc; omega
    clear hc
    have hg : (s.map encE).getD k .any = encE (s.getD k default) := getD_map hlt
    have hok : okD (s.getD k default) = true := List.all_eq_true.1 c3 _ (getD_mem hlt)
    have hb0 := rF_b c3 k hk
    have h1 := totL_succ hlt
    have h3 := totL_le s (k + 1)
    have hstep := rF_succ hlt
    generalize s.getD k default = x at *
    generalize rF s k = r at *
    have hsub := layR_b r
    have hjoin : stepR r x = putR (if cutR r x then ⟨layR r, [], [], []⟩ else r) x := rfl
    have hqb : (if cutR r x then (⟨layR r, [], [], []⟩ : RS) else r).o.length ≤ 100000 ∧ totL (if cutR r x then (⟨layR r, [], [], []⟩ : RS) else r).o + (if cutR r x then (⟨layR r, [], [], []⟩ : RS) else r).k.length + (if cutR r x then (⟨layR r, [], [], []⟩ : RS) else r).g.length + (if cutR r x then (⟨layR r, [], [], []⟩ : RS) else r).m.length ≤ 800 := by
      split
      · simp only [List.length_nil]
        omega
      · omega
    ((repeat refine PWp.seq ?_); refine PWp.skip ?_)
    ((repeat refine PWp.seq ?_); refine PWp.block ?_)
    refine PJoin (rSt s (if cutR r x then ⟨layR r, [], [], []⟩ else r) k) ?_ ?_
    · have hcond : ((x.d == 1) && decide ((x.l.length : Int) > 0) && decide ((r.g.length : Int) + r.m.length > 0)) = cutR r x := by
        unfold cutR
        have e1 : (x.d == 1) = decide (x.d = 1) := rfl
        have e2 : decide ((x.l.length : Int) > 0) = decide (x.l ≠ []) := by
          rw [decide_eq_decide]
          rw [ne_eq, ← List.length_eq_zero_iff]
          omega
        have e3 : decide ((r.g.length : Int) + r.m.length > 0) = decide (0 < r.g.length + r.m.length) := by
          rw [decide_eq_decide]
          omega
        rw [e1, e2, e3]
      have w1 := wrap64_id (n := (r.g.length : Int) + r.m.length) (by omega) (by omega)
      ((repeat refine PWp.seq ?_); refine PWp.region TT (by rfl) (fun K hK => ?_); simp only [push_cast, seval, Nat.reduceEqDiff, Nat.reduceLeDiff, reduceCtorEq, hg, w1]; (repeat refine sk ?_); refine hK _ ?_; clear hK K)
      ((repeat refine PWp.seq ?_); refine PWp.cond (by simp only [push_cast, seval, Nat.reduceEqDiff, Nat.reduceLeDiff, reduceCtorEq]; rfl) (fun hc => ?_) (fun hc => ?_))
      · rw [hcond] at hc
        rw [if_pos hc]
        have t1 := layF_len r.o 1 r.k
        have t2 := layF_len (layF r.o 1 r.k) 2 r.g
        clear hcond hqb
        ((repeat refine PWp.seq ?_); refine PWp.region TT (by rfl) (fun K hK => ?_); simp only [push_cast, seval, Nat.reduceEqDiff, Nat.reduceLeDiff, reduceCtorEq])
        ((repeat refine sk ?_); refine PCall.use (ref08_lay r.o 1 r.k (by omega) (by omega)) [0] rfl (by simp [push_cast]) (by simp) (by simp [push_cast]) (by simp [push_cast]) (by simp [push_cast]) (by simp [push_cast]) ?_)
        rintro _ _ ⟨rfl, rfl⟩
        (simp only [push_cast, seval, Nat.reduceEqDiff, Nat.reduceLeDiff, reduceCtorEq])
        ((repeat refine sk ?_); refine PCall.use (ref08_lay (layF r.o 1 r.k) 2 r.g (by omega) (by omega)) [0] rfl (by simp [push_cast]) (by simp) (by simp [push_cast]) (by simp [push_cast]) (by simp [push_cast]) (by simp [push_cast]) ?_)
        rintro _ _ ⟨rfl, rfl⟩
        (simp only [push_cast, seval, Nat.reduceEqDiff, Nat.reduceLeDiff, reduceCtorEq])
        ((repeat refine sk ?_); refine PCall.use (ref08_lay (layF (layF r.o 1 r.k) 2 r.g) 3 r.m (by omega) (by omega)) [0] rfl (by simp [push_cast]) (by simp) (by simp [push_cast]) (by simp [push_cast]) (by simp [push_cast]) (by simp [push_cast]) ?_)
        rintro _ _ ⟨rfl, rfl⟩
        (simp only [push_cast, seval, Nat.reduceEqDiff, Nat.reduceLeDiff, reduceCtorEq]; (repeat refine sk ?_); refine hK _ ?_; clear hK K)
        ((repeat refine PWp.seq ?_); refine PWp.region TT (by rfl) (fun K hK => ?_); simp only [push_cast, seval, Nat.reduceEqDiff, Nat.reduceLeDiff, reduceCtorEq]; (repeat refine sk ?_); refine hK _ ?_; clear hK K)
        ((repeat refine PWp.seq ?_); refine PWp.region TT (by rfl) (fun K hK => ?_); simp only [push_cast, seval, Nat.reduceEqDiff, Nat.reduceLeDiff, reduceCtorEq]; (repeat refine sk ?_); refine hK _ ?_; clear hK K)
        ((repeat refine PWp.seq ?_); refine PWp.region TT (by rfl) (fun K hK => ?_); simp only [push_cast, seval, Nat.reduceEqDiff, Nat.reduceLeDiff, reduceCtorEq]; (repeat refine sk ?_); refine hK _ ?_; clear hK K)
        refine ⟨rfl, Gh.trans (Gh.row 6 47 2 (by rfl)) (Gh.trans (Gh.row 7 47 2 (by rfl)) (Gh.trans (Gh.row 8 47 2 (by rfl)) ?_))⟩
        exact Gh.leR [0, 4, 5, 6] (by simp [push_cast, -List.getD_eq_getElem?_getD, layR]; try decide)
      · rw [hcond] at hc
        rw [if_neg (by rw [hc]; decide)]
        ((repeat refine PWp.seq ?_); refine PWp.skip ?_)
        exact ⟨rfl, Gh.le (by simp [push_cast, -List.getD_eq_getElem?_getD]) (by simp)⟩
    generalize (if cutR r x then (⟨layR r, [], [], []⟩ : RS) else r) = q at *
    obtain ⟨q1, q2⟩ := hqb
    have hd : x.d = 1 ∨ x.d = 2 ∨ x.d = 3 := by
      unfold okD at hok
      simp only [Bool.or_eq_true, Bool.and_eq_true, Bool.not_eq_true', Bool.not_eq_false', Bool.or_eq_false_iff, Bool.and_eq_false_iff, decide_eq_true_eq, decide_eq_false_iff_not, beq_iff_eq, beq_eq_false_iff_ne, bne_iff_ne, bne_eq_false_iff_eq, ne_eq, Classical.not_not, Int.not_lt, Int.not_le, ge_iff_le, gt_iff_lt] at hok
      omega
    rw [hjoin] at hstep
    ((repeat refine PWp.seq ?_); refine PWp.region TT (by rfl) (fun K hK => ?_); simp only [push_cast, seval, Nat.reduceEqDiff, Nat.reduceLeDiff, reduceCtorEq, hg]; (repeat refine sk ?_); refine hK _ ?_; clear hK K)
    ((repeat refine PWp.seq ?_); refine PWp.block ?_)
    rcases hd with hd | hd | hd
    · have e1 : putR q x = { q with k := q.k ++ x.l } := if_pos hd
      rw [e1] at hstep
      ((repeat refine PWp.seq ?_); refine PWp.region TT (by rfl) (fun K hK => ?_); simp only [push_cast, seval, Nat.reduceEqDiff, Nat.reduceLeDiff, reduceCtorEq, hd]; (repeat refine sk ?_); refine hK _ ?_; clear hK K)
      ((repeat refine PWp.seq ?_); refine PWp.cond (by simp only [push_cast, seval, Nat.reduceEqDiff, Nat.reduceLeDiff, reduceCtorEq]; rfl) (fun hc => ?_) (fun hc => ?_))
      · ((repeat refine PWp.seq ?_); refine PWp.region TT (by rfl) (fun K hK => ?_); simp only [push_cast, seval, Nat.reduceEqDiff, Nat.reduceLeDiff, reduceCtorEq, hg, lensLn x.l]; (repeat refine sk ?_); refine hK _ ?_; clear hK K)
        ((repeat refine PWp.seq ?_); refine PWp.region TT (by rfl) (fun K hK => ?_); simp only [push_cast, seval, Nat.reduceEqDiff, Nat.reduceLeDiff, reduceCtorEq, wrap64_id (n := (k : Int) + 1) (by omega) (by omega)]; (repeat refine sk ?_); refine hK _ ?_; clear hK K)
        refine ⟨_, _, ?_, ⟨k + 1, rfl, by omega, rfl⟩, Gh.le (by simp [push_cast, -List.getD_eq_getElem?_getD, hstep]) (by simp)⟩
        omega
      · cases hc
    · have e1 : putR q x = { q with g := q.g ++ x.l } := by
        unfold putR
        rw [if_neg (by omega), if_pos hd]
      rw [e1] at hstep
      ((repeat refine PWp.seq ?_); refine PWp.region TT (by rfl) (fun K hK => ?_); simp only [push_cast, seval, Nat.reduceEqDiff, Nat.reduceLeDiff, reduceCtorEq, hd]; (repeat refine sk ?_); refine hK _ ?_; clear hK K)
      ((repeat refine PWp.seq ?_); refine PWp.cond (by simp only [push_cast, seval, Nat.reduceEqDiff, Nat.reduceLeDiff, reduceCtorEq]; rfl) (fun hc => ?_) (fun hc => ?_))
      · cases hc
      ((repeat refine PWp.seq ?_); refine PWp.region TT (by rfl) (fun K hK => ?_); simp only [push_cast, seval, Nat.reduceEqDiff, Nat.reduceLeDiff, reduceCtorEq, hd]; (repeat refine sk ?_); refine hK _ ?_; clear hK K)
      ((repeat refine PWp.seq ?_); refine PWp.cond (by simp only [push_cast, seval, Nat.reduceEqDiff, Nat.reduceLeDiff, reduceCtorEq]; rfl) (fun hc => ?_) (fun hc => ?_))
      · ((repeat refine PWp.seq ?_); refine PWp.region TT (by rfl) (fun K hK => ?_); simp only [push_cast, seval, Nat.reduceEqDiff, Nat.reduceLeDiff, reduceCtorEq, hg, lensLn x.l]; (repeat refine sk ?_); refine hK _ ?_; clear hK K)
        ((repeat refine PWp.seq ?_); refine PWp.region TT (by rfl) (fun K hK => ?_); simp only [push_cast, seval, Nat.reduceEqDiff, Nat.reduceLeDiff, reduceCtorEq, wrap64_id (n := (k : Int) + 1) (by omega) (by omega)]; (repeat refine sk ?_); refine hK _ ?_; clear hK K)
        refine ⟨_, _, ?_, ⟨k + 1, rfl, by omega, rfl⟩, Gh.le (by simp [push_cast, -List.getD_eq_getElem?_getD, hstep]) (by simp)⟩
        omega
      · cases hc
    · have e1 : putR q x = { q with m := q.m ++ x.l } := by
        unfold putR
        rw [if_neg (by omega), if_neg (by omega), if_pos hd]
      rw [e1] at hstep
      ((repeat refine PWp.seq ?_); refine PWp.region TT (by rfl) (fun K hK => ?_); simp only [push_cast, seval, Nat.reduceEqDiff, Nat.reduceLeDiff, reduceCtorEq, hd]; (repeat refine sk ?_); refine hK _ ?_; clear hK K)
      ((repeat refine PWp.seq ?_); refine PWp.cond (by simp only [push_cast, seval, Nat.reduceEqDiff, Nat.reduceLeDiff, reduceCtorEq]; rfl) (fun hc => ?_) (fun hc => ?_))
      · cases hc
      ((repeat refine PWp.seq ?_); refine PWp.region TT (by rfl) (fun K hK => ?_); simp only [push_cast, seval, Nat.reduceEqDiff, Nat.reduceLeDiff, reduceCtorEq, hd]; (repeat refine sk ?_); refine hK _ ?_; clear hK K)
      ((repeat refine PWp.seq ?_); refine PWp.cond (by simp only [push_cast, seval, Nat.reduceEqDiff, Nat.reduceLeDiff, reduceCtorEq]; rfl) (fun hc => ?_) (fun hc => ?_))
      · cases hc
      ((repeat refine PWp.seq ?_); refine PWp.region TT (by rfl) (fun K hK => ?_); simp only [push_cast, seval, Nat.reduceEqDiff, Nat.reduceLeDiff, reduceCtorEq, hd]; (repeat refine sk ?_); refine hK _ ?_; clear hK K)
      ((repeat refine PWp.seq ?_); refine PWp.cond (by simp only [push_cast, seval, Nat.reduceEqDiff, Nat.reduceLeDiff, reduceCtorEq]; rfl) (fun hc => ?_) (fun hc => ?_))
      · ((repeat refine PWp.seq ?_); refine PWp.region TT (by rfl) (fun K hK => ?_); simp only [push_cast, seval, Nat.reduceEqDiff, Nat.reduceLeDiff, reduceCtorEq, hg, lensLn x.l]; (repeat refine sk ?_); refine hK _ ?_; clear hK K)
        ((repeat refine PWp.seq ?_); refine PWp.region TT (by rfl) (fun K hK => ?_); simp only [push_cast, seval, Nat.reduceEqDiff, Nat.reduceLeDiff, reduceCtorEq, wrap64_id (n := (k : Int) + 1) (by omega) (by omega)]; (repeat refine sk ?_); refine hK _ ?_; clear hK K)
        refine ⟨_, _, ?_, ⟨k + 1, rfl, by omega, rfl⟩, Gh.le (by simp [push_cast, -List.getD_eq_getElem?_getD, hstep]) (by simp)⟩
        omega
      · cases hc
  · have hk' : k = s.length := by have := of_decide_eq_false hc; omega
    subst hk'
    clear hc
    have hb0 := rF_b c3 s.length hk
    rw [List.take_length] at hb0
    rw [hnor]
    generalize rF s s.length = r at *
    have t1 := layF_len r.o 1 r.k
    have t2 := layF_len (layF r.o 1 r.k) 2 r.g
    (repeat refine PWp.seq ?_); refine PWp.exit (iteT rfl ?_)
    ((repeat refine PWp.seq ?_); refine PWp.region TT (by rfl) (fun K hK => ?_); simp only [push_cast, seval, Nat.reduceEqDiff, Nat.reduceLeDiff, reduceCtorEq])
    ((repeat refine sk ?_); refine PCall.use (ref08_lay r.o 1 r.k (by omega) (by omega)) [0] rfl (by simp [push_cast]) (by simp) (by simp [push_cast]) (by simp [push_cast]) (by simp [push_cast]) (by simp [push_cast]) ?_)
    rintro _ _ ⟨rfl, rfl⟩
    (simp only [push_cast, seval, Nat.reduceEqDiff, Nat.reduceLeDiff, reduceCtorEq])
    ((repeat refine sk ?_); refine PCall.use (ref08_lay (layF r.o 1 r.k) 2 r.g (by omega) (by omega)) [0] rfl (by simp [push_cast]) (by simp) (by simp [push_cast]) (by simp [push_cast]) (by simp [push_cast]) (by simp [push_cast]) ?_)
    rintro _ _ ⟨rfl, rfl⟩
    (simp only [push_cast, seval, Nat.reduceEqDiff, Nat.reduceLeDiff, reduceCtorEq])
    ((repeat refine sk ?_); refine PCall.use (ref08_lay (layF (layF r.o 1 r.k) 2 r.g) 3 r.m (by omega) (by omega)) [0] rfl (by simp [push_cast]) (by simp) (by simp [push_cast]) (by simp [push_cast]) (by simp [push_cast]) (by simp [push_cast]) ?_)
    rintro _ _ ⟨rfl, rfl⟩
    (simp only [push_cast, seval, Nat.reduceEqDiff, Nat.reduceLeDiff, reduceCtorEq]; (repeat refine sk ?_); refine hK _ ?_; clear hK K)
    ((repeat refine PWp.seq ?_); refine PWp.ret ?_)
    refine ⟨.inr rfl, by omega, _, [], ?_, rfl, rfl⟩
    rw [h]
    (simp [push_cast, -List.getD_eq_getElem?_getD, layR])
end Go.Proofs.Ytjajefphfhdfkaa
namespace Go.Proofs.Ytjajefphfhdfkaa
open Go.PL
set_option maxRecDepth 100000
set_option linter.unusedSimpArgs false
set_option linter.unusedVariables false
/-! ### Both sides -/
def sA : List Ed → List Ln
  | [] => []
  | e :: s => (if e.d ≠ 3 then e.l else []) ++ sA s
def sB : List Ed → List Ln
  | [] => []
  | e :: s => (if e.d ≠ 2 then e.l else []) ++ sB s
theorem sA_append (s r : List Ed) : sA (s ++ r) = sA s ++ sA r := by
  induction s with
  | nil => rfl
  | cons e s ih => simp only [List.cons_append, sA, ih, List.append_assoc]
theorem sB_append (s r : List Ed) : sB (s ++ r) = sB s ++ sB r := by
  induction s with
  | nil => rfl
  | cons e s ih => simp only [List.cons_append, sB, ih, List.append_assoc]
theorem sA_lay (S : List Ed) (d : Int) (l : List Ln) : sA (layF S d l) = sA S ++ (if d ≠ 3 then l else []) := by
  by_cases h : l = []
  · subst h; rw [layF_no]; simp
  · rw [layF_yes h, sA_append]; simp [sA]
theorem sB_lay (S : List Ed) (d : Int) (l : List Ln) : sB (layF S d l) = sB S ++ (if d ≠ 2 then l else []) := by
  by_cases h : l = []
  · subst h; rw [layF_no]; simp
  · rw [layF_yes h, sB_append]; simp [sB]
theorem sA_layR (r : RS) : sA (layR r) = sA r.o ++ r.k ++ r.g := by
  unfold layR
  rw [sA_lay, sA_lay, sA_lay]
  simp
theorem sB_layR (r : RS) : sB (layR r) = sB r.o ++ r.k ++ r.m := by
  unfold layR
  rw [sB_lay, sB_lay, sB_lay]
  simp
theorem stepR_sides (r : RS) (x : Ed) (hx : okD x = true) : sA (layR (stepR r x)) = sA (layR r) ++ (if x.d ≠ 3 then x.l else []) ∧ sB (layR (stepR r x)) = sB (layR r) ++ (if x.d ≠ 2 then x.l else []) := by
  have hd : x.d = 1 ∨ x.d = 2 ∨ x.d = 3 := by
    unfold okD at hx
    simp only [Bool.and_eq_true, decide_eq_true_eq] at hx
    omega
  unfold stepR
  by_cases hc : cutR r x = true
  · rw [if_pos hc]
    have h1 : x.d = 1 := by
      unfold cutR at hc
      simp only [Bool.and_eq_true, decide_eq_true_eq] at hc
      exact hc.1.1
    have e1 : putR ⟨layR r, [], [], []⟩ x = ⟨layR r, [] ++ x.l, [], []⟩ := if_pos h1
    rw [e1, sA_layR, sB_layR, if_pos (by omega), if_pos (by omega)]
    simp
  · rw [if_neg hc]
    rcases hd with hd | hd | hd
    · have e1 : putR r x = { r with k := r.k ++ x.l } := if_pos hd
      rw [e1, sA_layR, sB_layR, sA_layR, sB_layR, if_pos (by omega), if_pos (by omega)]
      by_cases hn : x.l = []
      · simp [hn]
      · have h2 : ¬ 0 < r.g.length + r.m.length := fun h => hc (by unfold cutR; rw [decide_eq_true hd, decide_eq_true hn, decide_eq_true h]; rfl)
        have hg : r.g = [] := List.eq_nil_of_length_eq_zero (by omega)
        have hm : r.m = [] := List.eq_nil_of_length_eq_zero (by omega)
        simp [hg, hm]
    · have e1 : putR r x = { r with g := r.g ++ x.l } := by
        unfold putR
        rw [if_neg (by omega), if_pos hd]
      rw [e1, sA_layR, sB_layR, sA_layR, sB_layR, if_pos (by omega), if_neg (by omega)]
      simp
    · have e1 : putR r x = { r with m := r.m ++ x.l } := by
        unfold putR
        rw [if_neg (by omega), if_neg (by omega), if_pos hd]
      rw [e1, sA_layR, sB_layR, sA_layR, sB_layR, if_neg (by omega), if_pos (by omega)]
      simp
theorem rF_sides {s : List Ed} (h : s.all okD = true) : ∀ k, k ≤ s.length → sA (layR (rF s k)) = sA (s.take k) ∧ sB (layR (rF s k)) = sB (s.take k)
  | 0, _ => ⟨rfl, rfl⟩
  | k + 1, hk => by
    obtain ⟨h1, h2⟩ := rF_sides h k (by omega)
    obtain ⟨h3, h4⟩ := stepR_sides (rF s k) (s.getD k default) (List.all_eq_true.1 h _ (getD_mem (by omega)))
    rw [rF_succ (by omega), h3, h4, h1, h2, take_succ_getD (by omega), sA_append, sB_append]
    simp [sA, sB]
theorem norm_sides {s : List Ed} (h : chkE s = 0) : sA (norL s) = sA s ∧ sB (norL s) = sB s ∧ totL (norL s) = totL s := by
  obtain ⟨c1, c2, c3⟩ := chk_zero h
  have hn : norL s = normF s := if_pos h
  obtain ⟨h1, h2⟩ := rF_sides c3 s.length (Nat.le_refl _)
  have h3 := (rF_b c3 s.length (Nat.le_refl _)).2
  have h4 := (layR_b (rF s s.length)).2
  rw [List.take_length] at h1 h2 h3
  rw [hn, normF_eq c3]
  exact ⟨h1, h2, by omega⟩
theorem sA_len (s : List Ed) : (sA s).length ≤ totL s := by
  induction s with
  | nil => simp [sA, totL]
  | cons e s ih =>
    simp only [sA, totL, List.length_append]
    split <;> simp <;> omega
theorem sB_len (s : List Ed) : (sB s).length ≤ totL s := by
  induction s with
  | nil => simp [sB, totL]
  | cons e s ih =>
    simp only [sB, totL, List.length_append]
    split <;> simp <;> omega
/-! ### The form -/
/-- Each edit has lines; between lines that stay each kind comes at most once. -/
def nf : Bool → Bool → List Ed → Bool
  | _, _, [] => true
  | ho, hi, e :: r => decide (e.l ≠ []) && (if e.d = 1 then nf false false r else if e.d = 2 then !ho && nf true hi r else decide (e.d = 3) && !hi && nf ho true r)
/-- The state behind a prefix. -/
def nfS : Option (Bool × Bool) → List Ed → Option (Bool × Bool)
  | p, [] => p
  | p, e :: r => nfS (p.bind fun p => if e.l = [] then none else if e.d = 1 then some (false, false) else if e.d = 2 then (if p.1 then none else some (true, p.2)) else if e.d = 3 then (if p.2 then none else some (p.1, true)) else none) r
theorem nfS_none : ∀ s, nfS none s = none
  | [] => rfl
  | _ :: s => nfS_none s
theorem nfS_append (s r : List Ed) : ∀ p, nfS p (s ++ r) = nfS (nfS p s) r := by
  induction s with
  | nil => intro p; rfl
  | cons e s ih => intro p; simp only [List.cons_append, nfS, ih]
theorem nf_iff : ∀ (s : List Ed) (ho hi : Bool), nf ho hi s = (nfS (some (ho, hi)) s).isSome
  | [], _, _ => rfl
  | e :: s, ho, hi => by
    simp only [nf, nfS, Option.bind_some]
    by_cases hl : e.l = []
    · rw [if_pos hl, nfS_none]; simp [hl]
    · rw [if_neg hl]
      by_cases h1 : e.d = 1
      · rw [if_pos h1, if_pos h1, ← nf_iff s]; simp [hl]
      · rw [if_neg h1, if_neg h1]
        by_cases h2 : e.d = 2
        · rw [if_pos h2, if_pos h2]
          cases ho
          · rw [if_neg (by decide), ← nf_iff s]; simp [hl]
          · rw [if_pos rfl, nfS_none]; simp
        · rw [if_neg h2, if_neg h2]
          by_cases h3 : e.d = 3
          · rw [if_pos h3]
            cases hi
            · rw [if_neg (by decide), ← nf_iff s]; simp [hl, h3]
            · rw [if_pos rfl, nfS_none]; simp
          · rw [if_neg h3, nfS_none]; simp [h3]
theorem nfS_lay1 {S : List Ed} {l : List Ln} {p : Bool × Bool} (h : nfS (some (false, false)) S = some p) (hl : l ≠ []) : nfS (some (false, false)) (layF S 1 l) = some (false, false) := by
  rw [layF_yes hl, nfS_append, h]
  simp [nfS, hl]
theorem nfS_lay2 {S : List Ed} {l : List Ln} (h : nfS (some (false, false)) S = some (false, false)) : ∃ b, nfS (some (false, false)) (layF S 2 l) = some (b, false) := by
  by_cases hl : l = []
  · exact ⟨false, by rw [hl, layF_no, h]⟩
  · refine ⟨true, ?_⟩
    rw [layF_yes hl, nfS_append, h]
    simp [nfS, hl]
theorem nfS_lay3 {S : List Ed} {l : List Ln} {b : Bool} (h : nfS (some (false, false)) S = some (b, false)) : ∃ p, nfS (some (false, false)) (layF S 3 l) = some p := by
  by_cases hl : l = []
  · exact ⟨_, by rw [hl, layF_no, h]⟩
  · refine ⟨(b, true), ?_⟩
    rw [layF_yes hl, nfS_append, h]
    simp [nfS, hl]
theorem nfS_layR {r : RS} {p : Bool × Bool} (h : nfS (some (false, false)) r.o = some p) (hk : r.o = [] ∨ r.k ≠ []) : ∃ p, nfS (some (false, false)) (layR r) = some p := by
  have h1 : nfS (some (false, false)) (layF r.o 1 r.k) = some (false, false) := by
    by_cases hn : r.k = []
    · rcases hk with hk | hk
      · rw [hn, layF_no, hk]; rfl
      · exact absurd hn hk
    · exact nfS_lay1 h hn
  obtain ⟨b, h2⟩ := nfS_lay2 (l := r.g) h1
  exact nfS_lay3 h2
theorem putR_o (r : RS) (x : Ed) : (putR r x).o = r.o := by
  unfold putR
  split
  · rfl
  · split
    · rfl
    · split <;> rfl
theorem rF_nf {s : List Ed} (h : s.all okD = true) : ∀ k, k ≤ s.length → ∃ p, nfS (some (false, false)) (rF s k).o = some p
  | 0, _ => ⟨_, rfl⟩
  | k + 1, hk => by
    obtain ⟨p, hp⟩ := rF_nf h k (by omega)
    have h2 := (rF_eq h k (by omega)).2
    rw [rF_succ (by omega)]
    unfold stepR
    rw [putR_o]
    split
    · exact nfS_layR hp h2
    · exact ⟨p, hp⟩
theorem norm_nf (s : List Ed) : nf false false (norL s) = true := by
  by_cases h : chkE s = 0
  · obtain ⟨c1, c2, c3⟩ := chk_zero h
    have hn : norL s = normF s := if_pos h
    obtain ⟨p, hp⟩ := rF_nf c3 s.length (Nat.le_refl _)
    obtain ⟨q, hq⟩ := nfS_layR hp (rF_eq c3 s.length (Nat.le_refl _)).2
    rw [hn, normF_eq c3, nf_iff, hq]
    rfl
  · have hn : norL s = [] := if_neg h
    rw [hn]
    rfl
end Go.Proofs.Ytjajefphfhdfkaa
