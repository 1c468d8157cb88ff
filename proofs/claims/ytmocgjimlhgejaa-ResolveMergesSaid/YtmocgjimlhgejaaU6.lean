/- Rows of lines and of regions: sameness; what is joined. -/
import Derived.Test.YtmocgjimlhgejaaU5
namespace Go.Proofs.Ytmocgjimlhgejaa
open Go.PL
set_option maxRecDepth 100000
set_option linter.unusedSimpArgs false
set_option linter.unusedVariables false
theorem lists_eq {α : Type} [Inhabited α] {a b : List α} (hl : a.length = b.length) (h : ∀ i < a.length, a.getD i default = b.getD i default) : a = b := by
  apply List.ext_getElem hl
  intro i h1 h2
  have := h i h1
  simpa [List.getD, h1, h2] using this
theorem lnEq {x y : Ln} (h : x.t = y.t ∧ x.b = y.b) : x = y := by
  cases x; cases y
  simp only at h
  rw [h.1, h.2]
theorem ref01_Same (a b : List Ln) (ha : a.length ≤ 400000000) : PC Try.prog 13 [iL a, iL b] [] 0 0 (fun t obs => t = iB (decide (a = b)) ∧ obs = []) := by
  refine PC.body [4] Try.func13 rfl (by rfl) (Nat.le_of_ble_eq_true (by rfl)) rfl ?_; simp only [enumA]
  ((repeat refine PWp.seq ?_); refine PWp.region TT (by rfl) (fun K hK => ?_); simp only [push_cast, seval, Nat.reduceEqDiff, Nat.reduceLeDiff, reduceCtorEq]; (repeat refine sk ?_); refine hK _ ?_; clear hK K)
  ((repeat refine PWp.seq ?_); refine PWp.region TT (by rfl) (fun K hK => ?_); simp only [push_cast, seval, Nat.reduceEqDiff, Nat.reduceLeDiff, reduceCtorEq]; (repeat refine sk ?_); refine hK _ ?_; clear hK K)
  ((repeat refine PWp.seq ?_); refine PWp.cond (by simp only [push_cast, seval, Nat.reduceEqDiff, Nat.reduceLeDiff, reduceCtorEq]; rfl) (fun hc => ?_) (fun hc => ?_))
  · have e : decide (a = b) = false := by
      simp only [Bool.or_eq_true, Bool.and_eq_true, Bool.not_eq_true', Bool.not_eq_false', Bool.or_eq_false_iff, Bool.and_eq_false_iff, decide_eq_true_eq, decide_eq_false_iff_not, beq_iff_eq, beq_eq_false_iff_ne, bne_iff_ne, bne_eq_false_iff_eq, ne_eq, Classical.not_not, Int.not_lt, Int.not_le, ge_iff_le, gt_iff_lt] at hc
      exact decide_eq_false (fun h => by subst h; exact hc rfl)
    ((repeat refine PWp.seq ?_); refine PWp.region TT (by rfl) (fun K hK => ?_); simp only [push_cast, seval, Nat.reduceEqDiff, Nat.reduceLeDiff, reduceCtorEq]; (repeat refine sk ?_); refine hK _ ?_; clear hK K)
    ((repeat refine PWp.seq ?_); refine PWp.ret ?_)
    refine ⟨.inr rfl, by omega, _, [], ?_, rfl, rfl⟩
    rw [e]
    (simp [push_cast, -List.getD_eq_getElem?_getD])
  · have hl : a.length = b.length := by
      simp only [Bool.or_eq_true, Bool.and_eq_true, Bool.not_eq_true', Bool.not_eq_false', Bool.or_eq_false_iff, Bool.and_eq_false_iff, decide_eq_true_eq, decide_eq_false_iff_not, beq_iff_eq, beq_eq_false_iff_ne, bne_iff_ne, bne_eq_false_iff_eq, ne_eq, Classical.not_not, Int.not_lt, Int.not_le, ge_iff_le, gt_iff_lt] at hc
      omega
    clear hc
    ((repeat refine PWp.seq ?_); refine PWp.skip ?_)
    ((repeat refine PWp.seq ?_); refine PWp.region TT (by rfl) (fun K hK => ?_); simp only [push_cast, seval, Nat.reduceEqDiff, Nat.reduceLeDiff, reduceCtorEq]; (repeat refine sk ?_); refine hK _ ?_; clear hK K)
    ((repeat refine PWp.seq ?_); refine PWp.block ?_)
    refine PWp.loop (fun c st => ∃ k : Nat, c = a.length - k ∧ k ≤ a.length ∧ (∀ i < k, a.getD i default = b.getD i default) ∧
      st = ⟨[(0, iL a), (1, iL b), (5, iI k)], [], 0⟩) _ _ ⟨0, rfl, Nat.zero_le _, by simp, rfl⟩ (Gh.le (by simp [push_cast, -List.getD_eq_getElem?_getD]) (by simp)) ?_
    rintro c st ⟨k, rfl, hk, hf, rfl⟩
    ((repeat refine PWp.seq ?_); refine PWp.region TT (by rfl) (fun K hK => ?_); simp only [push_cast, seval, Nat.reduceEqDiff, Nat.reduceLeDiff, reduceCtorEq]; (repeat refine sk ?_); refine hK _ ?_; clear hK K)
    ((repeat refine PWp.seq ?_); refine PWp.cond (by simp only [push_cast, seval, Nat.reduceEqDiff, Nat.reduceLeDiff, reduceCtorEq]; rfl) (fun hc => ?_) (fun hc => ?_))
    · have hlt : k < a.length := by simpa using hc
      clear hc
      ((repeat refine PWp.seq ?_); refine PWp.skip ?_)
      ((repeat refine PWp.seq ?_); refine PWp.block ?_)
      ((repeat refine PWp.seq ?_); refine PWp.draw TT (by kernel_rfl) (by kernel_rfl) (by rfl) (by rfl) (fun K hK => ?_); simp only [push_cast, seval, Nat.reduceEqDiff, Nat.reduceLeDiff, reduceCtorEq, getD_map hlt, getD_map (show k < b.length by omega)]; (repeat refine sk ?_); refine hK _ ?_; clear hK K)
      ((repeat refine PWp.seq ?_); refine PWp.cond (by simp only [push_cast, seval, Nat.reduceEqDiff, Nat.reduceLeDiff, reduceCtorEq]; rfl) (fun hc => ?_) (fun hc => ?_))
      · have e : decide (a = b) = false := decide_eq_false (fun h => by
          subst h
          simp at hc)
        ((repeat refine PWp.seq ?_); refine PWp.region TT (by rfl) (fun K hK => ?_); simp only [push_cast, seval, Nat.reduceEqDiff, Nat.reduceLeDiff, reduceCtorEq]; (repeat refine sk ?_); refine hK _ ?_; clear hK K)
        ((repeat refine PWp.seq ?_); refine PWp.ret ?_)
        refine ⟨.inr rfl, by omega, _, [], ?_, rfl, rfl⟩
        rw [e]
        (simp [push_cast, -List.getD_eq_getElem?_getD])
      · have he : a.getD k default = b.getD k default := lnEq (by simpa using hc)
        ((repeat refine PWp.seq ?_); refine PWp.skip ?_)
        ((repeat refine PWp.seq ?_); refine PWp.region TT (by rfl) (fun K hK => ?_); simp only [push_cast, seval, Nat.reduceEqDiff, Nat.reduceLeDiff, reduceCtorEq, wrap64_id (n := (k : Int) + 1) (by omega) (by omega)]; (repeat refine sk ?_); refine hK _ ?_; clear hK K)
        refine ⟨_, _, ?_, ⟨k + 1, rfl, by omega, fun i hi => ?_, rfl⟩, Gh.le (by simp [push_cast, -List.getD_eq_getElem?_getD]) (by simp)⟩
        · omega
        · by_cases e : i = k
          · subst e; exact he
          · exact hf i (by omega)
    · have hk' : k = a.length := by simp at hc; omega
      subst hk'
      have e : decide (a = b) = true := decide_eq_true (lists_eq hl hf)
      (repeat refine PWp.seq ?_); refine PWp.exit (iteT rfl ?_)
      ((repeat refine PWp.seq ?_); refine PWp.region TT (by rfl) (fun K hK => ?_); simp only [push_cast, seval, Nat.reduceEqDiff, Nat.reduceLeDiff, reduceCtorEq]; (repeat refine sk ?_); refine hK _ ?_; clear hK K)
      ((repeat refine PWp.seq ?_); refine PWp.ret ?_)
      refine ⟨.inr rfl, by omega, _, [], ?_, rfl, rfl⟩
      rw [e]
      (simp [push_cast, -List.getD_eq_getElem?_getD])
theorem ref01_Same_q (a b : List Ln) (ha : a.length ≤ 400000000) : QCall Try.prog 13 [iL a, iL b] (iB (decide (a = b))) := (ref01_Same a b ha).quiet (fun _ _ h => h.1) rfl (by simp [push_cast])
theorem Grow_lines (n : Nat) (hn : n ≤ 400000000) : PC Try.prog 44 [.nilsl, iI n] [] 0 1 (fun t obs => t = .mrow 0 ∧ obs = [(0, .mrow 38 2 [])]) := by
  refine PC.body [4] Try.func44 rfl (by rfl) (Nat.le_of_ble_eq_true (by rfl)) rfl ?_; simp only [enumA]
  ((repeat refine PWp.seq ?_); refine PWp.region TT (by rfl) (fun K hK => ?_); simp only [push_cast, seval, Nat.reduceEqDiff, Nat.reduceLeDiff, reduceCtorEq]; (repeat refine sk ?_); refine hK _ ?_; clear hK K)
  ((repeat refine PWp.seq ?_); refine PWp.region TT (by rfl) (fun K hK => ?_); simp only [push_cast, seval, Nat.reduceEqDiff, Nat.reduceLeDiff, reduceCtorEq]; (repeat refine sk ?_); refine hK _ ?_; clear hK K)
  ((repeat refine PWp.seq ?_); refine PWp.cond (by simp only [push_cast, seval, Nat.reduceEqDiff, Nat.reduceLeDiff, reduceCtorEq]; rfl) (fun hc => ?_) (fun hc => ?_))
  · simp at hc
    omega
  · clear hc
    ((repeat refine PWp.seq ?_); refine PWp.skip ?_)
    ((repeat refine PWp.seq ?_); refine PWp.region TT (by rfl) (fun K hK => ?_); simp only [push_cast, seval, Nat.reduceEqDiff, Nat.reduceLeDiff, reduceCtorEq, wrap64_id (n := 0) (by omega) (by omega), Int.sub_zero, wrap64_id (n := (n : Int)) (by omega) (by omega)]; (repeat refine sk ?_); refine hK _ ?_; clear hK K)
    ((repeat refine PWp.seq ?_); refine PWp.region TT (by rfl) (fun K hK => ?_); simp only [push_cast, seval, Nat.reduceEqDiff, Nat.reduceLeDiff, reduceCtorEq]; (repeat refine sk ?_); refine hK _ ?_; clear hK K)
    ((repeat refine PWp.seq ?_); refine PWp.cond (by simp only [push_cast, seval, Nat.reduceEqDiff, Nat.reduceLeDiff, reduceCtorEq]; rfl) (fun hc => ?_) (fun hc => ?_))
    · have hn0 : 0 < n := by simpa using hc
      clear hc
      ((repeat refine PWp.seq ?_); refine PWp.region TT (by rfl) (fun K hK => ?_); simp only [push_cast, seval, Nat.reduceEqDiff, Nat.reduceLeDiff, reduceCtorEq]; (repeat refine sk ?_); refine hK _ ?_; clear hK K)
      ((repeat refine PWp.seq ?_); refine PWp.region TT (by rfl) (fun K hK => ?_); simp only [push_cast, seval, Nat.reduceEqDiff, Nat.reduceLeDiff, reduceCtorEq]; (repeat refine sk ?_); refine hK _ ?_; clear hK K)
      refine PWp.gh (st' := ⟨[(4, .mrow 0)], [(0, .mrow 38 2 [])], 1⟩) (Gh.leR [1] (by simp [push_cast, -List.getD_eq_getElem?_getD]; try decide)) ?_
      ((repeat refine PWp.seq ?_); refine PWp.ret ?_)
      refine ⟨.inr rfl, by omega, _, _, ?_, rfl, rfl⟩
      (simp [push_cast, -List.getD_eq_getElem?_getD])
    · have hn0 : n = 0 := by simp at hc; omega
      subst hn0
      ((repeat refine PWp.seq ?_); refine PWp.skip ?_)
      refine PWp.gh (Gh.mrow 0 38 2 (by rfl)) ?_
      ((repeat refine PWp.seq ?_); refine PWp.region TT (by rfl) (fun K hK => ?_); simp only [push_cast, seval, Nat.reduceEqDiff, Nat.reduceLeDiff, reduceCtorEq]; (repeat refine sk ?_); refine hK _ ?_; clear hK K)
      ((repeat refine PWp.seq ?_); refine PWp.ret ?_)
      refine ⟨.inr rfl, by omega, _, _, ?_, rfl, rfl⟩
      (simp [push_cast, -List.getD_eq_getElem?_getD])
def encLs (l : List Ln) : IV := .sl 2 (l.map encL)
attribute [push_cast] encLs
def lenF (ls : List (List Ln)) : Nat := ls.flatten.length
theorem flat_take {ls : List (List Ln)} {k : Nat} (h : k < ls.length) : (ls.take (k + 1)).flatten = (ls.take k).flatten ++ ls.getD k default := by
  rw [take_succ_getD h, List.flatten_append]; simp
theorem flat_le (ls : List (List Ln)) (k : Nat) : (ls.take k).flatten.length ≤ ls.flatten.length := by
  conv => rhs; rw [← List.take_append_drop k ls, List.flatten_append, List.length_append]
  omega
theorem Concat_lines (ls : List (List Ln)) (hl : ls.length ≤ 400000000) (hn : ls.flatten.length ≤ 400000000) : PC Try.prog 32 [.iv (.sl 1 (ls.map encLs))] [] 0 1 (fun t obs => t = iL ls.flatten ∧ obs = []) := by
  refine PC.body [2] Try.func32 rfl (by rfl) (Nat.le_of_ble_eq_true (by rfl)) rfl ?_; simp only [enumA]
  ((repeat refine PWp.seq ?_); refine PWp.region TT (by rfl) (fun K hK => ?_); simp only [push_cast, seval, Nat.reduceEqDiff, Nat.reduceLeDiff, reduceCtorEq]; (repeat refine sk ?_); refine hK _ ?_; clear hK K)
  ((repeat refine PWp.seq ?_); refine PWp.region TT (by rfl) (fun K hK => ?_); simp only [push_cast, seval, Nat.reduceEqDiff, Nat.reduceLeDiff, reduceCtorEq]; (repeat refine sk ?_); refine hK _ ?_; clear hK K)
  ((repeat refine PWp.seq ?_); refine PWp.region TT (by rfl) (fun K hK => ?_); simp only [push_cast, seval, Nat.reduceEqDiff, Nat.reduceLeDiff, reduceCtorEq]; (repeat refine sk ?_); refine hK _ ?_; clear hK K)
  ((repeat refine PWp.seq ?_); refine PWp.block ?_)
  refine PWp.loop (fun c st => ∃ k : Nat, c = ls.length - k ∧ k ≤ ls.length ∧
    st = ⟨[(0, .iv (.sl 1 (ls.map encLs))), (3, iI (ls.take k).flatten.length), (9, .iv (.sl 1 (ls.map encLs))), (10, iI ls.length), (11, iI k)], [], 0⟩) _ _ ⟨0, rfl, Nat.zero_le _, rfl⟩ (Gh.le (by simp [push_cast, -List.getD_eq_getElem?_getD]) (by simp)) ?_
  rintro c st ⟨k, rfl, hk, rfl⟩
  ((repeat refine PWp.seq ?_); refine PWp.region TT (by rfl) (fun K hK => ?_); simp only [push_cast, seval, Nat.reduceEqDiff, Nat.reduceLeDiff, reduceCtorEq]; (repeat refine sk ?_); refine hK _ ?_; clear hK K)
  ((repeat refine PWp.seq ?_); refine PWp.cond (by simp only [push_cast, seval, Nat.reduceEqDiff, Nat.reduceLeDiff, reduceCtorEq]; rfl) (fun hc => ?_) (fun hc => ?_))
  · have hlt : k < ls.length := by simpa using hc
    clear hc
    have hf := flat_take hlt
    have hle := flat_le ls (k + 1)
    rw [hf, List.length_append] at hle
    ((repeat refine PWp.seq ?_); refine PWp.skip ?_)
    ((repeat refine PWp.seq ?_); refine PWp.block ?_)
    ((repeat refine PWp.seq ?_); refine PWp.region TT (by rfl) (fun K hK => ?_); simp only [push_cast, seval, Nat.reduceEqDiff, Nat.reduceLeDiff, reduceCtorEq, getD_map hlt]; (repeat refine sk ?_); refine hK _ ?_; clear hK K)
    ((repeat refine PWp.seq ?_); refine PWp.region TT (by rfl) (fun K hK => ?_); simp only [push_cast, seval, Nat.reduceEqDiff, Nat.reduceLeDiff, reduceCtorEq, wrap64_id (n := ((ls.take k).flatten.length : Int) + ((ls.getD k default).length : Int)) (by omega) (by omega)]; (repeat refine sk ?_); refine hK _ ?_; clear hK K)
    ((repeat refine PWp.seq ?_); refine PWp.region TT (by rfl) (fun K hK => ?_); simp only [push_cast, seval, Nat.reduceEqDiff, Nat.reduceLeDiff, reduceCtorEq]; (repeat refine sk ?_); refine hK _ ?_; clear hK K)
    ((repeat refine PWp.seq ?_); refine PWp.cond (by simp only [push_cast, seval, Nat.reduceEqDiff, Nat.reduceLeDiff, reduceCtorEq]; rfl) (fun hc => ?_) (fun hc => ?_))
    · simp at hc
      omega
    · clear hc
      ((repeat refine PWp.seq ?_); refine PWp.skip ?_)
      ((repeat refine PWp.seq ?_); refine PWp.region TT (by rfl) (fun K hK => ?_); simp only [push_cast, seval, Nat.reduceEqDiff, Nat.reduceLeDiff, reduceCtorEq, wrap64_id (n := (k : Int) + 1) (by omega) (by omega)]; (repeat refine sk ?_); refine hK _ ?_; clear hK K)
      refine ⟨_, _, ?_, ⟨k + 1, rfl, by omega, rfl⟩, Gh.le (by simp [push_cast, -List.getD_eq_getElem?_getD, hf]) (by simp)⟩
      omega
  · have hk' : k = ls.length := by simp at hc; omega
    subst hk'
    clear hc
    rw [List.take_length]
    (repeat refine PWp.seq ?_); refine PWp.exit (iteT rfl ?_)
    ((repeat refine PWp.seq ?_); refine PWp.region TT (by rfl) (fun K hK => ?_); simp only [push_cast, seval, Nat.reduceEqDiff, Nat.reduceLeDiff, reduceCtorEq])
    ((repeat refine sk ?_); refine PCall.use (Grow_lines ls.flatten.length hn) [] rfl (by simp [push_cast]) (by simp) (by simp [push_cast]) (by simp [push_cast]) (by simp [push_cast]) (by simp [push_cast]) ?_)
    rintro _ _ ⟨rfl, rfl⟩
    (simp only [push_cast, seval, Nat.reduceEqDiff, Nat.reduceLeDiff, reduceCtorEq]; (repeat refine sk ?_); refine hK _ ?_; clear hK K)
    ((repeat refine PWp.seq ?_); refine PWp.region TT (by rfl) (fun K hK => ?_); simp only [push_cast, seval, Nat.reduceEqDiff, Nat.reduceLeDiff, reduceCtorEq]; (repeat refine sk ?_); refine hK _ ?_; clear hK K)
    ((repeat refine PWp.seq ?_); refine PWp.block ?_)
    refine PWp.loop (fun c st => ∃ k : Nat, c = ls.length - k ∧ k ≤ ls.length ∧
      st = ⟨[(6, .mrow 0), (25, .iv (.sl 1 (ls.map encLs))), (26, iI ls.length), (27, iI k)], [(0, .mrow 38 2 ((ls.take k).flatten.map encL))], 1⟩) _ _ ⟨0, rfl, Nat.zero_le _, rfl⟩ (Gh.le (by simp [push_cast, -List.getD_eq_getElem?_getD]) (by simp)) ?_
    rintro c st ⟨k, rfl, hk, rfl⟩
    ((repeat refine PWp.seq ?_); refine PWp.region TT (by rfl) (fun K hK => ?_); simp only [push_cast, seval, Nat.reduceEqDiff, Nat.reduceLeDiff, reduceCtorEq]; (repeat refine sk ?_); refine hK _ ?_; clear hK K)
    ((repeat refine PWp.seq ?_); refine PWp.cond (by simp only [push_cast, seval, Nat.reduceEqDiff, Nat.reduceLeDiff, reduceCtorEq]; rfl) (fun hc => ?_) (fun hc => ?_))
    · have hlt : k < ls.length := by simpa using hc
      clear hc
      have hf := flat_take hlt
      have hle := flat_le ls (k + 1)
      rw [hf, List.length_append] at hle
      have hll := lensL (ls.getD k default)
      ((repeat refine PWp.seq ?_); refine PWp.skip ?_)
      ((repeat refine PWp.seq ?_); refine PWp.block ?_)
      ((repeat refine PWp.seq ?_); refine PWp.region TT (by rfl) (fun K hK => ?_); simp only [push_cast, seval, Nat.reduceEqDiff, Nat.reduceLeDiff, reduceCtorEq, getD_map hlt]; (repeat refine sk ?_); refine hK _ ?_; clear hK K)
      ((repeat refine PWp.seq ?_); refine PWp.region TT (by rfl) (fun K hK => ?_); simp only [push_cast, seval, Nat.reduceEqDiff, Nat.reduceLeDiff, reduceCtorEq, hll]; (repeat refine sk ?_); refine hK _ ?_; clear hK K)
      ((repeat refine PWp.seq ?_); refine PWp.region TT (by rfl) (fun K hK => ?_); simp only [push_cast, seval, Nat.reduceEqDiff, Nat.reduceLeDiff, reduceCtorEq, wrap64_id (n := (k : Int) + 1) (by omega) (by omega)]; (repeat refine sk ?_); refine hK _ ?_; clear hK K)
      refine ⟨_, _, ?_, ⟨k + 1, rfl, by omega, rfl⟩, Gh.leR [1] (by simp [push_cast, -List.getD_eq_getElem?_getD, hf]; try decide)⟩
      omega
    · have hk' : k = ls.length := by simp at hc; omega
      subst hk'
      rw [List.take_length]
      (repeat refine PWp.seq ?_); refine PWp.exit (iteT rfl ?_)
      refine PWp.gh (Gh.freeze 0 (e := 38) (sz := 2) (xs := ls.flatten.map encL) (by rfl)) ?_
      ((repeat refine PWp.seq ?_); refine PWp.region TT (by rfl) (fun K hK => ?_); simp only [push_cast, seval, Nat.reduceEqDiff, Nat.reduceLeDiff, reduceCtorEq]; (repeat refine sk ?_); refine hK _ ?_; clear hK K)
      ((repeat refine PWp.seq ?_); refine PWp.ret ?_)
      refine ⟨.inr rfl, by omega, _, [], ?_, rfl, rfl⟩
      (simp [push_cast, -List.getD_eq_getElem?_getD])

theorem rgEq {x y : Rg} (h1 : x.c = y.c) (h2 : x.l = y.l) (h3 : x.m = y.m) (h4 : x.o = y.o) (h5 : x.h = y.h) : x = y := by
  cases x; cases y
  simp only at h1 h2 h3 h4 h5
  rw [h1, h2, h3, h4, h5]
def bigR (l : List Rg) : Prop := ∀ x ∈ l, x.l.length ≤ 400000000 ∧ x.m.length ≤ 400000000 ∧ x.o.length ≤ 400000000 ∧ x.h.length ≤ 400000000
theorem Same_c (a b : List Rg) (ha : a.length ≤ 400000000) (hb : bigR a) : PC Try.prog 10 [iR a, iR b] [] 0 0 (fun t obs => t = iB (decide (a = b)) ∧ obs = []) := by
  refine PC.body [4] Try.func10 rfl (by rfl) (Nat.le_of_ble_eq_true (by rfl)) rfl ?_; simp only [enumA]
  ((repeat refine PWp.seq ?_); refine PWp.region TT (by rfl) (fun K hK => ?_); simp only [push_cast, seval, Nat.reduceEqDiff, Nat.reduceLeDiff, reduceCtorEq]; (repeat refine sk ?_); refine hK _ ?_; clear hK K)
  ((repeat refine PWp.seq ?_); refine PWp.region TT (by rfl) (fun K hK => ?_); simp only [push_cast, seval, Nat.reduceEqDiff, Nat.reduceLeDiff, reduceCtorEq]; (repeat refine sk ?_); refine hK _ ?_; clear hK K)
  ((repeat refine PWp.seq ?_); refine PWp.cond (by simp only [push_cast, seval, Nat.reduceEqDiff, Nat.reduceLeDiff, reduceCtorEq]; rfl) (fun hc => ?_) (fun hc => ?_))
  · have e : decide (a = b) = false := by
      simp only [Bool.or_eq_true, Bool.and_eq_true, Bool.not_eq_true', Bool.not_eq_false', Bool.or_eq_false_iff, Bool.and_eq_false_iff, decide_eq_true_eq, decide_eq_false_iff_not, beq_iff_eq, beq_eq_false_iff_ne, bne_iff_ne, bne_eq_false_iff_eq, ne_eq, Classical.not_not, Int.not_lt, Int.not_le, ge_iff_le, gt_iff_lt] at hc
      exact decide_eq_false (fun h => by subst h; exact hc rfl)
    ((repeat refine PWp.seq ?_); refine PWp.region TT (by rfl) (fun K hK => ?_); simp only [push_cast, seval, Nat.reduceEqDiff, Nat.reduceLeDiff, reduceCtorEq]; (repeat refine sk ?_); refine hK _ ?_; clear hK K)
    ((repeat refine PWp.seq ?_); refine PWp.ret ?_)
    refine ⟨.inr rfl, by omega, _, [], ?_, rfl, rfl⟩
    rw [e]
    (simp [push_cast, -List.getD_eq_getElem?_getD])
  · have hl : a.length = b.length := by
      simp only [Bool.or_eq_true, Bool.and_eq_true, Bool.not_eq_true', Bool.not_eq_false', Bool.or_eq_false_iff, Bool.and_eq_false_iff, decide_eq_true_eq, decide_eq_false_iff_not, beq_iff_eq, beq_eq_false_iff_ne, bne_iff_ne, bne_eq_false_iff_eq, ne_eq, Classical.not_not, Int.not_lt, Int.not_le, ge_iff_le, gt_iff_lt] at hc
      omega
    clear hc
    ((repeat refine PWp.seq ?_); refine PWp.skip ?_)
    ((repeat refine PWp.seq ?_); refine PWp.region TT (by rfl) (fun K hK => ?_); simp only [push_cast, seval, Nat.reduceEqDiff, Nat.reduceLeDiff, reduceCtorEq]; (repeat refine sk ?_); refine hK _ ?_; clear hK K)
    ((repeat refine PWp.seq ?_); refine PWp.block ?_)
    refine PWp.loop (fun c st => ∃ k : Nat, c = a.length - k ∧ k ≤ a.length ∧ (∀ i < k, a.getD i default = b.getD i default) ∧
      st = ⟨[(0, iR a), (1, iR b), (5, iI k)], [], 0⟩) _ _ ⟨0, rfl, Nat.zero_le _, by simp, rfl⟩ (Gh.le (by simp [push_cast, -List.getD_eq_getElem?_getD]) (by simp)) ?_
    rintro c st ⟨k, rfl, hk, hf, rfl⟩
    ((repeat refine PWp.seq ?_); refine PWp.region TT (by rfl) (fun K hK => ?_); simp only [push_cast, seval, Nat.reduceEqDiff, Nat.reduceLeDiff, reduceCtorEq]; (repeat refine sk ?_); refine hK _ ?_; clear hK K)
    ((repeat refine PWp.seq ?_); refine PWp.cond (by simp only [push_cast, seval, Nat.reduceEqDiff, Nat.reduceLeDiff, reduceCtorEq]; rfl) (fun hc => ?_) (fun hc => ?_))
    · have hlt : k < a.length := by simpa using hc
      clear hc
      ((repeat refine PWp.seq ?_); refine PWp.skip ?_)
      ((repeat refine PWp.seq ?_); refine PWp.block ?_)
      have hga : (a.map encR).getD k .any = encR (a.getD k default) := getD_map hlt
      have hgb : (b.map encR).getD k .any = encR (b.getD k default) := getD_map (show k < b.length by omega)
      obtain ⟨x1, x2, x3, x4⟩ := hb _ (getD_mem hlt)
      have hne : a.getD k default ≠ b.getD k default → decide (a = b) = false := fun h => decide_eq_false (fun e => h (by rw [e]))
      have hyes : a.getD k default = b.getD k default → ∀ i < k + 1, a.getD i default = b.getD i default := fun he i hi => by
        by_cases e : i = k
        · subst e; exact he
        · exact hf i (by omega)
      generalize a.getD k default = x at *
      generalize b.getD k default = y at *
      cases h0 : (x.c == y.c) with
      | false =>
        have hxy : x ≠ y := fun e => by subst e; simp at h0
        ((repeat refine PWp.seq ?_); refine PWp.draw TT (by kernel_rfl) (by kernel_rfl) (by rfl) (by rfl) (fun K hK => ?_); simp only [push_cast, seval, Nat.reduceEqDiff, Nat.reduceLeDiff, reduceCtorEq, hga, hgb, h0]; (repeat refine sk ?_); refine hK _ ?_; clear hK K)
        ((repeat refine PWp.seq ?_); refine PWp.cond (by simp only [push_cast, seval, Nat.reduceEqDiff, Nat.reduceLeDiff, reduceCtorEq]; rfl) (fun hc => ?_) (fun hc => ?_))
        · ((repeat refine PWp.seq ?_); refine PWp.region TT (by rfl) (fun K hK => ?_); simp only [push_cast, seval, Nat.reduceEqDiff, Nat.reduceLeDiff, reduceCtorEq]; (repeat refine sk ?_); refine hK _ ?_; clear hK K)
          ((repeat refine PWp.seq ?_); refine PWp.ret ?_)
          refine ⟨.inr rfl, by omega, _, [], ?_, rfl, rfl⟩
          rw [hne hxy]
          (simp [push_cast, -List.getD_eq_getElem?_getD])
        · cases hc
      | true =>
        have e0 : x.c = y.c := by simpa using h0
        ((repeat refine PWp.seq ?_); refine PWp.draw TT (by kernel_rfl) (by kernel_rfl) (by rfl) (by rfl) (fun K hK => ?_); simp only [push_cast, seval, Nat.reduceEqDiff, Nat.reduceLeDiff, reduceCtorEq, hga, hgb, h0])
        ((repeat refine sk ?_); refine ⟨_, _, ref01_Same_q x.l y.l x1, by simp [push_cast], by simp [push_cast], ?_⟩)
        cases h1 : decide (x.l = y.l) with
        | false =>
          have hxy : x ≠ y := fun e => by subst e; simp at h1
          (simp only [push_cast, seval, Nat.reduceEqDiff, Nat.reduceLeDiff, reduceCtorEq, h1, hga, hgb]; (repeat refine sk ?_); refine hK _ ?_; clear hK K)
          ((repeat refine PWp.seq ?_); refine PWp.cond (by simp only [push_cast, seval, Nat.reduceEqDiff, Nat.reduceLeDiff, reduceCtorEq]; rfl) (fun hc => ?_) (fun hc => ?_))
          · ((repeat refine PWp.seq ?_); refine PWp.region TT (by rfl) (fun K hK => ?_); simp only [push_cast, seval, Nat.reduceEqDiff, Nat.reduceLeDiff, reduceCtorEq]; (repeat refine sk ?_); refine hK _ ?_; clear hK K)
            ((repeat refine PWp.seq ?_); refine PWp.ret ?_)
            refine ⟨.inr rfl, by omega, _, [], ?_, rfl, rfl⟩
            rw [hne hxy]
            (simp [push_cast, -List.getD_eq_getElem?_getD])
          · cases hc
        | true =>
          (simp only [push_cast, seval, Nat.reduceEqDiff, Nat.reduceLeDiff, reduceCtorEq, h1, hga, hgb])
          ((repeat refine sk ?_); refine ⟨_, _, ref01_Same_q x.m y.m x2, by simp [push_cast], by simp [push_cast], ?_⟩)
          cases h2 : decide (x.m = y.m) with
          | false =>
            have hxy : x ≠ y := fun e => by subst e; simp at h2
            (simp only [push_cast, seval, Nat.reduceEqDiff, Nat.reduceLeDiff, reduceCtorEq, h2, hga, hgb]; (repeat refine sk ?_); refine hK _ ?_; clear hK K)
            ((repeat refine PWp.seq ?_); refine PWp.cond (by simp only [push_cast, seval, Nat.reduceEqDiff, Nat.reduceLeDiff, reduceCtorEq]; rfl) (fun hc => ?_) (fun hc => ?_))
            · ((repeat refine PWp.seq ?_); refine PWp.region TT (by rfl) (fun K hK => ?_); simp only [push_cast, seval, Nat.reduceEqDiff, Nat.reduceLeDiff, reduceCtorEq]; (repeat refine sk ?_); refine hK _ ?_; clear hK K)
              ((repeat refine PWp.seq ?_); refine PWp.ret ?_)
              refine ⟨.inr rfl, by omega, _, [], ?_, rfl, rfl⟩
              rw [hne hxy]
              (simp [push_cast, -List.getD_eq_getElem?_getD])
            · cases hc
          | true =>
            (simp only [push_cast, seval, Nat.reduceEqDiff, Nat.reduceLeDiff, reduceCtorEq, h2, hga, hgb])
            ((repeat refine sk ?_); refine ⟨_, _, ref01_Same_q x.o y.o x3, by simp [push_cast], by simp [push_cast], ?_⟩)
            cases h3 : decide (x.o = y.o) with
            | false =>
              have hxy : x ≠ y := fun e => by subst e; simp at h3
              (simp only [push_cast, seval, Nat.reduceEqDiff, Nat.reduceLeDiff, reduceCtorEq, h3, hga, hgb]; (repeat refine sk ?_); refine hK _ ?_; clear hK K)
              ((repeat refine PWp.seq ?_); refine PWp.cond (by simp only [push_cast, seval, Nat.reduceEqDiff, Nat.reduceLeDiff, reduceCtorEq]; rfl) (fun hc => ?_) (fun hc => ?_))
              · ((repeat refine PWp.seq ?_); refine PWp.region TT (by rfl) (fun K hK => ?_); simp only [push_cast, seval, Nat.reduceEqDiff, Nat.reduceLeDiff, reduceCtorEq]; (repeat refine sk ?_); refine hK _ ?_; clear hK K)
                ((repeat refine PWp.seq ?_); refine PWp.ret ?_)
                refine ⟨.inr rfl, by omega, _, [], ?_, rfl, rfl⟩
                rw [hne hxy]
                (simp [push_cast, -List.getD_eq_getElem?_getD])
              · cases hc
            | true =>
              (simp only [push_cast, seval, Nat.reduceEqDiff, Nat.reduceLeDiff, reduceCtorEq, h3, hga, hgb])
              ((repeat refine sk ?_); refine ⟨_, _, ref01_Same_q x.h y.h x4, by simp [push_cast], by simp [push_cast], ?_⟩)
              cases h4 : decide (x.h = y.h) with
              | false =>
                have hxy : x ≠ y := fun e => by subst e; simp at h4
                (simp only [push_cast, seval, Nat.reduceEqDiff, Nat.reduceLeDiff, reduceCtorEq, h4, hga, hgb]; (repeat refine sk ?_); refine hK _ ?_; clear hK K)
                ((repeat refine PWp.seq ?_); refine PWp.cond (by simp only [push_cast, seval, Nat.reduceEqDiff, Nat.reduceLeDiff, reduceCtorEq]; rfl) (fun hc => ?_) (fun hc => ?_))
                · ((repeat refine PWp.seq ?_); refine PWp.region TT (by rfl) (fun K hK => ?_); simp only [push_cast, seval, Nat.reduceEqDiff, Nat.reduceLeDiff, reduceCtorEq]; (repeat refine sk ?_); refine hK _ ?_; clear hK K)
                  ((repeat refine PWp.seq ?_); refine PWp.ret ?_)
                  refine ⟨.inr rfl, by omega, _, [], ?_, rfl, rfl⟩
                  rw [hne hxy]
                  (simp [push_cast, -List.getD_eq_getElem?_getD])
                · cases hc
              | true =>
                (simp only [push_cast, seval, Nat.reduceEqDiff, Nat.reduceLeDiff, reduceCtorEq, h4, hga, hgb]; (repeat refine sk ?_); refine hK _ ?_; clear hK K)
                ((repeat refine PWp.seq ?_); refine PWp.cond (by simp only [push_cast, seval, Nat.reduceEqDiff, Nat.reduceLeDiff, reduceCtorEq]; rfl) (fun hc => ?_) (fun hc => ?_))
                · cases hc
                · have he : x = y := rgEq e0 (of_decide_eq_true h1) (of_decide_eq_true h2) (of_decide_eq_true h3) (of_decide_eq_true h4)
                  ((repeat refine PWp.seq ?_); refine PWp.skip ?_)
                  ((repeat refine PWp.seq ?_); refine PWp.region TT (by rfl) (fun K hK => ?_); simp only [push_cast, seval, Nat.reduceEqDiff, Nat.reduceLeDiff, reduceCtorEq, wrap64_id (n := (k : Int) + 1) (by omega) (by omega)]; (repeat refine sk ?_); refine hK _ ?_; clear hK K)
                  refine ⟨_, _, ?_, ⟨k + 1, rfl, by omega, hyes he, rfl⟩, Gh.le (by simp [push_cast, -List.getD_eq_getElem?_getD]) (by simp)⟩
                  omega
    · have hk' : k = a.length := by simp at hc; omega
      subst hk'
      have e : decide (a = b) = true := decide_eq_true (lists_eq hl hf)
      (repeat refine PWp.seq ?_); refine PWp.exit (iteT rfl ?_)
      ((repeat refine PWp.seq ?_); refine PWp.region TT (by rfl) (fun K hK => ?_); simp only [push_cast, seval, Nat.reduceEqDiff, Nat.reduceLeDiff, reduceCtorEq]; (repeat refine sk ?_); refine hK _ ?_; clear hK K)
      ((repeat refine PWp.seq ?_); refine PWp.ret ?_)
      refine ⟨.inr rfl, by omega, _, [], ?_, rfl, rfl⟩
      rw [e]
      (simp [push_cast, -List.getD_eq_getElem?_getD])
