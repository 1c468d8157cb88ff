/- until; the document's Parse is this one. -/
import Derived.Test.YtmocgjimlhgejaaU6
namespace Go.Proofs.Ytmocgjimlhgejaa
open Go.PL
set_option maxRecDepth 100000
set_option linter.unusedSimpArgs false
set_option linter.unusedVariables false
def untl (l : List Ln) : List Ln := l.takeWhile (fun x => mk x.t == 0)
def marky : List Ln → Prop
  | [] => True
  | x :: _ => mk x.t ≠ 0
theorem untl_split : ∀ (l : List Ln), l = untl l ++ l.drop (untl l).length ∧ (∀ x ∈ untl l, mk x.t = 0) ∧ marky (l.drop (untl l).length)
  | [] => ⟨rfl, by simp [untl], trivial⟩
  | x :: l => by
    obtain ⟨h1, h2, h3⟩ := untl_split l
    unfold untl at *
    cases hb : mk x.t == 0 with
    | true =>
      rw [List.takeWhile_cons, hb, if_pos rfl]
      refine ⟨by simpa using h1, fun y hy => ?_, by simpa using h3⟩
      rcases List.mem_cons.1 hy with rfl | hy
      · simpa using hb
      · exact h2 y hy
    | false =>
      rw [List.takeWhile_cons, hb, if_neg (by decide)]
      exact ⟨rfl, by simp, by simpa [marky] using hb⟩
theorem untl_get {l : List Ln} {j : Nat} (hj : j < (untl l).length) : j < l.length ∧ mk (l.getD j default).t = 0 ∧ (untl l).take (j + 1) = (untl l).take j ++ [l.getD j default] := by
  obtain ⟨h1, h2, _⟩ := untl_split l
  have hl : (untl l).length ≤ l.length := by
    have := congrArg List.length h1
    rw [List.length_append] at this
    omega
  have e : l.getD j default = (untl l).getD j default := by
    conv => lhs; rw [h1]
    simp [List.getD, List.getElem?_append_left hj]
  refine ⟨by omega, ?_, ?_⟩
  · rw [e]; exact h2 _ (getD_mem hj)
  · rw [e]; exact take_succ_getD hj
theorem until_c (l : List Ln) (at0 : Nat) (hl : l.length ≤ 1000) (ha : at0 ≤ l.length) : PC Try.prog 28 [iL l, iI at0] [] 0 0 (fun t obs => t = .tup [iL (untl (l.drop at0)), iI ((at0 : Int) + (untl (l.drop at0)).length)] ∧ obs = []) := by
  obtain ⟨u1, u2, u3⟩ := untl_split (l.drop at0)
  have hul : (untl (l.drop at0)).length ≤ l.length - at0 := by
    have := congrArg List.length u1
    rw [List.length_append, List.length_drop] at this
    omega
  clear u1 u2
  refine PC.body [4, 5] Try.func28 rfl (by rfl) (Nat.le_of_ble_eq_true (by rfl)) rfl ?_; simp only [enumA]
  ((repeat refine PWp.seq ?_); refine PWp.region TT (by rfl) (fun K hK => ?_); simp only [push_cast, seval, Nat.reduceEqDiff, Nat.reduceLeDiff, reduceCtorEq]; (repeat refine sk ?_); refine hK _ ?_; clear hK K)
  ((repeat refine PWp.seq ?_); refine PWp.region TT (by rfl) (fun K hK => ?_); simp only [push_cast, seval, Nat.reduceEqDiff, Nat.reduceLeDiff, reduceCtorEq]; (repeat refine sk ?_); refine hK _ ?_; clear hK K)
  ((repeat refine PWp.seq ?_); refine PWp.block ?_)
  refine PWp.loop (fun d st => ∃ j : Nat, d = l.length - at0 - j ∧ j ≤ (untl (l.drop at0)).length ∧
    st = ⟨[(0, iL l), (1, iI ((at0 : Int) + j)), (6, .acc 0 2 (((untl (l.drop at0)).take j).map encL))], [(0, .row 38 2)], 1⟩) _ _ ⟨0, rfl, Nat.zero_le _, rfl⟩ (Gh.le (by simp [push_cast, -List.getD_eq_getElem?_getD]) (by simp)) ?_
  rintro d st ⟨j, rfl, hj, rfl⟩
  have hgd : (l.drop at0).getD j default = l.getD (at0 + j) default := by simp [List.getD]
  by_cases hlt : at0 + j < l.length
  · have hd : decide ((at0 : Int) + j < (l.length : Int)) = true := decide_eq_true (by omega)
    have hg : (l.map encL).getD ((at0 : Int) + (j : Int)).toNat .any = encL (l.getD (at0 + j) default) := by
      rw [show ((at0 : Int) + (j : Int)).toNat = at0 + j by omega]
      exact getD_map hlt
    ((repeat refine PWp.seq ?_); refine PWp.region TT (by rfl) (fun K hK => ?_); simp only [push_cast, seval, Nat.reduceEqDiff, Nat.reduceLeDiff, reduceCtorEq, hd, hg])
    refine ⟨by omega, by decide, ?_⟩
    (refine PCall.use (Mark_c (l.getD (at0 + j) default).t) [] rfl (by simp [push_cast]) (by simp) (by simp [push_cast]) (by simp [push_cast]) (by simp [push_cast]) (by simp [push_cast]) ?_)
    rintro _ _ ⟨rfl, rfl⟩
    by_cases hju : j < (untl (l.drop at0)).length
    · obtain ⟨_, hm, hts⟩ := untl_get hju
      rw [hgd] at hm hts
      (simp only [push_cast, seval, Nat.reduceEqDiff, Nat.reduceLeDiff, reduceCtorEq, hm]; (repeat refine sk ?_); refine hK _ ?_; clear hK K)
      ((repeat refine PWp.seq ?_); refine PWp.cond (by simp only [push_cast, seval, Nat.reduceEqDiff, Nat.reduceLeDiff, reduceCtorEq]; rfl) (fun hc => ?_) (fun hc => ?_))
      · clear hc
        ((repeat refine PWp.seq ?_); refine PWp.skip ?_)
        ((repeat refine PWp.seq ?_); refine PWp.block ?_)
        ((repeat refine PWp.seq ?_); refine PWp.region TT (by rfl) (fun K hK => ?_); simp only [push_cast, seval, Nat.reduceEqDiff, Nat.reduceLeDiff, reduceCtorEq, hg]; (repeat refine sk ?_); refine hK _ ?_; clear hK K)
        ((repeat refine PWp.seq ?_); refine PWp.region TT (by rfl) (fun K hK => ?_); simp only [push_cast, seval, Nat.reduceEqDiff, Nat.reduceLeDiff, reduceCtorEq, wrap64_id (n := (at0 : Int) + (j : Int) + 1) (by omega) (by omega)]; (repeat refine sk ?_); refine hK _ ?_; clear hK K)
        refine ⟨_, _, ?_, ⟨j + 1, rfl, by omega, rfl⟩, Gh.le (by simp [push_cast, -List.getD_eq_getElem?_getD, hts, Int.add_assoc]) (by simp)⟩
        omega
      · cases hc
    · have hje : j = (untl (l.drop at0)).length := by omega
      have hm : ((mk (l.getD (at0 + j) default).t : Int) == 0) = false := by
        have hdd : (l.drop at0).drop (untl (l.drop at0)).length = l.getD (at0 + j) default :: l.drop (at0 + j + 1) := by
          rw [← hje, List.drop_drop]
          exact drop_getD hlt
        rw [hdd] at u3
        have u4 : mk (l.getD (at0 + j) default).t ≠ 0 := u3
        exact beq_eq_false_iff_ne.2 (by omega)
      (simp only [push_cast, seval, Nat.reduceEqDiff, Nat.reduceLeDiff, reduceCtorEq, hm]; (repeat refine sk ?_); refine hK _ ?_; clear hK K)
      ((repeat refine PWp.seq ?_); refine PWp.cond (by simp only [push_cast, seval, Nat.reduceEqDiff, Nat.reduceLeDiff, reduceCtorEq]; rfl) (fun hc => ?_) (fun hc => ?_))
      · cases hc
      · (repeat refine PWp.seq ?_); refine PWp.exit (iteT rfl ?_)
        ((repeat refine PWp.seq ?_); refine PWp.region TT (by rfl) (fun K hK => ?_); simp only [push_cast, seval, Nat.reduceEqDiff, Nat.reduceLeDiff, reduceCtorEq]; (repeat refine sk ?_); refine hK _ ?_; clear hK K)
        ((repeat refine PWp.seq ?_); refine PWp.ret ?_)
        refine ⟨.inr rfl, by omega, _, [], ?_, rfl, rfl⟩
        rw [hje]
        (simp [push_cast, -List.getD_eq_getElem?_getD])
  · have hje : j = (untl (l.drop at0)).length := by
      by_cases hju : j < (untl (l.drop at0)).length
      · omega
      · omega
    have hd : decide ((at0 : Int) + j < (l.length : Int)) = false := decide_eq_false (by omega)
    ((repeat refine PWp.seq ?_); refine PWp.region TT (by rfl) (fun K hK => ?_); simp only [push_cast, seval, Nat.reduceEqDiff, Nat.reduceLeDiff, reduceCtorEq, hd]; (repeat refine sk ?_); refine hK _ ?_; clear hK K)
    ((repeat refine PWp.seq ?_); refine PWp.cond (by simp only [push_cast, seval, Nat.reduceEqDiff, Nat.reduceLeDiff, reduceCtorEq]; rfl) (fun hc => ?_) (fun hc => ?_))
    · cases hc
    · (repeat refine PWp.seq ?_); refine PWp.exit (iteT rfl ?_)
      ((repeat refine PWp.seq ?_); refine PWp.region TT (by rfl) (fun K hK => ?_); simp only [push_cast, seval, Nat.reduceEqDiff, Nat.reduceLeDiff, reduceCtorEq]; (repeat refine sk ?_); refine hK _ ?_; clear hK K)
      ((repeat refine PWp.seq ?_); refine PWp.ret ?_)
      refine ⟨.inr rfl, by omega, _, [], ?_, rfl, rfl⟩
      rw [hje]
      (simp [push_cast, -List.getD_eq_getElem?_getD])

/-! ### The document's Parse -/
theorem par_lines : ∀ (xs rest : List Ln) (r : Rd) (k : Nat), (∀ x ∈ xs, mk x.t = 0) → parF r k (xs ++ rest) = parF (xs.foldl takeL r) (k + xs.length) rest
  | [], rest, r, k, _ => rfl
  | x :: xs, rest, r, k, h => by
    have h0 : takeR r x = some (takeL r x) := if_pos (h x (List.mem_cons_self ..))
    rw [List.cons_append, parF, h0]
    simp only
    rw [par_lines xs rest _ _ (fun y hy => h y (List.mem_cons_of_mem _ hy)), List.foldl_cons, List.length_cons, show k + 1 + xs.length = k + (xs.length + 1) by omega]
theorem fold0 (c : Bool) (out : List Rg) : ∀ (xs l m o h : List Ln), xs.foldl takeL ⟨out, ⟨c, l, m, o, h⟩, 0⟩ = ⟨out, ⟨c, l ++ xs, m, o, h⟩, 0⟩
  | [], l, m, o, h => by simp
  | x :: xs, l, m, o, h => by
    rw [List.foldl_cons, show takeL ⟨out, ⟨c, l, m, o, h⟩, 0⟩ x = ⟨out, ⟨c, l ++ [x], m, o, h⟩, 0⟩ from rfl, fold0]
    simp
theorem fold1 (c : Bool) (out : List Rg) : ∀ (xs l m o h : List Ln), xs.foldl takeL ⟨out, ⟨c, l, m, o, h⟩, 1⟩ = ⟨out, ⟨c, l, m ++ xs, o, h⟩, 1⟩
  | [], l, m, o, h => by simp
  | x :: xs, l, m, o, h => by
    rw [List.foldl_cons, show takeL ⟨out, ⟨c, l, m, o, h⟩, 1⟩ x = ⟨out, ⟨c, l, m ++ [x], o, h⟩, 1⟩ from rfl, fold1]
    simp
theorem fold2 (c : Bool) (out : List Rg) : ∀ (xs l m o h : List Ln), xs.foldl takeL ⟨out, ⟨c, l, m, o, h⟩, 2⟩ = ⟨out, ⟨c, l, m, o ++ xs, h⟩, 2⟩
  | [], l, m, o, h => by simp
  | x :: xs, l, m, o, h => by
    rw [List.foldl_cons, show takeL ⟨out, ⟨c, l, m, o, h⟩, 2⟩ x = ⟨out, ⟨c, l, m, o ++ [x], h⟩, 2⟩ from rfl, fold2]
    simp
theorem fold3 (c : Bool) (out : List Rg) : ∀ (xs l m o h : List Ln), xs.foldl takeL ⟨out, ⟨c, l, m, o, h⟩, 3⟩ = ⟨out, ⟨c, l, m, o, h ++ xs⟩, 3⟩
  | [], l, m, o, h => by simp
  | x :: xs, l, m, o, h => by
    rw [List.foldl_cons, show takeL ⟨out, ⟨c, l, m, o, h⟩, 3⟩ x = ⟨out, ⟨c, l, m, o, h ++ [x]⟩, 3⟩ from rfl, fold3]
    simp
theorem par_flush {out : List Rg} {xs rest : List Ln} (k : Nat) (hx : 0 < xs.length) (hr : marky rest) :
    parF ⟨out, ⟨false, xs, [], [], []⟩, 0⟩ k rest = parF ⟨out ++ [⟨false, xs, [], [], []⟩], noRg, 0⟩ k rest := by
  have f1 : (flushR ⟨out, ⟨false, xs, [], [], []⟩, 0⟩).out = out ++ [⟨false, xs, [], [], []⟩] := if_pos (.inr hx)
  have f2 : (flushR ⟨out ++ [⟨false, xs, [], [], []⟩], noRg, 0⟩).out = out ++ [⟨false, xs, [], [], []⟩] := by
    unfold flushR
    simp [noRg]
  cases rest with
  | nil => simp only [parF, if_true, f1, f2]
  | cons x rest =>
    have hm : ¬ mk x.t = 0 := hr
    simp only [parF, takeR, if_neg hm]
    by_cases h1 : mk x.t = 0 + 1
    · rw [if_pos h1]
      simp only [markR, true_or, if_true, f1, f2, if_pos h1]
    · rw [if_neg h1, if_neg h1]
def rdW (out : List Rg) (parts : List (List Ln)) (w : Nat) : Rd := ⟨out, ⟨decide (1 < w), [], parts.getD 0 [], parts.getD 1 [], parts.getD 2 []⟩, w - 1⟩
theorem rdW1 (out : List Rg) : rdW out [] 1 = ⟨out, noRg, 0⟩ := rfl
theorem par_W (out : List Rg) {parts : List (List Ln)} {w : Nat} (hw1 : 1 ≤ w) (hw : w ≤ 3) (hp : parts.length = w - 1) (k : Nat) {x : Ln} {ps rest : List Ln} (hx : mk x.t = w) (hps : ∀ y ∈ ps, mk y.t = 0) :
    parF (rdW out parts w) k (x :: (ps ++ rest)) = parF (rdW out (parts ++ [ps]) (w + 1)) (k + 1 + ps.length) rest := by
  have h3 : w = 1 ∨ w = 2 ∨ w = 3 := by omega
  rcases h3 with rfl | rfl | rfl
  · obtain rfl : parts = [] := List.eq_nil_of_length_eq_zero hp
    have ht : takeR (rdW out [] 1) x = some ⟨out, ⟨true, [], [], [], []⟩, 1⟩ := by
      unfold takeR
      rw [if_neg (by omega), if_pos (by simp [rdW, hx])]
      rfl
    rw [parF, ht]
    simp only
    rw [par_lines _ _ _ _ hps, fold1]
    rfl
  · match parts, hp with
    | [a], _ =>
      have ht : takeR (rdW out [a] 2) x = some ⟨out, ⟨true, [], a, [], []⟩, 2⟩ := by
        unfold takeR
        rw [if_neg (by omega), if_pos (by simp [rdW, hx])]
        rfl
      rw [parF, ht]
      simp only
      rw [par_lines _ _ _ _ hps, fold2]
      rfl
  · match parts, hp with
    | [a, b], _ =>
      have ht : takeR (rdW out [a, b] 3) x = some ⟨out, ⟨true, [], a, b, []⟩, 3⟩ := by
        unfold takeR
        rw [if_neg (by omega), if_pos (by simp [rdW, hx])]
        rfl
      rw [parF, ht]
      simp only
      rw [par_lines _ _ _ _ hps, fold3]
      rfl
theorem par_W4 (out : List Rg) (a b c : List Ln) (k : Nat) {x : Ln} {rest : List Ln} (hx : mk x.t = 4) :
    parF (rdW out [a, b, c] 4) k (x :: rest) = parF ⟨out ++ [⟨true, [], a, b, c⟩], noRg, 0⟩ (k + 1) rest := by
  have ht : takeR (rdW out [a, b, c] 4) x = some ⟨out ++ [⟨true, [], a, b, c⟩], noRg, 0⟩ := by
    unfold takeR
    rw [if_neg (by omega), if_pos (by simp [rdW, hx])]
    simp [markR, rdW, flushR, noRg]
  rw [parF, ht]
theorem par_W0 (out : List Rg) (parts : List (List Ln)) {w : Nat} (hw1 : 1 ≤ w) (k : Nat) {x : Ln} {rest : List Ln} (h0 : mk x.t ≠ 0) (hx : mk x.t ≠ w) :
    parF (rdW out parts w) k (x :: rest) = ([], (k : Int) + 1, 3) := by
  have ht : takeR (rdW out parts w) x = none := by
    unfold takeR
    rw [if_neg h0, if_neg (by simp only [rdW]; omega)]
  rw [parF, ht]
theorem par_WE (out : List Rg) (parts : List (List Ln)) {w : Nat} (hw1 : 2 ≤ w) (k : Nat) : parF (rdW out parts w) k [] = ([], 0, 3) := by
  rw [parF, if_neg (by simp only [rdW]; omega)]
