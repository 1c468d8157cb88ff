/- Rows of a script: texts, flush, take. -/
import Derived.Test.YtjajefphfhdfkaaR1
namespace Go.Proofs.Ytjajefphfhdfkaa
open Go.PL
set_option maxRecDepth 100000
set_option linter.unusedSimpArgs false
set_option linter.unusedVariables false
def txt (l : List Ln) : List (List UInt8) := l.map (·.t)
theorem txt_len (l : List Ln) : (txt l).length = l.length := List.length_map ..
theorem txt_succ {l : List Ln} {k : Nat} (h : k < l.length) : txt (l.take (k + 1)) = txt (l.take k) ++ [(l.getD k default).t] := by
  unfold txt
  rw [take_succ_getD h, List.map_append]
  rfl
theorem sides_texts (l : List Ln) (hl : l.length ≤ 1000000) : PC Try.prog 32 [iL l] [] 0 9 (fun t obs => t = iT (txt l) ∧ obs = []) := by
  refine PC.body [2] Try.func32 rfl (by rfl) (Nat.le_of_ble_eq_true (by rfl)) rfl ?_; simp only [enumA]
  ((repeat refine PWp.seq ?_); refine PWp.region TT (by rfl) (fun K hK => ?_); simp only [push_cast, seval, Nat.reduceEqDiff, Nat.reduceLeDiff, reduceCtorEq]; (repeat refine sk ?_); refine hK _ ?_; clear hK K)
  ((repeat refine PWp.seq ?_); refine PWp.region TT (by rfl) (fun K hK => ?_); simp only [push_cast, seval, Nat.reduceEqDiff, Nat.reduceLeDiff, reduceCtorEq]; (repeat refine sk ?_); refine hK _ ?_; clear hK K)
  ((repeat refine PWp.seq ?_); refine PWp.region TT (by rfl) (fun K hK => ?_); simp only [push_cast, seval, Nat.reduceEqDiff, Nat.reduceLeDiff, reduceCtorEq]; (repeat refine sk ?_); refine hK _ ?_; clear hK K)
  refine PWp.gh (Gh.row 3 9 1 (by rfl)) ?_
  refine PWp.gh (st' := ⟨[(3, .acc 0 1 []), (6, iL l), (7, iI l.length), (8, iI 0)], [(0, .row 9 1)], 1⟩) (Gh.le (by simp [push_cast, -List.getD_eq_getElem?_getD]) (by simp)) ?_
  ((repeat refine PWp.seq ?_); refine PWp.block ?_)
  refine PWp.loop (fun c st => ∃ k : Nat, c = l.length - k ∧ k ≤ l.length ∧
    st = ⟨[(3, .acc 0 1 ((txt (l.take k)).map encT)), (6, iL l), (7, iI l.length), (8, iI k)], [(0, .row 9 1)], 1⟩) _ _ ⟨0, rfl, Nat.zero_le _, rfl⟩ (Gh.le (by simp [push_cast, -List.getD_eq_getElem?_getD, txt]) (by simp)) ?_
  rintro c st ⟨k, rfl, hk, rfl⟩
  ((repeat refine PWp.seq ?_); refine PWp.region TT (by rfl) (fun K hK => ?_); simp only [push_cast, seval, Nat.reduceEqDiff, Nat.reduceLeDiff, reduceCtorEq]; (repeat refine sk ?_); refine hK _ ?_; clear hK K)
  ((repeat refine PWp.seq ?_); refine PWp.cond (by simp only [push_cast, seval, Nat.reduceEqDiff, Nat.reduceLeDiff, reduceCtorEq]; rfl) (fun hc => ?_) (fun hc => ?_))
  · have hlt : k < l.length := by have := of_decide_eq_true hc; omega
    clear hc
    have hg : (l.map encL).getD k .any = encL (l.getD k default) := getD_map hlt
    have hs := txt_succ hlt
    have hn : (txt (l.take k)).length ≤ k := by rw [txt_len, List.length_take]; omega
    generalize l.getD k default = x at *
    ((repeat refine PWp.seq ?_); refine PWp.skip ?_)
    ((repeat refine PWp.seq ?_); refine PWp.block ?_)
    ((repeat refine PWp.seq ?_); refine PWp.region TT (by rfl) (fun K hK => ?_); simp only [push_cast, seval, Nat.reduceEqDiff, Nat.reduceLeDiff, reduceCtorEq, hg]; (repeat refine sk ?_); refine hK _ ?_; clear hK K)
    ((repeat refine PWp.seq ?_); refine PWp.region TT (by rfl) (fun K hK => ?_); simp only [push_cast, seval, Nat.reduceEqDiff, Nat.reduceLeDiff, reduceCtorEq]; (repeat refine sk ?_); refine hK _ ?_; clear hK K)
    ((repeat refine PWp.seq ?_); refine PWp.region TT (by rfl) (fun K hK => ?_); simp only [push_cast, seval, Nat.reduceEqDiff, Nat.reduceLeDiff, reduceCtorEq, wrap64_id (n := (k : Int) + 1) (by omega) (by omega)]; (repeat refine sk ?_); refine hK _ ?_; clear hK K)
    refine ⟨_, _, ?_, ⟨k + 1, rfl, by omega, rfl⟩, Gh.le (by simp [push_cast, -List.getD_eq_getElem?_getD, hs]) (by simp)⟩
    omega
  · have hk' : k = l.length := by have := of_decide_eq_false hc; omega
    subst hk'
    rw [List.take_length]
    (repeat refine PWp.seq ?_); refine PWp.exit (iteT rfl ?_)
    ((repeat refine PWp.seq ?_); refine PWp.region TT (by rfl) (fun K hK => ?_); simp only [push_cast, seval, Nat.reduceEqDiff, Nat.reduceLeDiff, reduceCtorEq]; (repeat refine sk ?_); refine hK _ ?_; clear hK K)
    ((repeat refine PWp.seq ?_); refine PWp.ret ?_)
    refine ⟨.inr rfl, by omega, _, [], ?_, rfl, rfl⟩
    (simp [push_cast, -List.getD_eq_getElem?_getD])
/-- The row of a place: what waits beside what comes. -/
def pk (W l : List (List UInt8)) (k : Nat) : Pr :=
  if k < W.length ∧ k < l.length then ⟨124, W.getD k default, l.getD k default⟩ else if k < W.length then ⟨60, W.getD k default, []⟩ else ⟨62, [], l.getD k default⟩
def prN (W l : List (List UInt8)) (k : Nat) : List Pr := (List.range k).map (pk W l)
def prW (W l : List (List UInt8)) : List Pr := prN W l (max W.length l.length)
theorem prN_succ (W l : List (List UInt8)) (k : Nat) : prN W l (k + 1) = prN W l k ++ [pk W l k] := by
  unfold prN
  rw [List.range_succ, List.map_append]
  rfl
theorem prN_len (W l : List (List UInt8)) (k : Nat) : (prN W l k).length = k := by simp [prN]
theorem getD_dropT {l : List (List UInt8)} {n j : Nat} (h : n + j < l.length) : (l.drop n).getD j default = l.getD (n + j) default := by
  rw [List.getD_eq_getElem?_getD, List.getD_eq_getElem?_getD, List.getElem?_drop]
def rwO (P : List Pr) (W : List (List UInt8)) : List (Nat × Ob) :=
  [(0, .box 54 [.acc 1 3 (P.map encP), iT W]), (1, .row 61 3)]
attribute [push_cast] rwO
set_option maxHeartbeats 4000000 in
theorem rows_flush (P : List Pr) (W l : List (List UInt8)) (hP : P.length ≤ 1000000) (hW : W.length ≤ 1000000) (hl : l.length ≤ 1000000) :
    PC Try.prog 24 [.bptr 0 0, iT l] (rwO P W) 2 2 (fun t obs => obs = rwO (P ++ prW W l) []) := by
  have hm : mn (W.length : Int) l.length = ((min W.length l.length : Nat) : Int) := by unfold mn; split <;> omega
  have hdW : ((W.map encT).take W.length).drop (min W.length l.length) = (W.drop (min W.length l.length)).map encT := by rw [List.take_of_length_le (by simp), List.map_drop]
  have hdl : ((l.map encT).take l.length).drop (min W.length l.length) = (l.drop (min W.length l.length)).map encT := by rw [List.take_of_length_le (by simp), List.map_drop]
  have hXl : (W.drop (min W.length l.length)).length = W.length - min W.length l.length := List.length_drop ..
  have hYl : (l.drop (min W.length l.length)).length = l.length - min W.length l.length := List.length_drop ..
  have hX : ∀ j, j < W.length - min W.length l.length → (W.drop (min W.length l.length)).getD j default = W.getD (min W.length l.length + j) default := fun j hj => getD_dropT (by omega)
  have hY : ∀ j, j < l.length - min W.length l.length → (l.drop (min W.length l.length)).getD j default = l.getD (min W.length l.length + j) default := fun j hj => getD_dropT (by omega)
  refine PC.body [] Try.func24 rfl (by rfl) (Nat.le_of_ble_eq_true (by rfl)) rfl ?_; simp only [enumA]
  refine PWp.post ?_
  ((repeat refine PWp.seq ?_); refine PWp.region TT (by rfl) (fun K hK => ?_); simp only [push_cast, seval, Nat.reduceEqDiff, Nat.reduceLeDiff, reduceCtorEq, hm]; (repeat refine sk ?_); refine hK _ ?_; clear hK K)
  generalize hn : min W.length l.length = n at *
  generalize W.drop n = X at *
  generalize l.drop n = Y at *
  ((repeat refine PWp.seq ?_); refine PWp.region TT (by rfl) (fun K hK => ?_); simp only [push_cast, seval, Nat.reduceEqDiff, Nat.reduceLeDiff, reduceCtorEq]; (repeat refine sk ?_); refine hK _ ?_; clear hK K)
  refine PWp.gh (st' := ⟨[(0, .bptr 0 0), (1, iT l), (4, iI n), (18, iI n), (19, iI 0)], rwO P W, 2⟩) (Gh.le (by simp [push_cast, -List.getD_eq_getElem?_getD]) (by simp)) ?_
  ((repeat refine PWp.seq ?_); refine PWp.block ?_)
  refine PWp.loop (fun c st => ∃ k : Nat, c = n - k ∧ k ≤ n ∧
    st = ⟨[(0, .bptr 0 0), (1, iT l), (4, iI n), (18, iI n), (19, iI k)], rwO (P ++ prN W l k) W, 2⟩) _ _ ⟨0, rfl, Nat.zero_le _, rfl⟩ (Gh.le (by simp [push_cast, -List.getD_eq_getElem?_getD, prN]) (by simp)) ?_
  rintro c st ⟨k, rfl, hk, rfl⟩
  ((repeat refine PWp.seq ?_); refine PWp.region TT (by rfl) (fun K hK => ?_); simp only [push_cast, seval, Nat.reduceEqDiff, Nat.reduceLeDiff, reduceCtorEq]; (repeat refine sk ?_); refine hK _ ?_; clear hK K)
  ((repeat refine PWp.seq ?_); refine PWp.cond (by simp only [push_cast, seval, Nat.reduceEqDiff, Nat.reduceLeDiff, reduceCtorEq]; rfl) (fun hc => ?_) (fun hc => ?_))
  · have hlt : k < n := by have := of_decide_eq_true hc; omega
    clear hc
    have hs := prN_succ W l k
    have hx : pk W l k = ⟨124, W.getD k default, l.getD k default⟩ := if_pos ⟨by omega, by omega⟩
    have hgW : (W.map encT).getD k .any = encT (W.getD k default) := getD_map (by omega)
    have hgl : (l.map encT).getD k .any = encT (l.getD k default) := getD_map (by omega)
    have hpl := prN_len W l k
    rw [hx] at hs
    generalize W.getD k default = a at *
    generalize l.getD k default = b at *
    ((repeat refine PWp.seq ?_); refine PWp.skip ?_)
    refine PJoin ⟨[(0, .bptr 0 0), (1, iT l), (4, iI n), (18, iI n), (19, iI k)], rwO (P ++ prN W l (k + 1)) W, 2⟩ ?_ ?_
    · ((repeat refine PWp.seq ?_); refine PWp.block ?_)
      ((repeat refine PWp.seq ?_); refine PWp.region TT (by rfl) (fun K hK => ?_); simp only [push_cast, seval, Nat.reduceEqDiff, Nat.reduceLeDiff, reduceCtorEq]; (repeat refine sk ?_); refine hK _ ?_; clear hK K)
      ((repeat refine PWp.seq ?_); refine PWp.drawT TT (by kernel_rfl) [] (.q 0 (.q 1 (.q 2 (.q 3 (.q 5 (.q 6 (.q 7 (.q 9 (.q 12 (.q 13 (.q 14 (.q 15 (.alt 4 (.x 8 (.q 10 (.q 11 (.q 16 (.x 17 (.x 18 (.q 19 (.q 20 (.x 21 .nil))))))))) (.x 8 (.q 10 (.q 11 (.q 16 (.alt 4 (.x 17 (.x 18 (.q 19 (.q 20 (.x 21 .nil))))) (.x 17 (.x 4 (.x 18 (.q 19 (.q 20 (.x 21 .nil)))))))))))))))))))))))) (by rfl) (by kernel_rfl) (by rfl) (by simp) (fun K hK => ?_); simp only [push_cast, seval, Nat.reduceEqDiff, Nat.reduceLeDiff, reduceCtorEq, hgW, hgl])
      repeat' (first | (refine hK _ ?_; exact ⟨rfl, Gh.le (by simp [push_cast, -List.getD_eq_getElem?_getD, hs]) (by simp)⟩) | refine sk ?_ | refine ⟨?_, ?_⟩)
    ((repeat refine PWp.seq ?_); refine PWp.region TT (by rfl) (fun K hK => ?_); simp only [push_cast, seval, Nat.reduceEqDiff, Nat.reduceLeDiff, reduceCtorEq, wrap64_id (n := (k : Int) + 1) (by omega) (by omega)]; (repeat refine sk ?_); refine hK _ ?_; clear hK K)
    refine ⟨_, _, ?_, ⟨k + 1, rfl, by omega, rfl⟩, Gh.le (by simp [push_cast, -List.getD_eq_getElem?_getD]) (by simp)⟩
    omega
  · have hkn : k = n := by have := of_decide_eq_false hc; omega
    subst hkn
    clear hc
    (repeat refine PWp.seq ?_); refine PWp.exit (iteT rfl ?_)
    ((repeat refine PWp.seq ?_); refine PWp.region TT (by rfl) (fun K hK => ?_); simp only [push_cast, seval, Nat.reduceEqDiff, Nat.reduceLeDiff, reduceCtorEq, hdW]; (repeat refine sk ?_); refine hK _ ?_; clear hK K)
    rw [hXl]
    refine PWp.gh (st' := ⟨[(0, .bptr 0 0), (1, iT l), (4, iI k), (49, iT X), (50, iI X.length), (51, iI 0)], rwO (P ++ prN W l k) W, 2⟩) (Gh.le (by simp [push_cast, -List.getD_eq_getElem?_getD, hXl]) (by simp)) ?_
    ((repeat refine PWp.seq ?_); refine PWp.block ?_)
    refine PWp.loop (fun c st => ∃ j : Nat, c = X.length - j ∧ j ≤ X.length ∧
      st = ⟨[(0, .bptr 0 0), (1, iT l), (4, iI k), (49, iT X), (50, iI X.length), (51, iI j)], rwO (P ++ prN W l (k + j)) W, 2⟩) _ _ ⟨0, rfl, Nat.zero_le _, rfl⟩ (Gh.le (by simp [push_cast, -List.getD_eq_getElem?_getD]) (by simp)) ?_
    rintro c st ⟨j, rfl, hj, rfl⟩
    ((repeat refine PWp.seq ?_); refine PWp.region TT (by rfl) (fun K hK => ?_); simp only [push_cast, seval, Nat.reduceEqDiff, Nat.reduceLeDiff, reduceCtorEq]; (repeat refine sk ?_); refine hK _ ?_; clear hK K)
    ((repeat refine PWp.seq ?_); refine PWp.cond (by simp only [push_cast, seval, Nat.reduceEqDiff, Nat.reduceLeDiff, reduceCtorEq]; rfl) (fun hc => ?_) (fun hc => ?_))
    · have hlt : j < X.length := by have := of_decide_eq_true hc; omega
      clear hc
      have hs := prN_succ W l (k + j)
      have hx : pk W l (k + j) = ⟨60, W.getD (k + j) default, []⟩ := by
        unfold pk
        rw [if_neg (by omega), if_pos (by omega)]
      have hgX : (X.map encT).getD j .any = encT (X.getD j default) := getD_map (by omega)
      have hpl := prN_len W l (k + j)
      rw [hx, ← hX j (by omega)] at hs
      generalize X.getD j default = a at *
      ((repeat refine PWp.seq ?_); refine PWp.skip ?_)
      ((repeat refine PWp.seq ?_); refine PWp.block ?_)
      ((repeat refine PWp.seq ?_); refine PWp.region TT (by rfl) (fun K hK => ?_); simp only [push_cast, seval, Nat.reduceEqDiff, Nat.reduceLeDiff, reduceCtorEq, hgX]; (repeat refine sk ?_); refine hK _ ?_; clear hK K)
      ((repeat refine PWp.seq ?_); refine PWp.region TT (by rfl) (fun K hK => ?_); simp only [push_cast, seval, Nat.reduceEqDiff, Nat.reduceLeDiff, reduceCtorEq, hpl]; (repeat refine sk ?_); refine hK _ ?_; clear hK K)
      ((repeat refine PWp.seq ?_); refine PWp.region TT (by rfl) (fun K hK => ?_); simp only [push_cast, seval, Nat.reduceEqDiff, Nat.reduceLeDiff, reduceCtorEq, wrap64_id (n := (j : Int) + 1) (by omega) (by omega)]; (repeat refine sk ?_); refine hK _ ?_; clear hK K)
      refine ⟨_, _, ?_, ⟨j + 1, rfl, by omega, rfl⟩, Gh.le (by simp [push_cast, -List.getD_eq_getElem?_getD, show k + (j + 1) = k + j + 1 by omega, hs]) (by simp)⟩
      omega
    · have hjn : j = X.length := by have := of_decide_eq_false hc; omega
      subst hjn
      clear hc
      have hkX : k + X.length = W.length := by omega
      rw [hkX]
      (repeat refine PWp.seq ?_); refine PWp.exit (iteT rfl ?_)
      ((repeat refine PWp.seq ?_); refine PWp.region TT (by rfl) (fun K hK => ?_); simp only [push_cast, seval, Nat.reduceEqDiff, Nat.reduceLeDiff, reduceCtorEq, hdl]; (repeat refine sk ?_); refine hK _ ?_; clear hK K)
      rw [hYl]
      refine PWp.gh (st' := ⟨[(0, .bptr 0 0), (69, iT Y), (70, iI Y.length), (71, iI 0)], rwO (P ++ prN W l W.length) W, 2⟩) (Gh.le (by simp [push_cast, -List.getD_eq_getElem?_getD, hYl]) (by simp)) ?_
      ((repeat refine PWp.seq ?_); refine PWp.block ?_)
      refine PWp.loop (fun c st => ∃ j : Nat, c = Y.length - j ∧ j ≤ Y.length ∧
        st = ⟨[(0, .bptr 0 0), (69, iT Y), (70, iI Y.length), (71, iI j)], rwO (P ++ prN W l (W.length + j)) W, 2⟩) _ _ ⟨0, rfl, Nat.zero_le _, rfl⟩ (Gh.le (by simp [push_cast, -List.getD_eq_getElem?_getD]) (by simp)) ?_
      rintro c st ⟨j, rfl, hj, rfl⟩
      ((repeat refine PWp.seq ?_); refine PWp.region TT (by rfl) (fun K hK => ?_); simp only [push_cast, seval, Nat.reduceEqDiff, Nat.reduceLeDiff, reduceCtorEq]; (repeat refine sk ?_); refine hK _ ?_; clear hK K)
      ((repeat refine PWp.seq ?_); refine PWp.cond (by simp only [push_cast, seval, Nat.reduceEqDiff, Nat.reduceLeDiff, reduceCtorEq]; rfl) (fun hc => ?_) (fun hc => ?_))
      · have hlt : j < Y.length := by have := of_decide_eq_true hc; omega
        clear hc
        have hs := prN_succ W l (W.length + j)
        have hx : pk W l (W.length + j) = ⟨62, [], l.getD (k + j) default⟩ := by
          unfold pk
          rw [if_neg (by omega), if_neg (by omega), show W.length + j = k + j by omega]
        have hgY : (Y.map encT).getD j .any = encT (Y.getD j default) := getD_map (by omega)
        have hpl := prN_len W l (W.length + j)
        rw [hx, ← hY j (by omega)] at hs
        generalize Y.getD j default = a at *
        ((repeat refine PWp.seq ?_); refine PWp.skip ?_)
        ((repeat refine PWp.seq ?_); refine PWp.block ?_)
        ((repeat refine PWp.seq ?_); refine PWp.region TT (by rfl) (fun K hK => ?_); simp only [push_cast, seval, Nat.reduceEqDiff, Nat.reduceLeDiff, reduceCtorEq, hgY]; (repeat refine sk ?_); refine hK _ ?_; clear hK K)
        ((repeat refine PWp.seq ?_); refine PWp.region TT (by rfl) (fun K hK => ?_); simp only [push_cast, seval, Nat.reduceEqDiff, Nat.reduceLeDiff, reduceCtorEq, hpl]; (repeat refine sk ?_); refine hK _ ?_; clear hK K)
        ((repeat refine PWp.seq ?_); refine PWp.region TT (by rfl) (fun K hK => ?_); simp only [push_cast, seval, Nat.reduceEqDiff, Nat.reduceLeDiff, reduceCtorEq, wrap64_id (n := (j : Int) + 1) (by omega) (by omega)]; (repeat refine sk ?_); refine hK _ ?_; clear hK K)
        refine ⟨_, _, ?_, ⟨j + 1, rfl, by omega, rfl⟩, Gh.le (by simp [push_cast, -List.getD_eq_getElem?_getD, show W.length + (j + 1) = W.length + j + 1 by omega, hs]) (by simp)⟩
        omega
      · have hjn : j = Y.length := by have := of_decide_eq_false hc; omega
        subst hjn
        clear hc
        have hfin : prN W l (W.length + Y.length) = prW W l := by
          unfold prW
          congr 1
          omega
        rw [hfin]
        (repeat refine PWp.seq ?_); refine PWp.exit (iteT rfl ?_)
        ((repeat refine PWp.seq ?_); refine PWp.region TT (by rfl) (fun K hK => ?_); simp only [push_cast, seval, Nat.reduceEqDiff, Nat.reduceLeDiff, reduceCtorEq]; (repeat refine sk ?_); refine hK _ ?_; clear hK K)
        refine ⟨⟨[], rwO (P ++ prW W l) [], 2⟩, Gh.le (by simp [push_cast, -List.getD_eq_getElem?_getD]) (by simp), .inl rfl, by omega, .tup [], _, ?_, rfl⟩
        (simp [push_cast, -List.getD_eq_getElem?_getD])
end Go.Proofs.Ytjajefphfhdfkaa
