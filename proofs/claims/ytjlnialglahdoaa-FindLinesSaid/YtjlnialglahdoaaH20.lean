/- The walk of the document's Print. -/
import Derived.Test.YtjlnialglahdoaaH19
namespace Go.Proofs.Ytjlnialglahdoaa
open Go.PL
set_option maxRecDepth 100000
set_option linter.unusedSimpArgs false
set_option linter.unusedVariables false
set_option maxHeartbeats 2000000 in
theorem ref34_Print (l : List Ln) (p : List UInt8) (r : Int) (hl : l.length ≤ 400) (ht : okL l) (hp : p.length ≤ 9223372036854775807) : PC Try.prog 22 [iL l, iS p, iI r] [] 0 60
    (fun t obs => t = .tup [iBy (prF l p r), iI (prE l p r)] ∧ obs = []) := by
  have hPl := plA_len p l
  have hPi := plA_in p l
  refine PC.body [6, 7] Try.func22 rfl (by rfl) (Nat.le_of_ble_eq_true (by rfl)) rfl ?_; simp only [enumA]
  ((repeat refine PWp.seq ?_); refine PWp.region TT (by rfl) (fun K hK => ?_); simp only [push_cast, seval, Nat.reduceEqDiff, Nat.reduceLeDiff, reduceCtorEq]; (repeat refine sk ?_); refine hK _ ?_; clear hK K)
  ((repeat refine PWp.seq ?_); refine PWp.region TT (by rfl) (fun K hK => ?_); simp only [push_cast, seval, Nat.reduceEqDiff, Nat.reduceLeDiff, reduceCtorEq])
  ((repeat refine sk ?_); refine PCall.use (ref34_Lines l p (by omega) ht hp) [] rfl (by simp [push_cast]) (by simp) (by simp [push_cast]) (by simp [push_cast]) (by simp [push_cast]) (by simp [push_cast]) ?_)
  rintro _ _ ⟨rfl, rfl⟩
  (simp only [push_cast, seval, Nat.reduceEqDiff, Nat.reduceLeDiff, reduceCtorEq]; (repeat refine sk ?_); refine hK _ ?_; clear hK K)
  by_cases he : parE p = 0
  case neg =>
    have hb : (parE p != 0) = true := bne_iff_ne.2 he
    have r1 : prF l p r = [] := if_neg he
    have r2 : prE l p r = parE p := if_neg he
    ((repeat refine PWp.seq ?_); refine PWp.region TT (by rfl) (fun K hK => ?_); simp only [push_cast, seval, Nat.reduceEqDiff, Nat.reduceLeDiff, reduceCtorEq, hb]; (repeat refine sk ?_); refine hK _ ?_; clear hK K)
    ((repeat refine PWp.seq ?_); refine PWp.cond (by simp only [push_cast, seval, Nat.reduceEqDiff, Nat.reduceLeDiff, reduceCtorEq]; rfl) (fun hc => ?_) (fun hc => ?_))
    · ((repeat refine PWp.seq ?_); refine PWp.region TT (by rfl) (fun K hK => ?_); simp only [push_cast, seval, Nat.reduceEqDiff, Nat.reduceLeDiff, reduceCtorEq]; (repeat refine sk ?_); refine hK _ ?_; clear hK K)
      ((repeat refine PWp.seq ?_); refine PWp.ret ?_)
      refine ⟨.inr rfl, by omega, _, [], ?_, rfl, rfl⟩
      rw [r1, r2]
      (simp [push_cast, -List.getD_eq_getElem?_getD])
    · cases hc
  have hb : (parE p != 0) = false := by rw [he]; rfl
  have r1 : prF l p r = (if arE l.length r (plA p l) = 0 then prB l (plA p l) (arL l.length r (plA p l)) (arL l.length r (plA p l)).length else []) := if_pos he
  have r2 : prE l p r = arE l.length r (plA p l) := if_pos he
  generalize plA p l = P at *
  ((repeat refine PWp.seq ?_); refine PWp.region TT (by rfl) (fun K hK => ?_); simp only [push_cast, seval, Nat.reduceEqDiff, Nat.reduceLeDiff, reduceCtorEq, hb]; (repeat refine sk ?_); refine hK _ ?_; clear hK K)
  ((repeat refine PWp.seq ?_); refine PWp.cond (by simp only [push_cast, seval, Nat.reduceEqDiff, Nat.reduceLeDiff, reduceCtorEq]; rfl) (fun hc => ?_) (fun hc => ?_))
  · cases hc
  clear hc
  ((repeat refine PWp.seq ?_); refine PWp.skip ?_)
  ((repeat refine PWp.seq ?_); refine PWp.region TT (by rfl) (fun K hK => ?_); simp only [push_cast, seval, Nat.reduceEqDiff, Nat.reduceLeDiff, reduceCtorEq])
  ((repeat refine sk ?_); refine PCall.use (ref_Around P l.length r (by omega)) [] rfl (by simp [push_cast]) (by simp) (by simp [push_cast]) (by simp [push_cast]) (by simp [push_cast]) (by simp [push_cast]) ?_)
  rintro _ _ ⟨rfl, rfl⟩
  (simp only [push_cast, seval, Nat.reduceEqDiff, Nat.reduceLeDiff, reduceCtorEq]; (repeat refine sk ?_); refine hK _ ?_; clear hK K)
  have hRl := arL_len l.length r P
  have hRb := okR_of (arL_bd (l.length : Int) r P)
  by_cases hae : arE l.length r P = 0
  case neg =>
    have hb2 : (arE l.length r P != 0) = true := bne_iff_ne.2 hae
    rw [if_neg hae] at r1
    ((repeat refine PWp.seq ?_); refine PWp.region TT (by rfl) (fun K hK => ?_); simp only [push_cast, seval, Nat.reduceEqDiff, Nat.reduceLeDiff, reduceCtorEq, hb2]; (repeat refine sk ?_); refine hK _ ?_; clear hK K)
    ((repeat refine PWp.seq ?_); refine PWp.cond (by simp only [push_cast, seval, Nat.reduceEqDiff, Nat.reduceLeDiff, reduceCtorEq]; rfl) (fun hc => ?_) (fun hc => ?_))
    · ((repeat refine PWp.seq ?_); refine PWp.region TT (by rfl) (fun K hK => ?_); simp only [push_cast, seval, Nat.reduceEqDiff, Nat.reduceLeDiff, reduceCtorEq]; (repeat refine sk ?_); refine hK _ ?_; clear hK K)
      ((repeat refine PWp.seq ?_); refine PWp.ret ?_)
      refine ⟨.inr rfl, by omega, _, [], ?_, rfl, rfl⟩
      rw [r1, r2]
      (simp [push_cast, -List.getD_eq_getElem?_getD])
    · cases hc
  have hb2 : (arE l.length r P != 0) = false := by rw [hae]; rfl
  have hsm : smP P := fun x hx => ⟨(hPi x hx).1, by have := (hPi x hx).2; omega⟩
  rw [if_pos hae] at r1
  rw [hae] at r2
  generalize arL l.length r P = R at *
  ((repeat refine PWp.seq ?_); refine PWp.region TT (by rfl) (fun K hK => ?_); simp only [push_cast, seval, Nat.reduceEqDiff, Nat.reduceLeDiff, reduceCtorEq, hb2]; (repeat refine sk ?_); refine hK _ ?_; clear hK K)
  ((repeat refine PWp.seq ?_); refine PWp.cond (by simp only [push_cast, seval, Nat.reduceEqDiff, Nat.reduceLeDiff, reduceCtorEq]; rfl) (fun hc => ?_) (fun hc => ?_))
  · cases hc
  clear hc
  ((repeat refine PWp.seq ?_); refine PWp.skip ?_)
  ((repeat refine PWp.seq ?_); refine PWp.region TT (by rfl) (fun K hK => ?_); simp only [push_cast, seval, Nat.reduceEqDiff, Nat.reduceLeDiff, reduceCtorEq]; (repeat refine sk ?_); refine hK _ ?_; clear hK K)
  ((repeat refine PWp.seq ?_); refine PWp.region TT (by rfl) (fun K hK => ?_); simp only [push_cast, seval, Nat.reduceEqDiff, Nat.reduceLeDiff, reduceCtorEq]; (repeat refine sk ?_); refine hK _ ?_; clear hK K)
  refine PWp.gh (st' := ⟨[(0, iL l), (8, iN P), (10, iR R), (12, iS []), (13, iI 0)], [], 0⟩) (Gh.le (by simp [push_cast, -List.getD_eq_getElem?_getD]) (by simp)) ?_
  ((repeat refine PWp.seq ?_); refine PWp.block ?_)
  refine PWp.loop (fun d st => ∃ k : Nat, d = R.length - k ∧ k ≤ R.length ∧
    st = ⟨[(0, iL l), (8, iN P), (10, iR R), (12, iS (prB l P R k)), (13, iI k)], [], 0⟩) _ _ ⟨0, rfl, Nat.zero_le _, rfl⟩ (Gh.le (by simp [push_cast, -List.getD_eq_getElem?_getD, show prB l P R 0 = [] from rfl]) (by simp)) ?_
  rintro d st ⟨k, rfl, hk, rfl⟩
  ((repeat refine PWp.seq ?_); refine PWp.region TT (by rfl) (fun K hK => ?_); simp only [push_cast, seval, Nat.reduceEqDiff, Nat.reduceLeDiff, reduceCtorEq]; (repeat refine sk ?_); refine hK _ ?_; clear hK K)
  ((repeat refine PWp.seq ?_); refine PWp.cond (by simp only [push_cast, seval, Nat.reduceEqDiff, Nat.reduceLeDiff, reduceCtorEq]; rfl) (fun hc => ?_) (fun hc => ?_))
  · have hlt : k < R.length := by have := of_decide_eq_true hc; omega
    clear hc
    obtain ⟨f, n, hx, hfn⟩ := hRb k hlt
    have hg : (R.map encR).getD k .any = encR ((f : Int), (n : Int)) := by rw [← hx]; exact getD_map hlt
    have hps := prB_succ l P R k hx
    have hpl := prB_len ht P hRb (by omega) k (by omega)
    have hsl := sepB_len k
    clear hx
    generalize prB l P R k = A at *
    ((repeat refine PWp.seq ?_); refine PWp.skip ?_)
    ((repeat refine PWp.seq ?_); refine PWp.block ?_)
    refine PJoin ⟨[(0, iL l), (8, iN P), (10, iR R), (12, iS (A ++ sepB k)), (13, iI k)], [], 0⟩ ?_ ?_
    · ((repeat refine PWp.seq ?_); refine PWp.region TT (by rfl) (fun K hK => ?_); simp only [push_cast, seval, Nat.reduceEqDiff, Nat.reduceLeDiff, reduceCtorEq]; (repeat refine sk ?_); refine hK _ ?_; clear hK K)
      ((repeat refine PWp.seq ?_); refine PWp.cond (by simp only [push_cast, seval, Nat.reduceEqDiff, Nat.reduceLeDiff, reduceCtorEq]; rfl) (fun hc => ?_) (fun hc => ?_))
      · have hk0 : 0 < k := by have := of_decide_eq_true hc; omega
        have hse : sepB k = [45, 45, 10] := if_pos hk0
        ((repeat refine PWp.seq ?_); refine PWp.region TT (by rfl) (fun K hK => ?_); simp only [push_cast, seval, Nat.reduceEqDiff, Nat.reduceLeDiff, reduceCtorEq]; (repeat refine sk ?_); refine hK _ ?_; clear hK K)
        exact ⟨rfl, Gh.le (by simp [push_cast, -List.getD_eq_getElem?_getD, hse]) (by simp)⟩
      · have hk0 : ¬ 0 < k := by have := of_decide_eq_false hc; omega
        have hse : sepB k = [] := if_neg hk0
        ((repeat refine PWp.seq ?_); refine PWp.skip ?_)
        exact ⟨rfl, Gh.le (by simp [push_cast, -List.getD_eq_getElem?_getD, hse]) (by simp)⟩
    have hB0 : (A ++ sepB k).length ≤ 61003 * k + 3 := by rw [List.length_append]; omega
    generalize A ++ sepB k = B at *
    clear hpl hsl
    ((repeat refine PWp.seq ?_); refine PWp.region TT (by rfl) (fun K hK => ?_); simp only [push_cast, seval, Nat.reduceEqDiff, Nat.reduceLeDiff, reduceCtorEq, hg]; (repeat refine sk ?_); refine hK _ ?_; clear hK K)
    ((repeat refine PWp.seq ?_); refine PWp.block ?_)
    refine PWp.loop (fun c st => ∃ d : Nat, c = n - d ∧ d ≤ n ∧
      st = ⟨[(0, iL l), (8, iN P), (10, iR R), (12, iS (B ++ rgB l P f d)), (13, iI k), (14, iI (f + d))], [], 0⟩) _ _ ⟨0, rfl, Nat.zero_le _, rfl⟩ (Gh.le (by simp [push_cast, -List.getD_eq_getElem?_getD, show rgB l P f 0 = [] from rfl]) (by simp)) ?_
    rintro c st ⟨d, rfl, hd, rfl⟩
    ((repeat refine PWp.seq ?_); refine PWp.draw TT (by kernel_rfl) (by kernel_rfl) (by rfl) (by rfl) (fun K hK => ?_); simp only [push_cast, seval, Nat.reduceEqDiff, Nat.reduceLeDiff, reduceCtorEq, hg, wrap64_id (n := (f : Int) + n) (by omega) (by omega)]; (repeat refine sk ?_); refine hK _ ?_; clear hK K)
    ((repeat refine PWp.seq ?_); refine PWp.cond (by simp only [push_cast, seval, Nat.reduceEqDiff, Nat.reduceLeDiff, reduceCtorEq]; rfl) (fun hc => ?_) (fun hc => ?_))
    · have hdn : d < n := by have := of_decide_eq_true hc; omega
      clear hc
      have hrs := rgB_succ l P f d
      have hrl := rgB_len ht P f (by omega) d (by omega)
      have hgl : (l.map encL).getD (f + d) .any = encL (l.getD (f + d) default) := getD_map (by omega)
      have hxl := okL_get ht (show f + d < l.length by omega)
      have hdl := decL_len 18 (f + d + 1) (by omega)
      have t1 : ((f : Int) + d).toNat = f + d := by omega
      have w1 := wrap64_id (n := (f : Int) + d + 1) (by omega) (by omega)
      unfold lnB at hrs
      generalize rgB l P f d = C at *
      generalize l.getD (f + d) default = x at *
      ((repeat refine PWp.seq ?_); refine PWp.skip ?_)
      ((repeat refine PWp.seq ?_); refine PWp.block ?_)
      ((repeat refine PWp.seq ?_); refine PWp.region TT (by rfl) (fun K hK => ?_); simp only [push_cast, seval, Nat.reduceEqDiff, Nat.reduceLeDiff, reduceCtorEq]; (repeat refine sk ?_); refine hK _ ?_; clear hK K)
      refine PJoin ⟨[(0, iL l), (8, iN P), (10, iR R), (12, iS (B ++ C)), (13, iI k), (14, iI (f + d)), (15, iS (sgB P (f + d)))], [], 0⟩ ?_ ?_
      · ((repeat refine PWp.seq ?_); refine PWp.region TT (by rfl) (fun K hK => ?_); simp only [push_cast, seval, Nat.reduceEqDiff, Nat.reduceLeDiff, reduceCtorEq])
        ((repeat refine sk ?_); refine PCall.use (ref_near P ((f : Int) + d) hsm (by omega) (by omega) (by omega)) [] rfl (by simp [push_cast]) (by simp) (by simp [push_cast]) (by simp [push_cast]) (by simp [push_cast]) (by simp [push_cast]) ?_)
        rintro _ _ ⟨rfl, rfl⟩
        (simp only [push_cast, seval, Nat.reduceEqDiff, Nat.reduceLeDiff, reduceCtorEq]; (repeat refine sk ?_); refine hK _ ?_; clear hK K)
        ((repeat refine PWp.seq ?_); refine PWp.cond (by simp only [push_cast, seval, Nat.reduceEqDiff, Nat.reduceLeDiff, reduceCtorEq]; rfl) (fun hc => ?_) (fun hc => ?_))
        · have hse : sgB P (f + d) = [58] := if_pos (by push_cast; exact of_decide_eq_true hc)
          ((repeat refine PWp.seq ?_); refine PWp.region TT (by rfl) (fun K hK => ?_); simp only [push_cast, seval, Nat.reduceEqDiff, Nat.reduceLeDiff, reduceCtorEq]; (repeat refine sk ?_); refine hK _ ?_; clear hK K)
          exact ⟨rfl, Gh.le (by simp [push_cast, -List.getD_eq_getElem?_getD, hse]) (by simp)⟩
        · have hse : sgB P (f + d) = [45] := if_neg (by push_cast; exact of_decide_eq_false hc)
          ((repeat refine PWp.seq ?_); refine PWp.skip ?_)
          exact ⟨rfl, Gh.le (by simp [push_cast, -List.getD_eq_getElem?_getD, hse]) (by simp)⟩
      have hsl := sgB_len P (f + d)
      generalize sgB P (f + d) = S at *
      ((repeat refine PWp.seq ?_); refine PWp.drawT TT (by kernel_rfl) [] (.q 0 (.q 1 (.q 2 (.q 5 (.q 7 (.q 8 (.q 9 (.q 10 (.q 11 (.x 3 (.q 4 (.q 6 (.q 12 (.q 13 (.q 14 .nil))))))))))))))) (by rfl) (by kernel_rfl) (by rfl) (by simp) (fun K hK => ?_); simp only [push_cast, seval, Nat.reduceEqDiff, Nat.reduceLeDiff, reduceCtorEq, w1, hgl, t1])
      (repeat refine sk ?_)
      ((repeat refine sk ?_); refine PCall.use (ref01_Decimal (f + d + 2) (f + d + 1) (by omega) (by omega)) [] rfl (by simp [push_cast]) (by simp) (by simp [push_cast]) (by simp [push_cast]) (by simp [push_cast]) (by simp [push_cast]) ?_)
      rintro _ _ ⟨rfl, rfl⟩
      (simp only [push_cast, seval, Nat.reduceEqDiff, Nat.reduceLeDiff, reduceCtorEq]; (repeat refine sk ?_); refine hK _ ?_; clear hK K)
      ((repeat refine PWp.seq ?_); refine PWp.region TT (by rfl) (fun K hK => ?_); simp only [push_cast, seval, Nat.reduceEqDiff, Nat.reduceLeDiff, reduceCtorEq, wrap64_id (n := (f : Int) + d + 1) (by omega) (by omega)]; (repeat refine sk ?_); refine hK _ ?_; clear hK K)
      refine ⟨_, _, ?_, ⟨d + 1, rfl, by omega, rfl⟩, Gh.le (by simp [push_cast, -List.getD_eq_getElem?_getD, hrs, show (f : Int) + (d + 1) = f + d + 1 by omega]) (by simp)⟩
      omega
    · have hdn : d = n := by have := of_decide_eq_false hc; omega
      subst hdn
      clear hc
      (repeat refine PWp.seq ?_); refine PWp.exit (iteT rfl ?_)
      ((repeat refine PWp.seq ?_); refine PWp.region TT (by rfl) (fun K hK => ?_); simp only [push_cast, seval, Nat.reduceEqDiff, Nat.reduceLeDiff, reduceCtorEq, wrap64_id (n := (k : Int) + 1) (by omega) (by omega)]; (repeat refine sk ?_); refine hK _ ?_; clear hK K)
      refine ⟨_, _, ?_, ⟨k + 1, rfl, by omega, rfl⟩, Gh.le (by simp [push_cast, -List.getD_eq_getElem?_getD, hps]) (by simp)⟩
      omega
  · have hk' : k = R.length := by have := of_decide_eq_false hc; omega
    subst hk'
    clear hc
    (repeat refine PWp.seq ?_); refine PWp.exit (iteT rfl ?_)
    ((repeat refine PWp.seq ?_); refine PWp.region TT (by rfl) (fun K hK => ?_); simp only [push_cast, seval, Nat.reduceEqDiff, Nat.reduceLeDiff, reduceCtorEq]; (repeat refine sk ?_); refine hK _ ?_; clear hK K)
    ((repeat refine PWp.seq ?_); refine PWp.ret ?_)
    refine ⟨.inr rfl, by omega, _, [], ?_, rfl, rfl⟩
    rw [r1, r2]
    (simp [push_cast, -List.getD_eq_getElem?_getD])
end Go.Proofs.Ytjlnialglahdoaa
