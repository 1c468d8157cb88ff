/- Settle. -/
import Derived.Test.YtmocgjimlhgejaaU11
namespace Go.Proofs.Ytmocgjimlhgejaa
open Go.PL
set_option maxRecDepth 100000
set_option linter.unusedSimpArgs false
set_option linter.unusedVariables false
theorem clashN_mono (l : List Rg) {k n : Nat} (h : k ≤ n) : clashN (l.take k) ≤ clashN (l.take n) := by
  have e : l.take k = (l.take n).take k := by rw [List.take_take, Nat.min_eq_left h]
  rw [e]
  conv => rhs; rw [← List.take_append_drop k (l.take n)]
  unfold clashN
  rw [List.filter_append, List.length_append]
  omega
theorem clashN_lt {l : List Rg} {k : Nat} (h : k < l.length) (hc : (l.getD k default).c = true) : clashN (l.take k) < clashN l := by
  have h1 := clashN_succ h
  rw [hc, if_pos rfl] at h1
  have h2 := clashN_mono l (show k + 1 ≤ l.length by omega)
  rw [List.take_length] at h2
  omega
def selL (l : List Rg) (cs : List Int) : Nat → List Ln
  | 0 => []
  | k + 1 => selL l cs k ++ (if (l.getD k default).c then chosenL (l.getD k default) (cs.getD (clashN (l.take k)) default) else (l.getD k default).l)
theorem selL_succ (l : List Rg) (cs : List Int) (k : Nat) : selL l cs (k + 1) = selL l cs k ++ (if (l.getD k default).c then chosenL (l.getD k default) (cs.getD (clashN (l.take k)) default) else (l.getD k default).l) := rfl
theorem selL_le (l : List Rg) (cs : List Int) (k : Nat) : ∀ d, (selL l cs k).length ≤ (selL l cs (k + d)).length
  | 0 => Nat.le_refl _
  | d + 1 => by
    have := selL_le l cs k d
    rw [show k + (d + 1) = k + d + 1 by omega, selL, List.length_append]
    omega
def bareL (a : List Ln) : List Ln := (List.range a.length).map fun i => ⟨(a.getD i default).t, (a.getD i default).b && decide (i + 1 = a.length)⟩
theorem bareL_len (a : List Ln) : (bareL a).length = a.length := by simp [bareL]
def fxB (a : List Ln) (i : Nat) : List Ln := (bareL a).take i ++ a.drop i
theorem fxB_len (a : List Ln) {i : Nat} (h : i ≤ a.length) : (fxB a i).length = a.length := by
  unfold fxB
  rw [List.length_append, List.length_take, List.length_drop, bareL_len]
  omega
theorem fxB_get (a : List Ln) {i : Nat} (h : i < a.length) : (fxB a i).getD i default = a.getD i default := by
  unfold fxB
  have hl : ((bareL a).take i).length = i := by rw [List.length_take, bareL_len]; omega
  simp [List.getD, List.getElem?_append, hl]
theorem fxB_set (a : List Ln) {i : Nat} (h : i < a.length) : (fxB a i).set i ⟨(a.getD i default).t, (a.getD i default).b && decide (i + 1 = a.length)⟩ = fxB a (i + 1) := by
  have hl : ((bareL a).take i).length = i := by rw [List.length_take, bareL_len]; omega
  have hb : (bareL a).getD i default = ⟨(a.getD i default).t, (a.getD i default).b && decide (i + 1 = a.length)⟩ := by
    simp [bareL, List.getD, h]
  unfold fxB
  rw [List.set_append_right _ _ (by omega), hl, Nat.sub_self, drop_getD h, List.set_cons_zero, take_succ_getD (by rw [bareL_len]; exact h), hb, List.append_assoc]
  rfl
theorem map_set_enc (l : List Ln) (i : Nat) (x : Ln) : (l.map encL).set i (encL x) = (l.set i x).map encL := by rw [List.map_set]
def setL (l : List Rg) (cs : List Int) : List Ln × Int := if cs.length = clashN l ∧ cs.any badC = false then (bareL (selL l cs l.length), 0) else ([], 2)
def rgLe (l : List Rg) : Prop := ∀ x ∈ l, x.m.length + x.h.length ≤ 400000000
theorem Settle_c (l : List Rg) (cs : List Int) (hl : l.length ≤ 400000000) (hcs : cs.length ≤ 400000000) (hr : rgLe l) (hp : (selL l cs l.length).length ≤ 400000000) :
    PC Try.prog 11 [iR l, iC cs] [] 0 0 (fun t obs => t = .tup [iL (setL l cs).1, iI (setL l cs).2] ∧ obs = []) := by
  refine PC.body [4, 5] Try.func11 rfl (by rfl) (Nat.le_of_ble_eq_true (by rfl)) rfl ?_; simp only [enumA]
  ((repeat refine PWp.seq ?_); refine PWp.region TT (by rfl) (fun K hK => ?_); simp only [push_cast, seval, Nat.reduceEqDiff, Nat.reduceLeDiff, reduceCtorEq]; (repeat refine sk ?_); refine hK _ ?_; clear hK K)
  ((repeat refine PWp.seq ?_); refine PWp.region TT (by rfl) (fun K hK => ?_); simp only [push_cast, seval, Nat.reduceEqDiff, Nat.reduceLeDiff, reduceCtorEq])
  ((repeat refine sk ?_); refine PCall.use (Clashes_c l hl) [] rfl (by simp [push_cast]) (by simp) (by simp [push_cast]) (by simp [push_cast]) (by simp [push_cast]) (by simp [push_cast]) ?_)
  rintro _ _ ⟨rfl, rfl⟩
  by_cases hn : cs.length = clashN l
  · have hb : ((cs.length : Int) != (clashN l : Int)) = false := bne_eq_false_iff_eq.2 (by omega)
    (simp only [push_cast, seval, Nat.reduceEqDiff, Nat.reduceLeDiff, reduceCtorEq, hb])
    ((repeat refine sk ?_); refine PCall.use (ContainsFunc_c cs hcs) [] rfl (by simp [push_cast]) (by simp) (by simp [push_cast]) (by simp [push_cast]) (by simp [push_cast]) (by simp [push_cast]) ?_)
    rintro _ _ ⟨rfl, rfl⟩
    cases hany : cs.any badC with
    | true =>
      have hs : setL l cs = ([], 2) := if_neg (fun h => by rw [hany] at h; cases h.2)
      (simp only [push_cast, seval, Nat.reduceEqDiff, Nat.reduceLeDiff, reduceCtorEq, hb]; (repeat refine sk ?_); refine hK _ ?_; clear hK K)
      ((repeat refine PWp.seq ?_); refine PWp.cond (by simp only [push_cast, seval, Nat.reduceEqDiff, Nat.reduceLeDiff, reduceCtorEq]; rfl) (fun hc => ?_) (fun hc => ?_))
      · ((repeat refine PWp.seq ?_); refine PWp.region TT (by rfl) (fun K hK => ?_); simp only [push_cast, seval, Nat.reduceEqDiff, Nat.reduceLeDiff, reduceCtorEq]; (repeat refine sk ?_); refine hK _ ?_; clear hK K)
        ((repeat refine PWp.seq ?_); refine PWp.ret ?_)
        refine ⟨.inr rfl, by omega, _, [], ?_, rfl, rfl⟩
        rw [hs]
        (simp [push_cast, -List.getD_eq_getElem?_getD])
      · cases hc
    | false =>
      have hs : setL l cs = (bareL (selL l cs l.length), 0) := if_pos ⟨hn, hany⟩
      (simp only [push_cast, seval, Nat.reduceEqDiff, Nat.reduceLeDiff, reduceCtorEq, hb]; (repeat refine sk ?_); refine hK _ ?_; clear hK K)
      ((repeat refine PWp.seq ?_); refine PWp.cond (by simp only [push_cast, seval, Nat.reduceEqDiff, Nat.reduceLeDiff, reduceCtorEq]; rfl) (fun hc => ?_) (fun hc => ?_))
      · cases hc
      · clear hc
        ((repeat refine PWp.seq ?_); refine PWp.skip ?_)
        ((repeat refine PWp.seq ?_); refine PWp.region TT (by rfl) (fun K hK => ?_); simp only [push_cast, seval, Nat.reduceEqDiff, Nat.reduceLeDiff, reduceCtorEq]; (repeat refine sk ?_); refine hK _ ?_; clear hK K)
        ((repeat refine PWp.seq ?_); refine PWp.region TT (by rfl) (fun K hK => ?_); simp only [push_cast, seval, Nat.reduceEqDiff, Nat.reduceLeDiff, reduceCtorEq]; (repeat refine sk ?_); refine hK _ ?_; clear hK K)
        ((repeat refine PWp.seq ?_); refine PWp.region TT (by rfl) (fun K hK => ?_); simp only [push_cast, seval, Nat.reduceEqDiff, Nat.reduceLeDiff, reduceCtorEq]; (repeat refine sk ?_); refine hK _ ?_; clear hK K)
        ((repeat refine PWp.seq ?_); refine PWp.block ?_)
        refine PWp.gh (Gh.mrow 6 38 2 (by rfl)) ?_
        refine PWp.loop (fun d st => ∃ k : Nat, d = l.length - k ∧ k ≤ l.length ∧
          st = ⟨[(1, iC cs), (6, .mrow 0), (7, iI (clashN (l.take k))), (20, iR l), (21, iI l.length), (22, iI k)], [(0, .mrow 38 2 ((selL l cs k).map encL))], 1⟩) _ _ ⟨0, rfl, Nat.zero_le _, rfl⟩ (Gh.le (by simp [push_cast, -List.getD_eq_getElem?_getD, show clashN (l.take 0) = 0 from rfl, show clashN [] = 0 from rfl, show selL l cs 0 = [] from rfl]) (by simp)) ?_
        rintro d st ⟨k, rfl, hk, rfl⟩
        ((repeat refine PWp.seq ?_); refine PWp.region TT (by rfl) (fun K hK => ?_); simp only [push_cast, seval, Nat.reduceEqDiff, Nat.reduceLeDiff, reduceCtorEq]; (repeat refine sk ?_); refine hK _ ?_; clear hK K)
        ((repeat refine PWp.seq ?_); refine PWp.cond (by simp only [push_cast, seval, Nat.reduceEqDiff, Nat.reduceLeDiff, reduceCtorEq]; rfl) (fun hc => ?_) (fun hc => ?_))
        · have hlt : k < l.length := by have := of_decide_eq_true hc; omega
          clear hc
          have hg : (l.map encR).getD k .any = encR (l.getD k default) := getD_map hlt
          have hse := selL_succ l cs k
          have hle : (selL l cs (k + 1)).length ≤ 400000000 := by
            have := selL_le l cs (k + 1) (l.length - (k + 1))
            rw [show k + 1 + (l.length - (k + 1)) = l.length by omega] at this
            omega
          rw [hse, List.length_append] at hle
          have hcl := clashN_succ hlt
          have hclt := fun h => clashN_lt hlt h
          have hx := hr _ (getD_mem hlt)
          have hle2 := clashN_le l k
          clear hp hr hany hs
          generalize l.getD k default = x at *
          have h1 := lensL x.l
          generalize selL l cs k = P at *
          ((repeat refine PWp.seq ?_); refine PWp.skip ?_)
          ((repeat refine PWp.seq ?_); refine PWp.block ?_)
          ((repeat refine PWp.seq ?_); refine PWp.region TT (by rfl) (fun K hK => ?_); simp only [push_cast, seval, Nat.reduceEqDiff, Nat.reduceLeDiff, reduceCtorEq, hg]; (repeat refine sk ?_); refine hK _ ?_; clear hK K)
          ((repeat refine PWp.seq ?_); refine PWp.region TT (by rfl) (fun K hK => ?_); simp only [push_cast, seval, Nat.reduceEqDiff, Nat.reduceLeDiff, reduceCtorEq]; (repeat refine sk ?_); refine hK _ ?_; clear hK K)
          cases hxc : x.c with
          | false =>
            rw [hxc, if_neg (by decide)] at hse hle hcl
            ((repeat refine PWp.seq ?_); refine PWp.cond (by simp only [push_cast, seval, Nat.reduceEqDiff, Nat.reduceLeDiff, reduceCtorEq]; rfl) (fun hc => ?_) (fun hc => ?_))
            · ((repeat refine PWp.seq ?_); refine PWp.region TT (by rfl) (fun K hK => ?_); simp only [push_cast, seval, Nat.reduceEqDiff, Nat.reduceLeDiff, reduceCtorEq, h1]; (repeat refine sk ?_); refine hK _ ?_; clear hK K)
              (repeat refine PWp.seq ?_); refine PWp.exit (iteT rfl ?_)
              ((repeat refine PWp.seq ?_); refine PWp.region TT (by rfl) (fun K hK => ?_); simp only [push_cast, seval, Nat.reduceEqDiff, Nat.reduceLeDiff, reduceCtorEq, wrap64_id (n := (k : Int) + 1) (by omega) (by omega)]; (repeat refine sk ?_); refine hK _ ?_; clear hK K)
              refine ⟨_, _, ?_, ⟨k + 1, rfl, by omega, rfl⟩, Gh.leR [2] (by simp [push_cast, -List.getD_eq_getElem?_getD, hse, hcl]; try decide)⟩
              omega
            · cases hc
          | true =>
            rw [hxc, if_pos rfl] at hse hle hcl
            have hq := hclt hxc
            have hgc : (cs.map encI).getD (clashN (l.take k)) .any = encI (cs.getD (clashN (l.take k)) default) := getD_map (by omega)
            generalize hcc : cs.getD (clashN (l.take k)) default = c at *
            have h2 := lensL (chosenL x c)
            ((repeat refine PWp.seq ?_); refine PWp.cond (by simp only [push_cast, seval, Nat.reduceEqDiff, Nat.reduceLeDiff, reduceCtorEq]; rfl) (fun hc => ?_) (fun hc => ?_))
            · cases hc
            · ((repeat refine PWp.seq ?_); refine PWp.skip ?_)
              ((repeat refine PWp.seq ?_); refine PWp.drawT TT (by kernel_rfl) [1] (.q 0 (.q 1 (.q 2 (.q 3 (.q 4 (.q 5 (.x 6 (.x 7 (.q 8 .nil))))))))) (by rfl) (by kernel_rfl) (by rfl) (by simp) (fun K hK => ?_); simp only [push_cast, seval, Nat.reduceEqDiff, Nat.reduceLeDiff, reduceCtorEq, hgc])
              ((repeat refine sk ?_); refine PCall.use (chosen_c x c hx) [] rfl (by simp [push_cast, hxc]) (by simp) (by simp [push_cast, hxc]) (by simp [push_cast, hxc]) (by simp [push_cast, hxc]) (by simp [push_cast, hxc]) ?_)
              rintro _ _ ⟨rfl, rfl⟩
              (simp only [push_cast, seval, Nat.reduceEqDiff, Nat.reduceLeDiff, reduceCtorEq, h2]; (repeat refine sk ?_); refine hK _ ?_; clear hK K)
              ((repeat refine PWp.seq ?_); refine PWp.region TT (by rfl) (fun K hK => ?_); simp only [push_cast, seval, Nat.reduceEqDiff, Nat.reduceLeDiff, reduceCtorEq, wrap64_id (n := (clashN (l.take k) : Int) + 1) (by omega) (by omega)]; (repeat refine sk ?_); refine hK _ ?_; clear hK K)
              ((repeat refine PWp.seq ?_); refine PWp.region TT (by rfl) (fun K hK => ?_); simp only [push_cast, seval, Nat.reduceEqDiff, Nat.reduceLeDiff, reduceCtorEq, wrap64_id (n := (k : Int) + 1) (by omega) (by omega)]; (repeat refine sk ?_); refine hK _ ?_; clear hK K)
              refine ⟨_, _, ?_, ⟨k + 1, rfl, by omega, rfl⟩, Gh.leR [2] (by simp [push_cast, -List.getD_eq_getElem?_getD, hse, hcl]; try decide)⟩
              omega
        · have hk' : k = l.length := by have := of_decide_eq_false hc; omega
          subst hk'
          rw [hs]
          generalize selL l cs l.length = a at *
          (repeat refine PWp.seq ?_); refine PWp.exit (iteT rfl ?_)
          ((repeat refine PWp.seq ?_); refine PWp.region TT (by rfl) (fun K hK => ?_); simp only [push_cast, seval, Nat.reduceEqDiff, Nat.reduceLeDiff, reduceCtorEq]; (repeat refine sk ?_); refine hK _ ?_; clear hK K)
          ((repeat refine PWp.seq ?_); refine PWp.block ?_)
          refine PWp.loop (fun d st => ∃ i : Nat, d = a.length - i ∧ i ≤ a.length ∧
            st = ⟨[(6, .mrow 0), (45, iI a.length), (46, iI i)], [(0, .mrow 38 2 ((fxB a i).map encL))], 1⟩) _ _ ⟨0, rfl, Nat.zero_le _, rfl⟩ (Gh.le (by simp [push_cast, -List.getD_eq_getElem?_getD, show fxB a 0 = a from rfl]) (by simp)) ?_
          rintro d st ⟨i, rfl, hi, rfl⟩
          ((repeat refine PWp.seq ?_); refine PWp.region TT (by rfl) (fun K hK => ?_); simp only [push_cast, seval, Nat.reduceEqDiff, Nat.reduceLeDiff, reduceCtorEq]; (repeat refine sk ?_); refine hK _ ?_; clear hK K)
          ((repeat refine PWp.seq ?_); refine PWp.cond (by simp only [push_cast, seval, Nat.reduceEqDiff, Nat.reduceLeDiff, reduceCtorEq]; rfl) (fun hc => ?_) (fun hc => ?_))
          · have hlt : i < a.length := by have := of_decide_eq_true hc; omega
            clear hc
            have hfl := fxB_len a hi
            have hg : ((fxB a i).map encL).getD i .any = encL (a.getD i default) := by
              rw [getD_map (by omega), fxB_get a hlt]
            have hst := fxB_set a hlt
            generalize a.getD i default = x at *
            ((repeat refine PWp.seq ?_); refine PWp.skip ?_)
            ((repeat refine PWp.seq ?_); refine PWp.block ?_)
            ((repeat refine PWp.seq ?_); refine PWp.region TT (by rfl) (fun K hK => ?_); simp only [push_cast, seval, Nat.reduceEqDiff, Nat.reduceLeDiff, reduceCtorEq]; (repeat refine sk ?_); refine hK _ ?_; clear hK K)
            have hlm : ((fxB a i).map encL).length = a.length := by rw [List.length_map, hfl]
            have hset : ∀ b : Bool, b = (x.b && decide (i + 1 = a.length)) → ((fxB a i).map encL).set i (.agg [encS x.t, .lit (.bool b)]) = (fxB a (i + 1)).map encL := fun b hb => by
              rw [hb, ← hst, ← map_set_enc]
              rfl
            cases hxb : x.b with
            | true =>
              rw [hxb] at hset
              have hw1 := wrap64_id (n := (a.length : Int) - 1) (by omega) (by omega)
              have hst2 := hset (((i : Int) == (a.length : Int) - 1)) (by
                rw [Bool.true_and]
                cases h : decide (i + 1 = a.length) with
                | true => have := of_decide_eq_true h; exact beq_iff_eq.2 (by omega)
                | false => have := of_decide_eq_false h; exact beq_eq_false_iff_ne.2 (by omega))
              simp only [encS] at hst2
              ((repeat refine PWp.seq ?_); refine PWp.region TT (by rfl) (fun K hK => ?_); simp only [push_cast, seval, Nat.reduceEqDiff, Nat.reduceLeDiff, reduceCtorEq, hg, hxb, hlm, hw1]; (repeat refine sk ?_); refine hK _ ?_; clear hK K)
              ((repeat refine PWp.seq ?_); refine PWp.region TT (by rfl) (fun K hK => ?_); simp only [push_cast, seval, Nat.reduceEqDiff, Nat.reduceLeDiff, reduceCtorEq, wrap64_id (n := (i : Int) + 1) (by omega) (by omega)]; (repeat refine sk ?_); refine hK _ ?_; clear hK K)
              refine ⟨_, _, ?_, ⟨i + 1, rfl, by omega, rfl⟩, Gh.le (by simp [push_cast, -List.getD_eq_getElem?_getD, hst2]) (by simp)⟩
              omega
            | false =>
              rw [hxb] at hset
              have hst2 := hset false (by simp)
              simp only [encS] at hst2
              ((repeat refine PWp.seq ?_); refine PWp.region TT (by rfl) (fun K hK => ?_); simp only [push_cast, seval, Nat.reduceEqDiff, Nat.reduceLeDiff, reduceCtorEq, hg, hxb, hlm]; (repeat refine sk ?_); refine hK _ ?_; clear hK K)
              ((repeat refine PWp.seq ?_); refine PWp.region TT (by rfl) (fun K hK => ?_); simp only [push_cast, seval, Nat.reduceEqDiff, Nat.reduceLeDiff, reduceCtorEq, wrap64_id (n := (i : Int) + 1) (by omega) (by omega)]; (repeat refine sk ?_); refine hK _ ?_; clear hK K)
              refine ⟨_, _, ?_, ⟨i + 1, rfl, by omega, rfl⟩, Gh.le (by simp [push_cast, -List.getD_eq_getElem?_getD, hst2]) (by simp)⟩
              omega
          · have hi' : i = a.length := by have := of_decide_eq_false hc; omega
            subst hi'
            have hff : fxB a a.length = bareL a := by
              unfold fxB
              rw [List.drop_length, List.append_nil, ← bareL_len a, List.take_length]
            rw [hff]
            (repeat refine PWp.seq ?_); refine PWp.exit (iteT rfl ?_)
            refine PWp.gh (Gh.freeze 0 (e := 38) (sz := 2) (xs := (bareL a).map encL) (by rfl)) ?_
            ((repeat refine PWp.seq ?_); refine PWp.region TT (by rfl) (fun K hK => ?_); simp only [push_cast, seval, Nat.reduceEqDiff, Nat.reduceLeDiff, reduceCtorEq]; (repeat refine sk ?_); refine hK _ ?_; clear hK K)
            ((repeat refine PWp.seq ?_); refine PWp.ret ?_)
            refine ⟨.inr rfl, by omega, _, [], ?_, rfl, rfl⟩
            (simp [push_cast, -List.getD_eq_getElem?_getD])
  · have hb : ((cs.length : Int) != (clashN l : Int)) = true := bne_iff_ne.2 (by omega)
    have hs : setL l cs = ([], 2) := if_neg (fun h => hn h.1)
    (simp only [push_cast, seval, Nat.reduceEqDiff, Nat.reduceLeDiff, reduceCtorEq, hb]; (repeat refine sk ?_); refine hK _ ?_; clear hK K)
    ((repeat refine PWp.seq ?_); refine PWp.cond (by simp only [push_cast, seval, Nat.reduceEqDiff, Nat.reduceLeDiff, reduceCtorEq]; rfl) (fun hc => ?_) (fun hc => ?_))
    · ((repeat refine PWp.seq ?_); refine PWp.region TT (by rfl) (fun K hK => ?_); simp only [push_cast, seval, Nat.reduceEqDiff, Nat.reduceLeDiff, reduceCtorEq]; (repeat refine sk ?_); refine hK _ ?_; clear hK K)
      ((repeat refine PWp.seq ?_); refine PWp.ret ?_)
      refine ⟨.inr rfl, by omega, _, [], ?_, rfl, rfl⟩
      rw [hs]
      (simp [push_cast, -List.getD_eq_getElem?_getD])
    · cases hc
