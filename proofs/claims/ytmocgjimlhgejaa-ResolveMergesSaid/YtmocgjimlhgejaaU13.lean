/- The document's Settle. -/
import Derived.Test.YtmocgjimlhgejaaU12
namespace Go.Proofs.Ytmocgjimlhgejaa
open Go.PL
set_option maxRecDepth 100000
set_option linter.unusedSimpArgs false
set_option linter.unusedVariables false
theorem ref_Settle_c (l : List Rg) (cs : List Int) (hl : l.length ≤ 400000000) (hcs : cs.length ≤ 400000000) (hp : (selL l cs l.length).length ≤ 400000000) :
    PC Try.prog 12 [iR l, iC cs] [] 0 0 (fun t obs => t = .tup [iL (setL l cs).1, iI (setL l cs).2] ∧ obs = []) := by
  refine PC.body [4, 5] Try.func12 rfl (by rfl) (Nat.le_of_ble_eq_true (by rfl)) rfl ?_; simp only [enumA]
  ((repeat refine PWp.seq ?_); refine PWp.region TT (by rfl) (fun K hK => ?_); simp only [push_cast, seval, Nat.reduceEqDiff, Nat.reduceLeDiff, reduceCtorEq]; (repeat refine sk ?_); refine hK _ ?_; clear hK K)
  ((repeat refine PWp.seq ?_); refine PWp.region TT (by rfl) (fun K hK => ?_); simp only [push_cast, seval, Nat.reduceEqDiff, Nat.reduceLeDiff, reduceCtorEq])
  ((repeat refine sk ?_); refine PCall.use (ref_Clashes_c l hl) [] rfl (by simp [push_cast]) (by simp) (by simp [push_cast]) (by simp [push_cast]) (by simp [push_cast]) (by simp [push_cast]) ?_)
  rintro _ _ ⟨rfl, rfl⟩
  by_cases hn : cs.length = clashN l
  · have hb : ((clashN l : Int) != (cs.length : Int)) = false := bne_eq_false_iff_eq.2 (by omega)
    (simp only [push_cast, seval, Nat.reduceEqDiff, Nat.reduceLeDiff, reduceCtorEq, hb]; (repeat refine sk ?_); refine hK _ ?_; clear hK K)
    ((repeat refine PWp.seq ?_); refine PWp.cond (by simp only [push_cast, seval, Nat.reduceEqDiff, Nat.reduceLeDiff, reduceCtorEq]; rfl) (fun hc => ?_) (fun hc => ?_))
    · cases hc
    · clear hc
      ((repeat refine PWp.seq ?_); refine PWp.skip ?_)
      ((repeat refine PWp.seq ?_); refine PWp.region TT (by rfl) (fun K hK => ?_); simp only [push_cast, seval, Nat.reduceEqDiff, Nat.reduceLeDiff, reduceCtorEq]; (repeat refine sk ?_); refine hK _ ?_; clear hK K)
      ((repeat refine PWp.seq ?_); refine PWp.block ?_)
      refine PWp.loop (fun d st => ∃ k : Nat, d = cs.length - k ∧ k ≤ cs.length ∧ (∀ i < k, badC (cs.getD i default) = false) ∧
        st = ⟨[(0, iR l), (1, iC cs), (6, iI k)], [], 0⟩) _ _ ⟨0, rfl, Nat.zero_le _, by simp, rfl⟩ (Gh.le (by simp [push_cast, -List.getD_eq_getElem?_getD]) (by simp)) ?_
      rintro d st ⟨k, rfl, hk, hf, rfl⟩
      ((repeat refine PWp.seq ?_); refine PWp.region TT (by rfl) (fun K hK => ?_); simp only [push_cast, seval, Nat.reduceEqDiff, Nat.reduceLeDiff, reduceCtorEq]; (repeat refine sk ?_); refine hK _ ?_; clear hK K)
      ((repeat refine PWp.seq ?_); refine PWp.cond (by simp only [push_cast, seval, Nat.reduceEqDiff, Nat.reduceLeDiff, reduceCtorEq]; rfl) (fun hc => ?_) (fun hc => ?_))
      · have hlt : k < cs.length := by have := of_decide_eq_true hc; omega
        clear hc
        have hg : (cs.map encI).getD k .any = encI (cs.getD k default) := getD_map hlt
        have hmem := getD_mem hlt
        have hyes : badC (cs.getD k default) = false → ∀ i < k + 1, badC (cs.getD i default) = false := fun he i hi => by
          by_cases e : i = k
          · subst e; exact he
          · exact hf i (by omega)
        generalize cs.getD k default = c at *
        ((repeat refine PWp.seq ?_); refine PWp.skip ?_)
        ((repeat refine PWp.seq ?_); refine PWp.block ?_)
        cases hc1 : decide (c < 1) with
        | true =>
          have hany : cs.any badC = true := List.any_eq_true.2 ⟨c, hmem, by simp [badC, hc1]⟩
          have hs : setL l cs = ([], 2) := if_neg (fun h => by rw [hany] at h; cases h.2)
          ((repeat refine PWp.seq ?_); refine PWp.region TT (by rfl) (fun K hK => ?_); simp only [push_cast, seval, Nat.reduceEqDiff, Nat.reduceLeDiff, reduceCtorEq, hg, hc1]; (repeat refine sk ?_); refine hK _ ?_; clear hK K)
          ((repeat refine PWp.seq ?_); refine PWp.cond (by simp only [push_cast, seval, Nat.reduceEqDiff, Nat.reduceLeDiff, reduceCtorEq]; rfl) (fun hc => ?_) (fun hc => ?_))
          · ((repeat refine PWp.seq ?_); refine PWp.region TT (by rfl) (fun K hK => ?_); simp only [push_cast, seval, Nat.reduceEqDiff, Nat.reduceLeDiff, reduceCtorEq]; (repeat refine sk ?_); refine hK _ ?_; clear hK K)
            ((repeat refine PWp.seq ?_); refine PWp.ret ?_)
            refine ⟨.inr rfl, by omega, _, [], ?_, rfl, rfl⟩
            rw [hs]
            (simp [push_cast, -List.getD_eq_getElem?_getD])
          · cases hc
        | false =>
          cases hc2 : decide (c > 5) with
          | true =>
            have hany : cs.any badC = true := List.any_eq_true.2 ⟨c, hmem, by simp [badC, hc2]⟩
            have hs : setL l cs = ([], 2) := if_neg (fun h => by rw [hany] at h; cases h.2)
            ((repeat refine PWp.seq ?_); refine PWp.region TT (by rfl) (fun K hK => ?_); simp only [push_cast, seval, Nat.reduceEqDiff, Nat.reduceLeDiff, reduceCtorEq, hg, hc1, hc2]; (repeat refine sk ?_); refine hK _ ?_; clear hK K)
            ((repeat refine PWp.seq ?_); refine PWp.cond (by simp only [push_cast, seval, Nat.reduceEqDiff, Nat.reduceLeDiff, reduceCtorEq]; rfl) (fun hc => ?_) (fun hc => ?_))
            · ((repeat refine PWp.seq ?_); refine PWp.region TT (by rfl) (fun K hK => ?_); simp only [push_cast, seval, Nat.reduceEqDiff, Nat.reduceLeDiff, reduceCtorEq]; (repeat refine sk ?_); refine hK _ ?_; clear hK K)
              ((repeat refine PWp.seq ?_); refine PWp.ret ?_)
              refine ⟨.inr rfl, by omega, _, [], ?_, rfl, rfl⟩
              rw [hs]
              (simp [push_cast, -List.getD_eq_getElem?_getD])
            · cases hc
          | false =>
            have hbd : badC c = false := by simp only [badC, hc1, hc2]; rfl
            ((repeat refine PWp.seq ?_); refine PWp.region TT (by rfl) (fun K hK => ?_); simp only [push_cast, seval, Nat.reduceEqDiff, Nat.reduceLeDiff, reduceCtorEq, hg, hc1, hc2]; (repeat refine sk ?_); refine hK _ ?_; clear hK K)
            ((repeat refine PWp.seq ?_); refine PWp.cond (by simp only [push_cast, seval, Nat.reduceEqDiff, Nat.reduceLeDiff, reduceCtorEq]; rfl) (fun hc => ?_) (fun hc => ?_))
            · cases hc
            · ((repeat refine PWp.seq ?_); refine PWp.skip ?_)
              ((repeat refine PWp.seq ?_); refine PWp.region TT (by rfl) (fun K hK => ?_); simp only [push_cast, seval, Nat.reduceEqDiff, Nat.reduceLeDiff, reduceCtorEq, wrap64_id (n := (k : Int) + 1) (by omega) (by omega)]; (repeat refine sk ?_); refine hK _ ?_; clear hK K)
              refine ⟨_, _, ?_, ⟨k + 1, rfl, by omega, hyes hbd, rfl⟩, Gh.le (by simp [push_cast, -List.getD_eq_getElem?_getD]) (by simp)⟩
              omega
      · have hk' : k = cs.length := by have := of_decide_eq_false hc; omega
        subst hk'
        have hany : cs.any badC = false := by
          rw [List.any_eq_false]
          intro x hx
          obtain ⟨j, hj, rfl⟩ := List.getElem_of_mem hx
          have := hf j hj
          simpa [List.getD, hj] using this
        have hs : setL l cs = (bareL (selL l cs l.length), 0) := if_pos ⟨hn, hany⟩
        have hch : ∀ j < cs.length, cs.getD j default = 1 ∨ cs.getD j default = 2 ∨ cs.getD j default = 3 ∨ cs.getD j default = 4 ∨ cs.getD j default = 5 := fun j hj => by
          have := hf j hj
          simp only [badC, Bool.or_eq_false_iff, decide_eq_false_iff_not] at this
          omega
        clear hf
        (repeat refine PWp.seq ?_); refine PWp.exit (iteT rfl ?_)
        ((repeat refine PWp.seq ?_); refine PWp.region TT (by rfl) (fun K hK => ?_); simp only [push_cast, seval, Nat.reduceEqDiff, Nat.reduceLeDiff, reduceCtorEq]; (repeat refine sk ?_); refine hK _ ?_; clear hK K)
        ((repeat refine PWp.seq ?_); refine PWp.region TT (by rfl) (fun K hK => ?_); simp only [push_cast, seval, Nat.reduceEqDiff, Nat.reduceLeDiff, reduceCtorEq]; (repeat refine sk ?_); refine hK _ ?_; clear hK K)
        ((repeat refine PWp.seq ?_); refine PWp.region TT (by rfl) (fun K hK => ?_); simp only [push_cast, seval, Nat.reduceEqDiff, Nat.reduceLeDiff, reduceCtorEq]; (repeat refine sk ?_); refine hK _ ?_; clear hK K)
        ((repeat refine PWp.seq ?_); refine PWp.block ?_)
        refine PWp.loop (fun d st => ∃ k : Nat, d = l.length - k ∧ k ≤ l.length ∧
          st = ⟨[(0, iR l), (1, iC cs), (7, .acc 0 2 ((selL l cs k).map encL)), (8, iI (clashN (l.take k))), (9, iI k)], [(0, .row 38 2)], 1⟩) _ _ ⟨0, rfl, Nat.zero_le _, rfl⟩ (Gh.le (by simp [push_cast, -List.getD_eq_getElem?_getD, show clashN (l.take 0) = 0 from rfl, show clashN [] = 0 from rfl, show selL l cs 0 = [] from rfl]) (by simp)) ?_
        rintro d st ⟨k, rfl, hk, rfl⟩
        ((repeat refine PWp.seq ?_); refine PWp.region TT (by rfl) (fun K hK => ?_); simp only [push_cast, seval, Nat.reduceEqDiff, Nat.reduceLeDiff, reduceCtorEq]; (repeat refine sk ?_); refine hK _ ?_; clear hK K)
        ((repeat refine PWp.seq ?_); refine PWp.cond (by simp only [push_cast, seval, Nat.reduceEqDiff, Nat.reduceLeDiff, reduceCtorEq]; rfl) (fun hc => ?_) (fun hc => ?_))
        · have hlt : k < l.length := by have := of_decide_eq_true hc; omega
          clear hc
          have hg : (l.map encR).getD k .any = encR (l.getD k default) := getD_map hlt
          have hse := selL_succ l cs k
          have hle : (selL l cs (k + 1)).length ≤ 400000000 := by
            have := selL_le l cs (k + 1) (l.length - (k + 1))
            rw [show k + 1 + (l.length - (k + 1)) = l.length by omega] at this
            omega
          rw [hse, List.length_append] at hle
          have hcl := clashN_succ hlt
          have hclt := fun h => clashN_lt hlt h
          have hle2 := clashN_le l k
          clear hp hany hs
          generalize l.getD k default = x at *
          have h1 := lensL x.l
          have h2 := lensL x.m
          have h3 := lensL x.o
          have h4 := lensL x.h
          generalize selL l cs k = P at *
          ((repeat refine PWp.seq ?_); refine PWp.skip ?_)
          ((repeat refine PWp.seq ?_); refine PWp.block ?_)
          ((repeat refine PWp.seq ?_); refine PWp.region TT (by rfl) (fun K hK => ?_); simp only [push_cast, seval, Nat.reduceEqDiff, Nat.reduceLeDiff, reduceCtorEq, hg]; (repeat refine sk ?_); refine hK _ ?_; clear hK K)
          cases hxc : x.c with
          | false =>
            rw [hxc, if_neg (by decide)] at hse hle hcl
            ((repeat refine PWp.seq ?_); refine PWp.cond (by simp only [push_cast, seval, Nat.reduceEqDiff, Nat.reduceLeDiff, reduceCtorEq]; rfl) (fun hc => ?_) (fun hc => ?_))
            · ((repeat refine PWp.seq ?_); refine PWp.region TT (by rfl) (fun K hK => ?_); simp only [push_cast, seval, Nat.reduceEqDiff, Nat.reduceLeDiff, reduceCtorEq, hg, h1]; (repeat refine sk ?_); refine hK _ ?_; clear hK K)
              (repeat refine PWp.seq ?_); refine PWp.exit (iteT rfl ?_)
              ((repeat refine PWp.seq ?_); refine PWp.region TT (by rfl) (fun K hK => ?_); simp only [push_cast, seval, Nat.reduceEqDiff, Nat.reduceLeDiff, reduceCtorEq, wrap64_id (n := (k : Int) + 1) (by omega) (by omega)]; (repeat refine sk ?_); refine hK _ ?_; clear hK K)
              refine ⟨_, _, ?_, ⟨k + 1, rfl, by omega, rfl⟩, Gh.le (by simp [push_cast, -List.getD_eq_getElem?_getD, hse, hcl]) (by simp)⟩
              omega
            · cases hc
          | true =>
            rw [hxc, if_pos rfl] at hse hle hcl
            have hq := hclt hxc
            have hgc : (cs.map encI).getD (clashN (l.take k)) .any = encI (cs.getD (clashN (l.take k)) default) := getD_map (by omega)
            have hc5 := hch (clashN (l.take k)) (by omega)
            generalize cs.getD (clashN (l.take k)) default = c at *
            ((repeat refine PWp.seq ?_); refine PWp.cond (by simp only [push_cast, seval, Nat.reduceEqDiff, Nat.reduceLeDiff, reduceCtorEq]; rfl) (fun hc => ?_) (fun hc => ?_))
            · cases hc
            · ((repeat refine PWp.seq ?_); refine PWp.skip ?_)
              ((repeat refine PWp.seq ?_); refine PWp.region TT (by rfl) (fun K hK => ?_); simp only [push_cast, seval, Nat.reduceEqDiff, Nat.reduceLeDiff, reduceCtorEq, hgc]; (repeat refine sk ?_); refine hK _ ?_; clear hK K)
              ((repeat refine PWp.seq ?_); refine PWp.region TT (by rfl) (fun K hK => ?_); simp only [push_cast, seval, Nat.reduceEqDiff, Nat.reduceLeDiff, reduceCtorEq, wrap64_id (n := (clashN (l.take k) : Int) + 1) (by omega) (by omega)]; (repeat refine sk ?_); refine hK _ ?_; clear hK K)
              rcases hc5 with rfl | rfl | rfl | rfl | rfl
              · have hcc : chosenL x 1 = x.m := rfl
                rw [hcc] at hse hle
                ((repeat refine PWp.seq ?_); refine PWp.region TT (by rfl) (fun K hK => ?_); simp only [push_cast, seval, Nat.reduceEqDiff, Nat.reduceLeDiff, reduceCtorEq]; (repeat refine sk ?_); refine hK _ ?_; clear hK K)
                ((repeat refine PWp.seq ?_); refine PWp.cond (by simp only [push_cast, seval, Nat.reduceEqDiff, Nat.reduceLeDiff, reduceCtorEq]; rfl) (fun hc => ?_) (fun hc => ?_))
                · ((repeat refine PWp.seq ?_); refine PWp.region TT (by rfl) (fun K hK => ?_); simp only [push_cast, seval, Nat.reduceEqDiff, Nat.reduceLeDiff, reduceCtorEq, hg, h2]; (repeat refine sk ?_); refine hK _ ?_; clear hK K)
                  ((repeat refine PWp.seq ?_); refine PWp.region TT (by rfl) (fun K hK => ?_); simp only [push_cast, seval, Nat.reduceEqDiff, Nat.reduceLeDiff, reduceCtorEq]; (repeat refine sk ?_); refine hK _ ?_; clear hK K)
                  ((repeat refine PWp.seq ?_); refine PWp.cond (by simp only [push_cast, seval, Nat.reduceEqDiff, Nat.reduceLeDiff, reduceCtorEq]; rfl) (fun hc => ?_) (fun hc => ?_))
                  · cases hc
                  · ((repeat refine PWp.seq ?_); refine PWp.skip ?_)
                    ((repeat refine PWp.seq ?_); refine PWp.region TT (by rfl) (fun K hK => ?_); simp only [push_cast, seval, Nat.reduceEqDiff, Nat.reduceLeDiff, reduceCtorEq]; (repeat refine sk ?_); refine hK _ ?_; clear hK K)
                    ((repeat refine PWp.seq ?_); refine PWp.cond (by simp only [push_cast, seval, Nat.reduceEqDiff, Nat.reduceLeDiff, reduceCtorEq]; rfl) (fun hc => ?_) (fun hc => ?_))
                    · cases hc
                    · ((repeat refine PWp.seq ?_); refine PWp.skip ?_)
                      ((repeat refine PWp.seq ?_); refine PWp.region TT (by rfl) (fun K hK => ?_); simp only [push_cast, seval, Nat.reduceEqDiff, Nat.reduceLeDiff, reduceCtorEq, wrap64_id (n := (k : Int) + 1) (by omega) (by omega)]; (repeat refine sk ?_); refine hK _ ?_; clear hK K)
                      refine ⟨_, _, ?_, ⟨k + 1, rfl, by omega, rfl⟩, Gh.le (by simp [push_cast, -List.getD_eq_getElem?_getD, hse, hcl]) (by simp)⟩
                      omega
                · cases hc
              · have hcc : chosenL x 2 = x.o := rfl
                rw [hcc] at hse hle
                ((repeat refine PWp.seq ?_); refine PWp.region TT (by rfl) (fun K hK => ?_); simp only [push_cast, seval, Nat.reduceEqDiff, Nat.reduceLeDiff, reduceCtorEq]; (repeat refine sk ?_); refine hK _ ?_; clear hK K)
                ((repeat refine PWp.seq ?_); refine PWp.cond (by simp only [push_cast, seval, Nat.reduceEqDiff, Nat.reduceLeDiff, reduceCtorEq]; rfl) (fun hc => ?_) (fun hc => ?_))
                · cases hc
                · ((repeat refine PWp.seq ?_); refine PWp.skip ?_)
                  ((repeat refine PWp.seq ?_); refine PWp.region TT (by rfl) (fun K hK => ?_); simp only [push_cast, seval, Nat.reduceEqDiff, Nat.reduceLeDiff, reduceCtorEq]; (repeat refine sk ?_); refine hK _ ?_; clear hK K)
                  ((repeat refine PWp.seq ?_); refine PWp.cond (by simp only [push_cast, seval, Nat.reduceEqDiff, Nat.reduceLeDiff, reduceCtorEq]; rfl) (fun hc => ?_) (fun hc => ?_))
                  · ((repeat refine PWp.seq ?_); refine PWp.region TT (by rfl) (fun K hK => ?_); simp only [push_cast, seval, Nat.reduceEqDiff, Nat.reduceLeDiff, reduceCtorEq, hg, h3]; (repeat refine sk ?_); refine hK _ ?_; clear hK K)
                    ((repeat refine PWp.seq ?_); refine PWp.region TT (by rfl) (fun K hK => ?_); simp only [push_cast, seval, Nat.reduceEqDiff, Nat.reduceLeDiff, reduceCtorEq]; (repeat refine sk ?_); refine hK _ ?_; clear hK K)
                    ((repeat refine PWp.seq ?_); refine PWp.cond (by simp only [push_cast, seval, Nat.reduceEqDiff, Nat.reduceLeDiff, reduceCtorEq]; rfl) (fun hc => ?_) (fun hc => ?_))
                    · cases hc
                    · ((repeat refine PWp.seq ?_); refine PWp.skip ?_)
                      ((repeat refine PWp.seq ?_); refine PWp.region TT (by rfl) (fun K hK => ?_); simp only [push_cast, seval, Nat.reduceEqDiff, Nat.reduceLeDiff, reduceCtorEq, wrap64_id (n := (k : Int) + 1) (by omega) (by omega)]; (repeat refine sk ?_); refine hK _ ?_; clear hK K)
                      refine ⟨_, _, ?_, ⟨k + 1, rfl, by omega, rfl⟩, Gh.le (by simp [push_cast, -List.getD_eq_getElem?_getD, hse, hcl]) (by simp)⟩
                      omega
                  · cases hc
              · have hcc : chosenL x 3 = x.h := rfl
                rw [hcc] at hse hle
                ((repeat refine PWp.seq ?_); refine PWp.region TT (by rfl) (fun K hK => ?_); simp only [push_cast, seval, Nat.reduceEqDiff, Nat.reduceLeDiff, reduceCtorEq]; (repeat refine sk ?_); refine hK _ ?_; clear hK K)
                ((repeat refine PWp.seq ?_); refine PWp.cond (by simp only [push_cast, seval, Nat.reduceEqDiff, Nat.reduceLeDiff, reduceCtorEq]; rfl) (fun hc => ?_) (fun hc => ?_))
                · cases hc
                · ((repeat refine PWp.seq ?_); refine PWp.skip ?_)
                  ((repeat refine PWp.seq ?_); refine PWp.region TT (by rfl) (fun K hK => ?_); simp only [push_cast, seval, Nat.reduceEqDiff, Nat.reduceLeDiff, reduceCtorEq]; (repeat refine sk ?_); refine hK _ ?_; clear hK K)
                  ((repeat refine PWp.seq ?_); refine PWp.cond (by simp only [push_cast, seval, Nat.reduceEqDiff, Nat.reduceLeDiff, reduceCtorEq]; rfl) (fun hc => ?_) (fun hc => ?_))
                  · cases hc
                  · ((repeat refine PWp.seq ?_); refine PWp.skip ?_)
                    ((repeat refine PWp.seq ?_); refine PWp.region TT (by rfl) (fun K hK => ?_); simp only [push_cast, seval, Nat.reduceEqDiff, Nat.reduceLeDiff, reduceCtorEq]; (repeat refine sk ?_); refine hK _ ?_; clear hK K)
                    ((repeat refine PWp.seq ?_); refine PWp.cond (by simp only [push_cast, seval, Nat.reduceEqDiff, Nat.reduceLeDiff, reduceCtorEq]; rfl) (fun hc => ?_) (fun hc => ?_))
                    · ((repeat refine PWp.seq ?_); refine PWp.region TT (by rfl) (fun K hK => ?_); simp only [push_cast, seval, Nat.reduceEqDiff, Nat.reduceLeDiff, reduceCtorEq, hg, h4]; (repeat refine sk ?_); refine hK _ ?_; clear hK K)
                      ((repeat refine PWp.seq ?_); refine PWp.region TT (by rfl) (fun K hK => ?_); simp only [push_cast, seval, Nat.reduceEqDiff, Nat.reduceLeDiff, reduceCtorEq, wrap64_id (n := (k : Int) + 1) (by omega) (by omega)]; (repeat refine sk ?_); refine hK _ ?_; clear hK K)
                      refine ⟨_, _, ?_, ⟨k + 1, rfl, by omega, rfl⟩, Gh.le (by simp [push_cast, -List.getD_eq_getElem?_getD, hse, hcl]) (by simp)⟩
                      omega
                    · cases hc
              · have hcc : chosenL x 4 = x.m ++ x.h := rfl
                rw [hcc] at hse hle
                rw [List.length_append] at hle
                ((repeat refine PWp.seq ?_); refine PWp.region TT (by rfl) (fun K hK => ?_); simp only [push_cast, seval, Nat.reduceEqDiff, Nat.reduceLeDiff, reduceCtorEq]; (repeat refine sk ?_); refine hK _ ?_; clear hK K)
                ((repeat refine PWp.seq ?_); refine PWp.cond (by simp only [push_cast, seval, Nat.reduceEqDiff, Nat.reduceLeDiff, reduceCtorEq]; rfl) (fun hc => ?_) (fun hc => ?_))
                · ((repeat refine PWp.seq ?_); refine PWp.region TT (by rfl) (fun K hK => ?_); simp only [push_cast, seval, Nat.reduceEqDiff, Nat.reduceLeDiff, reduceCtorEq, hg, h2]; (repeat refine sk ?_); refine hK _ ?_; clear hK K)
                  ((repeat refine PWp.seq ?_); refine PWp.region TT (by rfl) (fun K hK => ?_); simp only [push_cast, seval, Nat.reduceEqDiff, Nat.reduceLeDiff, reduceCtorEq]; (repeat refine sk ?_); refine hK _ ?_; clear hK K)
                  ((repeat refine PWp.seq ?_); refine PWp.cond (by simp only [push_cast, seval, Nat.reduceEqDiff, Nat.reduceLeDiff, reduceCtorEq]; rfl) (fun hc => ?_) (fun hc => ?_))
                  · cases hc
                  · ((repeat refine PWp.seq ?_); refine PWp.skip ?_)
                    ((repeat refine PWp.seq ?_); refine PWp.region TT (by rfl) (fun K hK => ?_); simp only [push_cast, seval, Nat.reduceEqDiff, Nat.reduceLeDiff, reduceCtorEq]; (repeat refine sk ?_); refine hK _ ?_; clear hK K)
                    ((repeat refine PWp.seq ?_); refine PWp.cond (by simp only [push_cast, seval, Nat.reduceEqDiff, Nat.reduceLeDiff, reduceCtorEq]; rfl) (fun hc => ?_) (fun hc => ?_))
                    · ((repeat refine PWp.seq ?_); refine PWp.region TT (by rfl) (fun K hK => ?_); simp only [push_cast, seval, Nat.reduceEqDiff, Nat.reduceLeDiff, reduceCtorEq, hg, h4]; (repeat refine sk ?_); refine hK _ ?_; clear hK K)
                      ((repeat refine PWp.seq ?_); refine PWp.region TT (by rfl) (fun K hK => ?_); simp only [push_cast, seval, Nat.reduceEqDiff, Nat.reduceLeDiff, reduceCtorEq, wrap64_id (n := (k : Int) + 1) (by omega) (by omega)]; (repeat refine sk ?_); refine hK _ ?_; clear hK K)
                      refine ⟨_, _, ?_, ⟨k + 1, rfl, by omega, rfl⟩, Gh.le (by simp [push_cast, -List.getD_eq_getElem?_getD, hse, hcl, List.append_assoc]) (by simp)⟩
                      omega
                    · cases hc
                · cases hc
              · have hcc : chosenL x 5 = [] := rfl
                rw [hcc, List.append_nil] at hse
                ((repeat refine PWp.seq ?_); refine PWp.region TT (by rfl) (fun K hK => ?_); simp only [push_cast, seval, Nat.reduceEqDiff, Nat.reduceLeDiff, reduceCtorEq]; (repeat refine sk ?_); refine hK _ ?_; clear hK K)
                ((repeat refine PWp.seq ?_); refine PWp.cond (by simp only [push_cast, seval, Nat.reduceEqDiff, Nat.reduceLeDiff, reduceCtorEq]; rfl) (fun hc => ?_) (fun hc => ?_))
                · cases hc
                · ((repeat refine PWp.seq ?_); refine PWp.skip ?_)
                  ((repeat refine PWp.seq ?_); refine PWp.region TT (by rfl) (fun K hK => ?_); simp only [push_cast, seval, Nat.reduceEqDiff, Nat.reduceLeDiff, reduceCtorEq]; (repeat refine sk ?_); refine hK _ ?_; clear hK K)
                  ((repeat refine PWp.seq ?_); refine PWp.cond (by simp only [push_cast, seval, Nat.reduceEqDiff, Nat.reduceLeDiff, reduceCtorEq]; rfl) (fun hc => ?_) (fun hc => ?_))
                  · cases hc
                  · ((repeat refine PWp.seq ?_); refine PWp.skip ?_)
                    ((repeat refine PWp.seq ?_); refine PWp.region TT (by rfl) (fun K hK => ?_); simp only [push_cast, seval, Nat.reduceEqDiff, Nat.reduceLeDiff, reduceCtorEq]; (repeat refine sk ?_); refine hK _ ?_; clear hK K)
                    ((repeat refine PWp.seq ?_); refine PWp.cond (by simp only [push_cast, seval, Nat.reduceEqDiff, Nat.reduceLeDiff, reduceCtorEq]; rfl) (fun hc => ?_) (fun hc => ?_))
                    · cases hc
                    · ((repeat refine PWp.seq ?_); refine PWp.skip ?_)
                      ((repeat refine PWp.seq ?_); refine PWp.region TT (by rfl) (fun K hK => ?_); simp only [push_cast, seval, Nat.reduceEqDiff, Nat.reduceLeDiff, reduceCtorEq, wrap64_id (n := (k : Int) + 1) (by omega) (by omega)]; (repeat refine sk ?_); refine hK _ ?_; clear hK K)
                      refine ⟨_, _, ?_, ⟨k + 1, rfl, by omega, rfl⟩, Gh.le (by simp [push_cast, -List.getD_eq_getElem?_getD, hse, hcl]) (by simp)⟩
                      omega
        · have hk' : k = l.length := by have := of_decide_eq_false hc; omega
          subst hk'
          rw [hs]
          generalize selL l cs l.length = a at *
          (repeat refine PWp.seq ?_); refine PWp.exit (iteT rfl ?_)
          ((repeat refine PWp.seq ?_); refine PWp.region TT (by rfl) (fun K hK => ?_); simp only [push_cast, seval, Nat.reduceEqDiff, Nat.reduceLeDiff, reduceCtorEq]; (repeat refine sk ?_); refine hK _ ?_; clear hK K)
          ((repeat refine PWp.seq ?_); refine PWp.region TT (by rfl) (fun K hK => ?_); simp only [push_cast, seval, Nat.reduceEqDiff, Nat.reduceLeDiff, reduceCtorEq]; (repeat refine sk ?_); refine hK _ ?_; clear hK K)
          ((repeat refine PWp.seq ?_); refine PWp.block ?_)
          refine PWp.loop (fun d st => ∃ i : Nat, d = a.length - i ∧ i ≤ a.length ∧
            st = ⟨[(7, .acc 0 2 (a.map encL)), (11, .acc 1 2 (((bareL a).take i).map encL)), (12, iI i)], [(0, .row 38 2), (1, .row 38 2)], 2⟩) _ _ ⟨0, rfl, Nat.zero_le _, rfl⟩ (Gh.le (by simp [push_cast, -List.getD_eq_getElem?_getD]) (by simp)) ?_
          rintro d st ⟨i, rfl, hi, rfl⟩
          have hbl := bareL_len a
          ((repeat refine PWp.seq ?_); refine PWp.region TT (by rfl) (fun K hK => ?_); simp only [push_cast, seval, Nat.reduceEqDiff, Nat.reduceLeDiff, reduceCtorEq]; (repeat refine sk ?_); refine hK _ ?_; clear hK K)
          ((repeat refine PWp.seq ?_); refine PWp.cond (by simp only [push_cast, seval, Nat.reduceEqDiff, Nat.reduceLeDiff, reduceCtorEq]; rfl) (fun hc => ?_) (fun hc => ?_))
          · have hlt : i < a.length := by have := of_decide_eq_true hc; omega
            clear hc
            have hg : (a.map encL).getD i .any = encL (a.getD i default) := getD_map hlt
            have hts : (bareL a).take (i + 1) = (bareL a).take i ++ [⟨(a.getD i default).t, (a.getD i default).b && decide (i + 1 = a.length)⟩] := by
              rw [take_succ_getD (by omega)]
              congr 2
              simp [bareL, List.getD, hlt]
            have htl : ((bareL a).take i).length ≤ 400000000 := by rw [List.length_take]; omega
            generalize a.getD i default = x at *
            ((repeat refine PWp.seq ?_); refine PWp.skip ?_)
            ((repeat refine PWp.seq ?_); refine PWp.block ?_)
            have hw := wrap64_id (n := (i : Int) + 1) (by omega) (by omega)
            cases hxb : x.b with
            | true =>
              rw [hxb, Bool.true_and, show decide (i + 1 = a.length) = ((i : Int) + 1 == (a.length : Int)) by
                cases h : decide (i + 1 = a.length) with
                | true => have := of_decide_eq_true h; exact (beq_iff_eq.2 (by omega)).symm
                | false => have := of_decide_eq_false h; exact (beq_eq_false_iff_ne.2 (by omega)).symm] at hts
              ((repeat refine PWp.seq ?_); refine PWp.drawT TT (by kernel_rfl) [] (.q 0 (.q 1 (.q 2 (.q 3 (.q 4 (.q 5 (.q 6 (.q 7 (.q 8 (.q 9 (.q 10 (.q 11 (.q 12 (.q 13 (.q 14 (.q 15 (.q 16 (.q 17 (.q 18 (.x 19 (.x 20 (.q 21 .nil)))))))))))))))))))))) (by rfl) (by kernel_rfl) (by rfl) (by simp) (fun K hK => ?_); simp only [push_cast, seval, Nat.reduceEqDiff, Nat.reduceLeDiff, reduceCtorEq, hg, hxb, hw]; (repeat refine sk ?_); refine hK _ ?_; clear hK K)
              ((repeat refine PWp.seq ?_); refine PWp.region TT (by rfl) (fun K hK => ?_); simp only [push_cast, seval, Nat.reduceEqDiff, Nat.reduceLeDiff, reduceCtorEq, hw]; (repeat refine sk ?_); refine hK _ ?_; clear hK K)
              refine ⟨_, _, ?_, ⟨i + 1, rfl, by omega, rfl⟩, Gh.le (by simp [push_cast, -List.getD_eq_getElem?_getD, hts]) (by simp)⟩
              omega
            | false =>
              rw [hxb, Bool.false_and] at hts
              ((repeat refine PWp.seq ?_); refine PWp.drawT TT (by kernel_rfl) [] (.q 0 (.q 1 (.q 2 (.q 3 (.q 4 (.q 5 (.q 6 (.q 7 (.q 8 (.q 9 (.q 10 (.q 11 (.q 12 (.q 13 (.q 14 (.q 15 (.q 16 (.q 17 (.q 18 (.x 19 (.x 20 (.q 21 .nil)))))))))))))))))))))) (by rfl) (by kernel_rfl) (by rfl) (by simp) (fun K hK => ?_); simp only [push_cast, seval, Nat.reduceEqDiff, Nat.reduceLeDiff, reduceCtorEq, hg, hxb, hw]; (repeat refine sk ?_); refine hK _ ?_; clear hK K)
              ((repeat refine PWp.seq ?_); refine PWp.region TT (by rfl) (fun K hK => ?_); simp only [push_cast, seval, Nat.reduceEqDiff, Nat.reduceLeDiff, reduceCtorEq, hw]; (repeat refine sk ?_); refine hK _ ?_; clear hK K)
              refine ⟨_, _, ?_, ⟨i + 1, rfl, by omega, rfl⟩, Gh.le (by simp [push_cast, -List.getD_eq_getElem?_getD, hts]) (by simp)⟩
              omega
          · have hi' : i = a.length := by have := of_decide_eq_false hc; omega
            subst hi'
            have hff : (bareL a).take a.length = bareL a := by rw [← hbl, List.take_length]
            rw [hff]
            (repeat refine PWp.seq ?_); refine PWp.exit (iteT rfl ?_)
            ((repeat refine PWp.seq ?_); refine PWp.region TT (by rfl) (fun K hK => ?_); simp only [push_cast, seval, Nat.reduceEqDiff, Nat.reduceLeDiff, reduceCtorEq]; (repeat refine sk ?_); refine hK _ ?_; clear hK K)
            ((repeat refine PWp.seq ?_); refine PWp.ret ?_)
            refine ⟨.inr rfl, by omega, _, [], ?_, rfl, rfl⟩
            (simp [push_cast, -List.getD_eq_getElem?_getD])
  · have hb : ((clashN l : Int) != (cs.length : Int)) = true := bne_iff_ne.2 (by omega)
    have hs : setL l cs = ([], 2) := if_neg (fun h => hn h.1)
    (simp only [push_cast, seval, Nat.reduceEqDiff, Nat.reduceLeDiff, reduceCtorEq, hb]; (repeat refine sk ?_); refine hK _ ?_; clear hK K)
    ((repeat refine PWp.seq ?_); refine PWp.cond (by simp only [push_cast, seval, Nat.reduceEqDiff, Nat.reduceLeDiff, reduceCtorEq]; rfl) (fun hc => ?_) (fun hc => ?_))
    · ((repeat refine PWp.seq ?_); refine PWp.region TT (by rfl) (fun K hK => ?_); simp only [push_cast, seval, Nat.reduceEqDiff, Nat.reduceLeDiff, reduceCtorEq]; (repeat refine sk ?_); refine hK _ ?_; clear hK K)
      ((repeat refine PWp.seq ?_); refine PWp.ret ?_)
      refine ⟨.inr rfl, by omega, _, [], ?_, rfl, rfl⟩
      rw [hs]
      (simp [push_cast, -List.getD_eq_getElem?_getD])
    · cases hc
