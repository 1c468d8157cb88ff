/- The document's Parse. -/
import Derived.Test.YtmocgjimlhgejaaU7
namespace Go.Proofs.Ytmocgjimlhgejaa
open Go.PL
set_option maxRecDepth 100000
set_option linter.unusedSimpArgs false
set_option linter.unusedVariables false
theorem len3 {α : Type} : ∀ (l : List α), l.length = 3 → ∃ a b c, l = [a, b, c]
  | [a, b, c], _ => ⟨a, b, c, rfl⟩
theorem leqR_app {X : List IV} {out : List Rg} {y : IV} {r : Rg} (h : IV.leqL X (out.map encR)) (hy : IV.leq y (encR r)) : IV.leqL (X ++ [y]) ((out ++ [r]).map encR) := by
  rw [List.map_append]
  exact IV.leqL_app h (by simp only [List.map_cons, List.map_nil, IV.leqL]; exact ⟨hy, trivial⟩)
theorem leqR_len {X : List IV} {out : List Rg} (h : IV.leqL X (out.map encR)) : X.length = out.length := by
  have := (IV.leqL_get _ _ h).1
  rw [List.length_map] at this
  exact this.symm
theorem leqR_tv {k : Nat} {X : List IV} {out : List Rg} (h : IV.leqL X (out.map encR)) : TVle (.acc k 5 X) (iR out) := by
  refine .inr (.inr ?_)
  simp only [TV.im, IV.leq]
  exact .inr ⟨trivial, h⟩
theorem ref_Parse_c (l : List Ln) (hl : l.length ≤ 900) : PC Try.prog 8 [iL l] [] 0 0 (fun t obs => t = .tup [iR (parR l).1, iI (parR l).2.1, iI (parR l).2.2] ∧ obs = []) := by
  refine PC.body [2, 3, 4] Try.func8 rfl (by rfl) (Nat.le_of_ble_eq_true (by rfl)) rfl ?_; simp only [enumA]
  ((repeat refine PWp.seq ?_); refine PWp.region TT (by rfl) (fun K hK => ?_); simp only [push_cast, seval, Nat.reduceEqDiff, Nat.reduceLeDiff, reduceCtorEq]; (repeat refine sk ?_); refine hK _ ?_; clear hK K)
  ((repeat refine PWp.seq ?_); refine PWp.region TT (by rfl) (fun K hK => ?_); simp only [push_cast, seval, Nat.reduceEqDiff, Nat.reduceLeDiff, reduceCtorEq]; (repeat refine sk ?_); refine hK _ ?_; clear hK K)
  ((repeat refine PWp.seq ?_); refine PWp.region TT (by rfl) (fun K hK => ?_); simp only [push_cast, seval, Nat.reduceEqDiff, Nat.reduceLeDiff, reduceCtorEq]; (repeat refine sk ?_); refine hK _ ?_; clear hK K)
  ((repeat refine PWp.seq ?_); refine PWp.block ?_)
  refine PWp.loop (fun d st => ∃ (k : Nat) (out : List Rg) (X : List IV), d = l.length - k ∧ k ≤ l.length ∧ out.length ≤ k ∧ IV.leqL X (out.map encR) ∧ parR l = parF ⟨out, noRg, 0⟩ k (l.drop k) ∧
    st = ⟨[(0, iL l), (5, .acc 0 5 X), (6, iI k)], [(0, .row 59 5)], 1⟩) _ _ ⟨0, [], [], rfl, Nat.zero_le _, Nat.le_refl _, trivial, rfl, rfl⟩ (Gh.le (by simp [push_cast, -List.getD_eq_getElem?_getD]) (by simp)) ?_
  rintro d st ⟨k, out, X, rfl, hk, hok, hX, hpf, rfl⟩
  have hXl := leqR_len hX
  ((repeat refine PWp.seq ?_); refine PWp.region TT (by rfl) (fun K hK => ?_); simp only [push_cast, seval, Nat.reduceEqDiff, Nat.reduceLeDiff, reduceCtorEq]; (repeat refine sk ?_); refine hK _ ?_; clear hK K)
  ((repeat refine PWp.seq ?_); refine PWp.cond (by simp only [push_cast, seval, Nat.reduceEqDiff, Nat.reduceLeDiff, reduceCtorEq]; rfl) (fun hc => ?_) (fun hc => ?_))
  · have hlt : k < l.length := by have := of_decide_eq_true hc; omega
    clear hc
    ((repeat refine PWp.seq ?_); refine PWp.skip ?_)
    ((repeat refine PWp.seq ?_); refine PWp.block ?_)
    ((repeat refine PWp.seq ?_); refine PWp.region TT (by rfl) (fun K hK => ?_); simp only [push_cast, seval, Nat.reduceEqDiff, Nat.reduceLeDiff, reduceCtorEq])
    ((repeat refine sk ?_); refine PCall.use (until_c l k (by omega) hk) [] rfl (by simp [push_cast]) (by simp) (by simp [push_cast]) (by simp [push_cast]) (by simp [push_cast]) (by simp [push_cast]) ?_)
    rintro _ _ ⟨rfl, rfl⟩
    obtain ⟨u1, u2, u3⟩ := untl_split (l.drop k)
    have hul : (untl (l.drop k)).length ≤ l.length - k := by
      have := congrArg List.length u1
      rw [List.length_append, List.length_drop] at this
      omega
    rw [List.drop_drop] at u1 u3
    by_cases hu0 : 0 < (untl (l.drop k)).length
    · have hpf2 : parR l = parF ⟨out ++ [⟨false, untl (l.drop k), [], [], []⟩], noRg, 0⟩ (k + (untl (l.drop k)).length) (l.drop (k + (untl (l.drop k)).length)) := by
        rw [hpf]
        conv => lhs; rw [u1]
        rw [par_lines _ _ _ _ u2, show noRg = ⟨false, [], [], [], []⟩ from rfl, fold0, List.nil_append]
        exact par_flush _ hu0 u3
      have hlu := lensL (untl (l.drop k))
      clear u1 u2 u3 hpf
      generalize untl (l.drop k) = u at *
      have hd : decide ((u.length : Int) > 0) = true := decide_eq_true (by omega)
      (simp only [push_cast, seval, Nat.reduceEqDiff, Nat.reduceLeDiff, reduceCtorEq]; (repeat refine sk ?_); refine hK _ ?_; clear hK K)
      ((repeat refine PWp.seq ?_); refine PWp.region TT (by rfl) (fun K hK => ?_); simp only [push_cast, seval, Nat.reduceEqDiff, Nat.reduceLeDiff, reduceCtorEq, hd]; (repeat refine sk ?_); refine hK _ ?_; clear hK K)
      ((repeat refine PWp.seq ?_); refine PWp.cond (by simp only [push_cast, seval, Nat.reduceEqDiff, Nat.reduceLeDiff, reduceCtorEq]; rfl) (fun hc => ?_) (fun hc => ?_))
      · clear hc
        ((repeat refine PWp.seq ?_); refine PWp.region TT (by rfl) (fun K hK => ?_); simp only [push_cast, seval, Nat.reduceEqDiff, Nat.reduceLeDiff, reduceCtorEq]; (repeat refine sk ?_); refine hK _ ?_; clear hK K)
        ((repeat refine PWp.seq ?_); refine PWp.region TT (by rfl) (fun K hK => ?_); simp only [push_cast, seval, Nat.reduceEqDiff, Nat.reduceLeDiff, reduceCtorEq]; (repeat refine sk ?_); refine hK _ ?_; clear hK K)
        (repeat refine PWp.seq ?_); refine PWp.exit (iteT rfl ?_)
        have hy : IV.leq (.agg [.lit (.bool false), .sl 2 (u.map encL), .sl 0 [], .sl 0 [], .sl 0 []]) (encR ⟨false, u, [], [], []⟩) := by
          simp [IV.leq, IV.leqL, encR, sL, IV.leqL_refl]
        refine ⟨_, _, ?_, ⟨k + u.length, out ++ [⟨false, u, [], [], []⟩], X ++ [.agg [.lit (.bool false), .sl 2 (u.map encL), .sl 0 [], .sl 0 [], .sl 0 []]], rfl, by omega, by simp; omega, leqR_app hX hy, hpf2, rfl⟩, Gh.le (by simp [push_cast, -List.getD_eq_getElem?_getD]) (by simp)⟩
        omega
      · cases hc
    · have hue : untl (l.drop k) = [] := List.eq_nil_of_length_eq_zero (by omega)
      rw [hue] at u3
      rw [hue]
      clear hu0 u1 u2 hul hue
      simp only [List.length_nil, Nat.add_zero] at u3
      (simp only [push_cast, seval, Nat.reduceEqDiff, Nat.reduceLeDiff, reduceCtorEq]; (repeat refine sk ?_); refine hK _ ?_; clear hK K)
      ((repeat refine PWp.seq ?_); refine PWp.region TT (by rfl) (fun K hK => ?_); simp only [push_cast, seval, Nat.reduceEqDiff, Nat.reduceLeDiff, reduceCtorEq]; (repeat refine sk ?_); refine hK _ ?_; clear hK K)
      ((repeat refine PWp.seq ?_); refine PWp.cond (by simp only [push_cast, seval, Nat.reduceEqDiff, Nat.reduceLeDiff, reduceCtorEq]; rfl) (fun hc => ?_) (fun hc => ?_))
      · cases hc
      · ((repeat refine PWp.seq ?_); refine PWp.skip ?_)
        ((repeat refine PWp.seq ?_); refine PWp.region TT (by rfl) (fun K hK => ?_); simp only [push_cast, seval, Nat.reduceEqDiff, Nat.reduceLeDiff, reduceCtorEq]; (repeat refine sk ?_); refine hK _ ?_; clear hK K)
        ((repeat refine PWp.seq ?_); refine PWp.region TT (by rfl) (fun K hK => ?_); simp only [push_cast, seval, Nat.reduceEqDiff, Nat.reduceLeDiff, reduceCtorEq]; (repeat refine sk ?_); refine hK _ ?_; clear hK K)
        ((repeat refine PWp.seq ?_); refine PWp.block ?_)
        refine PWp.loop (fun d st => ∃ (w a : Nat) (parts : List (List Ln)), d = 5 - w ∧ 1 ≤ w ∧ w ≤ 5 ∧ k ≤ a ∧ a ≤ l.length ∧ (1 < w → k < a) ∧ (w = 1 → a = k) ∧ parts.length = min (w - 1) 3 ∧
          (w ≤ 4 → marky (l.drop a) ∧ parR l = parF (rdW out parts w) a (l.drop a)) ∧ (w = 5 → parR l = parF ⟨out ++ [⟨true, [], parts.getD 0 [], parts.getD 1 [], parts.getD 2 []⟩], noRg, 0⟩ a (l.drop a)) ∧
          st = ⟨[(0, iL l), (5, .acc 0 5 X), (6, iI a), (9, .acc 1 1 (parts.map encLs)), (10, iI w)], [(0, .row 59 5), (1, .row 22 1)], 2⟩) _ _
          ⟨1, k, [], rfl, by omega, by omega, by omega, hk, by omega, fun _ => rfl, rfl, fun _ => ⟨u3, hpf⟩, fun h => absurd h (by omega), rfl⟩ (Gh.le (by simp [push_cast, -List.getD_eq_getElem?_getD]) (by simp)) ?_
        clear u3 hpf
        rintro d st ⟨w, a, parts, rfl, hw1, hw5, hka, hal, hkl, hk1, hpl, hm4, hm5, rfl⟩
        ((repeat refine PWp.seq ?_); refine PWp.region TT (by rfl) (fun K hK => ?_); simp only [push_cast, seval, Nat.reduceEqDiff, Nat.reduceLeDiff, reduceCtorEq]; (repeat refine sk ?_); refine hK _ ?_; clear hK K)
        by_cases hw : w ≤ 4
        · obtain ⟨u3, hpf⟩ := hm4 hw
          clear hm4 hm5
          have hdw : decide ((w : Int) ≤ 4) = true := decide_eq_true (by omega)
          ((repeat refine PWp.seq ?_); refine PWp.cond (by simp only [push_cast, seval, Nat.reduceEqDiff, Nat.reduceLeDiff, reduceCtorEq]; rfl) (fun hc => ?_) (fun hc => ?_))
          · clear hc
            ((repeat refine PWp.seq ?_); refine PWp.skip ?_)
            ((repeat refine PWp.seq ?_); refine PWp.block ?_)
            by_cases hae : a = l.length
            · have hd : decide ((a : Int) ≥ (l.length : Int)) = true := decide_eq_true (by omega)
              rw [hae, List.drop_length, par_WE out parts (by omega)] at hpf
              ((repeat refine PWp.seq ?_); refine PWp.region TT (by rfl) (fun K hK => ?_); simp only [push_cast, seval, Nat.reduceEqDiff, Nat.reduceLeDiff, reduceCtorEq, hd]; (repeat refine sk ?_); refine hK _ ?_; clear hK K)
              ((repeat refine PWp.seq ?_); refine PWp.cond (by simp only [push_cast, seval, Nat.reduceEqDiff, Nat.reduceLeDiff, reduceCtorEq]; rfl) (fun hc => ?_) (fun hc => ?_))
              · ((repeat refine PWp.seq ?_); refine PWp.region TT (by rfl) (fun K hK => ?_); simp only [push_cast, seval, Nat.reduceEqDiff, Nat.reduceLeDiff, reduceCtorEq]; (repeat refine sk ?_); refine hK _ ?_; clear hK K)
                ((repeat refine PWp.seq ?_); refine PWp.ret ?_)
                refine ⟨.inr rfl, by omega, _, [], ?_, rfl, rfl⟩
                (simp [push_cast, -List.getD_eq_getElem?_getD, hpf])
              · cases hc
            · have hd : decide ((a : Int) ≥ (l.length : Int)) = false := decide_eq_false (by omega)
              have hlt2 : a < l.length := by omega
              have hg : (l.map encL).getD a .any = encL (l.getD a default) := getD_map hlt2
              have hdg := drop_getD hlt2
              rw [hdg] at u3 hpf
              generalize l.getD a default = x at *
              have hx0 : mk x.t ≠ 0 := u3
              clear hdg
              ((repeat refine PWp.seq ?_); refine PWp.region TT (by rfl) (fun K hK => ?_); simp only [push_cast, seval, Nat.reduceEqDiff, Nat.reduceLeDiff, reduceCtorEq, hd]; (repeat refine sk ?_); refine hK _ ?_; clear hK K)
              ((repeat refine PWp.seq ?_); refine PWp.cond (by simp only [push_cast, seval, Nat.reduceEqDiff, Nat.reduceLeDiff, reduceCtorEq]; rfl) (fun hc => ?_) (fun hc => ?_))
              · cases hc
              · ((repeat refine PWp.seq ?_); refine PWp.skip ?_)
                ((repeat refine PWp.seq ?_); refine PWp.region TT (by rfl) (fun K hK => ?_); simp only [push_cast, seval, Nat.reduceEqDiff, Nat.reduceLeDiff, reduceCtorEq, hg])
                refine ⟨by omega, by decide, ?_⟩
                (refine PCall.use (Mark_c x.t) [] rfl (by simp [push_cast]) (by simp) (by simp [push_cast]) (by simp [push_cast]) (by simp [push_cast]) (by simp [push_cast]) ?_)
                rintro _ _ ⟨rfl, rfl⟩
                by_cases hxw : mk x.t = w
                · have hb : ((mk x.t : Int) == (w : Int)) = true := beq_iff_eq.2 (by omega)
                  (simp only [push_cast, seval, Nat.reduceEqDiff, Nat.reduceLeDiff, reduceCtorEq, hb]; (repeat refine sk ?_); refine hK _ ?_; clear hK K)
                  ((repeat refine PWp.seq ?_); refine PWp.cond (by simp only [push_cast, seval, Nat.reduceEqDiff, Nat.reduceLeDiff, reduceCtorEq]; rfl) (fun hc => ?_) (fun hc => ?_))
                  · simp at hc
                    omega
                  · ((repeat refine PWp.seq ?_); refine PWp.skip ?_)
                    ((repeat refine PWp.seq ?_); refine PWp.region TT (by rfl) (fun K hK => ?_); simp only [push_cast, seval, Nat.reduceEqDiff, Nat.reduceLeDiff, reduceCtorEq, wrap64_id (n := (a : Int) + 1) (by omega) (by omega)]; (repeat refine sk ?_); refine hK _ ?_; clear hK K)
                    by_cases hw4 : w < 4
                    · have hd4 : decide ((w : Int) < 4) = true := decide_eq_true (by omega)
                      ((repeat refine PWp.seq ?_); refine PWp.region TT (by rfl) (fun K hK => ?_); simp only [push_cast, seval, Nat.reduceEqDiff, Nat.reduceLeDiff, reduceCtorEq, hd4]; (repeat refine sk ?_); refine hK _ ?_; clear hK K)
                      ((repeat refine PWp.seq ?_); refine PWp.cond (by simp only [push_cast, seval, Nat.reduceEqDiff, Nat.reduceLeDiff, reduceCtorEq]; rfl) (fun hc => ?_) (fun hc => ?_))
                      · clear hc
                        ((repeat refine PWp.seq ?_); refine PWp.region TT (by rfl) (fun K hK => ?_); simp only [push_cast, seval, Nat.reduceEqDiff, Nat.reduceLeDiff, reduceCtorEq])
                        ((repeat refine sk ?_); refine PCall.use (until_c l (a + 1) (by omega) (by omega)) [] rfl (by simp [push_cast]) (by simp) (by simp [push_cast]) (by simp [push_cast]) (by simp [push_cast]) (by simp [push_cast]) ?_)
                        rintro _ _ ⟨rfl, rfl⟩
                        obtain ⟨v1, v2, v3⟩ := untl_split (l.drop (a + 1))
                        have hvl : (untl (l.drop (a + 1))).length ≤ l.length - (a + 1) := by
                          have := congrArg List.length v1
                          rw [List.length_append, List.length_drop] at this
                          omega
                        rw [List.drop_drop] at v1 v3
                        rw [v1, par_W out hw1 (by omega) (by omega) a hxw v2] at hpf
                        clear v1 v2
                        generalize untl (l.drop (a + 1)) = u at *
                        (simp only [push_cast, seval, Nat.reduceEqDiff, Nat.reduceLeDiff, reduceCtorEq]; (repeat refine sk ?_); refine hK _ ?_; clear hK K)
                        ((repeat refine PWp.seq ?_); refine PWp.region TT (by rfl) (fun K hK => ?_); simp only [push_cast, seval, Nat.reduceEqDiff, Nat.reduceLeDiff, reduceCtorEq]; (repeat refine sk ?_); refine hK _ ?_; clear hK K)
                        ((repeat refine PWp.seq ?_); refine PWp.region TT (by rfl) (fun K hK => ?_); simp only [push_cast, seval, Nat.reduceEqDiff, Nat.reduceLeDiff, reduceCtorEq]; (repeat refine sk ?_); refine hK _ ?_; clear hK K)
                        ((repeat refine PWp.seq ?_); refine PWp.region TT (by rfl) (fun K hK => ?_); simp only [push_cast, seval, Nat.reduceEqDiff, Nat.reduceLeDiff, reduceCtorEq, wrap64_id (n := (w : Int) + 1) (by omega) (by omega)]; (repeat refine sk ?_); refine hK _ ?_; clear hK K)
                        refine ⟨_, _, ?_, ⟨w + 1, a + 1 + u.length, parts ++ [u], rfl, by omega, by omega, by omega, by omega, fun _ => by omega, fun _ => by omega, by simp; omega, fun _ => ⟨v3, hpf⟩, fun h => absurd h (by omega), rfl⟩, Gh.le (by simp [push_cast, -List.getD_eq_getElem?_getD]) (by simp)⟩
                        omega
                      · cases hc
                    · have hd4 : decide ((w : Int) < 4) = false := decide_eq_false (by omega)
                      obtain rfl : w = 4 := by omega
                      ((repeat refine PWp.seq ?_); refine PWp.region TT (by rfl) (fun K hK => ?_); simp only [push_cast, seval, Nat.reduceEqDiff, Nat.reduceLeDiff, reduceCtorEq, hd4]; (repeat refine sk ?_); refine hK _ ?_; clear hK K)
                      ((repeat refine PWp.seq ?_); refine PWp.cond (by simp only [push_cast, seval, Nat.reduceEqDiff, Nat.reduceLeDiff, reduceCtorEq]; rfl) (fun hc => ?_) (fun hc => ?_))
                      · cases hc
                      · ((repeat refine PWp.seq ?_); refine PWp.skip ?_)
                        ((repeat refine PWp.seq ?_); refine PWp.region TT (by rfl) (fun K hK => ?_); simp only [push_cast, seval, Nat.reduceEqDiff, Nat.reduceLeDiff, reduceCtorEq, wrap64_id (n := 5) (by omega) (by omega)]; (repeat refine sk ?_); refine hK _ ?_; clear hK K)
                        obtain ⟨p, q, r, rfl⟩ := len3 parts hpl
                        · rw [par_W4 out p q r a hxw] at hpf
                          refine ⟨_, _, ?_, ⟨5, a + 1, [p, q, r], rfl, by omega, by omega, by omega, by omega, fun _ => by omega, fun _ => by omega, rfl, fun h => absurd h (by omega), fun _ => hpf, rfl⟩, Gh.le (by simp [push_cast, -List.getD_eq_getElem?_getD]) (by simp)⟩
                          omega
                · have hb : ((mk x.t : Int) == (w : Int)) = false := beq_eq_false_iff_ne.2 (by omega)
                  rw [par_W0 out parts hw1 a hx0 hxw] at hpf
                  (simp only [push_cast, seval, Nat.reduceEqDiff, Nat.reduceLeDiff, reduceCtorEq, hb]; (repeat refine sk ?_); refine hK _ ?_; clear hK K)
                  ((repeat refine PWp.seq ?_); refine PWp.cond (by simp only [push_cast, seval, Nat.reduceEqDiff, Nat.reduceLeDiff, reduceCtorEq]; rfl) (fun hc => ?_) (fun hc => ?_))
                  · ((repeat refine PWp.seq ?_); refine PWp.region TT (by rfl) (fun K hK => ?_); simp only [push_cast, seval, Nat.reduceEqDiff, Nat.reduceLeDiff, reduceCtorEq, wrap64_id (n := (a : Int) + 1) (by omega) (by omega)]; (repeat refine sk ?_); refine hK _ ?_; clear hK K)
                    ((repeat refine PWp.seq ?_); refine PWp.ret ?_)
                    refine ⟨.inr rfl, by omega, _, [], ?_, rfl, rfl⟩
                    (simp [push_cast, -List.getD_eq_getElem?_getD, hpf])
                  · simp at hc
                    omega
          · simp only [Bool.or_eq_true, Bool.and_eq_true, Bool.not_eq_true', Bool.not_eq_false', Bool.or_eq_false_iff, Bool.and_eq_false_iff, decide_eq_true_eq, decide_eq_false_iff_not, beq_iff_eq, beq_eq_false_iff_ne, bne_iff_ne, bne_eq_false_iff_eq, ne_eq, Classical.not_not, Int.not_lt, Int.not_le, ge_iff_le, gt_iff_lt] at hc
            omega
        · obtain rfl : w = 5 := by omega
          have hpf := hm5 rfl
          clear hm4 hm5
          ((repeat refine PWp.seq ?_); refine PWp.cond (by simp only [push_cast, seval, Nat.reduceEqDiff, Nat.reduceLeDiff, reduceCtorEq]; rfl) (fun hc => ?_) (fun hc => ?_))
          · cases hc
          · (repeat refine PWp.seq ?_); refine PWp.exit (iteT rfl ?_)
            obtain ⟨p, q, r, rfl⟩ := len3 parts hpl
            · have h1 := lensL p
              have h2 := lensL q
              have h3 := lensL r
              ((repeat refine PWp.seq ?_); refine PWp.drawT TT (by kernel_rfl) [] (.q 0 (.q 1 (.q 2 (.q 3 (.q 4 (.q 5 (.q 6 (.q 7 (.q 8 (.q 9 (.q 10 (.x 11 (.x 12 (.q 13 .nil)))))))))))))) (by rfl) (by kernel_rfl) (by rfl) (by simp) (fun K hK => ?_); simp only [push_cast, seval, Nat.reduceEqDiff, Nat.reduceLeDiff, reduceCtorEq]; (repeat refine sk ?_); refine hK _ ?_; clear hK K)
              have hy : IV.leq (.agg [.lit (.bool true), .sl 0 [], .sl 2 (p.map encL), .sl 2 (q.map encL), .sl 2 (r.map encL)]) (encR ⟨true, [], p, q, r⟩) := by
                simp [IV.leq, IV.leqL, encR, sL, IV.leqL_refl]
              refine ⟨_, _, ?_, ⟨a, out ++ [⟨true, [], p, q, r⟩], X ++ [.agg [.lit (.bool true), .sl 0 [], .sl 2 (p.map encL), .sl 2 (q.map encL), .sl 2 (r.map encL)]], rfl, by omega, by simp; omega, leqR_app hX hy, hpf, rfl⟩, Gh.le (by simp [push_cast, -List.getD_eq_getElem?_getD]) (by simp)⟩
              omega
  · have hk' : k = l.length := by have := of_decide_eq_false hc; omega
    subst hk'
    rw [List.drop_length] at hpf
    have hf : parR l = (out, 0, 0) := by
      rw [hpf, parF, if_pos rfl]
      simp [flushR, noRg]
    (repeat refine PWp.seq ?_); refine PWp.exit (iteT rfl ?_)
    ((repeat refine PWp.seq ?_); refine PWp.region TT (by rfl) (fun K hK => ?_); simp only [push_cast, seval, Nat.reduceEqDiff, Nat.reduceLeDiff, reduceCtorEq]; (repeat refine sk ?_); refine hK _ ?_; clear hK K)
    ((repeat refine PWp.seq ?_); refine PWp.ret ?_)
    refine ⟨.inr rfl, by omega, _, [], ?_, rfl, rfl⟩
    rw [hf]
    (simp [push_cast, -List.getD_eq_getElem?_getD, hX])
