/- Several texts in one: U16, U17, W1, W2, W3. -/
import Derived.Test.YtmocgjimlhgejaaU15
import Derived.Test.YtmocgjimlhgejaaVX
namespace Go.Proofs.Ytmocgjimlhgejaa
open Go.PL
set_option maxRecDepth 100000
set_option linter.unusedSimpArgs false
set_option linter.unusedVariables false
def norm (x : Ln) : Ln := ⟨x.t, x.b && decide (mk x.t = 0)⟩
theorem norm_0 {x : Ln} (h : mk x.t = 0) : norm x = x := by
  unfold norm
  rw [h, decide_eq_true rfl, Bool.and_true]
theorem mk_text {t : List UInt8} {j : Nat} (h : mk t = j + 1) : t = mkS.getD j [] := by
  unfold mk at h
  split at h
  · rename_i e; obtain rfl : j = 0 := by omega
    exact e.symm
  · split at h
    · rename_i e; obtain rfl : j = 1 := by omega
      exact e.symm
    · split at h
      · rename_i e; obtain rfl : j = 2 := by omega
        exact e.symm
      · split at h
        · rename_i e; obtain rfl : j = 3 := by omega
          exact e.symm
        · omega
theorem norm_m {x : Ln} {j : Nat} (h : mk x.t = j + 1) : norm x = mkL j := by
  unfold norm mkL
  rw [h, decide_eq_false (by omega), Bool.and_false, ← mk_text h]
theorem takeR_norm (r : Rd) (x : Ln) : takeR r (norm x) = takeR r x := by
  by_cases h : mk x.t = 0
  · rw [norm_0 h]
  · unfold takeR
    rw [show (norm x).t = x.t from rfl, if_neg h, if_neg h]
theorem parF_norm : ∀ (l : List Ln) (r : Rd) (k : Nat), parF r k (l.map norm) = parF r k l
  | [], r, k => rfl
  | x :: l, r, k => by
    rw [List.map_cons, parF, parF, takeR_norm]
    cases takeR r x with
    | none => rfl
    | some r' => exact parF_norm l r' (k + 1)
def rdP (r : Rd) : List Ln := printL r.out ++ (if r.p = 0 then r.now.l else if r.p = 1 then [mkL 0] ++ r.now.m else if r.p = 2 then [mkL 0] ++ r.now.m ++ [mkL 1] ++ r.now.o else [mkL 0] ++ r.now.m ++ [mkL 1] ++ r.now.o ++ [mkL 2] ++ r.now.h)
def rdF (r : Rd) : Prop := r.p < 4 ∧ (r.p = 0 → r.now.c = false) ∧ (r.p ≠ 0 → r.now.c = true) ∧ (r.p = 1 → r.now.o = [] ∧ r.now.h = []) ∧ (r.p = 2 → r.now.h = [])
theorem printL_app (a b : List Rg) : printL (a ++ b) = printL a ++ printL b := by simp [printL]
theorem print_f0 (out : List Rg) (l m o h : List Ln) (p : Nat) : printL (flushR ⟨out, ⟨false, l, m, o, h⟩, p⟩).out = printL out ++ l := by
  unfold flushR
  simp only
  split
  · rw [printL_app]
    simp [printL, prL]
  · rename_i hc
    have : l = [] := List.eq_nil_of_length_eq_zero (by simp at hc; simp [hc])
    rw [this, List.append_nil]
theorem print_f3 (out : List Rg) (l m o h : List Ln) (p : Nat) : printL (flushR ⟨out, ⟨true, l, m, o, h⟩, p⟩).out = printL out ++ ([mkL 0] ++ m ++ [mkL 1] ++ o ++ [mkL 2] ++ h ++ [mkL 3]) := by
  unfold flushR
  simp only [true_or, if_true]
  rw [printL_app]
  simp [printL, prL]
theorem take_P {r r' : Rd} {x : Ln} (hw : rdF r) (ht : takeR r x = some r') : rdF r' ∧ rdP r' = rdP r ++ [norm x] := by
  obtain ⟨out, ⟨c, l, m, o, h⟩, p⟩ := r
  obtain ⟨hp, h0, h1, h2, h3⟩ := hw
  simp only at hp h0 h1 h2 h3
  unfold takeR at ht
  have hp4 : p = 0 ∨ p = 1 ∨ p = 2 ∨ p = 3 := by omega
  split at ht
  · rename_i hm
    injection ht with ht
    subst ht
    rw [norm_0 hm]
    rcases hp4 with rfl | rfl | rfl | rfl
    · refine ⟨⟨by simp [takeL], fun _ => h0 rfl, fun h => absurd rfl h, fun h => absurd h (by simp [takeL]), fun h => absurd h (by simp [takeL])⟩, ?_⟩
      simp [rdP, takeL]
    · obtain ⟨rfl, rfl⟩ := h2 rfl
      refine ⟨⟨by simp [takeL], fun h => absurd h (by simp [takeL]), fun _ => h1 (by decide), fun _ => ⟨rfl, rfl⟩, fun h => absurd h (by simp [takeL])⟩, ?_⟩
      simp [rdP, takeL]
    · obtain rfl := h3 rfl
      refine ⟨⟨by simp [takeL], fun h => absurd h (by simp [takeL]), fun _ => h1 (by decide), fun h => absurd h (by simp [takeL]), fun _ => rfl⟩, ?_⟩
      simp [rdP, takeL]
    · refine ⟨⟨by simp [takeL], fun h => absurd h (by simp [takeL]), fun _ => h1 (by decide), fun h => absurd h (by simp [takeL]), fun h => absurd h (by simp [takeL])⟩, ?_⟩
      simp [rdP, takeL]
  · split at ht
    · rename_i hm
      injection ht with ht
      subst ht
      simp only at hm
      rw [norm_m hm]
      rcases hp4 with rfl | rfl | rfl | rfl
      · obtain rfl := h0 rfl
        refine ⟨⟨by simp [markR], fun h => absurd h (by simp [markR]), fun _ => rfl, fun _ => ⟨rfl, rfl⟩, fun _ => rfl⟩, ?_⟩
        have hf := print_f0 out l m o h 0
        simp only [rdP, markR, true_or, if_true, hf]
        simp
      · obtain ⟨rfl, rfl⟩ := h2 rfl
        have hc := h1 (by decide)
        refine ⟨⟨by simp [markR], fun h => absurd h (by simp [markR]), fun _ => hc, fun _ => ⟨rfl, rfl⟩, fun _ => rfl⟩, ?_⟩
        simp [rdP, markR]
      · obtain rfl := h3 rfl
        have hc := h1 (by decide)
        refine ⟨⟨by simp [markR], fun h => absurd h (by simp [markR]), fun _ => hc, fun h => absurd h (by simp [markR]), fun _ => rfl⟩, ?_⟩
        simp [rdP, markR]
      · obtain rfl := h1 (by decide)
        refine ⟨⟨by simp [markR], fun _ => rfl, fun h => absurd (by simp [markR]) h, fun h => absurd h (by simp [markR]), fun _ => rfl⟩, ?_⟩
        have hf := print_f3 out l m o h 3
        simp only [rdP, markR, or_true, if_true, hf]
        simp [noRg]
    · cases ht
theorem parF_P : ∀ (l : List Ln) (r : Rd) (k : Nat), rdF r → (parF r k l).2.2 = 0 → printL (parF r k l).1 = rdP r ++ l.map norm
  | [], r, k, hw, he => by
    rw [parF] at he ⊢
    split at he
    · rename_i hp
      rw [if_pos hp]
      obtain ⟨out, ⟨c, l, m, o, h⟩, p⟩ := r
      simp only at hp
      subst hp
      obtain rfl : c = false := hw.2.1 rfl
      simp only [print_f0, rdP, if_true, List.map_nil, List.append_nil]
    · cases he
  | x :: l, r, k, hw, he => by
    rw [parF] at he ⊢
    cases ht : takeR r x with
    | none => rw [ht] at he; cases he
    | some r' =>
      rw [ht] at he
      obtain ⟨h1, h2⟩ := take_P hw ht
      have := parF_P l r' (k + 1) h1 he
      simp only
      rw [this, h2, List.map_cons]
      simp
theorem parF_err : ∀ (l : List Ln) (r : Rd) (k : Nat), (parF r k l).2.2 = 0 ∨ (parF r k l).1 = []
  | [], r, k => by
    rw [parF]
    split
    · exact .inl rfl
    · exact .inr rfl
  | x :: l, r, k => by
    rw [parF]
    cases takeR r x with
    | none => exact .inr rfl
    | some r' => exact parF_err l r' (k + 1)
theorem parR_print (l : List Ln) (he : (parR l).2.2 = 0) : printL (parR l).1 = l.map norm := by
  have := parF_P l rd0 0 ⟨by decide, fun _ => rfl, fun h => absurd rfl h, fun h => absurd h (by decide), fun h => absurd h (by decide)⟩ he
  unfold parR
  rw [this]
  rfl
theorem Mark_q (t : List UInt8) : QCall Try.prog 18 [iS t] (iI (mk t)) := (Mark_c t).quiet (fun _ _ h => h.1) rfl (by simp [push_cast])
theorem ResolveBack_walk (l : List Ln) : PC Try.prog 5 [iL l] [] 0 900 (fun t obs => t = iB true ∧ obs = []) := by
  have h1 : 0 ≤ mn (l.length : Int) 100 := by unfold mn; split <;> omega
  have h2 : mn (l.length : Int) 100 ≤ l.length := by unfold mn; split <;> omega
  have e1 : (l.map encL).take (mn (l.length : Int) 100).toNat = (l.take 100).map encL := by
    rw [← List.map_take]
    have := mn_takeN l 100
    exact congrArg _ this
  refine PC.body [2] Try.func5 rfl (by rfl) (Nat.le_of_ble_eq_true (by rfl)) rfl ?_; simp only [enumA]
  ((repeat refine PWp.seq ?_); refine PWp.region TT (by rfl) (fun K hK => ?_); simp only [push_cast, seval, Nat.reduceEqDiff, Nat.reduceLeDiff, reduceCtorEq]; (repeat refine sk ?_); refine hK _ ?_; clear hK K)
  ((repeat refine PWp.seq ?_); refine PWp.region TT (by rfl) (fun K hK => ?_); simp only [push_cast, seval, Nat.reduceEqDiff, Nat.reduceLeDiff, reduceCtorEq, e1]; (repeat refine sk ?_); refine hK _ ?_; clear hK K)
  clear h1 h2 e1
  have hL : (l.take 100).length ≤ 900 := by rw [List.length_take]; omega
  generalize l.take 100 = M at *
  obtain ⟨b1, b2⟩ := parR_big M hL
  have b3 := parR_bigR M hL
  have hpn : parR (M.map norm) = parR M := parF_norm M rd0 0
  ((repeat refine PWp.seq ?_); refine PWp.region TT (by rfl) (fun K hK => ?_); simp only [push_cast, seval, Nat.reduceEqDiff, Nat.reduceLeDiff, reduceCtorEq])
  ((repeat refine sk ?_); refine PCall.use (Parse_c M hL) [] rfl (by simp [push_cast]) (by simp) (by simp [push_cast]) (by simp [push_cast]) (by simp [push_cast]) (by simp [push_cast]) ?_)
  rintro _ _ ⟨rfl, rfl⟩
  (simp only [push_cast, seval, Nat.reduceEqDiff, Nat.reduceLeDiff, reduceCtorEq]; (repeat refine sk ?_); refine hK _ ?_; clear hK K)
  by_cases he : (parR M).2.2 = 0
  · have hpr := parR_print M he
    ((repeat refine PWp.seq ?_); refine PWp.region TT (by rfl) (fun K hK => ?_); simp only [push_cast, seval, Nat.reduceEqDiff, Nat.reduceLeDiff, reduceCtorEq, he]; (repeat refine sk ?_); refine hK _ ?_; clear hK K)
    ((repeat refine PWp.seq ?_); refine PWp.cond (by simp only [push_cast, seval, Nat.reduceEqDiff, Nat.reduceLeDiff, reduceCtorEq]; rfl) (fun hc => ?_) (fun hc => ?_))
    · cases hc
    · ((repeat refine PWp.seq ?_); refine PWp.skip ?_)
      ((repeat refine PWp.seq ?_); refine PWp.region TT (by rfl) (fun K hK => ?_); simp only [push_cast, seval, Nat.reduceEqDiff, Nat.reduceLeDiff, reduceCtorEq])
      ((repeat refine sk ?_); refine PCall.use (Print_c (parR M).1 (by omega) (by rw [hpr, List.length_map]; omega)) [] rfl (by simp [push_cast]) (by simp) (by simp [push_cast]) (by simp [push_cast]) (by simp [push_cast]) (by simp [push_cast]) ?_)
      rintro _ _ ⟨rfl, rfl⟩
      rw [hpr]
      generalize hA : (parR M).1 = A at *
      (simp only [push_cast, seval, Nat.reduceEqDiff, Nat.reduceLeDiff, reduceCtorEq]; (repeat refine sk ?_); refine hK _ ?_; clear hK K)
      ((repeat refine PWp.seq ?_); refine PWp.region TT (by rfl) (fun K hK => ?_); simp only [push_cast, seval, Nat.reduceEqDiff, Nat.reduceLeDiff, reduceCtorEq, List.length_map, bne_self_eq_false]; (repeat refine sk ?_); refine hK _ ?_; clear hK K)
      ((repeat refine PWp.seq ?_); refine PWp.cond (by simp only [push_cast, seval, Nat.reduceEqDiff, Nat.reduceLeDiff, reduceCtorEq]; rfl) (fun hc => ?_) (fun hc => ?_))
      · cases hc
      · ((repeat refine PWp.seq ?_); refine PWp.skip ?_)
        ((repeat refine PWp.seq ?_); refine PWp.region TT (by rfl) (fun K hK => ?_); simp only [push_cast, seval, Nat.reduceEqDiff, Nat.reduceLeDiff, reduceCtorEq]; (repeat refine sk ?_); refine hK _ ?_; clear hK K)
        ((repeat refine PWp.seq ?_); refine PWp.block ?_)
        refine PWp.loop (fun d st => ∃ k : Nat, d = M.length - k ∧ k ≤ M.length ∧
          st = ⟨[(0, iL M), (3, iR A), (6, iL (M.map norm)), (7, iI k)], [], 0⟩) _ _ ⟨0, rfl, Nat.zero_le _, rfl⟩ (Gh.le (by simp [push_cast, -List.getD_eq_getElem?_getD]) (by simp)) ?_
        rintro d st ⟨k, rfl, hk, rfl⟩
        ((repeat refine PWp.seq ?_); refine PWp.region TT (by rfl) (fun K hK => ?_); simp only [push_cast, seval, Nat.reduceEqDiff, Nat.reduceLeDiff, reduceCtorEq, List.length_map]; (repeat refine sk ?_); refine hK _ ?_; clear hK K)
        ((repeat refine PWp.seq ?_); refine PWp.cond (by simp only [push_cast, seval, Nat.reduceEqDiff, Nat.reduceLeDiff, reduceCtorEq]; rfl) (fun hc => ?_) (fun hc => ?_))
        · have hlt : k < M.length := by have := of_decide_eq_true hc; omega
          clear hc
          have hg : (M.map encL).getD k .any = encL (M.getD k default) := getD_map hlt
          have hg2 : ((M.map norm).map encL).getD k .any = encL (norm (M.getD k default)) := by
            rw [List.map_map]
            exact getD_map (f := encL ∘ norm) hlt
          generalize M.getD k default = x at *
          have hlm : ((M.map norm).map encL).length = M.length := by simp
          ((repeat refine PWp.seq ?_); refine PWp.skip ?_)
          ((repeat refine PWp.seq ?_); refine PWp.block ?_)
          cases hb : x.b with
          | true =>
            have hn : norm x = ⟨x.t, ((mk x.t : Int) == 0)⟩ := by
              unfold norm
              rw [hb, Bool.true_and]
              congr 1
              cases h : decide (mk x.t = 0) with
              | true => have := of_decide_eq_true h; exact (beq_iff_eq.2 (by omega)).symm
              | false => have := of_decide_eq_false h; exact (beq_eq_false_iff_ne.2 (by omega)).symm
            rw [hn] at hg2
            ((repeat refine PWp.seq ?_); refine PWp.draw TT (by kernel_rfl) (by kernel_rfl) (by rfl) (by rfl) (fun K hK => ?_); simp only [push_cast, seval, Nat.reduceEqDiff, Nat.reduceLeDiff, reduceCtorEq, hg, hg2, hlm, hb, bne_self_eq_false])
            ((repeat refine sk ?_); refine ⟨_, _, Mark_q x.t, by simp [push_cast], by simp [push_cast], ?_⟩)
            (simp only [push_cast, seval, Nat.reduceEqDiff, Nat.reduceLeDiff, reduceCtorEq, bne_self_eq_false, beq_self_eq_true, hg, hg2, hlm]; (repeat refine sk ?_); refine hK _ ?_; clear hK K)
            ((repeat refine PWp.seq ?_); refine PWp.cond (by simp only [push_cast, seval, Nat.reduceEqDiff, Nat.reduceLeDiff, reduceCtorEq]; rfl) (fun hc => ?_) (fun hc => ?_))
            · cases hc
            · ((repeat refine PWp.seq ?_); refine PWp.skip ?_)
              ((repeat refine PWp.seq ?_); refine PWp.region TT (by rfl) (fun K hK => ?_); simp only [push_cast, seval, Nat.reduceEqDiff, Nat.reduceLeDiff, reduceCtorEq, wrap64_id (n := (k : Int) + 1) (by omega) (by omega)]; (repeat refine sk ?_); refine hK _ ?_; clear hK K)
              refine ⟨_, _, ?_, ⟨k + 1, rfl, by omega, rfl⟩, Gh.le (by simp [push_cast, -List.getD_eq_getElem?_getD]) (by simp)⟩
              omega
          | false =>
            have hn : norm x = ⟨x.t, false⟩ := by
              unfold norm
              rw [hb, Bool.false_and]
            rw [hn] at hg2
            ((repeat refine PWp.seq ?_); refine PWp.draw TT (by kernel_rfl) (by kernel_rfl) (by rfl) (by rfl) (fun K hK => ?_); simp only [push_cast, seval, Nat.reduceEqDiff, Nat.reduceLeDiff, reduceCtorEq, hg, hg2, hlm, hb, bne_self_eq_false]; (repeat refine sk ?_); refine hK _ ?_; clear hK K)
            ((repeat refine PWp.seq ?_); refine PWp.cond (by simp only [push_cast, seval, Nat.reduceEqDiff, Nat.reduceLeDiff, reduceCtorEq]; rfl) (fun hc => ?_) (fun hc => ?_))
            · cases hc
            · ((repeat refine PWp.seq ?_); refine PWp.skip ?_)
              ((repeat refine PWp.seq ?_); refine PWp.region TT (by rfl) (fun K hK => ?_); simp only [push_cast, seval, Nat.reduceEqDiff, Nat.reduceLeDiff, reduceCtorEq, wrap64_id (n := (k : Int) + 1) (by omega) (by omega)]; (repeat refine sk ?_); refine hK _ ?_; clear hK K)
              refine ⟨_, _, ?_, ⟨k + 1, rfl, by omega, rfl⟩, Gh.le (by simp [push_cast, -List.getD_eq_getElem?_getD]) (by simp)⟩
              omega
        · (repeat refine PWp.seq ?_); refine PWp.exit (iteT rfl ?_)
          ((repeat refine PWp.seq ?_); refine PWp.region TT (by rfl) (fun K hK => ?_); simp only [push_cast, seval, Nat.reduceEqDiff, Nat.reduceLeDiff, reduceCtorEq])
          ((repeat refine sk ?_); refine PCall.use (Parse_c (M.map norm) (by rw [List.length_map]; exact hL)) [] rfl (by simp [push_cast]) (by simp) (by simp [push_cast]) (by simp [push_cast]) (by simp [push_cast]) (by simp [push_cast]) ?_)
          rintro _ _ ⟨rfl, rfl⟩
          rw [hpn, hA]
          (simp only [push_cast, seval, Nat.reduceEqDiff, Nat.reduceLeDiff, reduceCtorEq]; (repeat refine sk ?_); refine hK _ ?_; clear hK K)
          ((repeat refine PWp.seq ?_); refine PWp.region TT (by rfl) (fun K hK => ?_); simp only [push_cast, seval, Nat.reduceEqDiff, Nat.reduceLeDiff, reduceCtorEq])
          ((repeat refine sk ?_); refine PCall.use (live30_c) [] rfl (by simp [push_cast]) (by simp) (by simp [push_cast]) (by simp [push_cast]) (by simp [push_cast]) (by simp [push_cast]) ?_)
          rintro _ _ ⟨rfl, rfl⟩
          (simp only [push_cast, seval, Nat.reduceEqDiff, Nat.reduceLeDiff, reduceCtorEq, he])
          ((repeat refine sk ?_); refine PCall.use (Same_c A A (by omega) b3) [] rfl (by simp [push_cast]) (by simp) (by simp [push_cast]) (by simp [push_cast]) (by simp [push_cast]) (by simp [push_cast]) ?_)
          rintro _ _ ⟨rfl, rfl⟩
          (simp only [push_cast, seval, Nat.reduceEqDiff, Nat.reduceLeDiff, reduceCtorEq, show decide (A = A) = true from decide_eq_true rfl]; (repeat refine sk ?_); refine hK _ ?_; clear hK K)
          ((repeat refine PWp.seq ?_); refine PWp.ret ?_)
          refine ⟨.inr rfl, by omega, _, [], ?_, rfl, rfl⟩
          (simp [push_cast, -List.getD_eq_getElem?_getD])
  · have hA : (parR M).1 = [] := (parF_err M rd0 0).resolve_left he
    have hb : ((parR M).2.2 != 0) = true := bne_iff_ne.2 he
    ((repeat refine PWp.seq ?_); refine PWp.region TT (by rfl) (fun K hK => ?_); simp only [push_cast, seval, Nat.reduceEqDiff, Nat.reduceLeDiff, reduceCtorEq, hb]; (repeat refine sk ?_); refine hK _ ?_; clear hK K)
    ((repeat refine PWp.seq ?_); refine PWp.cond (by simp only [push_cast, seval, Nat.reduceEqDiff, Nat.reduceLeDiff, reduceCtorEq]; rfl) (fun hc => ?_) (fun hc => ?_))
    · ((repeat refine PWp.seq ?_); refine PWp.region TT (by rfl) (fun K hK => ?_); simp only [push_cast, seval, Nat.reduceEqDiff, Nat.reduceLeDiff, reduceCtorEq])
      ((repeat refine sk ?_); refine PCall.use (live30_c) [] rfl (by simp [push_cast]) (by simp) (by simp [push_cast]) (by simp [push_cast]) (by simp [push_cast]) (by simp [push_cast]) ?_)
      rintro _ _ ⟨rfl, rfl⟩
      (simp only [push_cast, seval, Nat.reduceEqDiff, Nat.reduceLeDiff, reduceCtorEq, hA]; (repeat refine sk ?_); refine hK _ ?_; clear hK K)
      ((repeat refine PWp.seq ?_); refine PWp.ret ?_)
      refine ⟨.inr rfl, by omega, _, [], ?_, rfl, rfl⟩
      (simp [push_cast, -List.getD_eq_getElem?_getD])
    · cases hc
end Go.Proofs.Ytmocgjimlhgejaa
namespace Go.Proofs.Ytmocgjimlhgejaa
open Go.PL
set_option maxRecDepth 100000
set_option linter.unusedSimpArgs false
set_option linter.unusedVariables false
theorem prL_len {x : Rg} {K : Nat} (h : rgK x K) : (prL x).length ≤ 3 * K + 4 := by
  obtain ⟨a, b, c, d⟩ := h
  unfold prL
  split
  · simp only [List.length_append, List.length_cons, List.length_nil]
    omega
  · omega
theorem printL_bound : ∀ (l : List Rg) (K : Nat), (∀ x ∈ l, rgK x K) → (printL l).length ≤ l.length * (3 * K + 4)
  | [], K, _ => Nat.zero_le _
  | x :: l, K, h => by
    have h1 := prL_len (h x (List.mem_cons_self ..))
    have h2 := printL_bound l K (fun y hy => h y (List.mem_cons_of_mem _ hy))
    have e : printL (x :: l) = prL x ++ printL l := by simp [printL]
    rw [e, List.length_append, List.length_cons, Nat.succ_mul]
    omega
theorem chosen_len {x : Rg} {K : Nat} (h : rgK x K) (c : Int) : (chosenL x c).length ≤ 2 * K := by
  obtain ⟨a, b, d, e⟩ := h
  unfold chosenL
  split
  · omega
  · split
    · omega
    · split
      · omega
      · split
        · rw [List.length_append]; omega
        · exact Nat.zero_le _
theorem selL_bound (l : List Rg) (cs : List Int) (K : Nat) (h : ∀ x ∈ l, rgK x K) : ∀ k, k ≤ l.length → (selL l cs k).length ≤ k * (2 * K)
  | 0, _ => Nat.zero_le _
  | k + 1, hk => by
    have ih := selL_bound l cs K h k (by omega)
    have hx := h _ (getD_mem (show k < l.length by omega))
    have hc := chosen_len hx (cs.getD (clashN (l.take k)) default)
    have hl := hx.1
    rw [selL_succ, List.length_append, Nat.succ_mul]
    split
    · omega
    · omega
theorem bareL_le (a : List Ln) : (bareL a).length ≤ a.length := by rw [bareL_len]; exact Nat.le_refl _
theorem setL_len (l : List Rg) (cs : List Int) : (setL l cs).1.length ≤ (selL l cs l.length).length := by
  unfold setL
  split
  · exact bareL_le _
  · exact Nat.zero_le _
theorem ResolveSettles_walk (l : List Rg) (cs : List Int) (hl : ∀ x ∈ l, rgK x 1048576) (hcs : cs.length ≤ 1048576) (hll : l.length ≤ 1048576) :
    PC Try.prog 4 [iR l, iC cs] [] 0 900 (fun t obs => t = iB true ∧ obs = []) := by
  have h1 : 0 ≤ mn (l.length : Int) 20 := by unfold mn; split <;> omega
  have h2 : mn (l.length : Int) 20 ≤ l.length := by unfold mn; split <;> omega
  have e1 : (l.map encR).take (mn (l.length : Int) 20).toNat = (l.take 20).map encR := by
    rw [← List.map_take]
    have := mn_takeN l 20
    exact congrArg _ this
  have hM : ∀ x ∈ l.take 20, rgK x 1048576 := fun x hx => hl x (List.mem_of_mem_take hx)
  refine PC.body [4] Try.func4 rfl (by rfl) (Nat.le_of_ble_eq_true (by rfl)) rfl ?_; simp only [enumA]
  ((repeat refine PWp.seq ?_); refine PWp.region TT (by rfl) (fun K hK => ?_); simp only [push_cast, seval, Nat.reduceEqDiff, Nat.reduceLeDiff, reduceCtorEq]; (repeat refine sk ?_); refine hK _ ?_; clear hK K)
  ((repeat refine PWp.seq ?_); refine PWp.region TT (by rfl) (fun K hK => ?_); simp only [push_cast, seval, Nat.reduceEqDiff, Nat.reduceLeDiff, reduceCtorEq, e1]; (repeat refine sk ?_); refine hK _ ?_; clear hK K)
  clear h1 h2 e1
  have hL : (l.take 20).length ≤ 20 := by rw [List.length_take]; omega
  clear hl hll
  generalize l.take 20 = M at *
  have b1 := printL_bound M 1048576 hM
  have b2 := selL_bound M cs 1048576 hM M.length (Nat.le_refl _)
  have b3 := setL_len M cs
  have b4 : M.length * (3 * 1048576 + 4) ≤ 20 * (3 * 1048576 + 4) := Nat.mul_le_mul_right _ hL
  have b5 : M.length * (2 * 1048576) ≤ 20 * (2 * 1048576) := Nat.mul_le_mul_right _ hL
  have b6 : rgLe M := fun x hx => by
    obtain ⟨a, b, c, d⟩ := hM x hx
    omega
  have c1 : (printL M).length ≤ 400000000 := by omega
  have c2 : (selL M cs M.length).length ≤ 400000000 := by omega
  have c3 : (setL M cs).1.length ≤ 400000000 := by omega
  clear b1 b2 b3 b4 b5 hM
  ((repeat refine PWp.seq ?_); refine PWp.region TT (by rfl) (fun K hK => ?_); simp only [push_cast, seval, Nat.reduceEqDiff, Nat.reduceLeDiff, reduceCtorEq])
  ((repeat refine sk ?_); refine PCall.use (Settle_c M cs (by omega) (by omega) b6 c2) [] rfl (by simp [push_cast]) (by simp) (by simp [push_cast]) (by simp [push_cast]) (by simp [push_cast]) (by simp [push_cast]) ?_)
  rintro _ _ ⟨rfl, rfl⟩
  (simp only [push_cast, seval, Nat.reduceEqDiff, Nat.reduceLeDiff, reduceCtorEq]; (repeat refine sk ?_); refine hK _ ?_; clear hK K)
  ((repeat refine PWp.seq ?_); refine PWp.region TT (by rfl) (fun K hK => ?_); simp only [push_cast, seval, Nat.reduceEqDiff, Nat.reduceLeDiff, reduceCtorEq])
  ((repeat refine sk ?_); refine PCall.use (ref_Settle_c M cs (by omega) (by omega) c2) [] rfl (by simp [push_cast]) (by simp) (by simp [push_cast]) (by simp [push_cast]) (by simp [push_cast]) (by simp [push_cast]) ?_)
  rintro _ _ ⟨rfl, rfl⟩
  (simp only [push_cast, seval, Nat.reduceEqDiff, Nat.reduceLeDiff, reduceCtorEq]; (repeat refine sk ?_); refine hK _ ?_; clear hK K)
  clear c2 b6
  generalize hS : setL M cs = S at *
  ((repeat refine PWp.seq ?_); refine PWp.region TT (by rfl) (fun K hK => ?_); simp only [push_cast, seval, Nat.reduceEqDiff, Nat.reduceLeDiff, reduceCtorEq])
  ((repeat refine sk ?_); refine PCall.use (live30_c) [] rfl (by simp [push_cast]) (by simp) (by simp [push_cast]) (by simp [push_cast]) (by simp [push_cast]) (by simp [push_cast]) ?_)
  rintro _ _ ⟨rfl, rfl⟩
  (simp only [push_cast, seval, Nat.reduceEqDiff, Nat.reduceLeDiff, reduceCtorEq])
  ((repeat refine sk ?_); refine PCall.use (ref01_Same S.1 S.1 c3) [] rfl (by simp [push_cast]) (by simp) (by simp [push_cast]) (by simp [push_cast]) (by simp [push_cast]) (by simp [push_cast]) ?_)
  rintro _ _ ⟨rfl, rfl⟩
  (simp only [push_cast, seval, Nat.reduceEqDiff, Nat.reduceLeDiff, reduceCtorEq, show decide (S.1 = S.1) = true from decide_eq_true rfl, beq_self_eq_true])
  ((repeat refine sk ?_); refine PCall.use (Print_c M (by omega) c1) [] rfl (by simp [push_cast]) (by simp) (by simp [push_cast]) (by simp [push_cast]) (by simp [push_cast]) (by simp [push_cast]) ?_)
  rintro _ _ ⟨rfl, rfl⟩
  (simp only [push_cast, seval, Nat.reduceEqDiff, Nat.reduceLeDiff, reduceCtorEq])
  ((repeat refine sk ?_); refine PCall.use (ref_Print_c M (by omega) c1) [] rfl (by simp [push_cast]) (by simp) (by simp [push_cast]) (by simp [push_cast]) (by simp [push_cast]) (by simp [push_cast]) ?_)
  rintro _ _ ⟨rfl, rfl⟩
  (simp only [push_cast, seval, Nat.reduceEqDiff, Nat.reduceLeDiff, reduceCtorEq])
  ((repeat refine sk ?_); refine PCall.use (ref01_Same (printL M) (printL M) c1) [] rfl (by simp [push_cast]) (by simp) (by simp [push_cast]) (by simp [push_cast]) (by simp [push_cast]) (by simp [push_cast]) ?_)
  rintro _ _ ⟨rfl, rfl⟩
  (simp only [push_cast, seval, Nat.reduceEqDiff, Nat.reduceLeDiff, reduceCtorEq, show decide (printL M = printL M) = true from decide_eq_true rfl])
  ((repeat refine sk ?_); refine PCall.use (Clashes_c M (by omega)) [] rfl (by simp [push_cast]) (by simp) (by simp [push_cast]) (by simp [push_cast]) (by simp [push_cast]) (by simp [push_cast]) ?_)
  rintro _ _ ⟨rfl, rfl⟩
  (simp only [push_cast, seval, Nat.reduceEqDiff, Nat.reduceLeDiff, reduceCtorEq])
  ((repeat refine sk ?_); refine PCall.use (ref_Clashes_c M (by omega)) [] rfl (by simp [push_cast]) (by simp) (by simp [push_cast]) (by simp [push_cast]) (by simp [push_cast]) (by simp [push_cast]) ?_)
  rintro _ _ ⟨rfl, rfl⟩
  (simp only [push_cast, seval, Nat.reduceEqDiff, Nat.reduceLeDiff, reduceCtorEq, beq_self_eq_true]; (repeat refine sk ?_); refine hK _ ?_; clear hK K)
  ((repeat refine PWp.seq ?_); refine PWp.ret ?_)
  refine ⟨.inr rfl, by omega, _, [], ?_, rfl, rfl⟩
  (simp [push_cast, -List.getD_eq_getElem?_getD])
end Go.Proofs.Ytmocgjimlhgejaa
namespace Go.Proofs.Ytmocgjimlhgejaa
open Go.PL
set_option maxRecDepth 100000
set_option linter.unusedSimpArgs false
set_option linter.unusedVariables false
def txt (l : List Ln) : List (List UInt8) := l.map (·.t)
theorem txt_app (a b : List Ln) : txt (a ++ b) = txt a ++ txt b := by simp [txt]
/-- What is chosen of a region, one choice for all. -/
def pickR (c : Int) (x : Rg) : List Ln := if x.c then chosenL x c else x.l
def pickL (c : Int) (l : List Rg) : List Ln := (l.map (pickR c)).flatten
theorem pickL_app (c : Int) (a b : List Rg) : pickL c (a ++ b) = pickL c a ++ pickL c b := by simp [pickL]
theorem selL_const (l : List Rg) (c : Int) : ∀ k, k ≤ l.length → selL l (List.replicate (clashN l) c) k = pickL c (l.take k)
  | 0, _ => rfl
  | k + 1, hk => by
    have h : k < l.length := by omega
    rw [selL_succ, selL_const l c k (by omega), take_succ_getD h, pickL_app]
    congr 1
    unfold pickL pickR
    simp only [List.map_cons, List.map_nil, List.flatten_cons, List.flatten_nil, List.append_nil]
    cases hx : (l.getD k default).c with
    | false => rfl
    | true =>
      have hlt := clashN_lt h hx
      have e : (List.replicate (clashN l) c).getD (clashN (l.take k)) default = c := by simp [List.getD, hlt]
      rw [e]
theorem txt_bare (a : List Ln) : txt (bareL a) = txt a := by
  unfold txt bareL
  rw [List.map_map]
  apply List.ext_getElem (by simp)
  intro i h1 h2
  simp at h1 h2
  simp [List.getD, h2]
/-- Items whose lines are no marks. -/
def plainR (x : Rg) : Prop := (∀ y ∈ x.l, mk y.t = 0) ∧ (∀ y ∈ x.m, mk y.t = 0) ∧ (∀ y ∈ x.o, mk y.t = 0) ∧ (∀ y ∈ x.h, mk y.t = 0)
def rd1 (out : List Rg) (acc : List Ln) : Rd := ⟨out, ⟨false, acc, [], [], []⟩, 0⟩
theorem mk_L (j : Nat) (h : j < 4) : mk (mkS.getD j []) = j + 1 := by
  have h4 : j = 0 ∨ j = 1 ∨ j = 2 ∨ j = 3 := by omega
  rcases h4 with rfl | rfl | rfl | rfl <;> rfl
theorem txt_plain {a b : List Ln} (h : txt a = txt b) (hb : ∀ y ∈ b, mk y.t = 0) : ∀ y ∈ a, mk y.t = 0 := by
  intro y hy
  have h1 : y.t ∈ txt a := List.mem_map.2 ⟨y, hy, rfl⟩
  rw [h] at h1
  obtain ⟨z, hz, e⟩ := List.mem_map.1 h1
  rw [← e]
  exact hb z hz
theorem txt_split {L a b : List Ln} (h : txt L = txt (a ++ b)) : ∃ x y, L = x ++ y ∧ txt x = txt a ∧ txt y = txt b := by
  refine ⟨L.take a.length, L.drop a.length, (List.take_append_drop _ _).symm, ?_, ?_⟩
  · unfold txt at *
    rw [List.map_take, h, List.map_append, List.take_left' (by simp)]
  · unfold txt at *
    rw [List.map_drop, h, List.map_append, List.drop_left' (by simp)]
theorem txt_one {L : List Ln} {x : Ln} (h : txt L = txt [x]) : ∃ y, L = [y] ∧ y.t = x.t := by
  cases L with
  | nil => simp [txt] at h
  | cons y l =>
    cases l with
    | nil => exact ⟨y, rfl, by simpa [txt] using h⟩
    | cons z l => simp [txt] at h
theorem take_m {r : Rd} {y : Ln} {j : Nat} (hy : mk y.t = j + 1) (hp : r.p = j) : takeR r y = some (markR r) := by
  unfold takeR
  rw [if_neg (by omega), if_pos (by omega)]
/-- One item. -/
theorem par_item (c : Int) {x : Rg} (hx : plainR x) {L rest : List Ln} (hL : txt L = txt (prL x)) (out : List Rg) (acc : List Ln) (k : Nat) :
    ∃ out' acc', parF (rd1 out acc) k (L ++ rest) = parF (rd1 out' acc') (k + L.length) rest ∧ txt (pickL c out' ++ acc') = txt (pickL c out ++ acc ++ pickR c x) ∧ clashN out' = clashN out + (if x.c then 1 else 0) := by
  obtain ⟨xc, xl, xm, xo, xh⟩ := x
  obtain ⟨p1, p2, p3, p4⟩ := hx
  simp only at p1 p2 p3 p4
  cases xc with
  | false =>
    have hL' : txt L = txt xl := hL
    refine ⟨out, acc ++ L, ?_, ?_, ?_⟩
    · unfold rd1
      rw [par_lines L rest _ k (txt_plain hL' p1), fold0]
    · have e : pickR c ⟨false, xl, xm, xo, xh⟩ = xl := rfl
      rw [e, ← List.append_assoc, txt_app, txt_app _ xl, hL']
    · simp
  | true =>
    have e0 : prL ⟨true, xl, xm, xo, xh⟩ = [mkL 0] ++ xm ++ [mkL 1] ++ xo ++ [mkL 2] ++ xh ++ [mkL 3] := rfl
    rw [e0] at hL
    obtain ⟨L6, l4, rfl, hL, t4⟩ := txt_split hL
    obtain ⟨L5, lh, rfl, hL, th⟩ := txt_split hL
    obtain ⟨L4, l3, rfl, hL, t3⟩ := txt_split hL
    obtain ⟨L3, lo, rfl, hL, to⟩ := txt_split hL
    obtain ⟨L2, l2, rfl, hL, t2⟩ := txt_split hL
    obtain ⟨l1, lm, rfl, t1, tm⟩ := txt_split hL
    obtain ⟨y1, rfl, z1⟩ := txt_one t1
    obtain ⟨y2, rfl, z2⟩ := txt_one t2
    obtain ⟨y3, rfl, z3⟩ := txt_one t3
    obtain ⟨y4, rfl, z4⟩ := txt_one t4
    have m1 : mk y1.t = 0 + 1 := by rw [z1]; exact mk_L 0 (by decide)
    have m2 : mk y2.t = 1 + 1 := by rw [z2]; exact mk_L 1 (by decide)
    have m3 : mk y3.t = 2 + 1 := by rw [z3]; exact mk_L 2 (by decide)
    have m4 : mk y4.t = 3 + 1 := by rw [z4]; exact mk_L 3 (by decide)
    let out1 := (flushR (rd1 out acc)).out
    have s1 : takeR (rd1 out acc) y1 = some ⟨out1, ⟨true, [], [], [], []⟩, 1⟩ := (take_m m1 rfl).trans rfl
    have s2 : takeR ⟨out1, ⟨true, [], lm, [], []⟩, 1⟩ y2 = some ⟨out1, ⟨true, [], lm, [], []⟩, 2⟩ := (take_m m2 rfl).trans rfl
    have s3 : takeR ⟨out1, ⟨true, [], lm, lo, []⟩, 2⟩ y3 = some ⟨out1, ⟨true, [], lm, lo, []⟩, 3⟩ := (take_m m3 rfl).trans rfl
    have s4 : takeR ⟨out1, ⟨true, [], lm, lo, lh⟩, 3⟩ y4 = some (rd1 (out1 ++ [⟨true, [], lm, lo, lh⟩]) []) := (take_m m4 rfl).trans (by
      simp [markR, flushR, noRg, rd1])
    refine ⟨out1 ++ [⟨true, [], lm, lo, lh⟩], [], ?_, ?_, ?_⟩
    · have eL : [y1] ++ lm ++ [y2] ++ lo ++ [y3] ++ lh ++ [y4] ++ rest = y1 :: (lm ++ (y2 :: (lo ++ (y3 :: (lh ++ (y4 :: rest)))))) := by simp
      rw [eL, parF, s1]
      simp only
      rw [par_lines lm _ _ _ (txt_plain tm p2), fold1, List.nil_append, parF, s2]
      simp only
      rw [par_lines lo _ _ _ (txt_plain to p3), fold2, List.nil_append, parF, s3]
      simp only
      rw [par_lines lh _ _ _ (txt_plain th p4), fold3, List.nil_append, parF, s4]
      simp only
      congr 1
      simp
      omega
    · have f1 : pickL c out1 = pickL c out ++ acc := by
        show pickL c (flushR (rd1 out acc)).out = _
        unfold flushR rd1
        simp only
        split
        · rw [pickL_app]
          simp [pickL, pickR]
        · rename_i hc
          have : acc = [] := List.eq_nil_of_length_eq_zero (by simp at hc; simp [hc])
          rw [this, List.append_nil]
      have f2 : txt (pickR c ⟨true, [], lm, lo, lh⟩) = txt (pickR c ⟨true, xl, xm, xo, xh⟩) := by
        unfold pickR chosenL
        simp only [if_true]
        split
        · exact tm
        · split
          · exact to
          · split
            · exact th
            · split
              · rw [txt_app, txt_app, tm, th]
              · rfl
      have f3 : pickL c [⟨true, [], lm, lo, lh⟩] = pickR c ⟨true, [], lm, lo, lh⟩ := by simp [pickL]
      rw [List.append_nil, pickL_app, f1, f3, txt_app, txt_app, f2, ← txt_app, ← txt_app]
    · have f1 : clashN out1 = clashN out := by
        show clashN (flushR (rd1 out acc)).out = _
        unfold flushR rd1
        simp only
        split
        · simp [clashN]
        · rfl
      have f2 : clashN (out1 ++ [⟨true, [], lm, lo, lh⟩]) = clashN out1 + 1 := by simp [clashN]
      rw [f2, f1]
      rfl
theorem par_items (c : Int) : ∀ (l : List Rg) (L rest : List Ln) (out : List Rg) (acc : List Ln) (k : Nat), (∀ x ∈ l, plainR x) → txt L = txt (printL l) →
    ∃ out' acc', parF (rd1 out acc) k (L ++ rest) = parF (rd1 out' acc') (k + L.length) rest ∧ txt (pickL c out' ++ acc') = txt (pickL c out ++ acc ++ pickL c l) ∧ clashN out' = clashN out + clashN l
  | [], L, rest, out, acc, k, _, hL => by
    have : L = [] := by
      have := congrArg List.length hL
      simp [txt, printL] at this
      exact this
    subst this
    exact ⟨out, acc, rfl, by simp [pickL], by simp [clashN]⟩
  | x :: l, L, rest, out, acc, k, hx, hL => by
    have e : printL (x :: l) = prL x ++ printL l := by simp [printL]
    rw [e] at hL
    obtain ⟨L1, L2, rfl, h1, h2⟩ := txt_split hL
    obtain ⟨o1, a1, g1, g2, g3⟩ := par_item c (hx x (List.mem_cons_self ..)) (rest := L2 ++ rest) h1 out acc k
    obtain ⟨o2, a2, g4, g5, g6⟩ := par_items c l L2 rest o1 a1 (k + L1.length) (fun y hy => hx y (List.mem_cons_of_mem _ hy)) h2
    refine ⟨o2, a2, ?_, ?_, ?_⟩
    · rw [List.append_assoc, g1, g4, List.length_append, Nat.add_assoc]
    · have ep : pickL c (x :: l) = pickR c x ++ pickL c l := by simp [pickL]
      rw [g5, txt_app, g2, ep, ← txt_app]
      simp
    · rw [g6, g3]
      have : clashN (x :: l) = (if x.c then 1 else 0) + clashN l := by
        unfold clashN
        rw [List.filter_cons]
        split
        · simp; omega
        · simp
      omega
/-- A TEXT OF PIECES, PARSED, AND SETTLED BY ONE CHOICE. -/
theorem par_pieces (c : Int) {l : List Rg} (hl : ∀ x ∈ l, plainR x) {L : List Ln} (hL : txt L = txt (printL l)) :
    (parR L).2.2 = 0 ∧ clashN (parR L).1 = clashN l ∧ txt (pickL c (parR L).1) = txt (pickL c l) := by
  obtain ⟨o, a, g1, g2, g3⟩ := par_items c l L [] [] [] 0 hl hL
  rw [List.append_nil] at g1
  have e : parR L = ((flushR (rd1 o a)).out, 0, 0) := by
    unfold parR
    rw [show rd0 = rd1 [] [] from rfl, g1, parF]
    exact if_pos rfl
  rw [e]
  refine ⟨rfl, ?_, ?_⟩
  · have f1 : clashN (flushR (rd1 o a)).out = clashN o := by
      unfold flushR rd1
      simp only
      split
      · simp [clashN]
      · rfl
    rw [f1, g3]
    simp [clashN]
  · have f1 : pickL c (flushR (rd1 o a)).out = pickL c o ++ a := by
      unfold flushR rd1
      simp only
      split
      · rw [pickL_app]
        simp [pickL, pickR]
      · rename_i hc
        have : a = [] := List.eq_nil_of_length_eq_zero (by simp at hc; simp [hc])
        rw [this, List.append_nil]
    simp only
    rw [f1, g2]
    simp [pickL]
end Go.Proofs.Ytmocgjimlhgejaa
namespace Go.Proofs.Ytmocgjimlhgejaa
open Go.PL
set_option maxRecDepth 100000
set_option linter.unusedSimpArgs false
set_option linter.unusedVariables false
def sumC (l : List Pc) : Int := (l.map fun p => p.c.on + p.c.an + p.c.bn).sum
theorem tile_sum (o a b : Int) (ho : o ≤ 100000) (ha : a ≤ 100000) (hb : b ≤ 100000) : ∀ (l : List Pc) (x y z : Int), 0 ≤ x → 0 ≤ y → 0 ≤ z → x ≤ o → y ≤ a → z ≤ b → rightC o a b (l.map (·.c)) x y z = true → sumC l = (o - x) + (a - y) + (b - z) ∧ (l.length : Int) ≤ sumC l
  | [], x, y, z, hx, hy, hz, hxo, hya, hzb, h => by
    simp only [List.map_nil, rightC, Bool.and_eq_true, beq_iff_eq] at h
    obtain ⟨⟨rfl, rfl⟩, rfl⟩ := h
    simp [sumC]
  | p :: l, x, y, z, hx, hy, hz, hxo, hya, hzb, h => by
    simp only [List.map_cons, rightC, Bool.and_eq_true, decide_eq_true_eq] at h
    obtain ⟨⟨e1, e2, e3, n1, n2, n3, nz, ns, l1, l2, l3⟩, h⟩ := h
    rw [wrap64_id (by omega) (by omega)] at l1 l2 l3
    rw [wrap64_id (by omega) (by omega), wrap64_id (by omega) (by omega), wrap64_id (by omega) (by omega)] at h
    obtain ⟨i1, i2⟩ := tile_sum o a b ho ha hb l _ _ _ (by omega) (by omega) (by omega) (by omega) (by omega) (by omega) h
    have e : sumC (p :: l) = (p.c.on + p.c.an + p.c.bn) + sumC l := by simp [sumC]
    rw [e, List.length_cons]
    push_cast
    omega
theorem cnt_tile {o a b : List Ln} : ∀ {l : List Pc}, (∀ p ∈ l, inT o a b p.c) → cntL l ≤ sumC l + 4 * (l.length : Int)
  | [], _ => by simp [cntL, sumC]
  | p :: l, h => by
    have ih := cnt_tile (l := l) (fun q hq => h q (List.mem_cons_of_mem _ hq))
    obtain ⟨h1, h2, h3⟩ := h p (List.mem_cons_self ..)
    unfold inL at h1 h2 h3
    have e : sumC (p :: l) = (p.c.on + p.c.an + p.c.bn) + sumC l := by simp [sumC]
    have hc : cntP p ≤ p.c.on + p.c.an + p.c.bn + 4 := by
      unfold cntP
      split
      · omega
      · split <;> omega
    rw [cntL, e, List.length_cons]
    push_cast
    omega
theorem flat_small {o a b : List Ln} {l : List Pc} (ho : o.length ≤ 40) (ha : a.length ≤ 40) (hb : b.length ≤ 40) (hf : fitsB o a b l = true) (hin : ∀ p ∈ l, inT o a b p.c) : (flatP o a b l).length ≤ 900 ∧ l.length ≤ 120 := by
  unfold fitsB at hf
  rw [Bool.and_eq_true] at hf
  obtain ⟨i1, i2⟩ := tile_sum o.length a.length b.length (by omega) (by omega) (by omega) l 0 0 0 (by omega) (by omega) (by omega) (by omega) (by omega) (by omega) hf.2
  have h1 := flatP_cnt hin
  have h2 := cnt_tile hin
  constructor <;> omega
def itemP (o a b : List Ln) (p : Pc) : Rg :=
  if p.side = 2 then ⟨false, segN a p.c.a p.c.an, [], [], []⟩ else if p.side = 4 then ⟨true, [], segN a p.c.a p.c.an, segN o p.c.o p.c.on, segN b p.c.b p.c.bn⟩ else ⟨false, segN b p.c.b p.c.bn, [], [], []⟩
theorem prL_item (o a b : List Ln) (p : Pc) : prL (itemP o a b p) = pieceL o a b p := by
  unfold itemP pieceL
  split
  · rfl
  · split
    · rfl
    · rfl
theorem print_items (o a b : List Ln) (l : List Pc) : printL (l.map (itemP o a b)) = flatP o a b l := by
  unfold printL flatP
  rw [List.map_map]
  congr 1
  exact List.map_congr_left fun p _ => prL_item o a b p
def noMk (l : List Ln) : Prop := ∀ x ∈ l, mk x.t = 0
theorem noMk_seg {l : List Ln} (h : noMk l) (i n : Int) : noMk (segN l i n) := fun x hx => h x (List.mem_of_mem_take (List.mem_of_mem_drop hx))
theorem plain_item {o a b : List Ln} (ho : noMk o) (ha : noMk a) (hb : noMk b) (p : Pc) : plainR (itemP o a b p) := by
  unfold itemP plainR
  split
  · exact ⟨noMk_seg ha _ _, by simp, by simp, by simp⟩
  · split
    · exact ⟨by simp, noMk_seg ha _ _, noMk_seg ho _ _, noMk_seg hb _ _⟩
    · exact ⟨noMk_seg hb _ _, by simp, by simp, by simp⟩
theorem txt_even (l : List Ln) : txt (evenL l) = txt l := by
  unfold txt evenL evenN
  rw [List.map_map]
  apply List.ext_getElem (by simp)
  intro i h1 h2
  simp at h1 h2
  simp [List.getD, h2]
def fewB (l : List Ln) : Bool := l.all (fun x => mk x.t == 0) && rightB l
theorem few30_c (l : List Ln) (ht : okT l) : PC Try.prog 19 [iL l] [] 0 0 (fun t obs => t = .tup [iL (l.take 30), iB (fewB (l.take 30))] ∧ obs = []) := by
  have h1 : 0 ≤ mn (l.length : Int) 30 := by unfold mn; split <;> omega
  have h2 : mn (l.length : Int) 30 ≤ l.length := by unfold mn; split <;> omega
  have e1 : (l.map encL).take (mn (l.length : Int) 30).toNat = (l.take 30).map encL := by
    rw [← List.map_take]
    have := mn_takeN l 30
    exact congrArg _ this
  refine PC.body [2, 3] Try.func19 rfl (by rfl) (Nat.le_of_ble_eq_true (by rfl)) rfl ?_; simp only [enumA]
  ((repeat refine PWp.seq ?_); refine PWp.region TT (by rfl) (fun K hK => ?_); simp only [push_cast, seval, Nat.reduceEqDiff, Nat.reduceLeDiff, reduceCtorEq]; (repeat refine sk ?_); refine hK _ ?_; clear hK K)
  ((repeat refine PWp.seq ?_); refine PWp.region TT (by rfl) (fun K hK => ?_); simp only [push_cast, seval, Nat.reduceEqDiff, Nat.reduceLeDiff, reduceCtorEq, e1]; (repeat refine sk ?_); refine hK _ ?_; clear hK K)
  clear h1 h2 e1
  have hL : (l.take 30).length ≤ 30 := by rw [List.length_take]; omega
  have htt : okT (l.take 30) := fun x hx => ht x (List.mem_of_mem_take hx)
  generalize l.take 30 = M at *
  ((repeat refine PWp.seq ?_); refine PWp.region TT (by rfl) (fun K hK => ?_); simp only [push_cast, seval, Nat.reduceEqDiff, Nat.reduceLeDiff, reduceCtorEq]; (repeat refine sk ?_); refine hK _ ?_; clear hK K)
  ((repeat refine PWp.seq ?_); refine PWp.block ?_)
  refine PWp.loop (fun d st => ∃ k : Nat, d = M.length - k ∧ k ≤ M.length ∧ (∀ i < k, mk (M.getD i default).t = 0) ∧
    st = ⟨[(0, iL M), (4, iI k)], [], 0⟩) _ _ ⟨0, rfl, Nat.zero_le _, by simp, rfl⟩ (Gh.le (by simp [push_cast, -List.getD_eq_getElem?_getD]) (by simp)) ?_
  rintro d st ⟨k, rfl, hk, hf, rfl⟩
  ((repeat refine PWp.seq ?_); refine PWp.region TT (by rfl) (fun K hK => ?_); simp only [push_cast, seval, Nat.reduceEqDiff, Nat.reduceLeDiff, reduceCtorEq]; (repeat refine sk ?_); refine hK _ ?_; clear hK K)
  ((repeat refine PWp.seq ?_); refine PWp.cond (by simp only [push_cast, seval, Nat.reduceEqDiff, Nat.reduceLeDiff, reduceCtorEq]; rfl) (fun hc => ?_) (fun hc => ?_))
  · have hlt : k < M.length := by have := of_decide_eq_true hc; omega
    clear hc
    have hg : (M.map encL).getD k .any = encL (M.getD k default) := getD_map hlt
    have hmem := getD_mem hlt
    have hyes : mk (M.getD k default).t = 0 → ∀ i < k + 1, mk (M.getD i default).t = 0 := fun he i hi => by
      by_cases e : i = k
      · subst e; exact he
      · exact hf i (by omega)
    generalize M.getD k default = x at *
    ((repeat refine PWp.seq ?_); refine PWp.skip ?_)
    ((repeat refine PWp.seq ?_); refine PWp.block ?_)
    ((repeat refine PWp.seq ?_); refine PWp.region TT (by rfl) (fun K hK => ?_); simp only [push_cast, seval, Nat.reduceEqDiff, Nat.reduceLeDiff, reduceCtorEq, hg])
    ((repeat refine sk ?_); refine PCall.use (Mark_c x.t) [] rfl (by simp [push_cast]) (by simp) (by simp [push_cast]) (by simp [push_cast]) (by simp [push_cast]) (by simp [push_cast]) ?_)
    rintro _ _ ⟨rfl, rfl⟩
    by_cases hm : mk x.t = 0
    · (simp only [push_cast, seval, Nat.reduceEqDiff, Nat.reduceLeDiff, reduceCtorEq, hm]; (repeat refine sk ?_); refine hK _ ?_; clear hK K)
      ((repeat refine PWp.seq ?_); refine PWp.cond (by simp only [push_cast, seval, Nat.reduceEqDiff, Nat.reduceLeDiff, reduceCtorEq]; rfl) (fun hc => ?_) (fun hc => ?_))
      · cases hc
      · ((repeat refine PWp.seq ?_); refine PWp.skip ?_)
        ((repeat refine PWp.seq ?_); refine PWp.region TT (by rfl) (fun K hK => ?_); simp only [push_cast, seval, Nat.reduceEqDiff, Nat.reduceLeDiff, reduceCtorEq, wrap64_id (n := (k : Int) + 1) (by omega) (by omega)]; (repeat refine sk ?_); refine hK _ ?_; clear hK K)
        refine ⟨_, _, ?_, ⟨k + 1, rfl, by omega, hyes hm, rfl⟩, Gh.le (by simp [push_cast, -List.getD_eq_getElem?_getD]) (by simp)⟩
        omega
    · have hd : decide ((mk x.t : Int) > 0) = true := decide_eq_true (by omega)
      have hfb : fewB M = false := by
        unfold fewB
        rw [Bool.and_eq_false_iff]
        refine .inl (List.all_eq_false.2 ⟨x, hmem, by simp [hm]⟩)
      (simp only [push_cast, seval, Nat.reduceEqDiff, Nat.reduceLeDiff, reduceCtorEq, hd]; (repeat refine sk ?_); refine hK _ ?_; clear hK K)
      ((repeat refine PWp.seq ?_); refine PWp.cond (by simp only [push_cast, seval, Nat.reduceEqDiff, Nat.reduceLeDiff, reduceCtorEq]; rfl) (fun hc => ?_) (fun hc => ?_))
      · ((repeat refine PWp.seq ?_); refine PWp.region TT (by rfl) (fun K hK => ?_); simp only [push_cast, seval, Nat.reduceEqDiff, Nat.reduceLeDiff, reduceCtorEq]; (repeat refine sk ?_); refine hK _ ?_; clear hK K)
        ((repeat refine PWp.seq ?_); refine PWp.ret ?_)
        refine ⟨.inr rfl, by omega, _, [], ?_, rfl, rfl⟩
        rw [hfb]
        (simp [push_cast, -List.getD_eq_getElem?_getD])
      · cases hc
  · have hk' : k = M.length := by have := of_decide_eq_false hc; omega
    subst hk'
    have hall : M.all (fun x => mk x.t == 0) = true := List.all_eq_true.2 (fun x hx => by
      obtain ⟨j, hj, rfl⟩ := List.getElem_of_mem hx
      have := hf j hj
      simpa [List.getD, hj] using this)
    have hfb : fewB M = rightB M := by unfold fewB; rw [hall, Bool.true_and]
    (repeat refine PWp.seq ?_); refine PWp.exit (iteT rfl ?_)
    ((repeat refine PWp.seq ?_); refine PWp.region TT (by rfl) (fun K hK => ?_); simp only [push_cast, seval, Nat.reduceEqDiff, Nat.reduceLeDiff, reduceCtorEq])
    ((repeat refine sk ?_); refine PCall.use (ref01_Right M (by omega) htt) [] rfl (by simp [push_cast]) (by simp) (by simp [push_cast]) (by simp [push_cast]) (by simp [push_cast]) (by simp [push_cast]) ?_)
    rintro _ _ ⟨rfl, rfl⟩
    (simp only [push_cast, seval, Nat.reduceEqDiff, Nat.reduceLeDiff, reduceCtorEq]; (repeat refine sk ?_); refine hK _ ?_; clear hK K)
    ((repeat refine PWp.seq ?_); refine PWp.ret ?_)
    refine ⟨.inr rfl, by omega, _, [], ?_, rfl, rfl⟩
    rw [hfb]
    (simp [push_cast, -List.getD_eq_getElem?_getD])
theorem add_c (X : List (List UInt8)) (m : List Ln) (hX : X.length ≤ 1000000) (hm : m.length ≤ 1000000) : PC Try.prog 23 [.acc 0 1 (X.map encS), iL m] [(0, .row 9 1)] 1 1 (fun t obs => t = .acc 0 1 ((X ++ txt m).map encS) ∧ obs = [(0, .row 9 1)]) := by
  refine PC.body [4] Try.func23 rfl (by rfl) (Nat.le_of_ble_eq_true (by rfl)) rfl ?_; simp only [enumA]
  ((repeat refine PWp.seq ?_); refine PWp.region TT (by rfl) (fun K hK => ?_); simp only [push_cast, seval, Nat.reduceEqDiff, Nat.reduceLeDiff, reduceCtorEq]; (repeat refine sk ?_); refine hK _ ?_; clear hK K)
  ((repeat refine PWp.seq ?_); refine PWp.region TT (by rfl) (fun K hK => ?_); simp only [push_cast, seval, Nat.reduceEqDiff, Nat.reduceLeDiff, reduceCtorEq]; (repeat refine sk ?_); refine hK _ ?_; clear hK K)
  ((repeat refine PWp.seq ?_); refine PWp.block ?_)
  refine PWp.loop (fun d st => ∃ k : Nat, d = m.length - k ∧ k ≤ m.length ∧
    st = ⟨[(0, .acc 0 1 ((X ++ txt (m.take k)).map encS)), (1, iL m), (5, iI k)], [(0, .row 9 1)], 1⟩) _ _ ⟨0, rfl, Nat.zero_le _, rfl⟩ (Gh.le (by simp [push_cast, -List.getD_eq_getElem?_getD, show txt (m.take 0) = [] from rfl, show txt [] = [] from rfl]) (by simp)) ?_
  rintro d st ⟨k, rfl, hk, rfl⟩
  ((repeat refine PWp.seq ?_); refine PWp.region TT (by rfl) (fun K hK => ?_); simp only [push_cast, seval, Nat.reduceEqDiff, Nat.reduceLeDiff, reduceCtorEq]; (repeat refine sk ?_); refine hK _ ?_; clear hK K)
  ((repeat refine PWp.seq ?_); refine PWp.cond (by simp only [push_cast, seval, Nat.reduceEqDiff, Nat.reduceLeDiff, reduceCtorEq]; rfl) (fun hc => ?_) (fun hc => ?_))
  · have hlt : k < m.length := by have := of_decide_eq_true hc; omega
    clear hc
    have hg : (m.map encL).getD k .any = encL (m.getD k default) := getD_map hlt
    have hs : txt (m.take (k + 1)) = txt (m.take k) ++ [(m.getD k default).t] := by rw [take_succ_getD hlt, txt_app]; rfl
    have hl : (txt (m.take k)).length ≤ k := by simp [txt]; omega
    generalize m.getD k default = x at *
    generalize txt (m.take k) = P at *
    ((repeat refine PWp.seq ?_); refine PWp.skip ?_)
    ((repeat refine PWp.seq ?_); refine PWp.block ?_)
    ((repeat refine PWp.seq ?_); refine PWp.region TT (by rfl) (fun K hK => ?_); simp only [push_cast, seval, Nat.reduceEqDiff, Nat.reduceLeDiff, reduceCtorEq, hg]; (repeat refine sk ?_); refine hK _ ?_; clear hK K)
    ((repeat refine PWp.seq ?_); refine PWp.region TT (by rfl) (fun K hK => ?_); simp only [push_cast, seval, Nat.reduceEqDiff, Nat.reduceLeDiff, reduceCtorEq, wrap64_id (n := (k : Int) + 1) (by omega) (by omega)]; (repeat refine sk ?_); refine hK _ ?_; clear hK K)
    refine ⟨_, _, ?_, ⟨k + 1, rfl, by omega, rfl⟩, Gh.le (by simp [push_cast, -List.getD_eq_getElem?_getD, hs]) (by simp)⟩
    omega
  · have hk' : k = m.length := by have := of_decide_eq_false hc; omega
    subst hk'
    rw [List.take_length]
    (repeat refine PWp.seq ?_); refine PWp.exit (iteT rfl ?_)
    ((repeat refine PWp.seq ?_); refine PWp.region TT (by rfl) (fun K hK => ?_); simp only [push_cast, seval, Nat.reduceEqDiff, Nat.reduceLeDiff, reduceCtorEq]; (repeat refine sk ?_); refine hK _ ?_; clear hK K)
    ((repeat refine PWp.seq ?_); refine PWp.ret ?_)
    refine ⟨.inr rfl, by omega, _, _, ?_, rfl, rfl⟩
    (simp [push_cast, -List.getD_eq_getElem?_getD])
end Go.Proofs.Ytmocgjimlhgejaa
namespace Go.Proofs.Ytmocgjimlhgejaa
open Go.PL
set_option maxRecDepth 100000
set_option linter.unusedSimpArgs false
set_option linter.unusedVariables false
theorem pick_succ (c : Int) {α : Type} [Inhabited α] (f : α → Rg) (l : List α) {k : Nat} (h : k < l.length) : txt (pickL c ((l.take (k + 1)).map f)) = txt (pickL c ((l.take k).map f)) ++ txt (pickR c (f (l.getD k default))) := by
  rw [take_succ_getD h, List.map_append, pickL_app, txt_app]
  congr 1
  simp [pickL]
theorem clash_succ {α : Type} [Inhabited α] (f : α → Rg) (l : List α) {k : Nat} (h : k < l.length) : clashN ((l.take (k + 1)).map f) = clashN ((l.take k).map f) + (if (f (l.getD k default)).c then 1 else 0) := by
  rw [take_succ_getD h, List.map_append]
  unfold clashN
  rw [List.filter_append, List.length_append]
  congr 1
  generalize l.getD k default = x
  cases hx : (f x).c <;> simp [List.filter, hx]
theorem txt_len (l : List Ln) : (txt l).length = l.length := by simp [txt]
theorem pick_le (c : Int) {α : Type} (f : α → Rg) (K : Nat) (hK : ∀ x, (pickR c (f x)).length ≤ K) : ∀ l : List α, (txt (pickL c (l.map f))).length ≤ l.length * K
  | [] => Nat.zero_le _
  | x :: l => by
    have ih := pick_le c f K hK l
    have e : pickL c ((x :: l).map f) = pickR c (f x) ++ pickL c (l.map f) := by simp [pickL]
    have h1 := hK x
    rw [e, txt_app, List.length_append, txt_len, List.length_cons, Nat.succ_mul]
    omega
theorem item_len (c : Int) (o a b : List Ln) (p : Pc) (h : c = 1 ∨ c = 2 ∨ c = 3) : (pickR c (itemP o a b p)).length ≤ o.length + a.length + b.length := by
  have l1 := segN_le' (l := o) (i := p.c.o) (n := p.c.on)
  have l2 := segN_le' (l := a) (i := p.c.a) (n := p.c.an)
  have l3 := segN_le' (l := b) (i := p.c.b) (n := p.c.bn)
  unfold itemP
  split
  · show (segN a p.c.a p.c.an).length ≤ _
    omega
  · split
    · rcases h with rfl | rfl | rfl
      · show (segN a p.c.a p.c.an).length ≤ _
        omega
      · show (segN o p.c.o p.c.on).length ≤ _
        omega
      · show (segN b p.c.b p.c.bn).length ≤ _
        omega
    · show (segN b p.c.b p.c.bn).length ≤ _
      omega
theorem setL_pick (R : List Rg) (c : Int) (h : c = 1 ∨ c = 2 ∨ c = 3) : setL R (List.replicate (clashN R) c) = (bareL (pickL c R), 0) := by
  unfold setL
  rw [if_pos, selL_const R c R.length (Nat.le_refl _), List.take_length]
  refine ⟨by simp, ?_⟩
  rw [List.any_eq_false]
  intro x hx
  have := List.eq_of_mem_replicate hx
  subst this
  rcases h with rfl | rfl | rfl <;> decide
def noB (l : List Ln) : Bool := l.all (fun x => mk x.t == 0)
theorem few_no {l : List Ln} (h : fewB l = true) : noMk l := by
  unfold fewB at h
  rw [Bool.and_eq_true] at h
  intro x hx
  simpa using List.all_eq_true.1 h.1 x hx
set_option maxHeartbeats 1000000 in
theorem ResolveMerges_walk (o a b : List Ln) (n : Int) (hto : okT o) (hta : okT a) (htb : okT b) (hn0 : 0 ≤ n) (hn1 : n ≤ 255) : PC Try.prog 6 [iL o, iL a, iL b, .iv (.lit (.int .u8 n))] [] 0 900 (fun t obs => t = iB true ∧ obs = []) := by
  refine PC.body [8] Try.func6 rfl (by rfl) (Nat.le_of_ble_eq_true (by rfl)) rfl ?_; simp only [enumA]
  ((repeat refine PWp.seq ?_); refine PWp.region TT (by rfl) (fun K hK => ?_); simp only [push_cast, seval, Nat.reduceEqDiff, Nat.reduceLeDiff, reduceCtorEq]; (repeat refine sk ?_); refine hK _ ?_; clear hK K)
  ((repeat refine PWp.seq ?_); refine PWp.region TT (by rfl) (fun K hK => ?_); simp only [push_cast, seval, Nat.reduceEqDiff, Nat.reduceLeDiff, reduceCtorEq])
  ((repeat refine sk ?_); refine PCall.use (few30_c o hto) [] rfl (by simp [push_cast]) (by simp) (by simp [push_cast]) (by simp [push_cast]) (by simp [push_cast]) (by simp [push_cast]) ?_)
  rintro _ _ ⟨rfl, rfl⟩
  (simp only [push_cast, seval, Nat.reduceEqDiff, Nat.reduceLeDiff, reduceCtorEq]; (repeat refine sk ?_); refine hK _ ?_; clear hK K)
  ((repeat refine PWp.seq ?_); refine PWp.region TT (by rfl) (fun K hK => ?_); simp only [push_cast, seval, Nat.reduceEqDiff, Nat.reduceLeDiff, reduceCtorEq])
  ((repeat refine sk ?_); refine PCall.use (few30_c a hta) [] rfl (by simp [push_cast]) (by simp) (by simp [push_cast]) (by simp [push_cast]) (by simp [push_cast]) (by simp [push_cast]) ?_)
  rintro _ _ ⟨rfl, rfl⟩
  (simp only [push_cast, seval, Nat.reduceEqDiff, Nat.reduceLeDiff, reduceCtorEq]; (repeat refine sk ?_); refine hK _ ?_; clear hK K)
  ((repeat refine PWp.seq ?_); refine PWp.region TT (by rfl) (fun K hK => ?_); simp only [push_cast, seval, Nat.reduceEqDiff, Nat.reduceLeDiff, reduceCtorEq])
  ((repeat refine sk ?_); refine PCall.use (few30_c b htb) [] rfl (by simp [push_cast]) (by simp) (by simp [push_cast]) (by simp [push_cast]) (by simp [push_cast]) (by simp [push_cast]) ?_)
  rintro _ _ ⟨rfl, rfl⟩
  (simp only [push_cast, seval, Nat.reduceEqDiff, Nat.reduceLeDiff, reduceCtorEq]; (repeat refine sk ?_); refine hK _ ?_; clear hK K)
  have ho : (o.take 30).length ≤ 30 := by rw [List.length_take]; omega
  have ha : (a.take 30).length ≤ 30 := by rw [List.length_take]; omega
  have hb : (b.take 30).length ≤ 30 := by rw [List.length_take]; omega
  clear hto hta htb
  generalize o.take 30 = o at *
  generalize a.take 30 = a at *
  generalize b.take 30 = b at *
  cases r1 : fewB o with
  | false =>
    ((repeat refine PWp.seq ?_); refine PWp.region TT (by rfl) (fun K hK => ?_); simp only [push_cast, seval, Nat.reduceEqDiff, Nat.reduceLeDiff, reduceCtorEq, r1]; (repeat refine sk ?_); refine hK _ ?_; clear hK K)
    ((repeat refine PWp.seq ?_); refine PWp.cond (by simp only [push_cast, seval, Nat.reduceEqDiff, Nat.reduceLeDiff, reduceCtorEq]; rfl) (fun hc => ?_) (fun hc => ?_))
    · ((repeat refine PWp.seq ?_); refine PWp.region TT (by rfl) (fun K hK => ?_); simp only [push_cast, seval, Nat.reduceEqDiff, Nat.reduceLeDiff, reduceCtorEq])
      ((repeat refine sk ?_); refine PCall.use (live30_c) [] rfl (by simp [push_cast]) (by simp) (by simp [push_cast]) (by simp [push_cast]) (by simp [push_cast]) (by simp [push_cast]) ?_)
      rintro _ _ ⟨rfl, rfl⟩
      (simp only [push_cast, seval, Nat.reduceEqDiff, Nat.reduceLeDiff, reduceCtorEq]; (repeat refine sk ?_); refine hK _ ?_; clear hK K)
      ((repeat refine PWp.seq ?_); refine PWp.ret ?_)
      refine ⟨.inr rfl, by omega, _, [], ?_, rfl, rfl⟩
      (simp [push_cast, -List.getD_eq_getElem?_getD])
    · cases hc
  | true =>
    cases r2 : fewB a with
    | false =>
      ((repeat refine PWp.seq ?_); refine PWp.region TT (by rfl) (fun K hK => ?_); simp only [push_cast, seval, Nat.reduceEqDiff, Nat.reduceLeDiff, reduceCtorEq, r1, r2]; (repeat refine sk ?_); refine hK _ ?_; clear hK K)
      ((repeat refine PWp.seq ?_); refine PWp.cond (by simp only [push_cast, seval, Nat.reduceEqDiff, Nat.reduceLeDiff, reduceCtorEq]; rfl) (fun hc => ?_) (fun hc => ?_))
      · ((repeat refine PWp.seq ?_); refine PWp.region TT (by rfl) (fun K hK => ?_); simp only [push_cast, seval, Nat.reduceEqDiff, Nat.reduceLeDiff, reduceCtorEq])
        ((repeat refine sk ?_); refine PCall.use (live30_c) [] rfl (by simp [push_cast]) (by simp) (by simp [push_cast]) (by simp [push_cast]) (by simp [push_cast]) (by simp [push_cast]) ?_)
        rintro _ _ ⟨rfl, rfl⟩
        (simp only [push_cast, seval, Nat.reduceEqDiff, Nat.reduceLeDiff, reduceCtorEq]; (repeat refine sk ?_); refine hK _ ?_; clear hK K)
        ((repeat refine PWp.seq ?_); refine PWp.ret ?_)
        refine ⟨.inr rfl, by omega, _, [], ?_, rfl, rfl⟩
        (simp [push_cast, -List.getD_eq_getElem?_getD])
      · cases hc
    | true =>
      cases r3 : fewB b with
      | false =>
        ((repeat refine PWp.seq ?_); refine PWp.region TT (by rfl) (fun K hK => ?_); simp only [push_cast, seval, Nat.reduceEqDiff, Nat.reduceLeDiff, reduceCtorEq, r1, r2, r3]; (repeat refine sk ?_); refine hK _ ?_; clear hK K)
        ((repeat refine PWp.seq ?_); refine PWp.cond (by simp only [push_cast, seval, Nat.reduceEqDiff, Nat.reduceLeDiff, reduceCtorEq]; rfl) (fun hc => ?_) (fun hc => ?_))
        · ((repeat refine PWp.seq ?_); refine PWp.region TT (by rfl) (fun K hK => ?_); simp only [push_cast, seval, Nat.reduceEqDiff, Nat.reduceLeDiff, reduceCtorEq])
          ((repeat refine sk ?_); refine PCall.use (live30_c) [] rfl (by simp [push_cast]) (by simp) (by simp [push_cast]) (by simp [push_cast]) (by simp [push_cast]) (by simp [push_cast]) ?_)
          rintro _ _ ⟨rfl, rfl⟩
          (simp only [push_cast, seval, Nat.reduceEqDiff, Nat.reduceLeDiff, reduceCtorEq]; (repeat refine sk ?_); refine hK _ ?_; clear hK K)
          ((repeat refine PWp.seq ?_); refine PWp.ret ?_)
          refine ⟨.inr rfl, by omega, _, [], ?_, rfl, rfl⟩
          (simp [push_cast, -List.getD_eq_getElem?_getD])
        · cases hc
      | true =>
        ((repeat refine PWp.seq ?_); refine PWp.region TT (by rfl) (fun K hK => ?_); simp only [push_cast, seval, Nat.reduceEqDiff, Nat.reduceLeDiff, reduceCtorEq, r1, r2, r3]; (repeat refine sk ?_); refine hK _ ?_; clear hK K)
        ((repeat refine PWp.seq ?_); refine PWp.cond (by simp only [push_cast, seval, Nat.reduceEqDiff, Nat.reduceLeDiff, reduceCtorEq]; rfl) (fun hc => ?_) (fun hc => ?_))
        · cases hc
        · have mo := few_no r1
          have ma := few_no r2
          have mb := few_no r3
          clear r1 r2 r3 hc
          ((repeat refine PWp.seq ?_); refine PWp.skip ?_)
          ((repeat refine PWp.seq ?_); refine PWp.region TT (by rfl) (fun K hK => ?_); simp only [push_cast, seval, Nat.reduceEqDiff, Nat.reduceLeDiff, reduceCtorEq])
          ((repeat refine sk ?_); refine PCall.use (law14_pairs o a (by omega) (by omega)) [] rfl (by simp [push_cast]) (by simp) (by simp [push_cast]) (by simp [push_cast]) (by simp [push_cast]) (by simp [push_cast]) ?_)
          rintro _ _ ⟨⟨oa, hoa, rfl⟩, rfl⟩
          (simp only [push_cast, seval, Nat.reduceEqDiff, Nat.reduceLeDiff, reduceCtorEq])
          ((repeat refine sk ?_); refine PCall.use (law14_pairs o b (by omega) (by omega)) [] rfl (by simp [push_cast]) (by simp) (by simp [push_cast]) (by simp [push_cast]) (by simp [push_cast]) (by simp [push_cast]) ?_)
          rintro _ _ ⟨⟨ob, hob, rfl⟩, rfl⟩
          (simp only [push_cast, seval, Nat.reduceEqDiff, Nat.reduceLeDiff, reduceCtorEq])
          ((repeat refine sk ?_); refine PCall.use (ref14_Of o a b oa ob hoa.2.1 hob.2.1) [] rfl (by simp [push_cast]) (by simp) (by simp [push_cast]) (by simp [push_cast]) (by simp [push_cast]) (by simp [push_cast]) ?_)
          rintro _ _ ⟨rfl, rfl⟩
          have hm0 := (match_mof (by omega) (by omega) (by omega) hoa hob).1
          have hfit := match_fits (by omega) (by omega) (by omega) hoa hob
          rw [hm0]
          generalize mofL o a b oa ob = l at *
          have hin := fits_in (by omega) (by omega) (by omega) hfit
          have hinT : ∀ p ∈ l, inT o a b p.c := fun p hp => (hin p hp).1
          have e1 : mkE l o a b = 0 := by unfold mkE; rw [hfit]; rfl
          have e2 : mkR l o a b = evenL (flatP o a b l) := by unfold mkR; rw [hfit]; rfl
          obtain ⟨f1, f2⟩ := flat_small (by omega) (by omega) (by omega) hfit hinT
          have hM : (evenL (flatP o a b l)).length ≤ 900 := by rw [evenL_length]; exact f1
          have hpp := fun c => par_pieces c (l := l.map (itemP o a b)) (L := evenL (flatP o a b l)) (by
            intro x hx
            obtain ⟨p, _, rfl⟩ := List.mem_map.1 hx
            exact plain_item mo ma mb p) (by rw [txt_even, print_items])
          clear hm0 hfit hoa hob hin
          (simp only [push_cast, seval, Nat.reduceEqDiff, Nat.reduceLeDiff, reduceCtorEq]; (repeat refine sk ?_); refine hK _ ?_; clear hK K)
          ((repeat refine PWp.seq ?_); refine PWp.region TT (by rfl) (fun K hK => ?_); simp only [push_cast, seval, Nat.reduceEqDiff, Nat.reduceLeDiff, reduceCtorEq])
          ((repeat refine sk ?_); refine PCall.use (ref14_Marked l o a b (by omega) (by omega) (by omega) (by omega)) [] rfl (by simp [push_cast]) (by simp) (by simp [push_cast]) (by simp [push_cast]) (by simp [push_cast]) (by simp [push_cast]) ?_)
          rintro _ _ ⟨rfl, rfl⟩
          rw [e1, e2]
          clear e1 e2 f1
          generalize evenL (flatP o a b l) = M at *
          (simp only [push_cast, seval, Nat.reduceEqDiff, Nat.reduceLeDiff, reduceCtorEq]; (repeat refine sk ?_); refine hK _ ?_; clear hK K)
          ((repeat refine PWp.seq ?_); refine PWp.region TT (by rfl) (fun K hK => ?_); simp only [push_cast, seval, Nat.reduceEqDiff, Nat.reduceLeDiff, reduceCtorEq])
          ((repeat refine sk ?_); refine PCall.use (Parse_c M hM) [] rfl (by simp [push_cast]) (by simp) (by simp [push_cast]) (by simp [push_cast]) (by simp [push_cast]) (by simp [push_cast]) ?_)
          rintro _ _ ⟨rfl, rfl⟩
          obtain ⟨b1, b2⟩ := parR_big M hM
          have hp0 := (hpp 0).1
          have hcl := (hpp 0).2.1
          have hpk := fun c => (hpp c).2.2
          clear hpp
          rw [hp0]
          generalize (parR M).1 = R at *
          (simp only [push_cast, seval, Nat.reduceEqDiff, Nat.reduceLeDiff, reduceCtorEq]; (repeat refine sk ?_); refine hK _ ?_; clear hK K)
          ((repeat refine PWp.seq ?_); refine PWp.region TT (by rfl) (fun K hK => ?_); simp only [push_cast, seval, Nat.reduceEqDiff, Nat.reduceLeDiff, reduceCtorEq]; (repeat refine sk ?_); refine hK _ ?_; clear hK K)
          ((repeat refine PWp.seq ?_); refine PWp.cond (by simp only [push_cast, seval, Nat.reduceEqDiff, Nat.reduceLeDiff, reduceCtorEq]; rfl) (fun hc => ?_) (fun hc => ?_))
          · cases hc
          · ((repeat refine PWp.seq ?_); refine PWp.skip ?_)
            have hwn := wrap64_id (n := n) (by omega) (by omega)
            have hcc : 1 + n.tmod 3 = 1 ∨ 1 + n.tmod 3 = 2 ∨ 1 + n.tmod 3 = 3 := by
              rw [Int.tmod_eq_emod_of_nonneg hn0]
              omega
            have hwc := wrap64_id (n := 1 + n.tmod 3) (by omega) (by omega)
            ((repeat refine PWp.seq ?_); refine PWp.region TT (by rfl) (fun K hK => ?_); simp only [push_cast, seval, Nat.reduceEqDiff, Nat.reduceLeDiff, reduceCtorEq, hwn, hwc]; (repeat refine sk ?_); refine hK _ ?_; clear hK K)
            generalize 1 + n.tmod 3 = c at *
            clear hwn hwc hn0 hn1
            ((repeat refine PWp.seq ?_); refine PWp.region TT (by rfl) (fun K hK => ?_); simp only [push_cast, seval, Nat.reduceEqDiff, Nat.reduceLeDiff, reduceCtorEq]; (repeat refine sk ?_); refine hK _ ?_; clear hK K)
            ((repeat refine PWp.seq ?_); refine PWp.region TT (by rfl) (fun K hK => ?_); simp only [push_cast, seval, Nat.reduceEqDiff, Nat.reduceLeDiff, reduceCtorEq]; (repeat refine sk ?_); refine hK _ ?_; clear hK K)
            ((repeat refine PWp.seq ?_); refine PWp.region TT (by rfl) (fun K hK => ?_); simp only [push_cast, seval, Nat.reduceEqDiff, Nat.reduceLeDiff, reduceCtorEq]; (repeat refine sk ?_); refine hK _ ?_; clear hK K)
            refine PWp.gh (Gh.row 20 48 1 (by rfl)) ?_
            refine PWp.gh (Gh.row 21 9 1 (by rfl)) ?_
            have hil := fun p => item_len c o a b p hcc
            ((repeat refine PWp.seq ?_); refine PWp.block ?_)
            refine PWp.loop (fun d st => ∃ k : Nat, d = l.length - k ∧ k ≤ l.length ∧
              st = ⟨[(0, iL o), (1, iL a), (2, iL b), (12, iPc l), (16, iR R), (19, iI c), (20, .acc 0 1 ((List.replicate (clashN ((l.take k).map (itemP o a b))) c).map encI)), (21, .acc 1 1 ((txt (pickL c ((l.take k).map (itemP o a b)))).map encS)), (22, iI k)], [(0, .row 48 1), (1, .row 9 1)], 2⟩) _ _ ⟨0, rfl, Nat.zero_le _, rfl⟩ (Gh.leR [159, 160] (by simp [push_cast, -List.getD_eq_getElem?_getD, show pickL c [] = [] from rfl, show txt [] = [] from rfl, show clashN [] = 0 from rfl]; try decide)) ?_
            rintro d st ⟨k, rfl, hk, rfl⟩
            ((repeat refine PWp.seq ?_); refine PWp.region TT (by rfl) (fun K hK => ?_); simp only [push_cast, seval, Nat.reduceEqDiff, Nat.reduceLeDiff, reduceCtorEq]; (repeat refine sk ?_); refine hK _ ?_; clear hK K)
            ((repeat refine PWp.seq ?_); refine PWp.cond (by simp only [push_cast, seval, Nat.reduceEqDiff, Nat.reduceLeDiff, reduceCtorEq]; rfl) (fun hc => ?_) (fun hc => ?_))
            · have hlt : k < l.length := by have := of_decide_eq_true hc; omega
              clear hc
              have hg : (l.map encPc).getD k .any = encPc (l.getD k default) := getD_map hlt
              have hs := pick_succ c (itemP o a b) l hlt
              have hcs := clash_succ (itemP o a b) l hlt
              have hpl := pick_le c (itemP o a b) (o.length + a.length + b.length) hil (l.take k)
              have hpl2 : (l.take k).length * (o.length + a.length + b.length) ≤ 120 * 90 := Nat.mul_le_mul (by rw [List.length_take]; omega) (by omega)
              have hcl2 : clashN ((l.take k).map (itemP o a b)) ≤ 120 := by
                unfold clashN
                have := List.length_filter_le (·.c) ((l.take k).map (itemP o a b))
                rw [List.length_map, List.length_take] at this
                omega
              obtain ⟨⟨i1, i2, i3, _⟩, ⟨j1, j2, j3, _⟩, ⟨k1, k2, k3, _⟩⟩ := hinT _ (getD_mem hlt)
              generalize l.getD k default = p at *
              generalize hX : txt (pickL c ((l.take k).map (itemP o a b))) = X at *
              have hXl : X.length ≤ 1000000 := by omega
              have l1 := segN_le' (l := o) (i := p.c.o) (n := p.c.on)
              have l2 := segN_le' (l := a) (i := p.c.a) (n := p.c.an)
              have l3 := segN_le' (l := b) (i := p.c.b) (n := p.c.bn)
              have s1 := (segN_map o p.c.o p.c.on).symm
              have s2 := (segN_map a p.c.a p.c.an).symm
              have s3 := (segN_map b p.c.b p.c.bn).symm
              have w1 := wrap64_id (n := p.c.o + p.c.on) (by omega) (by omega)
              have w2 := wrap64_id (n := p.c.a + p.c.an) (by omega) (by omega)
              have w3 := wrap64_id (n := p.c.b + p.c.bn) (by omega) (by omega)
              have wk := wrap64_id (n := (k : Int) + 1) (by omega) (by omega)
              ((repeat refine PWp.seq ?_); refine PWp.skip ?_)
              ((repeat refine PWp.seq ?_); refine PWp.block ?_)
              ((repeat refine PWp.seq ?_); refine PWp.region TT (by rfl) (fun K hK => ?_); simp only [push_cast, seval, Nat.reduceEqDiff, Nat.reduceLeDiff, reduceCtorEq, hg]; (repeat refine sk ?_); refine hK _ ?_; clear hK K)
              ((repeat refine PWp.seq ?_); refine PWp.block ?_)
              by_cases q2 : p.side = 2
              · have ei : itemP o a b p = ⟨false, segN a p.c.a p.c.an, [], [], []⟩ := if_pos q2
                rw [ei] at hs hcs
                have hs' : txt (pickL c ((l.take (k + 1)).map (itemP o a b))) = X ++ txt (segN a p.c.a p.c.an) := hs
                have hcs' : clashN ((l.take (k + 1)).map (itemP o a b)) = clashN ((l.take k).map (itemP o a b)) := hcs
                have q4 := q2
                ((repeat refine PWp.seq ?_); refine PWp.region TT (by rfl) (fun K hK => ?_); simp only [push_cast, seval, Nat.reduceEqDiff, Nat.reduceLeDiff, reduceCtorEq, hg, q2]; (repeat refine sk ?_); refine hK _ ?_; clear hK K)
                ((repeat refine PWp.seq ?_); refine PWp.cond (by simp only [push_cast, seval, Nat.reduceEqDiff, Nat.reduceLeDiff, reduceCtorEq]; rfl) (fun hc => ?_) (fun hc => ?_))
                · ((repeat refine PWp.seq ?_); refine PWp.region TT (by rfl) (fun K hK => ?_); simp only [push_cast, seval, Nat.reduceEqDiff, Nat.reduceLeDiff, reduceCtorEq, w2, s2])
                  ((repeat refine sk ?_); refine PCall.use (add_c X (segN a p.c.a p.c.an) hXl (by omega)) [1] rfl (by simp [push_cast]) (by simp) (by simp [push_cast]) (by simp [push_cast]) (by simp [push_cast]) (by simp [push_cast]) ?_)
                  rintro _ _ ⟨rfl, rfl⟩
                  (simp only [push_cast, seval, Nat.reduceEqDiff, Nat.reduceLeDiff, reduceCtorEq]; (repeat refine sk ?_); refine hK _ ?_; clear hK K)
                  ((repeat refine PWp.seq ?_); refine PWp.region TT (by rfl) (fun K hK => ?_); simp only [push_cast, seval, Nat.reduceEqDiff, Nat.reduceLeDiff, reduceCtorEq, hg, q4]; (repeat refine sk ?_); refine hK _ ?_; clear hK K)
                  ((repeat refine PWp.seq ?_); refine PWp.cond (by simp only [push_cast, seval, Nat.reduceEqDiff, Nat.reduceLeDiff, reduceCtorEq]; rfl) (fun hc => ?_) (fun hc => ?_))
                  · cases hc
                  · ((repeat refine PWp.seq ?_); refine PWp.skip ?_)
                    ((repeat refine PWp.seq ?_); refine PWp.region TT (by rfl) (fun K hK => ?_); simp only [push_cast, seval, Nat.reduceEqDiff, Nat.reduceLeDiff, reduceCtorEq, wk]; (repeat refine sk ?_); refine hK _ ?_; clear hK K)
                    refine ⟨_, _, ?_, ⟨k + 1, rfl, by omega, rfl⟩, ?_⟩
                    · omega
                    · rw [hs', hcs']
                      exact Gh.le (by simp [push_cast, -List.getD_eq_getElem?_getD]) (by simp)
                · cases hc
              · have b2 : (p.side == 2) = false := beq_eq_false_iff_ne.2 q2
                ((repeat refine PWp.seq ?_); refine PWp.region TT (by rfl) (fun K hK => ?_); simp only [push_cast, seval, Nat.reduceEqDiff, Nat.reduceLeDiff, reduceCtorEq, hg, b2]; (repeat refine sk ?_); refine hK _ ?_; clear hK K)
                ((repeat refine PWp.seq ?_); refine PWp.cond (by simp only [push_cast, seval, Nat.reduceEqDiff, Nat.reduceLeDiff, reduceCtorEq]; rfl) (fun hc => ?_) (fun hc => ?_))
                · cases hc
                · by_cases q4 : p.side = 4
                  · have ei : itemP o a b p = ⟨true, [], segN a p.c.a p.c.an, segN o p.c.o p.c.on, segN b p.c.b p.c.bn⟩ := by
                      unfold itemP
                      rw [if_neg q2, if_pos q4]
                    rw [ei] at hs hcs
                    have hcs' : clashN ((l.take (k + 1)).map (itemP o a b)) = clashN ((l.take k).map (itemP o a b)) + 1 := hcs
                    ((repeat refine PWp.seq ?_); refine PWp.region TT (by rfl) (fun K hK => ?_); simp only [push_cast, seval, Nat.reduceEqDiff, Nat.reduceLeDiff, reduceCtorEq, hg, q4]; (repeat refine sk ?_); refine hK _ ?_; clear hK K)
                    ((repeat refine PWp.seq ?_); refine PWp.cond (by simp only [push_cast, seval, Nat.reduceEqDiff, Nat.reduceLeDiff, reduceCtorEq]; rfl) (fun hc => ?_) (fun hc => ?_))
                    · cases hc
                    · rcases hcc with rfl | rfl | rfl
                      · have hs' : txt (pickL 1 ((l.take (k + 1)).map (itemP o a b))) = X ++ txt (segN a p.c.a p.c.an) := hs
                        ((repeat refine PWp.seq ?_); refine PWp.region TT (by rfl) (fun K hK => ?_); simp only [push_cast, seval, Nat.reduceEqDiff, Nat.reduceLeDiff, reduceCtorEq]; (repeat refine sk ?_); refine hK _ ?_; clear hK K)
                        ((repeat refine PWp.seq ?_); refine PWp.cond (by simp only [push_cast, seval, Nat.reduceEqDiff, Nat.reduceLeDiff, reduceCtorEq]; rfl) (fun hc => ?_) (fun hc => ?_))
                        · ((repeat refine PWp.seq ?_); refine PWp.region TT (by rfl) (fun K hK => ?_); simp only [push_cast, seval, Nat.reduceEqDiff, Nat.reduceLeDiff, reduceCtorEq, w2, s2])
                          ((repeat refine sk ?_); refine PCall.use (add_c X (segN a p.c.a p.c.an) hXl (by omega)) [1] rfl (by simp [push_cast]) (by simp) (by simp [push_cast]) (by simp [push_cast]) (by simp [push_cast]) (by simp [push_cast]) ?_)
                          rintro _ _ ⟨rfl, rfl⟩
                          (simp only [push_cast, seval, Nat.reduceEqDiff, Nat.reduceLeDiff, reduceCtorEq]; (repeat refine sk ?_); refine hK _ ?_; clear hK K)
                          ((repeat refine PWp.seq ?_); refine PWp.region TT (by rfl) (fun K hK => ?_); simp only [push_cast, seval, Nat.reduceEqDiff, Nat.reduceLeDiff, reduceCtorEq, hg, q4]; (repeat refine sk ?_); refine hK _ ?_; clear hK K)
                          ((repeat refine PWp.seq ?_); refine PWp.cond (by simp only [push_cast, seval, Nat.reduceEqDiff, Nat.reduceLeDiff, reduceCtorEq]; rfl) (fun hc => ?_) (fun hc => ?_))
                          · ((repeat refine PWp.seq ?_); refine PWp.region TT (by rfl) (fun K hK => ?_); simp only [push_cast, seval, Nat.reduceEqDiff, Nat.reduceLeDiff, reduceCtorEq]; (repeat refine sk ?_); refine hK _ ?_; clear hK K)
                            ((repeat refine PWp.seq ?_); refine PWp.region TT (by rfl) (fun K hK => ?_); simp only [push_cast, seval, Nat.reduceEqDiff, Nat.reduceLeDiff, reduceCtorEq, wk]; (repeat refine sk ?_); refine hK _ ?_; clear hK K)
                            refine ⟨_, _, ?_, ⟨k + 1, rfl, by omega, rfl⟩, ?_⟩
                            · omega
                            · rw [hs', hcs', List.replicate_succ']
                              exact Gh.le (by simp [push_cast, -List.getD_eq_getElem?_getD]) (by simp)
                          · cases hc
                        · cases hc
                      · have hs' : txt (pickL 2 ((l.take (k + 1)).map (itemP o a b))) = X ++ txt (segN o p.c.o p.c.on) := hs
                        ((repeat refine PWp.seq ?_); refine PWp.region TT (by rfl) (fun K hK => ?_); simp only [push_cast, seval, Nat.reduceEqDiff, Nat.reduceLeDiff, reduceCtorEq]; (repeat refine sk ?_); refine hK _ ?_; clear hK K)
                        ((repeat refine PWp.seq ?_); refine PWp.cond (by simp only [push_cast, seval, Nat.reduceEqDiff, Nat.reduceLeDiff, reduceCtorEq]; rfl) (fun hc => ?_) (fun hc => ?_))
                        · cases hc
                        · ((repeat refine PWp.seq ?_); refine PWp.region TT (by rfl) (fun K hK => ?_); simp only [push_cast, seval, Nat.reduceEqDiff, Nat.reduceLeDiff, reduceCtorEq]; (repeat refine sk ?_); refine hK _ ?_; clear hK K)
                          ((repeat refine PWp.seq ?_); refine PWp.cond (by simp only [push_cast, seval, Nat.reduceEqDiff, Nat.reduceLeDiff, reduceCtorEq]; rfl) (fun hc => ?_) (fun hc => ?_))
                          · ((repeat refine PWp.seq ?_); refine PWp.region TT (by rfl) (fun K hK => ?_); simp only [push_cast, seval, Nat.reduceEqDiff, Nat.reduceLeDiff, reduceCtorEq, w1, s1])
                            ((repeat refine sk ?_); refine PCall.use (add_c X (segN o p.c.o p.c.on) hXl (by omega)) [1] rfl (by simp [push_cast]) (by simp) (by simp [push_cast]) (by simp [push_cast]) (by simp [push_cast]) (by simp [push_cast]) ?_)
                            rintro _ _ ⟨rfl, rfl⟩
                            (simp only [push_cast, seval, Nat.reduceEqDiff, Nat.reduceLeDiff, reduceCtorEq]; (repeat refine sk ?_); refine hK _ ?_; clear hK K)
                            ((repeat refine PWp.seq ?_); refine PWp.region TT (by rfl) (fun K hK => ?_); simp only [push_cast, seval, Nat.reduceEqDiff, Nat.reduceLeDiff, reduceCtorEq, hg, q4]; (repeat refine sk ?_); refine hK _ ?_; clear hK K)
                            ((repeat refine PWp.seq ?_); refine PWp.cond (by simp only [push_cast, seval, Nat.reduceEqDiff, Nat.reduceLeDiff, reduceCtorEq]; rfl) (fun hc => ?_) (fun hc => ?_))
                            · ((repeat refine PWp.seq ?_); refine PWp.region TT (by rfl) (fun K hK => ?_); simp only [push_cast, seval, Nat.reduceEqDiff, Nat.reduceLeDiff, reduceCtorEq]; (repeat refine sk ?_); refine hK _ ?_; clear hK K)
                              ((repeat refine PWp.seq ?_); refine PWp.region TT (by rfl) (fun K hK => ?_); simp only [push_cast, seval, Nat.reduceEqDiff, Nat.reduceLeDiff, reduceCtorEq, wk]; (repeat refine sk ?_); refine hK _ ?_; clear hK K)
                              refine ⟨_, _, ?_, ⟨k + 1, rfl, by omega, rfl⟩, ?_⟩
                              · omega
                              · rw [hs', hcs', List.replicate_succ']
                                exact Gh.le (by simp [push_cast, -List.getD_eq_getElem?_getD]) (by simp)
                            · cases hc
                          · cases hc
                      · have hs' : txt (pickL 3 ((l.take (k + 1)).map (itemP o a b))) = X ++ txt (segN b p.c.b p.c.bn) := hs
                        ((repeat refine PWp.seq ?_); refine PWp.region TT (by rfl) (fun K hK => ?_); simp only [push_cast, seval, Nat.reduceEqDiff, Nat.reduceLeDiff, reduceCtorEq]; (repeat refine sk ?_); refine hK _ ?_; clear hK K)
                        ((repeat refine PWp.seq ?_); refine PWp.cond (by simp only [push_cast, seval, Nat.reduceEqDiff, Nat.reduceLeDiff, reduceCtorEq]; rfl) (fun hc => ?_) (fun hc => ?_))
                        · cases hc
                        · ((repeat refine PWp.seq ?_); refine PWp.region TT (by rfl) (fun K hK => ?_); simp only [push_cast, seval, Nat.reduceEqDiff, Nat.reduceLeDiff, reduceCtorEq]; (repeat refine sk ?_); refine hK _ ?_; clear hK K)
                          ((repeat refine PWp.seq ?_); refine PWp.cond (by simp only [push_cast, seval, Nat.reduceEqDiff, Nat.reduceLeDiff, reduceCtorEq]; rfl) (fun hc => ?_) (fun hc => ?_))
                          · cases hc
                          · ((repeat refine PWp.seq ?_); refine PWp.region TT (by rfl) (fun K hK => ?_); simp only [push_cast, seval, Nat.reduceEqDiff, Nat.reduceLeDiff, reduceCtorEq, w3, s3])
                            ((repeat refine sk ?_); refine PCall.use (add_c X (segN b p.c.b p.c.bn) hXl (by omega)) [1] rfl (by simp [push_cast]) (by simp) (by simp [push_cast]) (by simp [push_cast]) (by simp [push_cast]) (by simp [push_cast]) ?_)
                            rintro _ _ ⟨rfl, rfl⟩
                            (simp only [push_cast, seval, Nat.reduceEqDiff, Nat.reduceLeDiff, reduceCtorEq]; (repeat refine sk ?_); refine hK _ ?_; clear hK K)
                            ((repeat refine PWp.seq ?_); refine PWp.region TT (by rfl) (fun K hK => ?_); simp only [push_cast, seval, Nat.reduceEqDiff, Nat.reduceLeDiff, reduceCtorEq, hg, q4]; (repeat refine sk ?_); refine hK _ ?_; clear hK K)
                            ((repeat refine PWp.seq ?_); refine PWp.cond (by simp only [push_cast, seval, Nat.reduceEqDiff, Nat.reduceLeDiff, reduceCtorEq]; rfl) (fun hc => ?_) (fun hc => ?_))
                            · ((repeat refine PWp.seq ?_); refine PWp.region TT (by rfl) (fun K hK => ?_); simp only [push_cast, seval, Nat.reduceEqDiff, Nat.reduceLeDiff, reduceCtorEq]; (repeat refine sk ?_); refine hK _ ?_; clear hK K)
                              ((repeat refine PWp.seq ?_); refine PWp.region TT (by rfl) (fun K hK => ?_); simp only [push_cast, seval, Nat.reduceEqDiff, Nat.reduceLeDiff, reduceCtorEq, wk]; (repeat refine sk ?_); refine hK _ ?_; clear hK K)
                              refine ⟨_, _, ?_, ⟨k + 1, rfl, by omega, rfl⟩, ?_⟩
                              · omega
                              · rw [hs', hcs', List.replicate_succ']
                                exact Gh.le (by simp [push_cast, -List.getD_eq_getElem?_getD]) (by simp)
                            · cases hc
                  · have ei : itemP o a b p = ⟨false, segN b p.c.b p.c.bn, [], [], []⟩ := by
                      unfold itemP
                      rw [if_neg q2, if_neg q4]
                    rw [ei] at hs hcs
                    have hs' : txt (pickL c ((l.take (k + 1)).map (itemP o a b))) = X ++ txt (segN b p.c.b p.c.bn) := hs
                    have hcs' : clashN ((l.take (k + 1)).map (itemP o a b)) = clashN ((l.take k).map (itemP o a b)) := hcs
                    have b4 : (p.side == 4) = false := beq_eq_false_iff_ne.2 q4
                    have b4' : (p.side != 4) = true := bne_iff_ne.2 q4
                    replace q4 := b4
                    ((repeat refine PWp.seq ?_); refine PWp.region TT (by rfl) (fun K hK => ?_); simp only [push_cast, seval, Nat.reduceEqDiff, Nat.reduceLeDiff, reduceCtorEq, hg, b4, b4']; (repeat refine sk ?_); refine hK _ ?_; clear hK K)
                    ((repeat refine PWp.seq ?_); refine PWp.cond (by simp only [push_cast, seval, Nat.reduceEqDiff, Nat.reduceLeDiff, reduceCtorEq]; rfl) (fun hc => ?_) (fun hc => ?_))
                    · ((repeat refine PWp.seq ?_); refine PWp.region TT (by rfl) (fun K hK => ?_); simp only [push_cast, seval, Nat.reduceEqDiff, Nat.reduceLeDiff, reduceCtorEq, w3, s3])
                      ((repeat refine sk ?_); refine PCall.use (add_c X (segN b p.c.b p.c.bn) hXl (by omega)) [1] rfl (by simp [push_cast]) (by simp) (by simp [push_cast]) (by simp [push_cast]) (by simp [push_cast]) (by simp [push_cast]) ?_)
                      rintro _ _ ⟨rfl, rfl⟩
                      (simp only [push_cast, seval, Nat.reduceEqDiff, Nat.reduceLeDiff, reduceCtorEq]; (repeat refine sk ?_); refine hK _ ?_; clear hK K)
                      ((repeat refine PWp.seq ?_); refine PWp.region TT (by rfl) (fun K hK => ?_); simp only [push_cast, seval, Nat.reduceEqDiff, Nat.reduceLeDiff, reduceCtorEq, hg, q4]; (repeat refine sk ?_); refine hK _ ?_; clear hK K)
                      ((repeat refine PWp.seq ?_); refine PWp.cond (by simp only [push_cast, seval, Nat.reduceEqDiff, Nat.reduceLeDiff, reduceCtorEq]; rfl) (fun hc => ?_) (fun hc => ?_))
                      · cases hc
                      · ((repeat refine PWp.seq ?_); refine PWp.skip ?_)
                        ((repeat refine PWp.seq ?_); refine PWp.region TT (by rfl) (fun K hK => ?_); simp only [push_cast, seval, Nat.reduceEqDiff, Nat.reduceLeDiff, reduceCtorEq, wk]; (repeat refine sk ?_); refine hK _ ?_; clear hK K)
                        refine ⟨_, _, ?_, ⟨k + 1, rfl, by omega, rfl⟩, ?_⟩
                        · omega
                        · rw [hs', hcs']
                          exact Gh.le (by simp [push_cast, -List.getD_eq_getElem?_getD]) (by simp)
                    · cases hc
            · have hk' : k = l.length := by have := of_decide_eq_false hc; omega
              subst hk'
              rw [List.take_length]
              have hps := hpk c
              have hse := setL_pick R c hcc
              rw [← hcl, ← hps]
              have hsb := selL_bound R (List.replicate (clashN R) c) 900 b2 R.length (Nat.le_refl _)
              have hR : R.length * (2 * 900) ≤ 1000 * (2 * 900) := Nat.mul_le_mul_right _ b1
              have hrg : rgLe R := fun x hx => by
                obtain ⟨_, y1, _, y2⟩ := b2 x hx
                omega
              have hcR : clashN R ≤ R.length := by
                have := clashN_le R R.length
                rw [List.take_length] at this
                exact this
              have hGl := setL_len R (List.replicate (clashN R) c)
              rw [hse] at hGl
              simp only at hGl
              have hGl2 : (bareL (pickL c R)).length ≤ 1800000 := by omega
              clear hGl
              (repeat refine PWp.seq ?_); refine PWp.exit (iteT rfl ?_)
              ((repeat refine PWp.seq ?_); refine PWp.region TT (by rfl) (fun K hK => ?_); simp only [push_cast, seval, Nat.reduceEqDiff, Nat.reduceLeDiff, reduceCtorEq])
              ((repeat refine sk ?_); refine PCall.use (Settle_c R (List.replicate (clashN R) c) (by omega) (by rw [List.length_replicate]; omega) hrg (by omega)) [] rfl (by simp [push_cast]) (by simp) (by simp [push_cast]) (by simp [push_cast]) (by simp [push_cast]) (by simp [push_cast]) ?_)
              rintro _ _ ⟨rfl, rfl⟩
              rw [hse]
              have hG := txt_bare (pickL c R)
              rw [← hG]
              generalize bareL (pickL c R) = G at *
              have hlt : (txt G).length = G.length := txt_len G
              (simp only [push_cast, seval, Nat.reduceEqDiff, Nat.reduceLeDiff, reduceCtorEq]; (repeat refine sk ?_); refine hK _ ?_; clear hK K)
              have hl2 : ((txt G).map encS).length = G.length := by rw [List.length_map, hlt]
              have hl3 : (G.map encL).length = G.length := List.length_map ..
              ((repeat refine PWp.seq ?_); refine PWp.region TT (by rfl) (fun K hK => ?_); simp only [push_cast, seval, Nat.reduceEqDiff, Nat.reduceLeDiff, reduceCtorEq, List.length_map, hlt, bne_self_eq_false]; (repeat refine sk ?_); refine hK _ ?_; clear hK K)
              ((repeat refine PWp.seq ?_); refine PWp.cond (by simp only [push_cast, seval, Nat.reduceEqDiff, Nat.reduceLeDiff, reduceCtorEq]; rfl) (fun hc => ?_) (fun hc => ?_))
              · cases hc
              · ((repeat refine PWp.seq ?_); refine PWp.skip ?_)
                ((repeat refine PWp.seq ?_); refine PWp.region TT (by rfl) (fun K hK => ?_); simp only [push_cast, seval, Nat.reduceEqDiff, Nat.reduceLeDiff, reduceCtorEq]; (repeat refine sk ?_); refine hK _ ?_; clear hK K)
                ((repeat refine PWp.seq ?_); refine PWp.block ?_)
                refine PWp.loop (fun d st => ∃ i : Nat, d = G.length - i ∧ i ≤ G.length ∧
                  st = ⟨[(21, .iv (.sl 1 ((txt G).map encS))), (24, iL G), (26, iI i)], [], 0⟩) _ _ ⟨0, rfl, Nat.zero_le _, rfl⟩ (Gh.le (by simp [push_cast, -List.getD_eq_getElem?_getD]) (by simp)) ?_
                rintro d st ⟨i, rfl, hi, rfl⟩
                ((repeat refine PWp.seq ?_); refine PWp.region TT (by rfl) (fun K hK => ?_); simp only [push_cast, seval, Nat.reduceEqDiff, Nat.reduceLeDiff, reduceCtorEq, List.length_map]; (repeat refine sk ?_); refine hK _ ?_; clear hK K)
                ((repeat refine PWp.seq ?_); refine PWp.cond (by simp only [push_cast, seval, Nat.reduceEqDiff, Nat.reduceLeDiff, reduceCtorEq]; rfl) (fun hc => ?_) (fun hc => ?_))
                · have hlti : i < G.length := by have := of_decide_eq_true hc; omega
                  clear hc
                  have hg : (G.map encL).getD i .any = encL (G.getD i default) := getD_map hlti
                  have hg2 : ((txt G).map encS).getD i .any = encS (G.getD i default).t := by
                    unfold txt
                    rw [List.map_map]
                    exact getD_map (f := encS ∘ Ln.t) hlti
                  generalize G.getD i default = x at *
                  ((repeat refine PWp.seq ?_); refine PWp.skip ?_)
                  ((repeat refine PWp.seq ?_); refine PWp.block ?_)
                  ((repeat refine PWp.seq ?_); refine PWp.draw TT (by kernel_rfl) (by kernel_rfl) (by rfl) (by rfl) (fun K hK => ?_); simp only [push_cast, seval, Nat.reduceEqDiff, Nat.reduceLeDiff, reduceCtorEq, hg, hg2, hl2, hl3, bne_self_eq_false]; (repeat refine sk ?_); refine hK _ ?_; clear hK K)
                  ((repeat refine PWp.seq ?_); refine PWp.cond (by simp only [push_cast, seval, Nat.reduceEqDiff, Nat.reduceLeDiff, reduceCtorEq]; rfl) (fun hc => ?_) (fun hc => ?_))
                  · cases hc
                  · ((repeat refine PWp.seq ?_); refine PWp.skip ?_)
                    ((repeat refine PWp.seq ?_); refine PWp.region TT (by rfl) (fun K hK => ?_); simp only [push_cast, seval, Nat.reduceEqDiff, Nat.reduceLeDiff, reduceCtorEq, wrap64_id (n := (i : Int) + 1) (by omega) (by omega)]; (repeat refine sk ?_); refine hK _ ?_; clear hK K)
                    refine ⟨_, _, ?_, ⟨i + 1, rfl, by omega, rfl⟩, Gh.le (by simp [push_cast, -List.getD_eq_getElem?_getD]) (by simp)⟩
                    omega
                · (repeat refine PWp.seq ?_); refine PWp.exit (iteT rfl ?_)
                  ((repeat refine PWp.seq ?_); refine PWp.region TT (by rfl) (fun K hK => ?_); simp only [push_cast, seval, Nat.reduceEqDiff, Nat.reduceLeDiff, reduceCtorEq])
                  ((repeat refine sk ?_); refine PCall.use (live30_c) [] rfl (by simp [push_cast]) (by simp) (by simp [push_cast]) (by simp [push_cast]) (by simp [push_cast]) (by simp [push_cast]) ?_)
                  rintro _ _ ⟨rfl, rfl⟩
                  (simp only [push_cast, seval, Nat.reduceEqDiff, Nat.reduceLeDiff, reduceCtorEq]; (repeat refine sk ?_); refine hK _ ?_; clear hK K)
                  ((repeat refine PWp.seq ?_); refine PWp.ret ?_)
                  refine ⟨.inr rfl, by omega, _, [], ?_, rfl, rfl⟩
                  (simp [push_cast, -List.getD_eq_getElem?_getD])
end Go.Proofs.Ytmocgjimlhgejaa
