/- ResolveBack: what was parsed, printed. -/
import Derived.Test.YtmocgjimlhgejaaU15
namespace Go.Proofs.Ytmocgjimlhgejaa
open Go.PL
set_option maxRecDepth 100000
set_option linter.unusedSimpArgs false
set_option linter.unusedVariables false
def norm (x : Ln) : Ln := ⟨x.t, x.b && decide (mk x.t = 0)⟩
theorem norm_0 {x : Ln} (h : mk x.t = 0) : norm x = x := by
  unfold norm
  rw [h, decide_eq_true rfl, Bool.and_true]
theorem mk_text {t : List UInt8} {j : Nat} (h : mk t = j + 1) : t = mkS.getD j [] := by
  unfold mk at h
  split at h
  · rename_i e; obtain rfl : j = 0 := by omega
    exact e.symm
  · split at h
    · rename_i e; obtain rfl : j = 1 := by omega
      exact e.symm
    · split at h
      · rename_i e; obtain rfl : j = 2 := by omega
        exact e.symm
      · split at h
        · rename_i e; obtain rfl : j = 3 := by omega
          exact e.symm
        · omega
theorem norm_m {x : Ln} {j : Nat} (h : mk x.t = j + 1) : norm x = mkL j := by
  unfold norm mkL
  rw [h, decide_eq_false (by omega), Bool.and_false, ← mk_text h]
theorem takeR_norm (r : Rd) (x : Ln) : takeR r (norm x) = takeR r x := by
  by_cases h : mk x.t = 0
  · rw [norm_0 h]
  · unfold takeR
    rw [show (norm x).t = x.t from rfl, if_neg h, if_neg h]
theorem parF_norm : ∀ (l : List Ln) (r : Rd) (k : Nat), parF r k (l.map norm) = parF r k l
  | [], r, k => rfl
  | x :: l, r, k => by
    rw [List.map_cons, parF, parF, takeR_norm]
    cases takeR r x with
    | none => rfl
    | some r' => exact parF_norm l r' (k + 1)
def rdP (r : Rd) : List Ln := printL r.out ++ (if r.p = 0 then r.now.l else if r.p = 1 then [mkL 0] ++ r.now.m else if r.p = 2 then [mkL 0] ++ r.now.m ++ [mkL 1] ++ r.now.o else [mkL 0] ++ r.now.m ++ [mkL 1] ++ r.now.o ++ [mkL 2] ++ r.now.h)
def rdF (r : Rd) : Prop := r.p < 4 ∧ (r.p = 0 → r.now.c = false) ∧ (r.p ≠ 0 → r.now.c = true) ∧ (r.p = 1 → r.now.o = [] ∧ r.now.h = []) ∧ (r.p = 2 → r.now.h = [])
theorem printL_app (a b : List Rg) : printL (a ++ b) = printL a ++ printL b := by simp [printL]
theorem print_f0 (out : List Rg) (l m o h : List Ln) (p : Nat) : printL (flushR ⟨out, ⟨false, l, m, o, h⟩, p⟩).out = printL out ++ l := by
  unfold flushR
  simp only
  split
  · rw [printL_app]
    simp [printL, prL]
  · rename_i hc
    have : l = [] := List.eq_nil_of_length_eq_zero (by simp at hc; simp [hc])
    rw [this, List.append_nil]
theorem print_f3 (out : List Rg) (l m o h : List Ln) (p : Nat) : printL (flushR ⟨out, ⟨true, l, m, o, h⟩, p⟩).out = printL out ++ ([mkL 0] ++ m ++ [mkL 1] ++ o ++ [mkL 2] ++ h ++ [mkL 3]) := by
  unfold flushR
  simp only [true_or, if_true]
  rw [printL_app]
  simp [printL, prL]
theorem take_P {r r' : Rd} {x : Ln} (hw : rdF r) (ht : takeR r x = some r') : rdF r' ∧ rdP r' = rdP r ++ [norm x] := by
  obtain ⟨out, ⟨c, l, m, o, h⟩, p⟩ := r
  obtain ⟨hp, h0, h1, h2, h3⟩ := hw
  simp only at hp h0 h1 h2 h3
  unfold takeR at ht
  have hp4 : p = 0 ∨ p = 1 ∨ p = 2 ∨ p = 3 := by omega
  split at ht
  · rename_i hm
    injection ht with ht
    subst ht
    rw [norm_0 hm]
    rcases hp4 with rfl | rfl | rfl | rfl
    · refine ⟨⟨by simp [takeL], fun _ => h0 rfl, fun h => absurd rfl h, fun h => absurd h (by simp [takeL]), fun h => absurd h (by simp [takeL])⟩, ?_⟩
      simp [rdP, takeL]
    · obtain ⟨rfl, rfl⟩ := h2 rfl
      refine ⟨⟨by simp [takeL], fun h => absurd h (by simp [takeL]), fun _ => h1 (by decide), fun _ => ⟨rfl, rfl⟩, fun h => absurd h (by simp [takeL])⟩, ?_⟩
      simp [rdP, takeL]
    · obtain rfl := h3 rfl
      refine ⟨⟨by simp [takeL], fun h => absurd h (by simp [takeL]), fun _ => h1 (by decide), fun h => absurd h (by simp [takeL]), fun _ => rfl⟩, ?_⟩
      simp [rdP, takeL]
    · refine ⟨⟨by simp [takeL], fun h => absurd h (by simp [takeL]), fun _ => h1 (by decide), fun h => absurd h (by simp [takeL]), fun h => absurd h (by simp [takeL])⟩, ?_⟩
      simp [rdP, takeL]
  · split at ht
    · rename_i hm
      injection ht with ht
      subst ht
      simp only at hm
      rw [norm_m hm]
      rcases hp4 with rfl | rfl | rfl | rfl
      · obtain rfl := h0 rfl
        refine ⟨⟨by simp [markR], fun h => absurd h (by simp [markR]), fun _ => rfl, fun _ => ⟨rfl, rfl⟩, fun _ => rfl⟩, ?_⟩
        have hf := print_f0 out l m o h 0
        simp only [rdP, markR, true_or, if_true, hf]
        simp
      · obtain ⟨rfl, rfl⟩ := h2 rfl
        have hc := h1 (by decide)
        refine ⟨⟨by simp [markR], fun h => absurd h (by simp [markR]), fun _ => hc, fun _ => ⟨rfl, rfl⟩, fun _ => rfl⟩, ?_⟩
        simp [rdP, markR]
      · obtain rfl := h3 rfl
        have hc := h1 (by decide)
        refine ⟨⟨by simp [markR], fun h => absurd h (by simp [markR]), fun _ => hc, fun h => absurd h (by simp [markR]), fun _ => rfl⟩, ?_⟩
        simp [rdP, markR]
      · obtain rfl := h1 (by decide)
        refine ⟨⟨by simp [markR], fun _ => rfl, fun h => absurd (by simp [markR]) h, fun h => absurd h (by simp [markR]), fun _ => rfl⟩, ?_⟩
        have hf := print_f3 out l m o h 3
        simp only [rdP, markR, or_true, if_true, hf]
        simp [noRg]
    · cases ht
theorem parF_P : ∀ (l : List Ln) (r : Rd) (k : Nat), rdF r → (parF r k l).2.2 = 0 → printL (parF r k l).1 = rdP r ++ l.map norm
  | [], r, k, hw, he => by
    rw [parF] at he ⊢
    split at he
    · rename_i hp
      rw [if_pos hp]
      obtain ⟨out, ⟨c, l, m, o, h⟩, p⟩ := r
      simp only at hp
      subst hp
      obtain rfl : c = false := hw.2.1 rfl
      simp only [print_f0, rdP, if_true, List.map_nil, List.append_nil]
    · cases he
  | x :: l, r, k, hw, he => by
    rw [parF] at he ⊢
    cases ht : takeR r x with
    | none => rw [ht] at he; cases he
    | some r' =>
      rw [ht] at he
      obtain ⟨h1, h2⟩ := take_P hw ht
      have := parF_P l r' (k + 1) h1 he
      simp only
      rw [this, h2, List.map_cons]
      simp
theorem parF_err : ∀ (l : List Ln) (r : Rd) (k : Nat), (parF r k l).2.2 = 0 ∨ (parF r k l).1 = []
  | [], r, k => by
    rw [parF]
    split
    · exact .inl rfl
    · exact .inr rfl
  | x :: l, r, k => by
    rw [parF]
    cases takeR r x with
    | none => exact .inr rfl
    | some r' => exact parF_err l r' (k + 1)
theorem parR_print (l : List Ln) (he : (parR l).2.2 = 0) : printL (parR l).1 = l.map norm := by
  have := parF_P l rd0 0 ⟨by decide, fun _ => rfl, fun h => absurd rfl h, fun h => absurd h (by decide), fun h => absurd h (by decide)⟩ he
  unfold parR
  rw [this]
  rfl
theorem Mark_q (t : List UInt8) : QCall Try.prog 18 [iS t] (iI (mk t)) := (Mark_c t).quiet (fun _ _ h => h.1) rfl (by simp [push_cast])
theorem ResolveBack_walk (l : List Ln) : PC Try.prog 5 [iL l] [] 0 900 (fun t obs => t = iB true ∧ obs = []) := by
  have h1 : 0 ≤ mn (l.length : Int) 100 := by unfold mn; split <;> omega
  have h2 : mn (l.length : Int) 100 ≤ l.length := by unfold mn; split <;> omega
  have e1 : (l.map encL).take (mn (l.length : Int) 100).toNat = (l.take 100).map encL := by
    rw [← List.map_take]
    have := mn_takeN l 100
    exact congrArg _ this
  refine PC.body [2] Try.func5 rfl (by rfl) (Nat.le_of_ble_eq_true (by rfl)) rfl ?_; simp only [enumA]
  ((repeat refine PWp.seq ?_); refine PWp.region TT (by rfl) (fun K hK => ?_); simp only [push_cast, seval, Nat.reduceEqDiff, Nat.reduceLeDiff, reduceCtorEq]; (repeat refine sk ?_); refine hK _ ?_; clear hK K)
  ((repeat refine PWp.seq ?_); refine PWp.region TT (by rfl) (fun K hK => ?_); simp only [push_cast, seval, Nat.reduceEqDiff, Nat.reduceLeDiff, reduceCtorEq, e1]; (repeat refine sk ?_); refine hK _ ?_; clear hK K)
  clear h1 h2 e1
  have hL : (l.take 100).length ≤ 900 := by rw [List.length_take]; omega
  generalize l.take 100 = M at *
  obtain ⟨b1, b2⟩ := parR_big M hL
  have b3 := parR_bigR M hL
  have hpn : parR (M.map norm) = parR M := parF_norm M rd0 0
  ((repeat refine PWp.seq ?_); refine PWp.region TT (by rfl) (fun K hK => ?_); simp only [push_cast, seval, Nat.reduceEqDiff, Nat.reduceLeDiff, reduceCtorEq])
  ((repeat refine sk ?_); refine PCall.use (Parse_c M hL) [] rfl (by simp [push_cast]) (by simp) (by simp [push_cast]) (by simp [push_cast]) (by simp [push_cast]) (by simp [push_cast]) ?_)
  rintro _ _ ⟨rfl, rfl⟩
  (simp only [push_cast, seval, Nat.reduceEqDiff, Nat.reduceLeDiff, reduceCtorEq]; (repeat refine sk ?_); refine hK _ ?_; clear hK K)
  by_cases he : (parR M).2.2 = 0
  · have hpr := parR_print M he
    ((repeat refine PWp.seq ?_); refine PWp.region TT (by rfl) (fun K hK => ?_); simp only [push_cast, seval, Nat.reduceEqDiff, Nat.reduceLeDiff, reduceCtorEq, he]; (repeat refine sk ?_); refine hK _ ?_; clear hK K)
    ((repeat refine PWp.seq ?_); refine PWp.cond (by simp only [push_cast, seval, Nat.reduceEqDiff, Nat.reduceLeDiff, reduceCtorEq]; rfl) (fun hc => ?_) (fun hc => ?_))
    · cases hc
    · ((repeat refine PWp.seq ?_); refine PWp.skip ?_)
      ((repeat refine PWp.seq ?_); refine PWp.region TT (by rfl) (fun K hK => ?_); simp only [push_cast, seval, Nat.reduceEqDiff, Nat.reduceLeDiff, reduceCtorEq])
      ((repeat refine sk ?_); refine PCall.use (Print_c (parR M).1 (by omega) (by rw [hpr, List.length_map]; omega)) [] rfl (by simp [push_cast]) (by simp) (by simp [push_cast]) (by simp [push_cast]) (by simp [push_cast]) (by simp [push_cast]) ?_)
      rintro _ _ ⟨rfl, rfl⟩
      rw [hpr]
      generalize hA : (parR M).1 = A at *
      (simp only [push_cast, seval, Nat.reduceEqDiff, Nat.reduceLeDiff, reduceCtorEq]; (repeat refine sk ?_); refine hK _ ?_; clear hK K)
      ((repeat refine PWp.seq ?_); refine PWp.region TT (by rfl) (fun K hK => ?_); simp only [push_cast, seval, Nat.reduceEqDiff, Nat.reduceLeDiff, reduceCtorEq, List.length_map, bne_self_eq_false]; (repeat refine sk ?_); refine hK _ ?_; clear hK K)
      ((repeat refine PWp.seq ?_); refine PWp.cond (by simp only [push_cast, seval, Nat.reduceEqDiff, Nat.reduceLeDiff, reduceCtorEq]; rfl) (fun hc => ?_) (fun hc => ?_))
      · cases hc
      · ((repeat refine PWp.seq ?_); refine PWp.skip ?_)
        ((repeat refine PWp.seq ?_); refine PWp.region TT (by rfl) (fun K hK => ?_); simp only [push_cast, seval, Nat.reduceEqDiff, Nat.reduceLeDiff, reduceCtorEq]; (repeat refine sk ?_); refine hK _ ?_; clear hK K)
        ((repeat refine PWp.seq ?_); refine PWp.block ?_)
        refine PWp.loop (fun d st => ∃ k : Nat, d = M.length - k ∧ k ≤ M.length ∧
          st = ⟨[(0, iL M), (3, iR A), (6, iL (M.map norm)), (7, iI k)], [], 0⟩) _ _ ⟨0, rfl, Nat.zero_le _, rfl⟩ (Gh.le (by simp [push_cast, -List.getD_eq_getElem?_getD]) (by simp)) ?_
        rintro d st ⟨k, rfl, hk, rfl⟩
        ((repeat refine PWp.seq ?_); refine PWp.region TT (by rfl) (fun K hK => ?_); simp only [push_cast, seval, Nat.reduceEqDiff, Nat.reduceLeDiff, reduceCtorEq, List.length_map]; (repeat refine sk ?_); refine hK _ ?_; clear hK K)
        ((repeat refine PWp.seq ?_); refine PWp.cond (by simp only [push_cast, seval, Nat.reduceEqDiff, Nat.reduceLeDiff, reduceCtorEq]; rfl) (fun hc => ?_) (fun hc => ?_))
        · have hlt : k < M.length := by have := of_decide_eq_true hc; omega
          clear hc
          have hg : (M.map encL).getD k .any = encL (M.getD k default) := getD_map hlt
          have hg2 : ((M.map norm).map encL).getD k .any = encL (norm (M.getD k default)) := by
            rw [List.map_map]
            exact getD_map (f := encL ∘ norm) hlt
          generalize M.getD k default = x at *
          have hlm : ((M.map norm).map encL).length = M.length := by simp
          ((repeat refine PWp.seq ?_); refine PWp.skip ?_)
          ((repeat refine PWp.seq ?_); refine PWp.block ?_)
          cases hb : x.b with
          | true =>
            have hn : norm x = ⟨x.t, ((mk x.t : Int) == 0)⟩ := by
              unfold norm
              rw [hb, Bool.true_and]
              congr 1
              cases h : decide (mk x.t = 0) with
              | true => have := of_decide_eq_true h; exact (beq_iff_eq.2 (by omega)).symm
              | false => have := of_decide_eq_false h; exact (beq_eq_false_iff_ne.2 (by omega)).symm
            rw [hn] at hg2
            ((repeat refine PWp.seq ?_); refine PWp.draw TT (by kernel_rfl) (by kernel_rfl) (by rfl) (by rfl) (fun K hK => ?_); simp only [push_cast, seval, Nat.reduceEqDiff, Nat.reduceLeDiff, reduceCtorEq, hg, hg2, hlm, hb, bne_self_eq_false])
            ((repeat refine sk ?_); refine ⟨_, _, Mark_q x.t, by simp [push_cast], by simp [push_cast], ?_⟩)
            (simp only [push_cast, seval, Nat.reduceEqDiff, Nat.reduceLeDiff, reduceCtorEq, bne_self_eq_false, beq_self_eq_true, hg, hg2, hlm]; (repeat refine sk ?_); refine hK _ ?_; clear hK K)
            ((repeat refine PWp.seq ?_); refine PWp.cond (by simp only [push_cast, seval, Nat.reduceEqDiff, Nat.reduceLeDiff, reduceCtorEq]; rfl) (fun hc => ?_) (fun hc => ?_))
            · cases hc
            · ((repeat refine PWp.seq ?_); refine PWp.skip ?_)
              ((repeat refine PWp.seq ?_); refine PWp.region TT (by rfl) (fun K hK => ?_); simp only [push_cast, seval, Nat.reduceEqDiff, Nat.reduceLeDiff, reduceCtorEq, wrap64_id (n := (k : Int) + 1) (by omega) (by omega)]; (repeat refine sk ?_); refine hK _ ?_; clear hK K)
              refine ⟨_, _, ?_, ⟨k + 1, rfl, by omega, rfl⟩, Gh.le (by simp [push_cast, -List.getD_eq_getElem?_getD]) (by simp)⟩
              omega
          | false =>
            have hn : norm x = ⟨x.t, false⟩ := by
              unfold norm
              rw [hb, Bool.false_and]
            rw [hn] at hg2
            ((repeat refine PWp.seq ?_); refine PWp.draw TT (by kernel_rfl) (by kernel_rfl) (by rfl) (by rfl) (fun K hK => ?_); simp only [push_cast, seval, Nat.reduceEqDiff, Nat.reduceLeDiff, reduceCtorEq, hg, hg2, hlm, hb, bne_self_eq_false]; (repeat refine sk ?_); refine hK _ ?_; clear hK K)
            ((repeat refine PWp.seq ?_); refine PWp.cond (by simp only [push_cast, seval, Nat.reduceEqDiff, Nat.reduceLeDiff, reduceCtorEq]; rfl) (fun hc => ?_) (fun hc => ?_))
            · cases hc
            · ((repeat refine PWp.seq ?_); refine PWp.skip ?_)
              ((repeat refine PWp.seq ?_); refine PWp.region TT (by rfl) (fun K hK => ?_); simp only [push_cast, seval, Nat.reduceEqDiff, Nat.reduceLeDiff, reduceCtorEq, wrap64_id (n := (k : Int) + 1) (by omega) (by omega)]; (repeat refine sk ?_); refine hK _ ?_; clear hK K)
              refine ⟨_, _, ?_, ⟨k + 1, rfl, by omega, rfl⟩, Gh.le (by simp [push_cast, -List.getD_eq_getElem?_getD]) (by simp)⟩
              omega
        · (repeat refine PWp.seq ?_); refine PWp.exit (iteT rfl ?_)
          ((repeat refine PWp.seq ?_); refine PWp.region TT (by rfl) (fun K hK => ?_); simp only [push_cast, seval, Nat.reduceEqDiff, Nat.reduceLeDiff, reduceCtorEq])
          ((repeat refine sk ?_); refine PCall.use (Parse_c (M.map norm) (by rw [List.length_map]; exact hL)) [] rfl (by simp [push_cast]) (by simp) (by simp [push_cast]) (by simp [push_cast]) (by simp [push_cast]) (by simp [push_cast]) ?_)
          rintro _ _ ⟨rfl, rfl⟩
          rw [hpn, hA]
          (simp only [push_cast, seval, Nat.reduceEqDiff, Nat.reduceLeDiff, reduceCtorEq]; (repeat refine sk ?_); refine hK _ ?_; clear hK K)
          ((repeat refine PWp.seq ?_); refine PWp.region TT (by rfl) (fun K hK => ?_); simp only [push_cast, seval, Nat.reduceEqDiff, Nat.reduceLeDiff, reduceCtorEq])
          ((repeat refine sk ?_); refine PCall.use (live30_c) [] rfl (by simp [push_cast]) (by simp) (by simp [push_cast]) (by simp [push_cast]) (by simp [push_cast]) (by simp [push_cast]) ?_)
          rintro _ _ ⟨rfl, rfl⟩
          (simp only [push_cast, seval, Nat.reduceEqDiff, Nat.reduceLeDiff, reduceCtorEq, he])
          ((repeat refine sk ?_); refine PCall.use (Same_c A A (by omega) b3) [] rfl (by simp [push_cast]) (by simp) (by simp [push_cast]) (by simp [push_cast]) (by simp [push_cast]) (by simp [push_cast]) ?_)
          rintro _ _ ⟨rfl, rfl⟩
          (simp only [push_cast, seval, Nat.reduceEqDiff, Nat.reduceLeDiff, reduceCtorEq, show decide (A = A) = true from decide_eq_true rfl]; (repeat refine sk ?_); refine hK _ ?_; clear hK K)
          ((repeat refine PWp.seq ?_); refine PWp.ret ?_)
          refine ⟨.inr rfl, by omega, _, [], ?_, rfl, rfl⟩
          (simp [push_cast, -List.getD_eq_getElem?_getD])
  · have hA : (parR M).1 = [] := (parF_err M rd0 0).resolve_left he
    have hb : ((parR M).2.2 != 0) = true := bne_iff_ne.2 he
    ((repeat refine PWp.seq ?_); refine PWp.region TT (by rfl) (fun K hK => ?_); simp only [push_cast, seval, Nat.reduceEqDiff, Nat.reduceLeDiff, reduceCtorEq, hb]; (repeat refine sk ?_); refine hK _ ?_; clear hK K)
    ((repeat refine PWp.seq ?_); refine PWp.cond (by simp only [push_cast, seval, Nat.reduceEqDiff, Nat.reduceLeDiff, reduceCtorEq]; rfl) (fun hc => ?_) (fun hc => ?_))
    · ((repeat refine PWp.seq ?_); refine PWp.region TT (by rfl) (fun K hK => ?_); simp only [push_cast, seval, Nat.reduceEqDiff, Nat.reduceLeDiff, reduceCtorEq])
      ((repeat refine sk ?_); refine PCall.use (live30_c) [] rfl (by simp [push_cast]) (by simp) (by simp [push_cast]) (by simp [push_cast]) (by simp [push_cast]) (by simp [push_cast]) ?_)
      rintro _ _ ⟨rfl, rfl⟩
      (simp only [push_cast, seval, Nat.reduceEqDiff, Nat.reduceLeDiff, reduceCtorEq, hA]; (repeat refine sk ?_); refine hK _ ?_; clear hK K)
      ((repeat refine PWp.seq ?_); refine PWp.ret ?_)
      refine ⟨.inr rfl, by omega, _, [], ?_, rfl, rfl⟩
      (simp [push_cast, -List.getD_eq_getElem?_getD])
    · cases hc
