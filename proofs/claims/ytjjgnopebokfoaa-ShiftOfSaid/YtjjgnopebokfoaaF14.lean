/- Walk of chapter 38: Apply. -/
import Derived.Test.YtjjgnopebokfoaaF13
namespace Go.Proofs.Ytjjgnopebokfoaa
open Go.PL
set_option maxRecDepth 100000
set_option linter.unusedSimpArgs false
set_option linter.unusedVariables false
/-- A stretch of a text. -/
def segL (a : List Ln) (i j : Int) : List Ln := (a.take j.toNat).drop i.toNat
def fitsL (a : List Ln) (l : List Sb) : Bool := l.all fun x => decide (x.out = segL a x.at_ (endS x))
def tailA (a : List Ln) : Int → List Sb → List Ln
  | at_, [] => a.drop at_.toNat
  | at_, x :: l => segL a at_ x.at_ ++ x.in_ ++ tailA a (endS x) l
def apE (l : List Sb) (a : List Ln) : Int := if chk l a.length ≠ 0 then chk l a.length else if fitsL a l then 0 else 8
def apR (l : List Sb) (a : List Ln) : List Ln := if apE l a ≠ 0 then [] else tailA a 0 l
theorem segL_length {a : List Ln} {i j : Int} (hi : 0 ≤ i) (hj : i ≤ j) (hn : j ≤ a.length) : (segL a i j).length = (j - i).toNat := by
  unfold segL
  rw [List.length_drop, List.length_take]
  omega
theorem segL_map (a : List Ln) (i j : Int) : (segL a i j).map encL = ((a.map encL).take j.toNat).drop i.toNat := by simp [segL, List.map_take, List.map_drop]
theorem okF_at {n last : Int} {s : Sb} {l : List Sb} (h : okF n last (s :: l) = true) : last < s.at_ ∧ s.at_ ≤ endS s ∧ endS s ≤ n ∧ okF n (endS s) l = true := by
  simp only [okF, stF, Bool.and_eq_true, decide_eq_true_eq] at h
  refine ⟨h.1.1.2, ?_, h.1.2, h.2⟩
  unfold endS
  omega
theorem sumI_take (l : List Sb) (k : Nat) : sumI (l.take k) ≤ sumI l := by
  conv => rhs; rw [← List.take_append_drop k l, sumI_append]
  omega
theorem chk_ok {l : List Sb} {n : Int} (h : chk l n = 0) : (l.length ≤ 400 ∧ sumO l ≤ 400 ∧ sumI l ≤ 400) ∧ (0 ≤ n ∧ n ≤ 400) ∧ okF n (-1) l = true := by
  unfold chk at h
  split at h
  · cases h
  · rename_i h1
    split at h
    · cases h
    · split at h
      · exact ⟨by omega, by omega, by assumption⟩
      · cases h
theorem shift_Apply (l : List Sb) (a : List Ln) (h : smP l) : PC Try.prog 16 [iP l, iL a] [] 0 9 (fun t obs => t = .tup [iL (apR l a), iI (apE l a)] ∧ obs = []) := by
  have hs := h.2
  have hl := h.1
  refine PC.body [4, 5] Try.func16 rfl (by rfl) (Nat.le_of_ble_eq_true (by rfl)) rfl ?_; simp only [enumA]
  ((repeat refine PWp.seq ?_); refine PWp.region TT (by rfl) (fun K hK => ?_); simp only [push_cast, seval, Nat.reduceEqDiff, Nat.reduceLeDiff, reduceCtorEq]; (repeat refine sk ?_); refine hK _ ?_; clear hK K)
  ((repeat refine PWp.seq ?_); refine PWp.region TT (by rfl) (fun K hK => ?_); simp only [push_cast, seval, Nat.reduceEqDiff, Nat.reduceLeDiff, reduceCtorEq])
  ((repeat refine sk ?_); refine PCall.use (shift_Check l a.length h) [] rfl (by simp [push_cast]) (by simp) (by simp [push_cast]) (by simp [push_cast]) (by simp [push_cast]) (by simp [push_cast]) ?_)
  rintro _ _ ⟨rfl, rfl⟩
  (simp only [push_cast, seval, Nat.reduceEqDiff, Nat.reduceLeDiff, reduceCtorEq]; (repeat refine sk ?_); refine hK _ ?_; clear hK K)
  ((repeat refine PWp.seq ?_); refine PWp.region TT (by rfl) (fun K hK => ?_); simp only [push_cast, seval, Nat.reduceEqDiff, Nat.reduceLeDiff, reduceCtorEq]; (repeat refine sk ?_); refine hK _ ?_; clear hK K)
  ((repeat refine PWp.seq ?_); refine PWp.cond (by simp only [push_cast, seval, Nat.reduceEqDiff, Nat.reduceLeDiff, reduceCtorEq]; rfl) (fun hc => ?_) (fun hc => ?_))
  · have e : chk l a.length ≠ 0 := by
      simp only [Bool.or_eq_true, Bool.and_eq_true, Bool.not_eq_true', Bool.not_eq_false', Bool.or_eq_false_iff, Bool.and_eq_false_iff, decide_eq_true_eq, decide_eq_false_iff_not, beq_iff_eq, beq_eq_false_iff_ne, bne_iff_ne, bne_eq_false_iff_eq, ne_eq, Classical.not_not, Int.not_lt, Int.not_le, ge_iff_le, gt_iff_lt] at hc
      exact hc
    have hE : apE l a = chk l a.length := by unfold apE; rw [if_pos e]
    have hR : apR l a = [] := by unfold apR; rw [if_pos (by rw [hE]; exact e)]
    ((repeat refine PWp.seq ?_); refine PWp.region TT (by rfl) (fun K hK => ?_); simp only [push_cast, seval, Nat.reduceEqDiff, Nat.reduceLeDiff, reduceCtorEq]; (repeat refine sk ?_); refine hK _ ?_; clear hK K)
    ((repeat refine PWp.seq ?_); refine PWp.ret ?_)
    refine ⟨.inr rfl, by omega, _, [], ?_, rfl, rfl⟩
    rw [hE, hR]
    (simp [push_cast, -List.getD_eq_getElem?_getD])
  · have e : chk l a.length = 0 := by
      simp only [Bool.or_eq_true, Bool.and_eq_true, Bool.not_eq_true', Bool.not_eq_false', Bool.or_eq_false_iff, Bool.and_eq_false_iff, decide_eq_true_eq, decide_eq_false_iff_not, beq_iff_eq, beq_eq_false_iff_ne, bne_iff_ne, bne_eq_false_iff_eq, ne_eq, Classical.not_not, Int.not_lt, Int.not_le, ge_iff_le, gt_iff_lt] at hc
      exact hc
    clear hc
    obtain ⟨⟨k1, k2, k3⟩, ⟨_, k4⟩, k5⟩ := chk_ok e
    have hE : apE l a = if fitsL a l then 0 else 8 := by unfold apE; rw [if_neg (by rw [e]; decide)]
    ((repeat refine PWp.seq ?_); refine PWp.skip ?_)
    ((repeat refine PWp.seq ?_); refine PWp.region TT (by rfl) (fun K hK => ?_); simp only [push_cast, seval, Nat.reduceEqDiff, Nat.reduceLeDiff, reduceCtorEq]; (repeat refine sk ?_); refine hK _ ?_; clear hK K)
    ((repeat refine PWp.seq ?_); refine PWp.region TT (by rfl) (fun K hK => ?_); simp only [push_cast, seval, Nat.reduceEqDiff, Nat.reduceLeDiff, reduceCtorEq]; (repeat refine sk ?_); refine hK _ ?_; clear hK K)
    ((repeat refine PWp.seq ?_); refine PWp.region TT (by rfl) (fun K hK => ?_); simp only [push_cast, seval, Nat.reduceEqDiff, Nat.reduceLeDiff, reduceCtorEq]; (repeat refine sk ?_); refine hK _ ?_; clear hK K)
    ((repeat refine PWp.seq ?_); refine PWp.block ?_)
    refine PWp.loop (fun c st => ∃ (k : Nat) (last at_ : Int) (out : List Ln), c = l.length - k ∧ k ≤ l.length ∧ okF a.length last (l.drop k) = true ∧ at_ ≤ last + 1 ∧ 0 ≤ at_ ∧ at_ ≤ a.length ∧ (out.length : Int) ≤ at_ + sumI (l.take k) ∧
      fitsL a l = fitsL a (l.drop k) ∧ out ++ tailA a at_ (l.drop k) = tailA a 0 l ∧
      st = ⟨[(1, iL a), (7, iL out), (8, iI at_), (18, iP l), (19, iI l.length), (20, iI k)], [], 0⟩) _ _ ⟨0, -1, 0, [], rfl, Nat.zero_le _, k5, by omega, by omega, by omega, by simp [sumI], rfl, rfl, rfl⟩ (Gh.le (by simp [push_cast, -List.getD_eq_getElem?_getD]) (by simp)) ?_
    rintro c st ⟨k, last, at_, out, rfl, hk, hR, ha1, ha2, ha3, ho, hfit, htl, rfl⟩
    ((repeat refine PWp.seq ?_); refine PWp.region TT (by rfl) (fun K hK => ?_); simp only [push_cast, seval, Nat.reduceEqDiff, Nat.reduceLeDiff, reduceCtorEq]; (repeat refine sk ?_); refine hK _ ?_; clear hK K)
    ((repeat refine PWp.seq ?_); refine PWp.cond (by simp only [push_cast, seval, Nat.reduceEqDiff, Nat.reduceLeDiff, reduceCtorEq]; rfl) (fun hc => ?_) (fun hc => ?_))
    · have hlt : k < l.length := by simpa using hc
      clear hc
      have hsk := hs _ (getD_mem hlt)
      have hsm := hsk
      unfold smS at hsm
      have hti := sumI_take l (k + 1)
      rw [take_succ_getD hlt, sumI_append] at hti
      simp only [sumI, Nat.add_zero] at hti
      rw [drop_getD hlt] at hR hfit htl
      have hg : (l.map encS).getD k .any = encS (l.getD k default) := getD_map hlt
      have htk : sumI (l.take (k + 1)) = sumI (l.take k) + (l.getD k default).in_.length := by
        rw [take_succ_getD hlt, sumI_append]; simp [sumI]
      generalize l.getD k default = s at *
      obtain ⟨h1, h2, h3, h4⟩ := okF_at hR
      ((repeat refine PWp.seq ?_); refine PWp.skip ?_)
      ((repeat refine PWp.seq ?_); refine PWp.block ?_)
      ((repeat refine PWp.seq ?_); refine PWp.region TT (by rfl) (fun K hK => ?_); simp only [push_cast, seval, Nat.reduceEqDiff, Nat.reduceLeDiff, reduceCtorEq, hg]; (repeat refine sk ?_); refine hK _ ?_; clear hK K)
      ((repeat refine PWp.seq ?_); refine PWp.drawT TT (by kernel_rfl) [0] (.q 0 (.q 1 (.q 2 (.q 3 (.q 4 (.q 5 (.x 6 (.q 7 (.x 8 (.q 9 .nil)))))))))) (by rfl) (by kernel_rfl) (by rfl) (by simp) (fun K hK => ?_); simp only [push_cast, seval, Nat.reduceEqDiff, Nat.reduceLeDiff, reduceCtorEq])
      ((repeat refine sk ?_); refine PCall.use (shift_end s hsk) [] rfl (by simp [push_cast]) (by simp) (by simp [push_cast]) (by simp [push_cast]) (by simp [push_cast]) (by simp [push_cast]) ?_)
      rintro _ _ ⟨rfl, rfl⟩
      rw [show s.at_ + (s.out.length : Int) = endS s from rfl]
      (simp only [push_cast, seval, Nat.reduceEqDiff, Nat.reduceLeDiff, reduceCtorEq])
      ((repeat refine sk ?_); refine PCall.use (Equal_lines s.out (segL a s.at_ (endS s)) (by omega)) [] rfl (by simp [push_cast, segL_map]) (by simp) (by simp [push_cast, segL_map]) (by simp [push_cast, segL_map]) (by simp [push_cast, segL_map]) (by simp [push_cast, segL_map]) ?_)
      rintro _ _ ⟨rfl, rfl⟩
      (simp only [push_cast, seval, Nat.reduceEqDiff, Nat.reduceLeDiff, reduceCtorEq]; (repeat refine sk ?_); refine hK _ ?_; clear hK K)
      ((repeat refine PWp.seq ?_); refine PWp.cond (by simp only [push_cast, seval, Nat.reduceEqDiff, Nat.reduceLeDiff, reduceCtorEq]; rfl) (fun hc => ?_) (fun hc => ?_))
      · have hf : fitsL a l = false := by
          rw [hfit]
          have : s.out ≠ segL a s.at_ (endS s) := by simpa using hc
          simp [fitsL, this]
        have hE8 : apE l a = 8 := by rw [hE, hf]; rfl
        have hR8 : apR l a = [] := by unfold apR; rw [if_pos (by rw [hE8]; decide)]
        ((repeat refine PWp.seq ?_); refine PWp.region TT (by rfl) (fun K hK => ?_); simp only [push_cast, seval, Nat.reduceEqDiff, Nat.reduceLeDiff, reduceCtorEq]; (repeat refine sk ?_); refine hK _ ?_; clear hK K)
        ((repeat refine PWp.seq ?_); refine PWp.ret ?_)
        refine ⟨.inr rfl, by omega, _, [], ?_, rfl, rfl⟩
        rw [hE8, hR8]
        (simp [push_cast, -List.getD_eq_getElem?_getD])
      · have hout : s.out = segL a s.at_ (endS s) := by simpa using hc
        clear hc
        have hf : fitsL a l = fitsL a (l.drop (k + 1)) := by
          rw [hfit]
          unfold fitsL
          rw [List.all_cons, decide_eq_true hout, Bool.true_and]
        have hsl := segL_length (a := a) (i := at_) (j := s.at_) ha2 (by omega) (by omega)
        have hnew : (([out, segL a at_ s.at_, s.in_] : List (List Ln)).flatten) = out ++ (segL a at_ s.at_ ++ s.in_) := by simp
        ((repeat refine PWp.seq ?_); refine PWp.skip ?_)
        ((repeat refine PWp.seq ?_); refine PWp.drawT TT (by kernel_rfl) [0] (.q 0 (.q 1 (.q 2 (.q 3 (.q 4 (.q 5 (.q 6 (.q 7 (.x 8 (.x 9 (.q 10 .nil))))))))))) (by rfl) (by kernel_rfl) (by rfl) (by simp) (fun K hK => ?_); simp only [push_cast, seval, Nat.reduceEqDiff, Nat.reduceLeDiff, reduceCtorEq])
        ((repeat refine sk ?_); refine PCall.use (Concat_lines [out, segL a at_ s.at_, s.in_] (by simp) (by rw [hnew, List.length_append, List.length_append, hsl]; omega)) [] rfl (by simp [push_cast, encLs, segL_map]) (by simp) (by simp [push_cast, encLs, segL_map]) (by simp [push_cast, encLs, segL_map]) (by simp [push_cast, encLs, segL_map]) (by simp [push_cast, encLs, segL_map]) ?_)
        rintro _ _ ⟨rfl, rfl⟩
        rw [hnew]
        (simp only [push_cast, seval, Nat.reduceEqDiff, Nat.reduceLeDiff, reduceCtorEq]; (repeat refine sk ?_); refine hK _ ?_; clear hK K)
        ((repeat refine PWp.seq ?_); refine PWp.region TT (by rfl) (fun K hK => ?_); simp only [push_cast, seval, Nat.reduceEqDiff, Nat.reduceLeDiff, reduceCtorEq])
        ((repeat refine sk ?_); refine PCall.use (shift_end s hsk) [] rfl (by simp [push_cast]) (by simp) (by simp [push_cast]) (by simp [push_cast]) (by simp [push_cast]) (by simp [push_cast]) ?_)
        rintro _ _ ⟨rfl, rfl⟩
        rw [show s.at_ + (s.out.length : Int) = endS s from rfl]
        (simp only [push_cast, seval, Nat.reduceEqDiff, Nat.reduceLeDiff, reduceCtorEq]; (repeat refine sk ?_); refine hK _ ?_; clear hK K)
        ((repeat refine PWp.seq ?_); refine PWp.region TT (by rfl) (fun K hK => ?_); simp only [push_cast, seval, Nat.reduceEqDiff, Nat.reduceLeDiff, reduceCtorEq, wrap64_id (n := (k : Int) + 1) (by omega) (by omega)]; (repeat refine sk ?_); refine hK _ ?_; clear hK K)
        refine ⟨_, _, ?_, ⟨k + 1, endS s, endS s, out ++ (segL a at_ s.at_ ++ s.in_), rfl, by omega, h4, by omega, by omega, by omega, ?_, hf, ?_, rfl⟩, Gh.le (by simp [push_cast, -List.getD_eq_getElem?_getD]) (by simp)⟩
        · omega
        · rw [List.length_append, List.length_append, hsl, htk]
          unfold endS
          omega
        · rw [← htl]
          simp [tailA, List.append_assoc]
    · have hk' : k = l.length := by simp at hc; omega
      subst hk'
      clear hc
      rw [List.drop_length] at hfit htl
      rw [List.take_length] at ho
      have hf : fitsL a l = true := by rw [hfit]; rfl
      have hE0 : apE l a = 0 := by rw [hE, hf]; rfl
      have hR0 : apR l a = out ++ a.drop at_.toNat := by
        unfold apR
        rw [if_neg (by rw [hE0]; decide), ← htl]
        rfl
      have hnew : (([out, a.drop at_.toNat] : List (List Ln)).flatten) = out ++ a.drop at_.toNat := by simp
      have hta : (a.map encL).take a.length = a.map encL := List.take_of_length_le (by simp)
      (repeat refine PWp.seq ?_); refine PWp.exit (iteT rfl ?_)
      ((repeat refine PWp.seq ?_); refine PWp.region TT (by rfl) (fun K hK => ?_); simp only [push_cast, seval, Nat.reduceEqDiff, Nat.reduceLeDiff, reduceCtorEq, hta])
      ((repeat refine sk ?_); refine PCall.use (Concat_lines [out, a.drop at_.toNat] (by simp) (by rw [hnew, List.length_append, List.length_drop]; omega)) [] rfl (by simp [push_cast, encLs]) (by simp) (by simp [push_cast, encLs]) (by simp [push_cast, encLs]) (by simp [push_cast, encLs]) (by simp [push_cast, encLs]) ?_)
      rintro _ _ ⟨rfl, rfl⟩
      rw [hnew]
      (simp only [push_cast, seval, Nat.reduceEqDiff, Nat.reduceLeDiff, reduceCtorEq]; (repeat refine sk ?_); refine hK _ ?_; clear hK K)
      ((repeat refine PWp.seq ?_); refine PWp.ret ?_)
      refine ⟨.inr rfl, by omega, _, [], ?_, rfl, rfl⟩
      rw [hE0, hR0]
      (simp [push_cast, -List.getD_eq_getElem?_getD])
end Go.Proofs.Ytjjgnopebokfoaa
