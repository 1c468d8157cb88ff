/- Walk of chapter 38: what the document has for Apply. -/
import Derived.Test.YtjjgnopebokfoaaF14
namespace Go.Proofs.Ytjjgnopebokfoaa
open Go.PL
set_option maxRecDepth 100000
set_option linter.unusedSimpArgs false
set_option linter.unusedVariables false
theorem okF_drop {n : Int} : ∀ {last : Int} {l : List Sb} (k : Nat), okF n last l = true → ∃ last', last ≤ last' ∧ okF n last' (l.drop k) = true
  | last, l, 0, h => ⟨last, Int.le_refl _, h⟩
  | last, [], k + 1, h => ⟨last, Int.le_refl _, by simpa using h⟩
  | last, s :: l, k + 1, h => by
    obtain ⟨h1, h2, h3, h4⟩ := okF_at h
    obtain ⟨last', g1, g2⟩ := okF_drop k h4
    exact ⟨last', by omega, by simpa using g2⟩
/-- What stands ahead of all is as it was. -/
theorem tailA_split {a : List Ln} {at_ : Int} {l : List Sb} (h0 : 0 ≤ at_) (hn : at_ ≤ a.length) (h : l = [] ∨ ∃ s m, l = s :: m ∧ at_ ≤ s.at_ ∧ s.at_ ≤ a.length) : tailA a 0 l = a.take at_.toNat ++ tailA a at_ l := by
  rcases h with rfl | ⟨s, m, rfl, h1, h2⟩
  · simp [tailA]
  · have e : segL a 0 s.at_ = a.take at_.toNat ++ segL a at_ s.at_ := by
      unfold segL
      simp only [Int.toNat_zero, List.drop_zero]
      rw [show a.take at_.toNat = (a.take s.at_.toNat).take at_.toNat by rw [List.take_take, Nat.min_eq_left (by omega)], List.take_append_drop]
    simp [tailA, e, List.append_assoc]
theorem tailA_length {a : List Ln} {n : Int} : ∀ {last at_ : Int} {l : List Sb}, okF a.length last l = true → at_ ≤ last + 1 → 0 ≤ at_ → at_ ≤ a.length → ((tailA a at_ l).length : Int) ≤ a.length + sumI l
  | last, at_, [], _, _, h0, hn => by
    simp only [tailA, List.length_drop, sumI]
    omega
  | last, at_, s :: l, h, h1, h0, hn => by
    obtain ⟨g1, g2, g3, g4⟩ := okF_at h
    have ih := tailA_length (n := n) (at_ := endS s) g4 (by omega) (by omega) g3
    have hs := segL_length (a := a) (i := at_) (j := s.at_) h0 (by omega) (by omega)
    have key : ((tailA a at_ (s :: l)).length : Int) ≤ (s.at_ - at_) + s.in_.length + (tailA a (endS s) l).length := by
      simp only [tailA, List.length_append, hs]
      push_cast
      omega
    have hl : ((tailA a (endS s) l).length : Int) ≤ (a.length - endS s) + sumI l := tailA_len2 g4 (by omega) (by omega) g3
    simp only [sumI]
    push_cast
    omega
where tailA_len2 {a : List Ln} : ∀ {last at_ : Int} {l : List Sb}, okF a.length last l = true → at_ ≤ last + 1 → 0 ≤ at_ → at_ ≤ a.length → ((tailA a at_ l).length : Int) ≤ (a.length - at_) + sumI l
  | last, at_, [], _, _, h0, hn => by
    simp only [tailA, List.length_drop, sumI]
    omega
  | last, at_, s :: l, h, h1, h0, hn => by
    obtain ⟨g1, g2, g3, g4⟩ := okF_at h
    have ih := tailA_len2 (at_ := endS s) g4 (by omega) (by omega) g3
    have hs := segL_length (a := a) (i := at_) (j := s.at_) h0 (by omega) (by omega)
    simp only [tailA, List.length_append, hs, sumI]
    push_cast
    omega
theorem ref38_Apply (l : List Sb) (a : List Ln) (h : smP l) : PC Try.prog 18 [iP l, iL a] [] 0 9 (fun t obs => t = .tup [iL (apR l a), iI (apE l a)] ∧ obs = []) := by
  have hs := h.2
  have hl := h.1
  refine PC.body [4, 5] Try.func18 rfl (by rfl) (Nat.le_of_ble_eq_true (by rfl)) rfl ?_; simp only [enumA]
  ((repeat refine PWp.seq ?_); refine PWp.region TT (by rfl) (fun K hK => ?_); simp only [push_cast, seval, Nat.reduceEqDiff, Nat.reduceLeDiff, reduceCtorEq]; (repeat refine sk ?_); refine hK _ ?_; clear hK K)
  ((repeat refine PWp.seq ?_); refine PWp.region TT (by rfl) (fun K hK => ?_); simp only [push_cast, seval, Nat.reduceEqDiff, Nat.reduceLeDiff, reduceCtorEq])
  ((repeat refine sk ?_); refine PCall.use (ref38_Check l a.length h) [] rfl (by simp [push_cast]) (by simp) (by simp [push_cast]) (by simp [push_cast]) (by simp [push_cast]) (by simp [push_cast]) ?_)
  rintro _ _ ⟨rfl, rfl⟩
  (simp only [push_cast, seval, Nat.reduceEqDiff, Nat.reduceLeDiff, reduceCtorEq]; (repeat refine sk ?_); refine hK _ ?_; clear hK K)
  ((repeat refine PWp.seq ?_); refine PWp.region TT (by rfl) (fun K hK => ?_); simp only [push_cast, seval, Nat.reduceEqDiff, Nat.reduceLeDiff, reduceCtorEq]; (repeat refine sk ?_); refine hK _ ?_; clear hK K)
  ((repeat refine PWp.seq ?_); refine PWp.cond (by simp only [push_cast, seval, Nat.reduceEqDiff, Nat.reduceLeDiff, reduceCtorEq]; rfl) (fun hc => ?_) (fun hc => ?_))
  · have e : chk l a.length ≠ 0 := by
      simp only [Bool.or_eq_true, Bool.and_eq_true, Bool.not_eq_true', Bool.not_eq_false', Bool.or_eq_false_iff, Bool.and_eq_false_iff, decide_eq_true_eq, decide_eq_false_iff_not, beq_iff_eq, beq_eq_false_iff_ne, bne_iff_ne, bne_eq_false_iff_eq, ne_eq, Classical.not_not, Int.not_lt, Int.not_le, ge_iff_le, gt_iff_lt] at hc
      exact hc
    have hE : apE l a = chk l a.length := by unfold apE; rw [if_pos e]
    have hR : apR l a = [] := by unfold apR; rw [if_pos (by rw [hE]; exact e)]
    ((repeat refine PWp.seq ?_); refine PWp.region TT (by rfl) (fun K hK => ?_); simp only [push_cast, seval, Nat.reduceEqDiff, Nat.reduceLeDiff, reduceCtorEq]; (repeat refine sk ?_); refine hK _ ?_; clear hK K)
    ((repeat refine PWp.seq ?_); refine PWp.ret ?_)
    refine ⟨.inr rfl, by omega, _, [], ?_, rfl, rfl⟩
    rw [hE, hR]
    (simp [push_cast, -List.getD_eq_getElem?_getD])
  · have e : chk l a.length = 0 := by
      simp only [Bool.or_eq_true, Bool.and_eq_true, Bool.not_eq_true', Bool.not_eq_false', Bool.or_eq_false_iff, Bool.and_eq_false_iff, decide_eq_true_eq, decide_eq_false_iff_not, beq_iff_eq, beq_eq_false_iff_ne, bne_iff_ne, bne_eq_false_iff_eq, ne_eq, Classical.not_not, Int.not_lt, Int.not_le, ge_iff_le, gt_iff_lt] at hc
      exact hc
    clear hc
    obtain ⟨⟨k1, k2, k3⟩, ⟨_, k4⟩, k5⟩ := chk_ok e
    have hE : apE l a = if fitsL a l then 0 else 8 := by unfold apE; rw [if_neg (by rw [e]; decide)]
    have hla := lensL a
    ((repeat refine PWp.seq ?_); refine PWp.skip ?_)
    ((repeat refine PWp.seq ?_); refine PWp.region TT (by rfl) (fun K hK => ?_); simp only [push_cast, seval, Nat.reduceEqDiff, Nat.reduceLeDiff, reduceCtorEq, hla]; (repeat refine sk ?_); refine hK _ ?_; clear hK K)
    ((repeat refine PWp.seq ?_); refine PWp.region TT (by rfl) (fun K hK => ?_); simp only [push_cast, seval, Nat.reduceEqDiff, Nat.reduceLeDiff, reduceCtorEq, wrap64_id (n := (l.length : Int) - 1) (by omega) (by omega)]; (repeat refine sk ?_); refine hK _ ?_; clear hK K)
    ((repeat refine PWp.seq ?_); refine PWp.block ?_)
    refine PWp.loop (fun c st => ∃ (k : Nat), c = k ∧ k ≤ l.length ∧ fitsL a (l.drop k) = true ∧
      st = ⟨[(0, iP l), (1, iL a), (7, .acc 0 2 ((tailA a 0 (l.drop k)).map encL)), (8, iI ((k : Int) - 1))], [(0, .row 49 2)], 1⟩) _ _ ⟨l.length, rfl, Nat.le_refl _, by rw [List.drop_length]; rfl, rfl⟩ (Gh.le (by simp [push_cast, -List.getD_eq_getElem?_getD, tailA]) (by simp)) ?_
    rintro c st ⟨k, rfl, hk, hfit, rfl⟩
    ((repeat refine PWp.seq ?_); refine PWp.region TT (by rfl) (fun K hK => ?_); simp only [push_cast, seval, Nat.reduceEqDiff, Nat.reduceLeDiff, reduceCtorEq]; (repeat refine sk ?_); refine hK _ ?_; clear hK K)
    ((repeat refine PWp.seq ?_); refine PWp.cond (by simp only [push_cast, seval, Nat.reduceEqDiff, Nat.reduceLeDiff, reduceCtorEq]; rfl) (fun hc => ?_) (fun hc => ?_))
    · have hk0 : 0 < c := by simp at hc; omega
      clear hc
      obtain ⟨k, rfl⟩ : ∃ j, c = j + 1 := ⟨c - 1, by omega⟩
      have hlt : k < l.length := by omega
      have hsk := hs _ (getD_mem hlt)
      have hsm := hsk
      unfold smS at hsm
      obtain ⟨last, hl1, hR⟩ := okF_drop k k5
      rw [drop_getD hlt] at hR
      have hdr := drop_getD hlt
      have hg : (l.map encS).getD k .any = encS (l.getD k default) := getD_map hlt
      have hmem := getD_mem hlt
      generalize l.getD k default = s at *
      obtain ⟨h1, h2, h3, h4⟩ := okF_at hR
      ((repeat refine PWp.seq ?_); refine PWp.skip ?_)
      ((repeat refine PWp.seq ?_); refine PWp.block ?_)
      ((repeat refine PWp.seq ?_); refine PWp.region TT (by rfl) (fun K hK => ?_); simp only [push_cast, seval, Nat.reduceEqDiff, Nat.reduceLeDiff, reduceCtorEq, hg, Int.add_sub_cancel]; (repeat refine sk ?_); refine hK _ ?_; clear hK K)
      ((repeat refine PWp.seq ?_); refine PWp.region TT (by rfl) (fun K hK => ?_); simp only [push_cast, seval, Nat.reduceEqDiff, Nat.reduceLeDiff, reduceCtorEq, wrap64_id (n := s.at_ + (s.out.length : Int)) (by omega) (by omega)]; (repeat refine sk ?_); refine hK _ ?_; clear hK K)
      rw [show s.at_ + (s.out.length : Int) = endS s from rfl]
      ((repeat refine PWp.seq ?_); refine PWp.drawT TT (by kernel_rfl) [1] (.q 0 (.q 1 (.q 2 (.q 3 (.q 4 (.q 5 (.q 6 (.x 7 (.q 8 .nil))))))))) (by rfl) (by kernel_rfl) (by rfl) (by simp) (fun K hK => ?_); simp only [push_cast, seval, Nat.reduceEqDiff, Nat.reduceLeDiff, reduceCtorEq])
      ((repeat refine sk ?_); refine PCall.use (ref01_Same s.out (segL a s.at_ (endS s)) (by omega)) [] rfl (by simp [push_cast, segL_map]) (by simp) (by simp [push_cast, segL_map]) (by simp [push_cast, segL_map]) (by simp [push_cast, segL_map]) (by simp [push_cast, segL_map]) ?_)
      rintro _ _ ⟨rfl, rfl⟩
      (simp only [push_cast, seval, Nat.reduceEqDiff, Nat.reduceLeDiff, reduceCtorEq]; (repeat refine sk ?_); refine hK _ ?_; clear hK K)
      ((repeat refine PWp.seq ?_); refine PWp.cond (by simp only [push_cast, seval, Nat.reduceEqDiff, Nat.reduceLeDiff, reduceCtorEq]; rfl) (fun hc => ?_) (fun hc => ?_))
      · have hf : fitsL a l = false := by
          have : s.out ≠ segL a s.at_ (endS s) := by simpa using hc
          rw [← Bool.not_eq_true]
          unfold fitsL
          rw [List.all_eq_true]
          intro hh
          exact this (of_decide_eq_true (hh s hmem))
        have hE8 : apE l a = 8 := by rw [hE, hf]; rfl
        have hR8 : apR l a = [] := by unfold apR; rw [if_pos (by rw [hE8]; decide)]
        ((repeat refine PWp.seq ?_); refine PWp.region TT (by rfl) (fun K hK => ?_); simp only [push_cast, seval, Nat.reduceEqDiff, Nat.reduceLeDiff, reduceCtorEq]; (repeat refine sk ?_); refine hK _ ?_; clear hK K)
        ((repeat refine PWp.seq ?_); refine PWp.ret ?_)
        refine ⟨.inr rfl, by omega, _, [], ?_, rfl, rfl⟩
        rw [hE8, hR8]
        (simp [push_cast, -List.getD_eq_getElem?_getD])
      · have hout : s.out = segL a s.at_ (endS s) := by simpa using hc
        clear hc
        have hf : fitsL a (l.drop k) = true := by
          rw [hdr]
          unfold fitsL
          rw [List.all_cons, decide_eq_true hout, Bool.true_and]
          exact hfit
        have hfirst : ∀ at_ : Int, at_ ≤ endS s → l.drop (k + 1) = [] ∨ ∃ t m, l.drop (k + 1) = t :: m ∧ at_ ≤ t.at_ ∧ t.at_ ≤ a.length := by
          intro at_ hat
          cases hd : l.drop (k + 1) with
          | nil => exact .inl rfl
          | cons t m =>
            rw [hd] at h4
            obtain ⟨j1, j2, j3, j4⟩ := okF_at h4
            exact .inr ⟨t, m, rfl, by omega, by omega⟩
        have s1 := tailA_split (a := a) (at_ := s.at_) (l := l.drop (k + 1)) (by omega) (by omega) (hfirst s.at_ h2)
        have s2 := tailA_split (a := a) (at_ := endS s) (l := l.drop (k + 1)) (by omega) h3 (hfirst (endS s) (Int.le_refl _))
        have q1 : (tailA a 0 (l.drop (k + 1))).take s.at_.toNat = a.take s.at_.toNat := by
          rw [s1, List.take_append_of_le_length (by rw [List.length_take]; omega), List.take_take, Nat.min_self]
        have q2 : (tailA a 0 (l.drop (k + 1))).drop (endS s).toNat = tailA a (endS s) (l.drop (k + 1)) := by
          rw [s2, List.drop_left' (by rw [List.length_take]; omega)]
        have hti := sumI_take l (k + 1)
        have hlen := tailA_length (n := 0) (a := a) (at_ := 0) k5 (by omega) (by omega) (by omega)
        have hq : tailA a 0 (l.drop k) = a.take s.at_.toNat ++ s.in_ ++ tailA a (endS s) (l.drop (k + 1)) := by
          rw [hdr]
          simp [tailA, segL]
        have hlq : (tailA a 0 (l.drop (k + 1))).length ≤ 1000000 := by
          obtain ⟨last', g1, g2⟩ := okF_drop (k + 1) k5
          have := tailA_length (n := 0) (a := a) (at_ := 0) g2 (by omega) (by omega) (by omega)
          have : sumI (l.drop (k + 1)) ≤ sumI l := by
            conv => rhs; rw [← List.take_append_drop (k + 1) l, sumI_append]
            omega
          omega
        have hlq2 : (tailA a (endS s) (l.drop (k + 1))).length ≤ 1000000 := by
          rw [← q2, List.length_drop]; omega
        have hge : endS s ≤ (tailA a 0 (l.drop (k + 1))).length := by
          rw [s2, List.length_append, List.length_take]; omega
        generalize tailA a 0 (l.drop (k + 1)) = o at *
        generalize tailA a (endS s) (l.drop (k + 1)) = r at *
        ((repeat refine PWp.seq ?_); refine PWp.skip ?_)
        have e1 : (o.map encL).drop (endS s).toNat = r.map encL := by rw [← List.map_drop, q2]
        have e2 : (o.map encL).take s.at_.toNat = (a.take s.at_.toNat).map encL := by rw [← List.map_take, q1]
        have e3 : (o.map encL).take o.length = o.map encL := List.take_of_length_le (by simp)
        have l1 := lensL r
        have l2 := lensL (a.take s.at_.toNat)
        have l3 := lensL s.in_
        ((repeat refine PWp.seq ?_); refine PWp.region TT (by rfl) (fun K hK => ?_); simp only [push_cast, seval, Nat.reduceEqDiff, Nat.reduceLeDiff, reduceCtorEq, e3, e1, l1]; (repeat refine sk ?_); refine hK _ ?_; clear hK K)
        ((repeat refine PWp.seq ?_); refine PWp.drawT TT (by kernel_rfl) [1] (.q 1 (.q 2 (.q 3 (.q 4 (.q 6 (.q 7 (.x 0 (.x 5 (.x 8 (.q 9 .nil)))))))))) (by rfl) (by kernel_rfl) (by rfl) (by simp) (fun K hK => ?_); simp only [push_cast, seval, Nat.reduceEqDiff, Nat.reduceLeDiff, reduceCtorEq, e2, l2, l3]; (repeat refine sk ?_); refine hK _ ?_; clear hK K)
        ((repeat refine PWp.seq ?_); refine PWp.region TT (by rfl) (fun K hK => ?_); simp only [push_cast, seval, Nat.reduceEqDiff, Nat.reduceLeDiff, reduceCtorEq, l1]; (repeat refine sk ?_); refine hK _ ?_; clear hK K)
        ((repeat refine PWp.seq ?_); refine PWp.region TT (by rfl) (fun K hK => ?_); simp only [push_cast, seval, Nat.reduceEqDiff, Nat.reduceLeDiff, reduceCtorEq, wrap64_id (n := (k : Int) + 1 - 1) (by omega) (by omega), Int.add_sub_cancel, wrap64_id (n := (k : Int) - 1) (by omega) (by omega)]; (repeat refine sk ?_); refine hK _ ?_; clear hK K)
        refine ⟨_, _, ?_, ⟨k, rfl, by omega, hf, rfl⟩, Gh.leR [3] (by simp [push_cast, -List.getD_eq_getElem?_getD, hq]; try decide)⟩
        omega
    · have hk' : c = 0 := by simp at hc; omega
      subst hk'
      clear hc
      have hE0 : apE l a = 0 := by rw [hE, show fitsL a l = true from hfit]; rfl
      have hR0 : apR l a = tailA a 0 l := by unfold apR; rw [if_neg (by rw [hE0]; decide)]
      (repeat refine PWp.seq ?_); refine PWp.exit (iteT rfl ?_)
      ((repeat refine PWp.seq ?_); refine PWp.region TT (by rfl) (fun K hK => ?_); simp only [push_cast, seval, Nat.reduceEqDiff, Nat.reduceLeDiff, reduceCtorEq]; (repeat refine sk ?_); refine hK _ ?_; clear hK K)
      ((repeat refine PWp.seq ?_); refine PWp.ret ?_)
      refine ⟨.inr rfl, by omega, _, [], ?_, rfl, rfl⟩
      rw [hE0, hR0]
      (simp [push_cast, -List.getD_eq_getElem?_getD])
theorem apR_length (l : List Sb) (a : List Ln) : (apR l a).length ≤ 800 := by
  unfold apR
  split
  · simp
  · rename_i h
    have h0 : chk l a.length = 0 := by
      by_cases hh : chk l a.length = 0
      · exact hh
      · exfalso
        apply h
        unfold apE
        rw [if_pos hh]
        exact hh
    obtain ⟨⟨k1, k2, k3⟩, ⟨_, k4⟩, k5⟩ := chk_ok h0
    have := tailA_length (n := 0) (a := a) (at_ := 0) k5 (by omega) (by omega) (by omega)
    omega
end Go.Proofs.Ytjjgnopebokfoaa
