/- The document's Lift. -/
import Derived.Test.YtanopjcfackblaaE12
namespace Go.Proofs.Ytanopjcfackblaa
open Go.PL
set_option maxRecDepth 100000
set_option linter.unusedSimpArgs false
set_option linter.unusedVariables false
/-- The items, once what is not made is gone from the k-th line of the view on. -/
def goE (l : List It) (p : List Int) (m : List Md) (k : Nat) : List It := l.take (pa p l.length k) ++ seg (kxF l p m) (pa p l.length k) l.length
theorem goE_all (l : List It) (p : List Int) (m : List Md) : goE l p m p.length = l := by
  have e : pa p l.length p.length = l.length := by unfold pa; rw [if_neg (by omega)]
  unfold goE
  rw [e, List.take_length, seg_nil _ (Nat.le_refl _), List.append_nil]
theorem goE_zero {l : List It} {p : List Int} {m : List Md} (h : riF l.length (-1) p = true) : goE l p m 0 = seg (kxF l p m) 0 l.length := by
  have hg := gap_seg (m := m) h (Nat.zero_le p.length)
  have e : lo p 0 = 0 := rfl
  rw [e, List.drop_zero] at hg
  unfold goE
  rw [← hg, ← seg_split _ (Nat.zero_le _) (pa_le h)]
theorem goE_step {l : List It} {p : List Int} {m : List Md} (h : riF l.length (-1) p = true) {i : Nat} (hi : i < p.length) :
    (p.getD i default).toNat < (goE l p m (i + 1)).length ∧ (madeB m i = true → goE l p m (i + 1) = goE l p m i) ∧
    (madeB m i = false → (goE l p m (i + 1)).take (p.getD i default).toNat ++ (goE l p m (i + 1)).drop ((p.getD i default).toNat + 1) = goE l p m i) := by
  have hg := gap_seg (m := m) h (k := i + 1) (by omega)
  have hlo := lo_le h (k := i + 1) (by omega)
  have hpl := pa_le (k := i + 1) h
  have hb := riF_getD h hi
  have hv := kx_view (m := m) h hi
  have hpi : pa p l.length i = (p.getD i default).toNat := by unfold pa; rw [if_pos hi]
  rw [lo_succ] at hg hlo
  unfold goE
  rw [hpi]
  generalize pa p l.length (i + 1) = b at *
  generalize (p.getD i default).toNat = a at *
  have ha : a < l.length := by omega
  have e1 : l.take b = l.take a ++ l.getD a default :: (l.take b).drop (a + 1) := by
    have h1 : l.take b = (l.take b).take a ++ (l.take b).drop a := (List.take_append_drop a _).symm
    have h2 : (l.take b).take a = l.take a := by rw [List.take_take, Nat.min_eq_left (by omega)]
    have hlt : a < (l.take b).length := by rw [List.length_take]; omega
    have h3 := drop_getD (l := l.take b) hlt
    have h4 : (l.take b).getD a default = l.getD a default := by
      simp [List.getD, List.getElem?_take, show a < b by omega]
    rw [h3, h4, h2] at h1
    exact h1
  have e2 : seg (kxF l p m) a l.length = kxF l p m a ++ ((l.take b).drop (a + 1) ++ seg (kxF l p m) b l.length) := by
    rw [seg_split (kxF l p m) (show a ≤ a + 1 by omega) (by omega), seg_one, seg_split (kxF l p m) hlo hpl, hg]
  have hla : (l.take a).length = a := by rw [List.length_take]; omega
  generalize (l.take b).drop (a + 1) = D at *
  generalize seg (kxF l p m) b l.length = S at *
  rw [e1, e2, hv]
  refine ⟨by simp; omega, fun hm => by rw [hm, if_pos rfl]; simp, fun hm => ?_⟩
  rw [hm, if_neg (by decide), List.append_assoc, List.take_append_of_le_length (by omega), List.drop_append, hla]
  rw [List.take_of_length_le (by omega), List.drop_eq_nil_of_le (by omega), show a + 1 - a = 1 by omega]
  simp
def refR (l : List It) (p : List Int) (s : Lb) (m : List Md) (n : Int) : List It := if liftE l p s m n = 0 then liftN l p s m n l.length else []
def refN (l : List It) (p : List Int) (s : Lb) (m : List Md) (n : Int) : Int := if liftE l p s m n = 0 then n + (m.length - (keptF m).length) else 0
set_option maxHeartbeats 1000000 in
theorem ref18_Lift (l : List It) (ls : List Ln) (p : List Int) (s : Lb) (m : List Md) (n : Int) (hl : l.length ≤ 1000) (hp : p.length ≤ 9223372036854775807) (hm : m.length ≤ 1000) :
    PC Try.prog 10 [iIt l, iV ls p, iLb s, iMd m, iI n] [] 0 9 (fun t obs => t = .tup [iIt (refR l p s m n), iI (refN l p s m n), iI (liftE l p s m n)] ∧ obs = []) := by
  have bad : liftE l p s m n ≠ 0 → refR l p s m n = [] ∧ refN l p s m n = 0 := fun h => ⟨by unfold refR; rw [if_neg h], by unfold refN; rw [if_neg h]⟩
  refine PC.body [10, 11, 12] Try.func10 rfl (by rfl) (Nat.le_of_ble_eq_true (by rfl)) rfl ?_; simp only [enumA]
  ((repeat refine PWp.seq ?_); refine PWp.region TT (by rfl) (fun K hK => ?_); simp only [push_cast, seval, Nat.reduceEqDiff, Nat.reduceLeDiff, reduceCtorEq]; (repeat refine sk ?_); refine hK _ ?_; clear hK K)
  ((repeat refine PWp.seq ?_); refine PWp.region TT (by rfl) (fun K hK => ?_); simp only [push_cast, seval, Nat.reduceEqDiff, Nat.reduceLeDiff, reduceCtorEq])
  ((repeat refine sk ?_); refine PCall.use (ref18_Check l ls p s m (by omega) hp (by omega)) [] rfl (by simp [push_cast]) (by simp) (by simp [push_cast]) (by simp [push_cast]) (by simp [push_cast]) (by simp [push_cast]) ?_)
  rintro _ _ ⟨rfl, rfl⟩
  (simp only [push_cast, seval, Nat.reduceEqDiff, Nat.reduceLeDiff, reduceCtorEq]; (repeat refine sk ?_); refine hK _ ?_; clear hK K)
  ((repeat refine PWp.seq ?_); refine PWp.region TT (by rfl) (fun K hK => ?_); simp only [push_cast, seval, Nat.reduceEqDiff, Nat.reduceLeDiff, reduceCtorEq]; (repeat refine sk ?_); refine hK _ ?_; clear hK K)
  ((repeat refine PWp.seq ?_); refine PWp.cond (by simp only [push_cast, seval, Nat.reduceEqDiff, Nat.reduceLeDiff, reduceCtorEq]; rfl) (fun hc => ?_) (fun hc => ?_))
  · have h0 : chkF l p s m ≠ 0 := by simpa using hc
    have hE : liftE l p s m n = chkF l p s m := by unfold liftE; rw [if_pos h0]
    obtain ⟨b1, b2⟩ := bad (by rw [hE]; exact h0)
    ((repeat refine PWp.seq ?_); refine PWp.region TT (by rfl) (fun K hK => ?_); simp only [push_cast, seval, Nat.reduceEqDiff, Nat.reduceLeDiff, reduceCtorEq]; (repeat refine sk ?_); refine hK _ ?_; clear hK K)
    ((repeat refine PWp.seq ?_); refine PWp.ret ?_)
    refine ⟨.inr rfl, by omega, _, [], ?_, rfl, rfl⟩
    rw [hE, b1, b2]
    (simp [push_cast, -List.getD_eq_getElem?_getD])
  · have h0 : chkF l p s m = 0 := by simpa using hc
    clear hc
    obtain ⟨h1, h2, h3, h4⟩ := chkF_zero h0
    have hpl := riF_len h1 (by omega)
    have hkn := newC_kept m
    have hnm : (m.length : Int) - (keptF m).length = newC m := by omega
    refine PWp.gh (st' := ⟨[(0, iIt l), (3, iMd m), (4, iI n), (6, .bptr 0 0), (7, .bptr 1 0)], [(0, .box 26 [.iv (.sl 2 (ls.map encL)), iN p]), (1, .box 29 [iI s.v, .iv (.lit (.int .u64 s.c))])], 2⟩) (Gh.le (by simp [push_cast, -List.getD_eq_getElem?_getD]) (by simp)) ?_
    ((repeat refine PWp.seq ?_); refine PWp.skip ?_)
    ((repeat refine PWp.seq ?_); refine PWp.region TT (by rfl) (fun K hK => ?_); simp only [push_cast, seval, Nat.reduceEqDiff, Nat.reduceLeDiff, reduceCtorEq]; (repeat refine sk ?_); refine hK _ ?_; clear hK K)
    ((repeat refine PWp.seq ?_); refine PWp.region TT (by rfl) (fun K hK => ?_); simp only [push_cast, seval, Nat.reduceEqDiff, Nat.reduceLeDiff, reduceCtorEq]; (repeat refine sk ?_); refine hK _ ?_; clear hK K)
    ((repeat refine PWp.seq ?_); refine PWp.block ?_)
    refine PWp.loop (fun c st => ∃ k : Nat, c = m.length - k ∧ k ≤ m.length ∧
      st = ⟨[(0, iIt l), (3, iMd m), (4, iI n), (6, .bptr 0 0), (7, .bptr 1 0), (14, iI (newC (m.take k))), (15, iI k)], [(0, .box 26 [.iv (.sl 2 (ls.map encL)), iN p]), (1, .box 29 [iI s.v, .iv (.lit (.int .u64 s.c))])], 2⟩) _ _ ⟨0, rfl, Nat.zero_le _, rfl⟩ (Gh.le (by simp [push_cast, -List.getD_eq_getElem?_getD, newC]) (by simp)) ?_
    rintro c st ⟨k, rfl, hk, rfl⟩
    ((repeat refine PWp.seq ?_); refine PWp.region TT (by rfl) (fun K hK => ?_); simp only [push_cast, seval, Nat.reduceEqDiff, Nat.reduceLeDiff, reduceCtorEq]; (repeat refine sk ?_); refine hK _ ?_; clear hK K)
    ((repeat refine PWp.seq ?_); refine PWp.cond (by simp only [push_cast, seval, Nat.reduceEqDiff, Nat.reduceLeDiff, reduceCtorEq]; rfl) (fun hc => ?_) (fun hc => ?_))
    · have hlt : k < m.length := by simpa using hc
      clear hc
      have hg : (m.map encMd).getD k .any = encMd (m.getD k default) := getD_map hlt
      have hs := newC_succ m hlt
      have hb := newC_kept (m.take k)
      rw [List.length_take] at hb
      generalize m.getD k default = x at *
      ((repeat refine PWp.seq ?_); refine PWp.skip ?_)
      ((repeat refine PWp.seq ?_); refine PWp.block ?_)
      ((repeat refine PWp.seq ?_); refine PWp.region TT (by rfl) (fun K hK => ?_); simp only [push_cast, seval, Nat.reduceEqDiff, Nat.reduceLeDiff, reduceCtorEq, hg]; (repeat refine sk ?_); refine hK _ ?_; clear hK K)
      ((repeat refine PWp.seq ?_); refine PWp.cond (by simp only [push_cast, seval, Nat.reduceEqDiff, Nat.reduceLeDiff, reduceCtorEq]; rfl) (fun hc => ?_) (fun hc => ?_))
      · have ho : x.o = false := by simpa using hc
        rw [ho, if_neg (by decide)] at hs
        have hs' : ((newC (m.take (k + 1)) : Nat) : Int) = newC (m.take k) + 1 := by omega
        ((repeat refine PWp.seq ?_); refine PWp.region TT (by rfl) (fun K hK => ?_); simp only [push_cast, seval, Nat.reduceEqDiff, Nat.reduceLeDiff, reduceCtorEq, wrap64_id (n := (newC (m.take k) : Int) + 1) (by omega) (by omega)]; (repeat refine sk ?_); refine hK _ ?_; clear hK K)
        ((repeat refine PWp.seq ?_); refine PWp.region TT (by rfl) (fun K hK => ?_); simp only [push_cast, seval, Nat.reduceEqDiff, Nat.reduceLeDiff, reduceCtorEq, wrap64_id (n := (k : Int) + 1) (by omega) (by omega)]; (repeat refine sk ?_); refine hK _ ?_; clear hK K)
        refine ⟨_, _, ?_, ⟨k + 1, rfl, by omega, rfl⟩, Gh.le (by simp [push_cast, -List.getD_eq_getElem?_getD, hs']) (by simp)⟩
        omega
      · have ho : x.o = true := by simpa using hc
        rw [ho, if_pos rfl, Nat.add_zero] at hs
        ((repeat refine PWp.seq ?_); refine PWp.skip ?_)
        ((repeat refine PWp.seq ?_); refine PWp.region TT (by rfl) (fun K hK => ?_); simp only [push_cast, seval, Nat.reduceEqDiff, Nat.reduceLeDiff, reduceCtorEq, wrap64_id (n := (k : Int) + 1) (by omega) (by omega)]; (repeat refine sk ?_); refine hK _ ?_; clear hK K)
        refine ⟨_, _, ?_, ⟨k + 1, rfl, by omega, rfl⟩, Gh.le (by simp [push_cast, -List.getD_eq_getElem?_getD, hs]) (by simp)⟩
        omega
    · have hk' : k = m.length := by simp at hc; omega
      subst hk'
      rw [List.take_length]
      (repeat refine PWp.seq ?_); refine PWp.exit (iteT rfl ?_)
      ((repeat refine PWp.seq ?_); refine PWp.region TT (by rfl) (fun K hK => ?_); simp only [push_cast, seval, Nat.reduceEqDiff, Nat.reduceLeDiff, reduceCtorEq, wrap64_id (n := (l.length : Int) - p.length) (by omega) (by omega), wrap64_id (n := (l.length : Int) - p.length + m.length) (by omega) (by omega)]; (repeat refine sk ?_); refine hK _ ?_; clear hK K)
      ((repeat refine PWp.seq ?_); refine PWp.cond (by simp only [push_cast, seval, Nat.reduceEqDiff, Nat.reduceLeDiff, reduceCtorEq]; rfl) (fun hc => ?_) (fun hc => ?_))
      · exfalso
        simp at hc
        omega
      · clear hc
        ((repeat refine PWp.seq ?_); refine PWp.skip ?_)
        ((repeat refine PWp.seq ?_); refine PWp.region TT (by rfl) (fun K hK => ?_); simp only [push_cast, seval, Nat.reduceEqDiff, Nat.reduceLeDiff, reduceCtorEq, wrap64_id (n := 2147483647 - (newC m : Int)) (by omega) (by omega)]; (repeat refine sk ?_); refine hK _ ?_; clear hK K)
        ((repeat refine PWp.seq ?_); refine PWp.cond (by simp only [push_cast, seval, Nat.reduceEqDiff, Nat.reduceLeDiff, reduceCtorEq]; rfl) (fun hc => ?_) (fun hc => ?_))
        · have hE : liftE l p s m n = 2 := by
            unfold liftE
            rw [if_neg (by rw [h0]; decide), if_pos]
            simp only [Bool.or_eq_true, Bool.and_eq_true, Bool.not_eq_true', Bool.not_eq_false', Bool.or_eq_false_iff, Bool.and_eq_false_iff, decide_eq_true_eq, decide_eq_false_iff_not, beq_iff_eq, beq_eq_false_iff_ne, bne_iff_ne, bne_eq_false_iff_eq, ne_eq, Classical.not_not, Int.not_lt, Int.not_le, ge_iff_le, gt_iff_lt] at hc
            omega
          obtain ⟨b1, b2⟩ := bad (by rw [hE]; decide)
          ((repeat refine PWp.seq ?_); refine PWp.region TT (by rfl) (fun K hK => ?_); simp only [push_cast, seval, Nat.reduceEqDiff, Nat.reduceLeDiff, reduceCtorEq]; (repeat refine sk ?_); refine hK _ ?_; clear hK K)
          ((repeat refine PWp.seq ?_); refine PWp.ret ?_)
          refine ⟨.inr rfl, by omega, _, [], ?_, rfl, rfl⟩
          rw [hE, b1, b2]
          (simp [push_cast, -List.getD_eq_getElem?_getD])
        · simp only [Bool.or_eq_true, Bool.and_eq_true, Bool.not_eq_true', Bool.not_eq_false', Bool.or_eq_false_iff, Bool.and_eq_false_iff, decide_eq_true_eq, decide_eq_false_iff_not, beq_iff_eq, beq_eq_false_iff_ne, bne_iff_ne, bne_eq_false_iff_eq, ne_eq, Classical.not_not, Int.not_lt, Int.not_le, ge_iff_le, gt_iff_lt] at hc
          have hE : liftE l p s m n = 0 := by
            unfold liftE
            rw [if_neg (by rw [h0]; decide), if_neg]
            omega
          have hn : 1 ≤ n ∧ n ≤ 2147483647 := by omega
          have hR : refR l p s m n = G l p s m m 0 n := by unfold refR; rw [if_pos hE, liftN_G h1 h2]
          have hN : refN l p s m n = n + newC m := by unfold refN; rw [if_pos hE, hnm]
          have hEl : ∀ k, (goE l p m k).length ≤ 2000000 := fun k => by
            have : ∀ i j, (seg (kxF l p m) i j).length ≤ j - i := fun i j => by
              unfold seg
              generalize j - i = c
              induction c generalizing i with
              | zero => simp [segN]
              | succ c ih =>
                have h5 : (kxF l p m i).length ≤ 1 := by unfold kxF; split <;> simp
                have := ih (i + 1)
                simp only [segN, List.length_append]
                omega
            have h6 := this (pa p l.length k) l.length
            unfold goE
            rw [List.length_append, List.length_take]
            omega
          clear hc bad
          have hli := lensIt l
          ((repeat refine PWp.seq ?_); refine PWp.skip ?_)
          ((repeat refine PWp.seq ?_); refine PWp.region TT (by rfl) (fun K hK => ?_); simp only [push_cast, seval, Nat.reduceEqDiff, Nat.reduceLeDiff, reduceCtorEq, hli, List.nil_append]; (repeat refine sk ?_); refine hK _ ?_; clear hK K)
          ((repeat refine PWp.seq ?_); refine PWp.region TT (by rfl) (fun K hK => ?_); simp only [push_cast, seval, Nat.reduceEqDiff, Nat.reduceLeDiff, reduceCtorEq, wrap64_id (n := (p.length : Int) - 1) (by omega) (by omega)]; (repeat refine sk ?_); refine hK _ ?_; clear hK K)
          ((repeat refine PWp.seq ?_); refine PWp.block ?_)
          refine PWp.loop (fun c st => ∃ k : Nat, c = k ∧ k ≤ p.length ∧
            st = ⟨[(0, iIt l), (3, iMd m), (4, iI n), (6, .bptr 0 0), (7, .bptr 1 0), (16, .acc 2 6 ((goE l p m k).map encIt)), (17, iI ((k : Int) - 1))], [(0, .box 26 [.iv (.sl 2 (ls.map encL)), iN p]), (1, .box 29 [iI s.v, .iv (.lit (.int .u64 s.c))]), (2, .row 41 6)], 3⟩) _ _ ⟨p.length, rfl, Nat.le_refl _, rfl⟩ (Gh.le (by simp [push_cast, -List.getD_eq_getElem?_getD, goE_all]) (by simp)) ?_
          rintro k st ⟨_, rfl, hk, rfl⟩
          ((repeat refine PWp.seq ?_); refine PWp.region TT (by rfl) (fun K hK => ?_); simp only [push_cast, seval, Nat.reduceEqDiff, Nat.reduceLeDiff, reduceCtorEq]; (repeat refine sk ?_); refine hK _ ?_; clear hK K)
          ((repeat refine PWp.seq ?_); refine PWp.cond (by simp only [push_cast, seval, Nat.reduceEqDiff, Nat.reduceLeDiff, reduceCtorEq]; rfl) (fun hc => ?_) (fun hc => ?_))
          · have hk0 : 0 < k := by simp at hc; omega
            clear hc
            obtain ⟨i, rfl⟩ : ∃ i, k = i + 1 := ⟨k - 1, by omega⟩
            have hil : i < p.length := by omega
            have hii : ((i + 1 : Nat) : Int) - 1 = (i : Int) := by omega
            rw [hii]
            obtain ⟨s1, s2, s3⟩ := goE_step (m := m) h1 hil
            have hb := riF_getD h1 hil
            have hg : (p.map encI).getD i .any = encI (p.getD i default) := getD_map hil
            have hEl1 := hEl (i + 1)
            generalize goE l p m (i + 1) = X at *
            generalize p.getD i default = a at *
            ((repeat refine PWp.seq ?_); refine PWp.skip ?_)
            ((repeat refine PWp.seq ?_); refine PWp.block ?_)
            ((repeat refine PWp.seq ?_); refine PWp.region TT (by rfl) (fun K hK => ?_); simp only [push_cast, seval, Nat.reduceEqDiff, Nat.reduceLeDiff, reduceCtorEq])
            ((repeat refine sk ?_); refine PCall.use (ref18_isMade m i (by omega)) [] rfl (by simp [push_cast]) (by simp) (by simp [push_cast]) (by simp [push_cast]) (by simp [push_cast]) (by simp [push_cast]) ?_)
            rintro _ _ ⟨rfl, rfl⟩
            (simp only [push_cast, seval, Nat.reduceEqDiff, Nat.reduceLeDiff, reduceCtorEq]; (repeat refine sk ?_); refine hK _ ?_; clear hK K)
            ((repeat refine PWp.seq ?_); refine PWp.cond (by simp only [push_cast, seval, Nat.reduceEqDiff, Nat.reduceLeDiff, reduceCtorEq]; rfl) (fun hc => ?_) (fun hc => ?_))
            · have hmd : madeB m i = false := by simpa using hc
              clear hc
              have s3' := s3 hmd
              have e1 : ((X.map encIt).take a.toNat).drop (0 : Int).toNat = (X.take a.toNat).map encIt := by rw [← List.map_take]; simp
              have e2 : ((X.map encIt).take X.length).drop (a + 1).toNat = (X.drop (a.toNat + 1)).map encIt := by
                rw [show X.length = (X.map encIt).length by simp, List.take_length, ← List.map_drop, show (a + 1).toNat = a.toNat + 1 by omega]
              have l1 := lensIt (X.take a.toNat)
              have l2 := lensIt (X.drop (a.toNat + 1))
              have l3 : (X.take a.toNat).length ≤ X.length := by rw [List.length_take]; omega
              have l4 : (X.drop (a.toNat + 1)).length ≤ X.length := by rw [List.length_drop]; omega
              ((repeat refine PWp.seq ?_); refine PWp.drawT TT (by kernel_rfl) [0] (.q 1 (.q 2 (.q 3 (.q 4 (.q 5 (.q 6 (.q 7 (.q 9 (.q 10 (.q 11 (.q 12 (.q 13 (.q 14 (.q 15 (.q 16 (.x 0 (.x 8 (.x 17 (.q 18 .nil))))))))))))))))))) (by rfl) (by kernel_rfl) (by rfl) (by simp) (fun K hK => ?_); simp only [push_cast, seval, Nat.reduceEqDiff, Nat.reduceLeDiff, reduceCtorEq, hg, wrap64_id (n := a + 1) (by omega) (by omega), List.length_map, e1, e2, l1, l2, List.nil_append]; (repeat refine sk ?_); refine hK _ ?_; clear hK K)
              ((repeat refine PWp.seq ?_); refine PWp.region TT (by rfl) (fun K hK => ?_); simp only [push_cast, seval, Nat.reduceEqDiff, Nat.reduceLeDiff, reduceCtorEq, wrap64_id (n := (i : Int) - 1) (by omega) (by omega)]; (repeat refine sk ?_); refine hK _ ?_; clear hK K)
              refine ⟨_, _, ?_, ⟨i, rfl, by omega, rfl⟩, Gh.leR [0, 1, 3] (by simp [push_cast, -List.getD_eq_getElem?_getD, ← s3']; try decide)⟩
              omega
            · have hmd : madeB m i = true := by simpa using hc
              clear hc
              have s2' := s2 hmd
              ((repeat refine PWp.seq ?_); refine PWp.skip ?_)
              ((repeat refine PWp.seq ?_); refine PWp.region TT (by rfl) (fun K hK => ?_); simp only [push_cast, seval, Nat.reduceEqDiff, Nat.reduceLeDiff, reduceCtorEq, wrap64_id (n := (i : Int) - 1) (by omega) (by omega)]; (repeat refine sk ?_); refine hK _ ?_; clear hK K)
              refine ⟨_, _, ?_, ⟨i, rfl, by omega, rfl⟩, Gh.le (by simp [push_cast, -List.getD_eq_getElem?_getD, s2']) (by simp)⟩
              omega
          · have hk' : k = 0 := by simp at hc; omega
            subst hk'
            rw [goE_zero h1]
            have hO := inO_of h1 m (-1) 0 h2 (.inl ⟨rfl, rfl⟩)
            (repeat refine PWp.seq ?_); refine PWp.exit (iteT rfl ?_)
            ((repeat refine PWp.seq ?_); refine PWp.region TT (by rfl) (fun K hK => ?_); simp only [push_cast, seval, Nat.reduceEqDiff, Nat.reduceLeDiff, reduceCtorEq]; (repeat refine sk ?_); refine hK _ ?_; clear hK K)
            ((repeat refine PWp.seq ?_); refine PWp.region TT (by rfl) (fun K hK => ?_); simp only [push_cast, seval, Nat.reduceEqDiff, Nat.reduceLeDiff, reduceCtorEq]; (repeat refine sk ?_); refine hK _ ?_; clear hK K)
            ((repeat refine PWp.seq ?_); refine PWp.region TT (by rfl) (fun K hK => ?_); simp only [push_cast, seval, Nat.reduceEqDiff, Nat.reduceLeDiff, reduceCtorEq]; (repeat refine sk ?_); refine hK _ ?_; clear hK K)
            ((repeat refine PWp.seq ?_); refine PWp.block ?_)
            refine PWp.loop (fun c st => ∃ (k i : Nat) (A : List It) (id : Int), c = m.length - k ∧ k ≤ m.length ∧ i ≤ l.length ∧ n ≤ id ∧ id ≤ n + k ∧ (A.length : Int) = (seg (kxF l p m) 0 i).length + (id - n) ∧ inO p l.length (m.drop k) i ∧ id = n + newC (m.take k) ∧
              A ++ G l p s m (m.drop k) i id = G l p s m m 0 n ∧
              st = ⟨[(0, iIt l), (3, iMd m), (4, iI n), (6, .bptr 0 0), (7, .bptr 1 0), (16, .acc 2 6 ((A ++ seg (kxF l p m) i l.length).map encIt)), (18, iI A.length), (19, iI id), (20, iI k)], [(0, .box 26 [.iv (.sl 2 (ls.map encL)), iN p]), (1, .box 29 [iI s.v, .iv (.lit (.int .u64 s.c))]), (2, .row 41 6)], 3⟩) _ _
              ⟨0, 0, [], n, rfl, Nat.zero_le _, Nat.zero_le _, Int.le_refl _, by omega, by rw [seg_nil _ (Nat.le_refl _)]; simp, hO, by simp [newC], rfl, rfl⟩ (Gh.le (by simp [push_cast, -List.getD_eq_getElem?_getD]) (by simp)) ?_
            rintro c st ⟨k, i, A, id, rfl, hk, hi, hid1, hid2, hAl, hOk, hidn, hG, rfl⟩
            have hsl : ∀ i j, (seg (kxF l p m) i j).length ≤ j - i := fun i j => by
              unfold seg
              generalize j - i = c
              induction c generalizing i with
              | zero => simp [segN]
              | succ c ih =>
                have h5 : (kxF l p m i).length ≤ 1 := by unfold kxF; split <;> simp
                have := ih (i + 1)
                simp only [segN, List.length_append]
                omega
            have hb1 := hsl 0 i
            have hb2 := hsl i l.length
            ((repeat refine PWp.seq ?_); refine PWp.region TT (by rfl) (fun K hK => ?_); simp only [push_cast, seval, Nat.reduceEqDiff, Nat.reduceLeDiff, reduceCtorEq]; (repeat refine sk ?_); refine hK _ ?_; clear hK K)
            ((repeat refine PWp.seq ?_); refine PWp.cond (by simp only [push_cast, seval, Nat.reduceEqDiff, Nat.reduceLeDiff, reduceCtorEq]; rfl) (fun hc => ?_) (fun hc => ?_))
            · have hlt : k < m.length := by simpa using hc
              clear hc
              have hg : (m.map encMd).getD k .any = encMd (m.getD k default) := getD_map hlt
              have hs := newC_succ m hlt
              have hmx := getD_mem hlt
              rw [drop_getD hlt] at hG hOk
              generalize m.getD k default = x at *
              unfold inO at hOk
              simp only [G] at hG
              ((repeat refine PWp.seq ?_); refine PWp.skip ?_)
              ((repeat refine PWp.seq ?_); refine PWp.block ?_)
              ((repeat refine PWp.seq ?_); refine PWp.region TT (by rfl) (fun K hK => ?_); simp only [push_cast, seval, Nat.reduceEqDiff, Nat.reduceLeDiff, reduceCtorEq, hg]; (repeat refine sk ?_); refine hK _ ?_; clear hK K)
              ((repeat refine PWp.seq ?_); refine PWp.cond (by simp only [push_cast, seval, Nat.reduceEqDiff, Nat.reduceLeDiff, reduceCtorEq]; rfl) (fun hc => ?_) (fun hc => ?_))
              · rw [if_pos hc] at hOk hG
                obtain ⟨o1, o2, o3, o4, o5, o6⟩ := hOk
                rw [if_pos hc, Nat.add_zero] at hs
                obtain ⟨q, hq⟩ := Int.eq_ofNat_of_zero_le o4
                have hql : q < p.length := by omega
                have hpv : p.getD q default = oldP p x := by unfold oldP; rw [hq]; rfl
                have hbq := riF_getD h1 hql
                have hgl := goneF_le m q
                have hkp := (made_old (m := m) h1 hmx hc o4 o5 (j := (oldP p x).toNat) (by omega)).2
                have hlen := seg_len (m := m) h1 (k := q) (by omega)
                rw [show pa p l.length q = (oldP p x).toNat by unfold pa; rw [if_pos hql, hpv]] at hlen
                have hP : (seg (kxF l p m) 0 ((oldP p x).toNat + 1)).length = (seg (kxF l p m) 0 (oldP p x).toNat).length + 1 := by
                  rw [seg_succ _ (Nat.zero_le _), List.length_append]
                  congr 1
                  unfold kxF
                  rw [if_pos hkp]
                  rfl
                have hS1 := seg_split (kxF l p m) (Nat.zero_le i) (show i ≤ (oldP p x).toNat + 1 by omega)
                have hS2 := seg_split (kxF l p m) (show i ≤ (oldP p x).toNat + 1 by omega) o3
                rw [hS1, List.length_append] at hP
                have hAn : (p.getD q default - (goneF m q : Int)) + 1 + id - n = ((A ++ seg (kxF l p m) i ((oldP p x).toNat + 1)).length : Int) := by
                  rw [List.length_append, hpv]
                  push_cast
                  omega
                have hAA : A ++ seg (kxF l p m) i l.length = (A ++ seg (kxF l p m) i ((oldP p x).toNat + 1)) ++ seg (kxF l p m) ((oldP p x).toNat + 1) l.length := by rw [hS2, List.append_assoc]
                rw [← List.append_assoc] at hG
                have hAl' : (((A ++ seg (kxF l p m) i ((oldP p x).toNat + 1)).length : Nat) : Int) = (seg (kxF l p m) 0 ((oldP p x).toNat + 1)).length + (id - n) := by
                  rw [hS1, List.length_append, List.length_append]
                  push_cast
                  omega
                have hAb : (((A ++ seg (kxF l p m) i ((oldP p x).toNat + 1)).length : Nat) : Int) ≤ 100000 ∧ p.getD q default ≤ 1000 := by
                  have := hsl 0 ((oldP p x).toNat + 1)
                  omega
                rw [hAA]
                generalize A ++ seg (kxF l p m) i ((oldP p x).toNat + 1) = A' at *
                generalize hS' : seg (kxF l p m) ((oldP p x).toNat + 1) l.length = S' at *
                ((repeat refine PWp.seq ?_); refine PWp.drawT TT (by kernel_rfl) [0] (.q 0 (.q 1 (.q 2 (.q 3 (.q 4 (.q 5 (.q 6 (.q 9 (.q 11 (.x 7 (.q 8 (.q 10 (.q 12 (.q 13 .nil)))))))))))))) (by rfl) (by kernel_rfl) (by rfl) (by simp) (fun K hK => ?_); simp only [push_cast, seval, Nat.reduceEqDiff, Nat.reduceLeDiff, reduceCtorEq, hg, hq])
                ((repeat refine sk ?_); refine PCall.use (ref18_where ls p m q hql (fun y hy => by have := riF_mem h1 y hy; omega) (by omega) (by omega)) [] rfl (by simp [push_cast]) (by simp) (by simp [push_cast]) (by simp [push_cast]) (by simp [push_cast]) (by simp [push_cast]) ?_)
                rintro _ _ ⟨rfl, rfl⟩
                (simp only [push_cast, seval, Nat.reduceEqDiff, Nat.reduceLeDiff, reduceCtorEq, wrap64_id (n := p.getD q default - (goneF m q : Int) + 1) (by omega) (by omega), wrap64_id (n := p.getD q default - (goneF m q : Int) + 1 + id) (by omega) (by omega), wrap64_id (n := p.getD q default - (goneF m q : Int) + 1 + id - n) (by omega) (by omega)]; (repeat refine sk ?_); refine hK _ ?_; clear hK K)
                rw [hAn]
                (repeat refine PWp.seq ?_); refine PWp.exit (iteT rfl ?_)
                ((repeat refine PWp.seq ?_); refine PWp.region TT (by rfl) (fun K hK => ?_); simp only [push_cast, seval, Nat.reduceEqDiff, Nat.reduceLeDiff, reduceCtorEq, wrap64_id (n := (k : Int) + 1) (by omega) (by omega)]; (repeat refine sk ?_); refine hK _ ?_; clear hK K)
                refine ⟨_, _, ?_, ⟨k + 1, (oldP p x).toNat + 1, A', id, rfl, by omega, by omega, hid1, by omega, hAl', o6, by rw [hs]; exact hidn, hG, rfl⟩, Gh.le (by simp [push_cast, -List.getD_eq_getElem?_getD, hS']) (by simp)⟩
                omega
              · rw [if_neg (by rw [hc]; decide)] at hOk hG
                rw [hc, if_neg (by decide)] at hs
                generalize hS : seg (kxF l p m) i l.length = S at *
                have e1 : ((A ++ S).map encIt).take A.length = A.map encIt := by
                  rw [← List.map_take, List.take_left']
                  rfl
                have e2 : (((A ++ S).map encIt).take ((A.length : Int) + (S.length : Int)).toNat).drop A.length = S.map encIt := by
                  rw [show ((A.length : Int) + (S.length : Int)).toNat = ((A ++ S).map encIt).length by simp; omega, List.take_length, ← List.map_drop, List.drop_left']
                  rfl
                have l1 := lensIt A
                have l2 := lensIt S
                have l3 : (A ++ S).length = A.length + S.length := List.length_append
                have hAb : A.length ≤ 100000 := by omega
                ((repeat refine PWp.seq ?_); refine PWp.skip ?_)
                ((repeat refine PWp.seq ?_); refine PWp.region TT (by rfl) (fun K hK => ?_); simp only [push_cast, seval, Nat.reduceEqDiff, Nat.reduceLeDiff, reduceCtorEq, List.length_map, List.length_append, e2, l2, List.nil_append]; (repeat refine sk ?_); refine hK _ ?_; clear hK K)
                ((repeat refine PWp.seq ?_); refine PWp.drawT TT (by kernel_rfl) [1] (.q 1 (.q 2 (.q 3 (.q 5 (.q 6 (.q 7 (.q 8 (.q 9 (.q 10 (.q 11 (.q 12 (.alt 0 (.alt 4 (.x 13 (.x 14 (.q 15 .nil))) (.x 13 (.x 4 (.x 14 (.q 15 .nil))))) (.x 13 (.x 0 (.x 4 (.x 14 (.q 15 .nil))))))))))))))))) (by rfl) (by kernel_rfl) (by rfl) (by simp) (fun K hK => ?_); simp only [push_cast, seval, Nat.reduceEqDiff, Nat.reduceLeDiff, reduceCtorEq, hg, List.length_map, List.length_append, e1, l1, List.nil_append])
                (repeat refine sk ?_)
                refine ⟨?_, ?_⟩
                · (repeat refine sk ?_)
                  refine ⟨?_, ?_⟩
                  · ((repeat refine sk ?_); refine hK _ ?_; clear hK K)
                    ((repeat refine PWp.seq ?_); refine PWp.region TT (by rfl) (fun K hK => ?_); simp only [push_cast, seval, Nat.reduceEqDiff, Nat.reduceLeDiff, reduceCtorEq, l2]; (repeat refine sk ?_); refine hK _ ?_; clear hK K)
                    ((repeat refine PWp.seq ?_); refine PWp.region TT (by rfl) (fun K hK => ?_); simp only [push_cast, seval, Nat.reduceEqDiff, Nat.reduceLeDiff, reduceCtorEq, wrap64_id (n := (A.length : Int) + 1) (by omega) (by omega)]; (repeat refine sk ?_); refine hK _ ?_; clear hK K)
                    ((repeat refine PWp.seq ?_); refine PWp.region TT (by rfl) (fun K hK => ?_); simp only [push_cast, seval, Nat.reduceEqDiff, Nat.reduceLeDiff, reduceCtorEq, wrap64_id (n := id + 1) (by omega) (by omega)]; (repeat refine sk ?_); refine hK _ ?_; clear hK K)
                    ((repeat refine PWp.seq ?_); refine PWp.region TT (by rfl) (fun K hK => ?_); simp only [push_cast, seval, Nat.reduceEqDiff, Nat.reduceLeDiff, reduceCtorEq, wrap64_id (n := (k : Int) + 1) (by omega) (by omega)]; (repeat refine sk ?_); refine hK _ ?_; clear hK K)
                    refine ⟨_, _, ?_, ⟨k + 1, i, A ++ [newIt s x id], id + 1, rfl, by omega, hi, by omega, by omega, ?_, hOk, by rw [hs]; push_cast; omega, by rw [List.append_assoc]; exact hG, rfl⟩, Gh.leR [0, 1, 4] (by simp [push_cast, -List.getD_eq_getElem?_getD, newIt, hS]; try decide)⟩
                    · omega
                    · rw [List.length_append]
                      simp only [List.length_cons, List.length_nil]
                      omega
                  · ((repeat refine sk ?_); refine hK _ ?_; clear hK K)
                    ((repeat refine PWp.seq ?_); refine PWp.region TT (by rfl) (fun K hK => ?_); simp only [push_cast, seval, Nat.reduceEqDiff, Nat.reduceLeDiff, reduceCtorEq, l2]; (repeat refine sk ?_); refine hK _ ?_; clear hK K)
                    ((repeat refine PWp.seq ?_); refine PWp.region TT (by rfl) (fun K hK => ?_); simp only [push_cast, seval, Nat.reduceEqDiff, Nat.reduceLeDiff, reduceCtorEq, wrap64_id (n := (A.length : Int) + 1) (by omega) (by omega)]; (repeat refine sk ?_); refine hK _ ?_; clear hK K)
                    ((repeat refine PWp.seq ?_); refine PWp.region TT (by rfl) (fun K hK => ?_); simp only [push_cast, seval, Nat.reduceEqDiff, Nat.reduceLeDiff, reduceCtorEq, wrap64_id (n := id + 1) (by omega) (by omega)]; (repeat refine sk ?_); refine hK _ ?_; clear hK K)
                    ((repeat refine PWp.seq ?_); refine PWp.region TT (by rfl) (fun K hK => ?_); simp only [push_cast, seval, Nat.reduceEqDiff, Nat.reduceLeDiff, reduceCtorEq, wrap64_id (n := (k : Int) + 1) (by omega) (by omega)]; (repeat refine sk ?_); refine hK _ ?_; clear hK K)
                    refine ⟨_, _, ?_, ⟨k + 1, i, A ++ [newIt s x id], id + 1, rfl, by omega, hi, by omega, by omega, ?_, hOk, by rw [hs]; push_cast; omega, by rw [List.append_assoc]; exact hG, rfl⟩, Gh.leR [0, 1, 4] (by simp [push_cast, -List.getD_eq_getElem?_getD, newIt, hS]; try decide)⟩
                    · omega
                    · rw [List.length_append]
                      simp only [List.length_cons, List.length_nil]
                      omega
                · ((repeat refine sk ?_); refine hK _ ?_; clear hK K)
                  ((repeat refine PWp.seq ?_); refine PWp.region TT (by rfl) (fun K hK => ?_); simp only [push_cast, seval, Nat.reduceEqDiff, Nat.reduceLeDiff, reduceCtorEq, l2]; (repeat refine sk ?_); refine hK _ ?_; clear hK K)
                  ((repeat refine PWp.seq ?_); refine PWp.region TT (by rfl) (fun K hK => ?_); simp only [push_cast, seval, Nat.reduceEqDiff, Nat.reduceLeDiff, reduceCtorEq, wrap64_id (n := (A.length : Int) + 1) (by omega) (by omega)]; (repeat refine sk ?_); refine hK _ ?_; clear hK K)
                  ((repeat refine PWp.seq ?_); refine PWp.region TT (by rfl) (fun K hK => ?_); simp only [push_cast, seval, Nat.reduceEqDiff, Nat.reduceLeDiff, reduceCtorEq, wrap64_id (n := id + 1) (by omega) (by omega)]; (repeat refine sk ?_); refine hK _ ?_; clear hK K)
                  ((repeat refine PWp.seq ?_); refine PWp.region TT (by rfl) (fun K hK => ?_); simp only [push_cast, seval, Nat.reduceEqDiff, Nat.reduceLeDiff, reduceCtorEq, wrap64_id (n := (k : Int) + 1) (by omega) (by omega)]; (repeat refine sk ?_); refine hK _ ?_; clear hK K)
                  refine ⟨_, _, ?_, ⟨k + 1, i, A ++ [newIt s x id], id + 1, rfl, by omega, hi, by omega, by omega, ?_, hOk, by rw [hs]; push_cast; omega, by rw [List.append_assoc]; exact hG, rfl⟩, Gh.leR [0, 1, 4] (by simp [push_cast, -List.getD_eq_getElem?_getD, newIt, hS]; try decide)⟩
                  · omega
                  · rw [List.length_append]
                    simp only [List.length_cons, List.length_nil]
                    omega
            · have hk' : k = m.length := by simp at hc; omega
              subst hk'
              rw [List.drop_length] at hG
              rw [List.take_length] at hidn
              simp only [G] at hG
              rw [hG, hidn]
              (repeat refine PWp.seq ?_); refine PWp.exit (iteT rfl ?_)
              ((repeat refine PWp.seq ?_); refine PWp.region TT (by rfl) (fun K hK => ?_); simp only [push_cast, seval, Nat.reduceEqDiff, Nat.reduceLeDiff, reduceCtorEq]; (repeat refine sk ?_); refine hK _ ?_; clear hK K)
              ((repeat refine PWp.seq ?_); refine PWp.ret ?_)
              refine ⟨.inr rfl, by omega, _, [], ?_, rfl, rfl⟩
              rw [hR, hN, hE]
              (simp [push_cast, -List.getD_eq_getElem?_getD])
end Go.Proofs.Ytanopjcfackblaa
