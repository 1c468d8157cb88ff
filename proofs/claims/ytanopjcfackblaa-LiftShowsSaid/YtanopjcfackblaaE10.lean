/- Walk of LiftShows. -/
import Derived.Test.YtanopjcfackblaaE9
namespace Go.Proofs.Ytanopjcfackblaa
open Go.PL
set_option maxRecDepth 100000
set_option linter.unusedSimpArgs false
set_option linter.unusedVariables false
theorem LiftShows_walk (l : List It) (s : Lb) (m : List Md) (n : Int) : PC Try.prog 4 [iIt l, iLb s, iMd m, iI n] [] 0 400 (fun t obs => t = iB true ∧ obs = []) := by
  refine PC.body [8] Try.func4 rfl (by rfl) (Nat.le_of_ble_eq_true (by rfl)) rfl ?_; simp only [enumA]
  ((repeat refine PWp.seq ?_); refine PWp.region TT (by rfl) (fun K hK => ?_); simp only [push_cast, seval, Nat.reduceEqDiff, Nat.reduceLeDiff, reduceCtorEq]; (repeat refine sk ?_); refine hK _ ?_; clear hK K)
  ((repeat refine PWp.seq ?_); refine PWp.region TT (by rfl) (fun K hK => ?_); simp only [push_cast, seval, Nat.reduceEqDiff, Nat.reduceLeDiff, reduceCtorEq])
  ((repeat refine sk ?_); refine PCall.use (few18 l m) [] rfl (by simp [push_cast]) (by simp) (by simp [push_cast]) (by simp [push_cast]) (by simp [push_cast]) (by simp [push_cast]) ?_)
  rintro _ _ ⟨rfl, rfl⟩
  have hl := few_len l
  have hm := few_len m
  generalize l.take 40 = l at *
  generalize m.take 40 = m at *
  have hp := ofAt_len l s
  (simp only [push_cast, seval, Nat.reduceEqDiff, Nat.reduceLeDiff, reduceCtorEq]; (repeat refine sk ?_); refine hK _ ?_; clear hK K)
  ((repeat refine PWp.seq ?_); refine PWp.region TT (by rfl) (fun K hK => ?_); simp only [push_cast, seval, Nat.reduceEqDiff, Nat.reduceLeDiff, reduceCtorEq])
  ((repeat refine sk ?_); refine PCall.use (ref05_Of l s [46, 46, 46] (by omega)) [] rfl (by simp [push_cast]) (by simp) (by simp [push_cast]) (by simp [push_cast]) (by simp [push_cast]) (by simp [push_cast]) ?_)
  rintro _ _ ⟨rfl, rfl⟩
  (simp only [push_cast, seval, Nat.reduceEqDiff, Nat.reduceLeDiff, reduceCtorEq]; (repeat refine sk ?_); refine hK _ ?_; clear hK K)
  refine PWp.gh (st' := ⟨[(0, iIt l), (2, iMd m), (3, iI n), (5, .bptr 0 0), (9, .bptr 1 0)], [(0, .box 29 [iI s.v, .iv (.lit (.int .u64 s.c))]), (1, .box 26 [.iv (.sl 2 ((ofLn l s [46, 46, 46]).map encL)), iN (ofAt l s)])], 2⟩) (Gh.leR [0, 10] (by simp [push_cast, -List.getD_eq_getElem?_getD]; try decide)) ?_
  ((repeat refine PWp.seq ?_); refine PWp.region TT (by rfl) (fun K hK => ?_); simp only [push_cast, seval, Nat.reduceEqDiff, Nat.reduceLeDiff, reduceCtorEq])
  ((repeat refine sk ?_); refine PCall.use (lift_Lift l (ofLn l s [46, 46, 46]) (ofAt l s) s m n (by omega) (by omega) (by omega)) [] rfl (by simp [push_cast]) (by simp) (by simp [push_cast]) (by simp [push_cast]) (by simp [push_cast]) (by simp [push_cast]) ?_)
  have h00 : ((0 : Int) != 0) = false := rfl
  rintro _ _ (⟨hE, rfl, rfl⟩ | ⟨hE, rfl, rfl⟩)
  · have hE' : (liftE l (ofAt l s) s m n != 0) = true := by simpa using hE
    generalize liftE l (ofAt l s) s m n = e at *
    (simp only [push_cast, seval, Nat.reduceEqDiff, Nat.reduceLeDiff, reduceCtorEq]; (repeat refine sk ?_); refine hK _ ?_; clear hK K)
    ((repeat refine PWp.seq ?_); refine PWp.region TT (by rfl) (fun K hK => ?_); simp only [push_cast, seval, Nat.reduceEqDiff, Nat.reduceLeDiff, reduceCtorEq, hE']; (repeat refine sk ?_); refine hK _ ?_; clear hK K)
    ((repeat refine PWp.seq ?_); refine PWp.cond (by simp only [push_cast, seval, Nat.reduceEqDiff, Nat.reduceLeDiff, reduceCtorEq]; rfl) (fun hc => ?_) (fun hc => ?_))
    · clear hc
      ((repeat refine PWp.seq ?_); refine PWp.region TT (by rfl) (fun K hK => ?_); simp only [push_cast, seval, Nat.reduceEqDiff, Nat.reduceLeDiff, reduceCtorEq])
      ((repeat refine sk ?_); refine PCall.use (live18) [] rfl (by simp [push_cast]) (by simp) (by simp [push_cast]) (by simp [push_cast]) (by simp [push_cast]) (by simp [push_cast]) ?_)
      rintro _ _ ⟨rfl, rfl⟩
      (simp only [push_cast, seval, Nat.reduceEqDiff, Nat.reduceLeDiff, reduceCtorEq]; (repeat refine sk ?_); refine hK _ ?_; clear hK K)
      ((repeat refine PWp.seq ?_); refine PWp.ret ?_)
      refine ⟨.inr rfl, by omega, _, [], ?_, rfl, rfl⟩
      (simp [push_cast, -List.getD_eq_getElem?_getD])
    · cases hc
  · obtain ⟨hLa, hLl, hLv, hW0, hAt⟩ := shows_at (h := [46, 46, 46]) (n := n) (liftE_chk hE).1 rfl
    have hWl := liftN_le (p := ofAt l s) (s := s) (n := n) hl hm
    generalize liftN l (ofAt l s) s m n l.length = W at *
    (simp only [push_cast, seval, Nat.reduceEqDiff, Nat.reduceLeDiff, reduceCtorEq]; (repeat refine sk ?_); refine hK _ ?_; clear hK K)
    refine PWp.gh (Gh.freeze 4 (by rfl)) ?_
    refine PWp.gh (st' := ⟨[(0, iIt l), (2, iMd m), (5, .bptr 0 0), (9, .bptr 1 0), (10, iIt W), (12, iI 0)], [(0, .box 29 [iI s.v, .iv (.lit (.int .u64 s.c))]), (1, .box 26 [.iv (.sl 2 ((ofLn l s [46, 46, 46]).map encL)), iN (ofAt l s)])], 2⟩) (Gh.le (by simp [push_cast, -List.getD_eq_getElem?_getD]) (by simp)) ?_
    ((repeat refine PWp.seq ?_); refine PWp.region TT (by rfl) (fun K hK => ?_); simp only [push_cast, seval, Nat.reduceEqDiff, Nat.reduceLeDiff, reduceCtorEq, h00]; (repeat refine sk ?_); refine hK _ ?_; clear hK K)
    ((repeat refine PWp.seq ?_); refine PWp.cond (by simp only [push_cast, seval, Nat.reduceEqDiff, Nat.reduceLeDiff, reduceCtorEq]; rfl) (fun hc => ?_) (fun hc => ?_))
    · cases hc
    · clear hc
      ((repeat refine PWp.seq ?_); refine PWp.skip ?_)
      ((repeat refine PWp.seq ?_); refine PWp.region TT (by rfl) (fun K hK => ?_); simp only [push_cast, seval, Nat.reduceEqDiff, Nat.reduceLeDiff, reduceCtorEq])
      ((repeat refine sk ?_); refine PCall.use (ref05_Of W s [46, 46, 46] (by omega)) [] rfl (by simp [push_cast]) (by simp) (by simp [push_cast]) (by simp [push_cast]) (by simp [push_cast]) (by simp [push_cast]) ?_)
      rintro _ _ ⟨rfl, rfl⟩
      (simp only [push_cast, seval, Nat.reduceEqDiff, Nat.reduceLeDiff, reduceCtorEq]; (repeat refine sk ?_); refine hK _ ?_; clear hK K)
      refine PWp.gh (st' := ⟨[(0, iIt l), (2, iMd m), (5, .bptr 0 0), (9, .bptr 1 0), (10, iIt W), (13, .bptr 2 0)], [(0, .box 29 [iI s.v, .iv (.lit (.int .u64 s.c))]), (1, .box 26 [.iv (.sl 2 ((ofLn l s [46, 46, 46]).map encL)), iN (ofAt l s)]),
        (2, .box 26 [.iv (.sl 2 ((ofLn W s [46, 46, 46]).map encL)), iN (ofAt W s)])], 3⟩) (Gh.leR [0, 1, 11] (by simp [push_cast, -List.getD_eq_getElem?_getD]; try decide)) ?_
      have hne : (((ofLn W s [46, 46, 46]).length : Int) != (m.length : Int)) = false := by rw [hLl]; simp
      generalize ofLn W s [46, 46, 46] = wl at *
      generalize ofAt W s = wa at *
      generalize ofLn l s [46, 46, 46] = vl at *
      generalize ofAt l s = va at *
      ((repeat refine PWp.seq ?_); refine PWp.region TT (by rfl) (fun K hK => ?_); simp only [push_cast, seval, Nat.reduceEqDiff, Nat.reduceLeDiff, reduceCtorEq, hne]; (repeat refine sk ?_); refine hK _ ?_; clear hK K)
      ((repeat refine PWp.seq ?_); refine PWp.cond (by simp only [push_cast, seval, Nat.reduceEqDiff, Nat.reduceLeDiff, reduceCtorEq]; rfl) (fun hc => ?_) (fun hc => ?_))
      · have hW : W = [] := by simpa using hc
        have hm0 := hW0 hW
        subst hW
        subst hm0
        clear hc
        ((repeat refine PWp.seq ?_); refine PWp.region TT (by rfl) (fun K hK => ?_); simp only [push_cast, seval, Nat.reduceEqDiff, Nat.reduceLeDiff, reduceCtorEq])
        ((repeat refine sk ?_); refine PCall.use (live18) [] rfl (by simp [push_cast]) (by simp) (by simp [push_cast]) (by simp [push_cast]) (by simp [push_cast]) (by simp [push_cast]) ?_)
        rintro _ _ ⟨rfl, rfl⟩
        (simp only [push_cast, seval, Nat.reduceEqDiff, Nat.reduceLeDiff, reduceCtorEq]; (repeat refine sk ?_); refine hK _ ?_; clear hK K)
        ((repeat refine PWp.seq ?_); refine PWp.ret ?_)
        refine ⟨.inr rfl, by omega, _, [], ?_, rfl, rfl⟩
        (simp [push_cast, -List.getD_eq_getElem?_getD])
      · clear hc
        ((repeat refine PWp.seq ?_); refine PWp.skip ?_)
        ((repeat refine PWp.seq ?_); refine PWp.region TT (by rfl) (fun K hK => ?_); simp only [push_cast, seval, Nat.reduceEqDiff, Nat.reduceLeDiff, reduceCtorEq]; (repeat refine sk ?_); refine hK _ ?_; clear hK K)
        ((repeat refine PWp.seq ?_); refine PWp.block ?_)
        refine PWp.loop (fun c st => ∃ k : Nat, c = m.length - k ∧ k ≤ m.length ∧
          st = ⟨[(0, iIt l), (2, iMd m), (5, .bptr 0 0), (9, .bptr 1 0), (10, iIt W), (13, .bptr 2 0), (14, iI k)], [(0, .box 29 [iI s.v, .iv (.lit (.int .u64 s.c))]), (1, .box 26 [.iv (.sl 2 (vl.map encL)), iN va]), (2, .box 26 [.iv (.sl 2 (wl.map encL)), iN wa])], 3⟩) _ _ ⟨0, rfl, Nat.zero_le _, rfl⟩ (Gh.le (by simp [push_cast, -List.getD_eq_getElem?_getD]) (by simp)) ?_
        rintro c st ⟨k, rfl, hk, rfl⟩
        ((repeat refine PWp.seq ?_); refine PWp.region TT (by rfl) (fun K hK => ?_); simp only [push_cast, seval, Nat.reduceEqDiff, Nat.reduceLeDiff, reduceCtorEq]; (repeat refine sk ?_); refine hK _ ?_; clear hK K)
        ((repeat refine PWp.seq ?_); refine PWp.cond (by simp only [push_cast, seval, Nat.reduceEqDiff, Nat.reduceLeDiff, reduceCtorEq]; rfl) (fun hc => ?_) (fun hc => ?_))
        · have hlt : k < m.length := by simpa using hc
          clear hc
          have hg : (m.map encMd).getD k .any = encMd (m.getD k default) := getD_map hlt
          have hg2 : (wa.map encI).getD k .any = encI (wa.getD k default) := getD_map (by omega)
          have hg3 : (wl.map encL).getD k .any = encL (wl.getD k default) := getD_map (by omega)
          obtain ⟨⟨a1, a2⟩, a3, a4⟩ := hAt k hlt
          have hg4 : (W.map encIt).getD (wa.getD k default).toNat .any = encIt (W.getD (wa.getD k default).toNat default) := getD_map (by omega)
          generalize m.getD k default = x at *
          generalize wa.getD k default = wk at *
          generalize wl.getD k default = tk at *
          generalize W.getD wk.toNat default = y at *
          ((repeat refine PWp.seq ?_); refine PWp.skip ?_)
          ((repeat refine PWp.seq ?_); refine PWp.block ?_)
          ((repeat refine PWp.seq ?_); refine PWp.region TT (by rfl) (fun K hK => ?_); simp only [push_cast, seval, Nat.reduceEqDiff, Nat.reduceLeDiff, reduceCtorEq, hg]; (repeat refine sk ?_); refine hK _ ?_; clear hK K)
          ((repeat refine PWp.seq ?_); refine PWp.region TT (by rfl) (fun K hK => ?_); simp only [push_cast, seval, Nat.reduceEqDiff, Nat.reduceLeDiff, reduceCtorEq, hg]; (repeat refine sk ?_); refine hK _ ?_; clear hK K)
          ((repeat refine PWp.seq ?_); refine PWp.cond (by simp only [push_cast, seval, Nat.reduceEqDiff, Nat.reduceLeDiff, reduceCtorEq]; rfl) (fun hc => ?_) (fun hc => ?_))
          · obtain ⟨b1, b2, b3, b4, b5, b6⟩ := a3 hc
            clear hc a3 a4
            have hg5 : (va.map encI).getD x.i.toNat .any = encI (va.getD x.i.toNat default) := getD_map (by omega)
            have hg6 : (l.map encIt).getD (va.getD x.i.toNat default).toNat .any = encIt (l.getD (va.getD x.i.toNat default).toNat default) := getD_map (by omega)
            have hg7 : (vl.map encL).getD x.i.toNat .any = encL (vl.getD x.i.toNat default) := getD_map (by omega)
            rw [← b5] at hg6
            generalize va.getD x.i.toNat default = vk at *
            generalize vl.getD x.i.toNat default = ut at *
            have hd1 : decide (x.i < 0) = false := decide_eq_false (by omega)
            have hd2 : decide (x.i ≥ (va.length : Int)) = false := decide_eq_false (by omega)
            ((repeat refine PWp.seq ?_); refine PWp.draw TT (by kernel_rfl) (by kernel_rfl) (by rfl) (by rfl) (fun K hK => ?_); simp only [push_cast, seval, Nat.reduceEqDiff, Nat.reduceLeDiff, reduceCtorEq, hg, hg2, hg4, hg5, hg6, hd1, hd2]; (repeat refine sk ?_); refine hK _ ?_; clear hK K)
            ((repeat refine PWp.seq ?_); refine PWp.cond (by simp only [push_cast, seval, Nat.reduceEqDiff, Nat.reduceLeDiff, reduceCtorEq]; rfl) (fun hc => ?_) (fun hc => ?_))
            · simp at hc
            · clear hc
              ((repeat refine PWp.seq ?_); refine PWp.skip ?_)
              ((repeat refine PWp.seq ?_); refine PWp.draw TT (by kernel_rfl) (by kernel_rfl) (by rfl) (by rfl) (fun K hK => ?_); simp only [push_cast, seval, Nat.reduceEqDiff, Nat.reduceLeDiff, reduceCtorEq, hg, hg7]; (repeat refine sk ?_); refine hK _ ?_; clear hK K)
              ((repeat refine PWp.seq ?_); refine PWp.region TT (by rfl) (fun K hK => ?_); simp only [push_cast, seval, Nat.reduceEqDiff, Nat.reduceLeDiff, reduceCtorEq, hg3, b6]; (repeat refine sk ?_); refine hK _ ?_; clear hK K)
              ((repeat refine PWp.seq ?_); refine PWp.cond (by simp only [push_cast, seval, Nat.reduceEqDiff, Nat.reduceLeDiff, reduceCtorEq]; rfl) (fun hc => ?_) (fun hc => ?_))
              · simp at hc
              · clear hc
                ((repeat refine PWp.seq ?_); refine PWp.skip ?_)
                ((repeat refine PWp.seq ?_); refine PWp.region TT (by rfl) (fun K hK => ?_); simp only [push_cast, seval, Nat.reduceEqDiff, Nat.reduceLeDiff, reduceCtorEq, wrap64_id (n := (k : Int) + 1) (by omega) (by omega)]; (repeat refine sk ?_); refine hK _ ?_; clear hK K)
                refine ⟨_, _, ?_, ⟨k + 1, rfl, by omega, rfl⟩, Gh.le (by simp [push_cast, -List.getD_eq_getElem?_getD]) (by simp)⟩
                omega
          · obtain ⟨b1, b2⟩ := a4 hc
            clear hc a3 a4
            subst b1
            ((repeat refine PWp.seq ?_); refine PWp.draw TT (by kernel_rfl) (by kernel_rfl) (by rfl) (by rfl) (fun K hK => ?_); simp only [push_cast, seval, Nat.reduceEqDiff, Nat.reduceLeDiff, reduceCtorEq, hg2, hg4, newIt]; (repeat refine sk ?_); refine hK _ ?_; clear hK K)
            ((repeat refine PWp.seq ?_); refine PWp.cond (by simp only [push_cast, seval, Nat.reduceEqDiff, Nat.reduceLeDiff, reduceCtorEq]; rfl) (fun hc => ?_) (fun hc => ?_))
            · simp at hc
            · clear hc
              ((repeat refine PWp.seq ?_); refine PWp.skip ?_)
              ((repeat refine PWp.seq ?_); refine PWp.region TT (by rfl) (fun K hK => ?_); simp only [push_cast, seval, Nat.reduceEqDiff, Nat.reduceLeDiff, reduceCtorEq, hg3, b2]; (repeat refine sk ?_); refine hK _ ?_; clear hK K)
              ((repeat refine PWp.seq ?_); refine PWp.cond (by simp only [push_cast, seval, Nat.reduceEqDiff, Nat.reduceLeDiff, reduceCtorEq]; rfl) (fun hc => ?_) (fun hc => ?_))
              · simp at hc
              · clear hc
                ((repeat refine PWp.seq ?_); refine PWp.skip ?_)
                ((repeat refine PWp.seq ?_); refine PWp.region TT (by rfl) (fun K hK => ?_); simp only [push_cast, seval, Nat.reduceEqDiff, Nat.reduceLeDiff, reduceCtorEq, wrap64_id (n := (k : Int) + 1) (by omega) (by omega)]; (repeat refine sk ?_); refine hK _ ?_; clear hK K)
                refine ⟨_, _, ?_, ⟨k + 1, rfl, by omega, rfl⟩, Gh.le (by simp [push_cast, -List.getD_eq_getElem?_getD]) (by simp)⟩
                omega
        · have hk' : k = m.length := by simp at hc; omega
          subst hk'
          (repeat refine PWp.seq ?_); refine PWp.exit (iteT rfl ?_)
          ((repeat refine PWp.seq ?_); refine PWp.region TT (by rfl) (fun K hK => ?_); simp only [push_cast, seval, Nat.reduceEqDiff, Nat.reduceLeDiff, reduceCtorEq])
          ((repeat refine sk ?_); refine PCall.use (live18) [] rfl (by simp [push_cast]) (by simp) (by simp [push_cast]) (by simp [push_cast]) (by simp [push_cast]) (by simp [push_cast]) ?_)
          rintro _ _ ⟨rfl, rfl⟩
          (simp only [push_cast, seval, Nat.reduceEqDiff, Nat.reduceLeDiff, reduceCtorEq]; (repeat refine sk ?_); refine hK _ ?_; clear hK K)
          ((repeat refine PWp.seq ?_); refine PWp.ret ?_)
          refine ⟨.inr rfl, by omega, _, [], ?_, rfl, rfl⟩
          (simp [push_cast, -List.getD_eq_getElem?_getD])
end Go.Proofs.Ytanopjcfackblaa
