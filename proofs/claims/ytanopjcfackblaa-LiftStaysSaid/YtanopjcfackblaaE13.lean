/- Walk of LiftStays. -/
import Derived.Test.YtanopjcfackblaaE12
namespace Go.Proofs.Ytanopjcfackblaa
open Go.PL
set_option maxRecDepth 100000
set_option linter.unusedSimpArgs false
set_option linter.unusedVariables false
set_option maxHeartbeats 1000000 in
theorem LiftStays_walk (l : List It) (ls : List Ln) (p : List Int) (s : Lb) (m : List Md) (n : Int) (hp : p.length ≤ 9223372036854775807) : PC Try.prog 6 [iIt l, iV ls p, iLb s, iMd m, iI n] [] 0 400 (fun t obs => t = iB true ∧ obs = []) := by
  have h00 : ((0 : Int) != 0) = false := rfl
  have h77 : ((7 : Int) != 7) = false := rfl
  refine PC.body [10] Try.func6 rfl (by rfl) (Nat.le_of_ble_eq_true (by rfl)) rfl ?_; simp only [enumA]
  ((repeat refine PWp.seq ?_); refine PWp.region TT (by rfl) (fun K hK => ?_); simp only [push_cast, seval, Nat.reduceEqDiff, Nat.reduceLeDiff, reduceCtorEq]; (repeat refine sk ?_); refine hK _ ?_; clear hK K)
  ((repeat refine PWp.seq ?_); refine PWp.region TT (by rfl) (fun K hK => ?_); simp only [push_cast, seval, Nat.reduceEqDiff, Nat.reduceLeDiff, reduceCtorEq])
  ((repeat refine sk ?_); refine PCall.use (few18 l m) [] rfl (by simp [push_cast]) (by simp) (by simp [push_cast]) (by simp [push_cast]) (by simp [push_cast]) (by simp [push_cast]) ?_)
  rintro _ _ ⟨rfl, rfl⟩
  have hl := few_len l
  have hm := few_len m
  generalize l.take 40 = l at *
  generalize m.take 40 = m at *
  (simp only [push_cast, seval, Nat.reduceEqDiff, Nat.reduceLeDiff, reduceCtorEq]; (repeat refine sk ?_); refine hK _ ?_; clear hK K)
  ((repeat refine PWp.seq ?_); refine PWp.region TT (by rfl) (fun K hK => ?_); simp only [push_cast, seval, Nat.reduceEqDiff, Nat.reduceLeDiff, reduceCtorEq]; (repeat refine sk ?_); refine hK _ ?_; clear hK K)
  refine PWp.gh (Gh.row 11 46 4 (by rfl)) ?_
  ((repeat refine PWp.seq ?_); refine PWp.region TT (by rfl) (fun K hK => ?_); simp only [push_cast, seval, Nat.reduceEqDiff, Nat.reduceLeDiff, reduceCtorEq]; (repeat refine sk ?_); refine hK _ ?_; clear hK K)
  ((repeat refine PWp.seq ?_); refine PWp.block ?_)
  refine PWp.loop (fun c st => ∃ k : Nat, c = 50 - k ∧ k ≤ 50 ∧ k ≤ p.length ∧
    st = ⟨[(0, iIt l), (3, iMd m), (4, iI n), (6, .bptr 0 0), (7, .bptr 1 0), (11, .acc 2 4 ((smM k).map encMd)), (12, iI k)], [(0, .box 26 [.iv (.sl 2 (ls.map encL)), iN p]), (1, .box 29 [iI s.v, .iv (.lit (.int .u64 s.c))]), (2, .row 46 4)], 3⟩) _ _ ⟨0, rfl, Nat.zero_le _, Nat.zero_le _, rfl⟩ (Gh.le (by simp [push_cast, -List.getD_eq_getElem?_getD, smM]) (by simp)) ?_
  rintro c st ⟨k, rfl, hk, hkp, rfl⟩
  ((repeat refine PWp.seq ?_); refine PWp.region TT (by rfl) (fun K hK => ?_); simp only [push_cast, seval, Nat.reduceEqDiff, Nat.reduceLeDiff, reduceCtorEq]; (repeat refine sk ?_); refine hK _ ?_; clear hK K)
  ((repeat refine PWp.seq ?_); refine PWp.cond (by simp only [push_cast, seval, Nat.reduceEqDiff, Nat.reduceLeDiff, reduceCtorEq]; rfl) (fun hc => ?_) (fun hc => ?_))
  · have hlt : k < p.length ∧ k < 50 := by simp at hc; omega
    clear hc
    have hs := smM_succ k
    have hsl := smM_length k
    ((repeat refine PWp.seq ?_); refine PWp.skip ?_)
    ((repeat refine PWp.seq ?_); refine PWp.block ?_)
    ((repeat refine PWp.seq ?_); refine PWp.region TT (by rfl) (fun K hK => ?_); simp only [push_cast, seval, Nat.reduceEqDiff, Nat.reduceLeDiff, reduceCtorEq]; (repeat refine sk ?_); refine hK _ ?_; clear hK K)
    ((repeat refine PWp.seq ?_); refine PWp.region TT (by rfl) (fun K hK => ?_); simp only [push_cast, seval, Nat.reduceEqDiff, Nat.reduceLeDiff, reduceCtorEq, wrap64_id (n := (k : Int) + 1) (by omega) (by omega)]; (repeat refine sk ?_); refine hK _ ?_; clear hK K)
    refine ⟨_, _, ?_, ⟨k + 1, rfl, by omega, by omega, rfl⟩, Gh.le (by simp [push_cast, -List.getD_eq_getElem?_getD, hs, show ByteArray.empty = ⟨#[]⟩ from rfl]) (by simp)⟩
    omega
  · have hk' : k = p.length ∨ k = 50 := by simp at hc; omega
    clear hc
    have hsl := smM_length k
    have hsk := smM_kept k
    have hsa : k = p.length → riF l.length (-1) p = true → liftN l p s (smM k) 7 l.length = l := fun e h => by subst e; exact same_all h
    (repeat refine PWp.seq ?_); refine PWp.exit (iteT rfl ?_)
    refine PWp.gh (st' := ⟨[(0, iIt l), (3, iMd m), (4, iI n), (6, .bptr 0 0), (7, .bptr 1 0), (11, iMd (smM k))], [(0, .box 26 [.iv (.sl 2 (ls.map encL)), iN p]), (1, .box 29 [iI s.v, .iv (.lit (.int .u64 s.c))])], 2⟩) (Gh.le (by simp [push_cast, -List.getD_eq_getElem?_getD]) (by simp)) ?_
    ((repeat refine PWp.seq ?_); refine PWp.region TT (by rfl) (fun K hK => ?_); simp only [push_cast, seval, Nat.reduceEqDiff, Nat.reduceLeDiff, reduceCtorEq])
    ((repeat refine sk ?_); refine PCall.use (lift_Lift l ls p s (smM k) 7 (by omega) hp (by omega)) [] rfl (by simp [push_cast]) (by simp) (by simp [push_cast]) (by simp [push_cast]) (by simp [push_cast]) (by simp [push_cast]) ?_)
    have rest : ∀ e : Int, ∀ W : List It, True := fun _ _ => trivial
    rintro _ _ (⟨hE, rfl, rfl⟩ | ⟨hE, rfl, rfl⟩)
    · have hE' : (liftE l p s (smM k) 7 == 0) = false := by simpa using hE
      generalize liftE l p s (smM k) 7 = e at *
      (simp only [push_cast, seval, Nat.reduceEqDiff, Nat.reduceLeDiff, reduceCtorEq]; (repeat refine sk ?_); refine hK _ ?_; clear hK K)
      ((repeat refine PWp.seq ?_); refine PWp.region TT (by rfl) (fun K hK => ?_); simp only [push_cast, seval, Nat.reduceEqDiff, Nat.reduceLeDiff, reduceCtorEq, hE']; (repeat refine sk ?_); refine hK _ ?_; clear hK K)
      ((repeat refine PWp.seq ?_); refine PWp.cond (by simp only [push_cast, seval, Nat.reduceEqDiff, Nat.reduceLeDiff, reduceCtorEq]; rfl) (fun hc => ?_) (fun hc => ?_))
      · cases hc
      · clear hc
        ((repeat refine PWp.seq ?_); refine PWp.skip ?_)
        refine PWp.gh (st' := ⟨[(0, iIt l), (3, iMd m), (4, iI n), (6, .bptr 0 0), (7, .bptr 1 0)], [(0, .box 26 [.iv (.sl 2 (ls.map encL)), iN p]), (1, .box 29 [iI s.v, .iv (.lit (.int .u64 s.c))])], 2⟩) (Gh.le (by simp [push_cast, -List.getD_eq_getElem?_getD]) (by simp)) ?_
        ((repeat refine PWp.seq ?_); refine PWp.region TT (by rfl) (fun K hK => ?_); simp only [push_cast, seval, Nat.reduceEqDiff, Nat.reduceLeDiff, reduceCtorEq])
        ((repeat refine sk ?_); refine PCall.use (lift_Lift l ls p s m n (by omega) hp (by omega)) [] rfl (by simp [push_cast]) (by simp) (by simp [push_cast]) (by simp [push_cast]) (by simp [push_cast]) (by simp [push_cast]) ?_)
        rintro _ _ (⟨hE, rfl, rfl⟩ | ⟨hE, rfl, rfl⟩)
        · have hE' : (liftE l p s m n != 0) = true := by simpa using hE
          generalize liftE l p s m n = e at *
          (simp only [push_cast, seval, Nat.reduceEqDiff, Nat.reduceLeDiff, reduceCtorEq]; (repeat refine sk ?_); refine hK _ ?_; clear hK K)
          ((repeat refine PWp.seq ?_); refine PWp.region TT (by rfl) (fun K hK => ?_); simp only [push_cast, seval, Nat.reduceEqDiff, Nat.reduceLeDiff, reduceCtorEq, hE']; (repeat refine sk ?_); refine hK _ ?_; clear hK K)
          ((repeat refine PWp.seq ?_); refine PWp.cond (by simp only [push_cast, seval, Nat.reduceEqDiff, Nat.reduceLeDiff, reduceCtorEq]; rfl) (fun hc => ?_) (fun hc => ?_))
          · clear hc
            ((repeat refine PWp.seq ?_); refine PWp.region TT (by rfl) (fun K hK => ?_); simp only [push_cast, seval, Nat.reduceEqDiff, Nat.reduceLeDiff, reduceCtorEq])
            ((repeat refine sk ?_); refine PCall.use (live18) [] rfl (by simp [push_cast]) (by simp) (by simp [push_cast]) (by simp [push_cast]) (by simp [push_cast]) (by simp [push_cast]) ?_)
            rintro _ _ ⟨rfl, rfl⟩
            (simp only [push_cast, seval, Nat.reduceEqDiff, Nat.reduceLeDiff, reduceCtorEq]; (repeat refine sk ?_); refine hK _ ?_; clear hK K)
            ((repeat refine PWp.seq ?_); refine PWp.ret ?_)
            refine ⟨.inr rfl, by omega, _, [], ?_, rfl, rfl⟩
            (simp [push_cast, -List.getD_eq_getElem?_getD])
          · cases hc
        · obtain ⟨hcz, _, _⟩ := liftE_chk hE
          have hpl := riF_len (chkF_zero hcz).1 (by omega)
          have hlen := liftN_length (n := n) hcz
          have hst := stays (n := n) hcz
          have hWl := liftN_le (p := p) (s := s) (n := n) hl hm
          generalize liftN l p s m n l.length = W at *
          (simp only [push_cast, seval, Nat.reduceEqDiff, Nat.reduceLeDiff, reduceCtorEq]; (repeat refine sk ?_); refine hK _ ?_; clear hK K)
          refine PWp.gh (Gh.freeze 4 (by rfl)) ?_
          refine PWp.gh (st' := ⟨[(0, iIt l), (3, iMd m), (6, .bptr 0 0), (16, iIt W), (18, iI 0)], [(0, .box 26 [.iv (.sl 2 (ls.map encL)), iN p])], 1⟩) (Gh.le (by simp [push_cast, -List.getD_eq_getElem?_getD]) (by simp)) ?_
          ((repeat refine PWp.seq ?_); refine PWp.region TT (by rfl) (fun K hK => ?_); simp only [push_cast, seval, Nat.reduceEqDiff, Nat.reduceLeDiff, reduceCtorEq, h00]; (repeat refine sk ?_); refine hK _ ?_; clear hK K)
          ((repeat refine PWp.seq ?_); refine PWp.cond (by simp only [push_cast, seval, Nat.reduceEqDiff, Nat.reduceLeDiff, reduceCtorEq]; rfl) (fun hc => ?_) (fun hc => ?_))
          · cases hc
          · clear hc
            ((repeat refine PWp.seq ?_); refine PWp.skip ?_)
            ((repeat refine PWp.seq ?_); refine PWp.region TT (by rfl) (fun K hK => ?_); simp only [push_cast, seval, Nat.reduceEqDiff, Nat.reduceLeDiff, reduceCtorEq]; (repeat refine sk ?_); refine hK _ ?_; clear hK K)
            ((repeat refine PWp.seq ?_); refine PWp.region TT (by rfl) (fun K hK => ?_); simp only [push_cast, seval, Nat.reduceEqDiff, Nat.reduceLeDiff, reduceCtorEq]; (repeat refine sk ?_); refine hK _ ?_; clear hK K)
            ((repeat refine PWp.seq ?_); refine PWp.block ?_)
            refine PWp.loop (fun c st => ∃ (k q : Nat), c = l.length - k ∧ k ≤ l.length ∧ q ≤ W.length ∧ (seg (nvF l p) k l.length).Sublist (W.drop q) ∧
              st = ⟨[(0, iIt l), (3, iMd m), (6, .bptr 0 0), (16, iIt W), (19, iI q), (20, iI k)], [(0, .box 26 [.iv (.sl 2 (ls.map encL)), iN p])], 1⟩) _ _ ⟨0, 0, rfl, Nat.zero_le _, Nat.zero_le _, by simpa using hst, rfl⟩ (Gh.le (by simp [push_cast, -List.getD_eq_getElem?_getD]) (by simp)) ?_
            rintro c st ⟨k, q, rfl, hk, hq, hsub, rfl⟩
            ((repeat refine PWp.seq ?_); refine PWp.region TT (by rfl) (fun K hK => ?_); simp only [push_cast, seval, Nat.reduceEqDiff, Nat.reduceLeDiff, reduceCtorEq]; (repeat refine sk ?_); refine hK _ ?_; clear hK K)
            ((repeat refine PWp.seq ?_); refine PWp.cond (by simp only [push_cast, seval, Nat.reduceEqDiff, Nat.reduceLeDiff, reduceCtorEq]; rfl) (fun hc => ?_) (fun hc => ?_))
            · have hlt : k < l.length := by simpa using hc
              clear hc
              ((repeat refine PWp.seq ?_); refine PWp.skip ?_)
              ((repeat refine PWp.seq ?_); refine PWp.block ?_)
              ((repeat refine PWp.seq ?_); refine PWp.region TT (by rfl) (fun K hK => ?_); simp only [push_cast, seval, Nat.reduceEqDiff, Nat.reduceLeDiff, reduceCtorEq]; (repeat refine sk ?_); refine hK _ ?_; clear hK K)
              ((repeat refine PWp.seq ?_); refine PWp.region TT (by rfl) (fun K hK => ?_); simp only [push_cast, seval, Nat.reduceEqDiff, Nat.reduceLeDiff, reduceCtorEq]; (repeat refine sk ?_); refine hK _ ?_; clear hK K)
              ((repeat refine PWp.seq ?_); refine PWp.block ?_)
              refine PWp.loop (fun c st => ∃ j : Nat, c = p.length - j ∧ j ≤ p.length ∧
                st = ⟨[(0, iIt l), (3, iMd m), (6, .bptr 0 0), (16, iIt W), (19, iI q), (20, iI k), (21, iB ((p.take j).contains (k : Int))), (22, iI j)], [(0, .box 26 [.iv (.sl 2 (ls.map encL)), iN p])], 1⟩) _ _ ⟨0, rfl, Nat.zero_le _, rfl⟩ (Gh.le (by simp [push_cast, -List.getD_eq_getElem?_getD]) (by simp)) ?_
              rintro c st ⟨j, rfl, hj, rfl⟩
              ((repeat refine PWp.seq ?_); refine PWp.region TT (by rfl) (fun K hK => ?_); simp only [push_cast, seval, Nat.reduceEqDiff, Nat.reduceLeDiff, reduceCtorEq]; (repeat refine sk ?_); refine hK _ ?_; clear hK K)
              ((repeat refine PWp.seq ?_); refine PWp.cond (by simp only [push_cast, seval, Nat.reduceEqDiff, Nat.reduceLeDiff, reduceCtorEq]; rfl) (fun hc => ?_) (fun hc => ?_))
              · have hjl : j < p.length := by simpa using hc
                clear hc
                have hg : (p.map encI).getD j .any = encI (p.getD j default) := getD_map hjl
                have hcs : (p.take (j + 1)).contains (k : Int) = ((p.take j).contains (k : Int) || (p.getD j default == (k : Int))) := by
                  rw [take_succ_getD hjl, List.contains_append, List.contains_cons, List.contains_nil, Bool.or_false, Bool.eq_iff_iff, Bool.or_eq_true, Bool.or_eq_true, beq_iff_eq, beq_iff_eq]
                  exact ⟨fun h => h.imp id Eq.symm, fun h => h.imp id Eq.symm⟩
                generalize p.getD j default = x at *
                ((repeat refine PWp.seq ?_); refine PWp.skip ?_)
                ((repeat refine PWp.seq ?_); refine PWp.block ?_)
                ((repeat refine PWp.seq ?_); refine PWp.region TT (by rfl) (fun K hK => ?_); simp only [push_cast, seval, Nat.reduceEqDiff, Nat.reduceLeDiff, reduceCtorEq, hg]; (repeat refine sk ?_); refine hK _ ?_; clear hK K)
                ((repeat refine PWp.seq ?_); refine PWp.region TT (by rfl) (fun K hK => ?_); simp only [push_cast, seval, Nat.reduceEqDiff, Nat.reduceLeDiff, reduceCtorEq, wrap64_id (n := (j : Int) + 1) (by omega) (by omega)]; (repeat refine sk ?_); refine hK _ ?_; clear hK K)
                refine ⟨_, _, ?_, ⟨j + 1, rfl, by omega, rfl⟩, Gh.le (by simp [push_cast, -List.getD_eq_getElem?_getD, hcs, -List.contains_eq_mem]) (by simp)⟩
                omega
              · have hj' : j = p.length := by simp at hc; omega
                subst hj'
                rw [List.take_length]
                (repeat refine PWp.seq ?_); refine PWp.exit (iteT rfl ?_)
                ((repeat refine PWp.seq ?_); refine PWp.region TT (by rfl) (fun K hK => ?_); simp only [push_cast, seval, Nat.reduceEqDiff, Nat.reduceLeDiff, reduceCtorEq]; (repeat refine sk ?_); refine hK _ ?_; clear hK K)
                have hseg : seg (nvF l p) k l.length = nvF l p k ++ seg (nvF l p) (k + 1) l.length := by
                  rw [seg_split _ (Nat.le_succ k) hlt, seg_one]
                rw [hseg] at hsub
                unfold nvF at hsub
                ((repeat refine PWp.seq ?_); refine PWp.cond (by simp only [push_cast, seval, Nat.reduceEqDiff, Nat.reduceLeDiff, reduceCtorEq]; rfl) (fun hc => ?_) (fun hc => ?_))
                · rw [if_pos hc, List.nil_append] at hsub
                  (repeat refine PWp.seq ?_); refine PWp.exit (iteT rfl ?_)
                  ((repeat refine PWp.seq ?_); refine PWp.region TT (by rfl) (fun K hK => ?_); simp only [push_cast, seval, Nat.reduceEqDiff, Nat.reduceLeDiff, reduceCtorEq, wrap64_id (n := (k : Int) + 1) (by omega) (by omega)]; (repeat refine sk ?_); refine hK _ ?_; clear hK K)
                  refine ⟨_, _, ?_, ⟨k + 1, q, rfl, by omega, hq, hsub, rfl⟩, Gh.le (by simp [push_cast, -List.getD_eq_getElem?_getD]) (by simp)⟩
                  omega
                · rw [hc, if_neg (by decide), List.cons_append, List.nil_append] at hsub
                  clear hc
                  change (l.getD k default :: seg (nvF l p) (k + 1) l.length).Sublist (W.drop q) at hsub
                  ((repeat refine PWp.seq ?_); refine PWp.skip ?_)
                  have hgl : (l.map encIt).getD k .any = encIt (l.getD k default) := getD_map hlt
                  generalize l.getD k default = y at *
                  ((repeat refine PWp.seq ?_); refine PWp.block ?_)
                  refine PWp.loop (fun c st => ∃ j : Nat, c = W.length - j ∧ j ≤ W.length ∧ (y :: seg (nvF l p) (k + 1) l.length).Sublist (W.drop j) ∧
                    st = ⟨[(0, iIt l), (3, iMd m), (6, .bptr 0 0), (16, iIt W), (19, iI j), (20, iI k)], [(0, .box 26 [.iv (.sl 2 (ls.map encL)), iN p])], 1⟩) _ _ ⟨q, rfl, hq, hsub, rfl⟩ (Gh.le (by simp [push_cast, -List.getD_eq_getElem?_getD]) (by simp)) ?_
                  rintro c st ⟨j, rfl, hj, hsj, rfl⟩
                  by_cases hjl : j < W.length
                  · have hgw : (W.map encIt).getD j .any = encIt (W.getD j default) := getD_map hjl
                    rw [drop_getD hjl] at hsj
                    have hst2 := sub_step hsj
                    generalize W.getD j default = z at *
                    ((repeat refine PWp.seq ?_); refine PWp.draw TT (by kernel_rfl) (by kernel_rfl) (by rfl) (by rfl) (fun K hK => ?_); simp only [push_cast, seval, Nat.reduceEqDiff, Nat.reduceLeDiff, reduceCtorEq, hgw, hgl]; (repeat refine sk ?_); refine hK _ ?_; clear hK K)
                    ((repeat refine PWp.seq ?_); refine PWp.cond (by simp only [push_cast, seval, Nat.reduceEqDiff, Nat.reduceLeDiff, reduceCtorEq]; rfl) (fun hc => ?_) (fun hc => ?_))
                    · have hne : y ≠ z := fun e => by
                        subst e
                        simp at hc
                      clear hc
                      ((repeat refine PWp.seq ?_); refine PWp.skip ?_)
                      ((repeat refine PWp.seq ?_); refine PWp.block ?_)
                      ((repeat refine PWp.seq ?_); refine PWp.region TT (by rfl) (fun K hK => ?_); simp only [push_cast, seval, Nat.reduceEqDiff, Nat.reduceLeDiff, reduceCtorEq, wrap64_id (n := (j : Int) + 1) (by omega) (by omega)]; (repeat refine sk ?_); refine hK _ ?_; clear hK K)
                      refine ⟨_, _, ?_, ⟨j + 1, rfl, by omega, hst2.1 hne, rfl⟩, Gh.le (by simp [push_cast, -List.getD_eq_getElem?_getD]) (by simp)⟩
                      omega
                    · clear hc
                      (repeat refine PWp.seq ?_); refine PWp.exit (iteT rfl ?_)
                      ((repeat refine PWp.seq ?_); refine PWp.region TT (by rfl) (fun K hK => ?_); simp only [push_cast, seval, Nat.reduceEqDiff, Nat.reduceLeDiff, reduceCtorEq]; (repeat refine sk ?_); refine hK _ ?_; clear hK K)
                      ((repeat refine PWp.seq ?_); refine PWp.cond (by simp only [push_cast, seval, Nat.reduceEqDiff, Nat.reduceLeDiff, reduceCtorEq]; rfl) (fun hc => ?_) (fun hc => ?_))
                      · exfalso
                        simp at hc
                        omega
                      · ((repeat refine PWp.seq ?_); refine PWp.skip ?_)
                        ((repeat refine PWp.seq ?_); refine PWp.region TT (by rfl) (fun K hK => ?_); simp only [push_cast, seval, Nat.reduceEqDiff, Nat.reduceLeDiff, reduceCtorEq, wrap64_id (n := (j : Int) + 1) (by omega) (by omega)]; (repeat refine sk ?_); refine hK _ ?_; clear hK K)
                        ((repeat refine PWp.seq ?_); refine PWp.region TT (by rfl) (fun K hK => ?_); simp only [push_cast, seval, Nat.reduceEqDiff, Nat.reduceLeDiff, reduceCtorEq, wrap64_id (n := (k : Int) + 1) (by omega) (by omega)]; (repeat refine sk ?_); refine hK _ ?_; clear hK K)
                        refine ⟨_, _, ?_, ⟨k + 1, j + 1, rfl, by omega, by omega, hst2.2, rfl⟩, Gh.le (by simp [push_cast, -List.getD_eq_getElem?_getD]) (by simp)⟩
                        omega
                  · exfalso
                    rw [List.drop_eq_nil_of_le (by omega)] at hsj
                    exact absurd (List.eq_nil_of_sublist_nil hsj) (by simp)
            · have hk' : k = l.length := by simp at hc; omega
              subst hk'
              (repeat refine PWp.seq ?_); refine PWp.exit (iteT rfl ?_)
              ((repeat refine PWp.seq ?_); refine PWp.region TT (by rfl) (fun K hK => ?_); simp only [push_cast, seval, Nat.reduceEqDiff, Nat.reduceLeDiff, reduceCtorEq])
              ((repeat refine sk ?_); refine PCall.use (live18) [] rfl (by simp [push_cast]) (by simp) (by simp [push_cast]) (by simp [push_cast]) (by simp [push_cast]) (by simp [push_cast]) ?_)
              rintro _ _ ⟨rfl, rfl⟩
              (simp only [push_cast, seval, Nat.reduceEqDiff, Nat.reduceLeDiff, reduceCtorEq, wrap64_id (n := (l.length : Int) - p.length) (by omega) (by omega), wrap64_id (n := (l.length : Int) - p.length + m.length) (by omega) (by omega), hlen]; (repeat refine sk ?_); refine hK _ ?_; clear hK K)
              ((repeat refine PWp.seq ?_); refine PWp.ret ?_)
              refine ⟨.inr rfl, by omega, _, [], ?_, rfl, rfl⟩
              (simp [push_cast, -List.getD_eq_getElem?_getD])
    · obtain ⟨hcz, _, _⟩ := liftE_chk hE
      obtain ⟨h1, _, _, _⟩ := chkF_zero hcz
      have hpl := riF_len h1 (by omega)
      rw [hsa (by omega) h1]
      have h7 : (7 : Int) + ((smM k).length - (keptF (smM k)).length) = 7 := by omega
      rw [h7]
      (simp only [push_cast, seval, Nat.reduceEqDiff, Nat.reduceLeDiff, reduceCtorEq]; (repeat refine sk ?_); refine hK _ ?_; clear hK K)
      refine PWp.gh (Gh.freeze 4 (by rfl)) ?_
      refine PWp.gh (st' := ⟨[(0, iIt l), (3, iMd m), (4, iI n), (6, .bptr 0 0), (7, .bptr 1 0), (13, iIt l), (14, iI 7), (15, iI 0)], [(0, .box 26 [.iv (.sl 2 (ls.map encL)), iN p]), (1, .box 29 [iI s.v, .iv (.lit (.int .u64 s.c))])], 2⟩) (Gh.le (by simp [push_cast, -List.getD_eq_getElem?_getD]) (by simp)) ?_
      ((repeat refine PWp.seq ?_); refine PWp.region TT (by rfl) (fun K hK => ?_); simp only [push_cast, seval, Nat.reduceEqDiff, Nat.reduceLeDiff, reduceCtorEq])
      ((repeat refine sk ?_); refine PCall.use (ref04_Same l l (by omega)) [] rfl (by simp [push_cast]) (by simp) (by simp [push_cast]) (by simp [push_cast]) (by simp [push_cast]) (by simp [push_cast]) ?_)
      rintro _ _ ⟨rfl, rfl⟩
      rw [decide_eq_true (rfl : l = l)]
      (simp only [push_cast, seval, Nat.reduceEqDiff, Nat.reduceLeDiff, reduceCtorEq, h77]; (repeat refine sk ?_); refine hK _ ?_; clear hK K)
      ((repeat refine PWp.seq ?_); refine PWp.cond (by simp only [push_cast, seval, Nat.reduceEqDiff, Nat.reduceLeDiff, reduceCtorEq]; rfl) (fun hc => ?_) (fun hc => ?_))
      · cases hc
      · clear hc
        ((repeat refine PWp.seq ?_); refine PWp.skip ?_)
        refine PWp.gh (st' := ⟨[(0, iIt l), (3, iMd m), (4, iI n), (6, .bptr 0 0), (7, .bptr 1 0)], [(0, .box 26 [.iv (.sl 2 (ls.map encL)), iN p]), (1, .box 29 [iI s.v, .iv (.lit (.int .u64 s.c))])], 2⟩) (Gh.le (by simp [push_cast, -List.getD_eq_getElem?_getD]) (by simp)) ?_
        ((repeat refine PWp.seq ?_); refine PWp.region TT (by rfl) (fun K hK => ?_); simp only [push_cast, seval, Nat.reduceEqDiff, Nat.reduceLeDiff, reduceCtorEq])
        ((repeat refine sk ?_); refine PCall.use (lift_Lift l ls p s m n (by omega) hp (by omega)) [] rfl (by simp [push_cast]) (by simp) (by simp [push_cast]) (by simp [push_cast]) (by simp [push_cast]) (by simp [push_cast]) ?_)
        rintro _ _ (⟨hE, rfl, rfl⟩ | ⟨hE, rfl, rfl⟩)
        · have hE' : (liftE l p s m n != 0) = true := by simpa using hE
          generalize liftE l p s m n = e at *
          (simp only [push_cast, seval, Nat.reduceEqDiff, Nat.reduceLeDiff, reduceCtorEq]; (repeat refine sk ?_); refine hK _ ?_; clear hK K)
          ((repeat refine PWp.seq ?_); refine PWp.region TT (by rfl) (fun K hK => ?_); simp only [push_cast, seval, Nat.reduceEqDiff, Nat.reduceLeDiff, reduceCtorEq, hE']; (repeat refine sk ?_); refine hK _ ?_; clear hK K)
          ((repeat refine PWp.seq ?_); refine PWp.cond (by simp only [push_cast, seval, Nat.reduceEqDiff, Nat.reduceLeDiff, reduceCtorEq]; rfl) (fun hc => ?_) (fun hc => ?_))
          · clear hc
            ((repeat refine PWp.seq ?_); refine PWp.region TT (by rfl) (fun K hK => ?_); simp only [push_cast, seval, Nat.reduceEqDiff, Nat.reduceLeDiff, reduceCtorEq])
            ((repeat refine sk ?_); refine PCall.use (live18) [] rfl (by simp [push_cast]) (by simp) (by simp [push_cast]) (by simp [push_cast]) (by simp [push_cast]) (by simp [push_cast]) ?_)
            rintro _ _ ⟨rfl, rfl⟩
            (simp only [push_cast, seval, Nat.reduceEqDiff, Nat.reduceLeDiff, reduceCtorEq]; (repeat refine sk ?_); refine hK _ ?_; clear hK K)
            ((repeat refine PWp.seq ?_); refine PWp.ret ?_)
            refine ⟨.inr rfl, by omega, _, [], ?_, rfl, rfl⟩
            (simp [push_cast, -List.getD_eq_getElem?_getD])
          · cases hc
        · obtain ⟨hcz, _, _⟩ := liftE_chk hE
          have hpl := riF_len (chkF_zero hcz).1 (by omega)
          have hlen := liftN_length (n := n) hcz
          have hst := stays (n := n) hcz
          have hWl := liftN_le (p := p) (s := s) (n := n) hl hm
          generalize liftN l p s m n l.length = W at *
          (simp only [push_cast, seval, Nat.reduceEqDiff, Nat.reduceLeDiff, reduceCtorEq]; (repeat refine sk ?_); refine hK _ ?_; clear hK K)
          refine PWp.gh (Gh.freeze 4 (by rfl)) ?_
          refine PWp.gh (st' := ⟨[(0, iIt l), (3, iMd m), (6, .bptr 0 0), (16, iIt W), (18, iI 0)], [(0, .box 26 [.iv (.sl 2 (ls.map encL)), iN p])], 1⟩) (Gh.le (by simp [push_cast, -List.getD_eq_getElem?_getD]) (by simp)) ?_
          ((repeat refine PWp.seq ?_); refine PWp.region TT (by rfl) (fun K hK => ?_); simp only [push_cast, seval, Nat.reduceEqDiff, Nat.reduceLeDiff, reduceCtorEq, h00]; (repeat refine sk ?_); refine hK _ ?_; clear hK K)
          ((repeat refine PWp.seq ?_); refine PWp.cond (by simp only [push_cast, seval, Nat.reduceEqDiff, Nat.reduceLeDiff, reduceCtorEq]; rfl) (fun hc => ?_) (fun hc => ?_))
          · cases hc
          · clear hc
            ((repeat refine PWp.seq ?_); refine PWp.skip ?_)
            ((repeat refine PWp.seq ?_); refine PWp.region TT (by rfl) (fun K hK => ?_); simp only [push_cast, seval, Nat.reduceEqDiff, Nat.reduceLeDiff, reduceCtorEq]; (repeat refine sk ?_); refine hK _ ?_; clear hK K)
            ((repeat refine PWp.seq ?_); refine PWp.region TT (by rfl) (fun K hK => ?_); simp only [push_cast, seval, Nat.reduceEqDiff, Nat.reduceLeDiff, reduceCtorEq]; (repeat refine sk ?_); refine hK _ ?_; clear hK K)
            ((repeat refine PWp.seq ?_); refine PWp.block ?_)
            refine PWp.loop (fun c st => ∃ (k q : Nat), c = l.length - k ∧ k ≤ l.length ∧ q ≤ W.length ∧ (seg (nvF l p) k l.length).Sublist (W.drop q) ∧
              st = ⟨[(0, iIt l), (3, iMd m), (6, .bptr 0 0), (16, iIt W), (19, iI q), (20, iI k)], [(0, .box 26 [.iv (.sl 2 (ls.map encL)), iN p])], 1⟩) _ _ ⟨0, 0, rfl, Nat.zero_le _, Nat.zero_le _, by simpa using hst, rfl⟩ (Gh.le (by simp [push_cast, -List.getD_eq_getElem?_getD]) (by simp)) ?_
            rintro c st ⟨k, q, rfl, hk, hq, hsub, rfl⟩
            ((repeat refine PWp.seq ?_); refine PWp.region TT (by rfl) (fun K hK => ?_); simp only [push_cast, seval, Nat.reduceEqDiff, Nat.reduceLeDiff, reduceCtorEq]; (repeat refine sk ?_); refine hK _ ?_; clear hK K)
            ((repeat refine PWp.seq ?_); refine PWp.cond (by simp only [push_cast, seval, Nat.reduceEqDiff, Nat.reduceLeDiff, reduceCtorEq]; rfl) (fun hc => ?_) (fun hc => ?_))
            · have hlt : k < l.length := by simpa using hc
              clear hc
              ((repeat refine PWp.seq ?_); refine PWp.skip ?_)
              ((repeat refine PWp.seq ?_); refine PWp.block ?_)
              ((repeat refine PWp.seq ?_); refine PWp.region TT (by rfl) (fun K hK => ?_); simp only [push_cast, seval, Nat.reduceEqDiff, Nat.reduceLeDiff, reduceCtorEq]; (repeat refine sk ?_); refine hK _ ?_; clear hK K)
              ((repeat refine PWp.seq ?_); refine PWp.region TT (by rfl) (fun K hK => ?_); simp only [push_cast, seval, Nat.reduceEqDiff, Nat.reduceLeDiff, reduceCtorEq]; (repeat refine sk ?_); refine hK _ ?_; clear hK K)
              ((repeat refine PWp.seq ?_); refine PWp.block ?_)
              refine PWp.loop (fun c st => ∃ j : Nat, c = p.length - j ∧ j ≤ p.length ∧
                st = ⟨[(0, iIt l), (3, iMd m), (6, .bptr 0 0), (16, iIt W), (19, iI q), (20, iI k), (21, iB ((p.take j).contains (k : Int))), (22, iI j)], [(0, .box 26 [.iv (.sl 2 (ls.map encL)), iN p])], 1⟩) _ _ ⟨0, rfl, Nat.zero_le _, rfl⟩ (Gh.le (by simp [push_cast, -List.getD_eq_getElem?_getD]) (by simp)) ?_
              rintro c st ⟨j, rfl, hj, rfl⟩
              ((repeat refine PWp.seq ?_); refine PWp.region TT (by rfl) (fun K hK => ?_); simp only [push_cast, seval, Nat.reduceEqDiff, Nat.reduceLeDiff, reduceCtorEq]; (repeat refine sk ?_); refine hK _ ?_; clear hK K)
              ((repeat refine PWp.seq ?_); refine PWp.cond (by simp only [push_cast, seval, Nat.reduceEqDiff, Nat.reduceLeDiff, reduceCtorEq]; rfl) (fun hc => ?_) (fun hc => ?_))
              · have hjl : j < p.length := by simpa using hc
                clear hc
                have hg : (p.map encI).getD j .any = encI (p.getD j default) := getD_map hjl
                have hcs : (p.take (j + 1)).contains (k : Int) = ((p.take j).contains (k : Int) || (p.getD j default == (k : Int))) := by
                  rw [take_succ_getD hjl, List.contains_append, List.contains_cons, List.contains_nil, Bool.or_false, Bool.eq_iff_iff, Bool.or_eq_true, Bool.or_eq_true, beq_iff_eq, beq_iff_eq]
                  exact ⟨fun h => h.imp id Eq.symm, fun h => h.imp id Eq.symm⟩
                generalize p.getD j default = x at *
                ((repeat refine PWp.seq ?_); refine PWp.skip ?_)
                ((repeat refine PWp.seq ?_); refine PWp.block ?_)
                ((repeat refine PWp.seq ?_); refine PWp.region TT (by rfl) (fun K hK => ?_); simp only [push_cast, seval, Nat.reduceEqDiff, Nat.reduceLeDiff, reduceCtorEq, hg]; (repeat refine sk ?_); refine hK _ ?_; clear hK K)
                ((repeat refine PWp.seq ?_); refine PWp.region TT (by rfl) (fun K hK => ?_); simp only [push_cast, seval, Nat.reduceEqDiff, Nat.reduceLeDiff, reduceCtorEq, wrap64_id (n := (j : Int) + 1) (by omega) (by omega)]; (repeat refine sk ?_); refine hK _ ?_; clear hK K)
                refine ⟨_, _, ?_, ⟨j + 1, rfl, by omega, rfl⟩, Gh.le (by simp [push_cast, -List.getD_eq_getElem?_getD, hcs, -List.contains_eq_mem]) (by simp)⟩
                omega
              · have hj' : j = p.length := by simp at hc; omega
                subst hj'
                rw [List.take_length]
                (repeat refine PWp.seq ?_); refine PWp.exit (iteT rfl ?_)
                ((repeat refine PWp.seq ?_); refine PWp.region TT (by rfl) (fun K hK => ?_); simp only [push_cast, seval, Nat.reduceEqDiff, Nat.reduceLeDiff, reduceCtorEq]; (repeat refine sk ?_); refine hK _ ?_; clear hK K)
                have hseg : seg (nvF l p) k l.length = nvF l p k ++ seg (nvF l p) (k + 1) l.length := by
                  rw [seg_split _ (Nat.le_succ k) hlt, seg_one]
                rw [hseg] at hsub
                unfold nvF at hsub
                ((repeat refine PWp.seq ?_); refine PWp.cond (by simp only [push_cast, seval, Nat.reduceEqDiff, Nat.reduceLeDiff, reduceCtorEq]; rfl) (fun hc => ?_) (fun hc => ?_))
                · rw [if_pos hc, List.nil_append] at hsub
                  (repeat refine PWp.seq ?_); refine PWp.exit (iteT rfl ?_)
                  ((repeat refine PWp.seq ?_); refine PWp.region TT (by rfl) (fun K hK => ?_); simp only [push_cast, seval, Nat.reduceEqDiff, Nat.reduceLeDiff, reduceCtorEq, wrap64_id (n := (k : Int) + 1) (by omega) (by omega)]; (repeat refine sk ?_); refine hK _ ?_; clear hK K)
                  refine ⟨_, _, ?_, ⟨k + 1, q, rfl, by omega, hq, hsub, rfl⟩, Gh.le (by simp [push_cast, -List.getD_eq_getElem?_getD]) (by simp)⟩
                  omega
                · rw [hc, if_neg (by decide), List.cons_append, List.nil_append] at hsub
                  clear hc
                  change (l.getD k default :: seg (nvF l p) (k + 1) l.length).Sublist (W.drop q) at hsub
                  ((repeat refine PWp.seq ?_); refine PWp.skip ?_)
                  have hgl : (l.map encIt).getD k .any = encIt (l.getD k default) := getD_map hlt
                  generalize l.getD k default = y at *
                  ((repeat refine PWp.seq ?_); refine PWp.block ?_)
                  refine PWp.loop (fun c st => ∃ j : Nat, c = W.length - j ∧ j ≤ W.length ∧ (y :: seg (nvF l p) (k + 1) l.length).Sublist (W.drop j) ∧
                    st = ⟨[(0, iIt l), (3, iMd m), (6, .bptr 0 0), (16, iIt W), (19, iI j), (20, iI k)], [(0, .box 26 [.iv (.sl 2 (ls.map encL)), iN p])], 1⟩) _ _ ⟨q, rfl, hq, hsub, rfl⟩ (Gh.le (by simp [push_cast, -List.getD_eq_getElem?_getD]) (by simp)) ?_
                  rintro c st ⟨j, rfl, hj, hsj, rfl⟩
                  by_cases hjl : j < W.length
                  · have hgw : (W.map encIt).getD j .any = encIt (W.getD j default) := getD_map hjl
                    rw [drop_getD hjl] at hsj
                    have hst2 := sub_step hsj
                    generalize W.getD j default = z at *
                    ((repeat refine PWp.seq ?_); refine PWp.draw TT (by kernel_rfl) (by kernel_rfl) (by rfl) (by rfl) (fun K hK => ?_); simp only [push_cast, seval, Nat.reduceEqDiff, Nat.reduceLeDiff, reduceCtorEq, hgw, hgl]; (repeat refine sk ?_); refine hK _ ?_; clear hK K)
                    ((repeat refine PWp.seq ?_); refine PWp.cond (by simp only [push_cast, seval, Nat.reduceEqDiff, Nat.reduceLeDiff, reduceCtorEq]; rfl) (fun hc => ?_) (fun hc => ?_))
                    · have hne : y ≠ z := fun e => by
                        subst e
                        simp at hc
                      clear hc
                      ((repeat refine PWp.seq ?_); refine PWp.skip ?_)
                      ((repeat refine PWp.seq ?_); refine PWp.block ?_)
                      ((repeat refine PWp.seq ?_); refine PWp.region TT (by rfl) (fun K hK => ?_); simp only [push_cast, seval, Nat.reduceEqDiff, Nat.reduceLeDiff, reduceCtorEq, wrap64_id (n := (j : Int) + 1) (by omega) (by omega)]; (repeat refine sk ?_); refine hK _ ?_; clear hK K)
                      refine ⟨_, _, ?_, ⟨j + 1, rfl, by omega, hst2.1 hne, rfl⟩, Gh.le (by simp [push_cast, -List.getD_eq_getElem?_getD]) (by simp)⟩
                      omega
                    · clear hc
                      (repeat refine PWp.seq ?_); refine PWp.exit (iteT rfl ?_)
                      ((repeat refine PWp.seq ?_); refine PWp.region TT (by rfl) (fun K hK => ?_); simp only [push_cast, seval, Nat.reduceEqDiff, Nat.reduceLeDiff, reduceCtorEq]; (repeat refine sk ?_); refine hK _ ?_; clear hK K)
                      ((repeat refine PWp.seq ?_); refine PWp.cond (by simp only [push_cast, seval, Nat.reduceEqDiff, Nat.reduceLeDiff, reduceCtorEq]; rfl) (fun hc => ?_) (fun hc => ?_))
                      · exfalso
                        simp at hc
                        omega
                      · ((repeat refine PWp.seq ?_); refine PWp.skip ?_)
                        ((repeat refine PWp.seq ?_); refine PWp.region TT (by rfl) (fun K hK => ?_); simp only [push_cast, seval, Nat.reduceEqDiff, Nat.reduceLeDiff, reduceCtorEq, wrap64_id (n := (j : Int) + 1) (by omega) (by omega)]; (repeat refine sk ?_); refine hK _ ?_; clear hK K)
                        ((repeat refine PWp.seq ?_); refine PWp.region TT (by rfl) (fun K hK => ?_); simp only [push_cast, seval, Nat.reduceEqDiff, Nat.reduceLeDiff, reduceCtorEq, wrap64_id (n := (k : Int) + 1) (by omega) (by omega)]; (repeat refine sk ?_); refine hK _ ?_; clear hK K)
                        refine ⟨_, _, ?_, ⟨k + 1, j + 1, rfl, by omega, by omega, hst2.2, rfl⟩, Gh.le (by simp [push_cast, -List.getD_eq_getElem?_getD]) (by simp)⟩
                        omega
                  · exfalso
                    rw [List.drop_eq_nil_of_le (by omega)] at hsj
                    exact absurd (List.eq_nil_of_sublist_nil hsj) (by simp)
            · have hk' : k = l.length := by simp at hc; omega
              subst hk'
              (repeat refine PWp.seq ?_); refine PWp.exit (iteT rfl ?_)
              ((repeat refine PWp.seq ?_); refine PWp.region TT (by rfl) (fun K hK => ?_); simp only [push_cast, seval, Nat.reduceEqDiff, Nat.reduceLeDiff, reduceCtorEq])
              ((repeat refine sk ?_); refine PCall.use (live18) [] rfl (by simp [push_cast]) (by simp) (by simp [push_cast]) (by simp [push_cast]) (by simp [push_cast]) (by simp [push_cast]) ?_)
              rintro _ _ ⟨rfl, rfl⟩
              (simp only [push_cast, seval, Nat.reduceEqDiff, Nat.reduceLeDiff, reduceCtorEq, wrap64_id (n := (l.length : Int) - p.length) (by omega) (by omega), wrap64_id (n := (l.length : Int) - p.length + m.length) (by omega) (by omega), hlen]; (repeat refine sk ?_); refine hK _ ?_; clear hK K)
              ((repeat refine PWp.seq ?_); refine PWp.ret ?_)
              refine ⟨.inr rfl, by omega, _, [], ?_, rfl, rfl⟩
              (simp [push_cast, -List.getD_eq_getElem?_getD])
end Go.Proofs.Ytanopjcfackblaa
