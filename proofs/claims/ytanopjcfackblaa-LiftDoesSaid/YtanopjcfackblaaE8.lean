/- live of chapter 18; walk of LiftBlind. -/
import Derived.Test.YtanopjcfackblaaE7
namespace Go.Proofs.Ytanopjcfackblaa
open Go.PL
set_option maxRecDepth 100000
set_option linter.unusedSimpArgs false
set_option linter.unusedVariables false
def lvI : List It := [⟨1, ⟨0, 0⟩, false, ⟨[97], false⟩⟩, ⟨2, ⟨1, 0⟩, false, ⟨[104], false⟩⟩, ⟨3, ⟨0, 0⟩, false, ⟨[98], false⟩⟩]
def lvM : List Md := [⟨true, 0, ⟨[], false⟩⟩, ⟨false, 0, ⟨[120], false⟩⟩, ⟨true, 1, ⟨[], false⟩⟩]
theorem lvE : liftE lvI [0, 2] ⟨0, 0⟩ lvM 4 = 0 := by decide +kernel
theorem lvN : liftN lvI [0, 2] ⟨0, 0⟩ lvM 4 3 = [⟨1, ⟨0, 0⟩, false, ⟨[97], false⟩⟩, ⟨4, ⟨0, 0⟩, false, ⟨[120], false⟩⟩, ⟨2, ⟨1, 0⟩, false, ⟨[104], false⟩⟩, ⟨3, ⟨0, 0⟩, false, ⟨[98], false⟩⟩] := by decide +kernel
theorem lvK : ((4 : Int) + ((lvM.length : Int) - ((keptF lvM).length : Int))) = 5 := by decide +kernel
theorem live18 : PC Try.prog 14 [] [] 0 60 (fun t obs => t = iB true ∧ obs = []) := by
  refine PC.body [0] Try.func14 rfl (by rfl) (Nat.le_of_ble_eq_true (by rfl)) rfl ?_; simp only [enumA]
  ((repeat refine PWp.seq ?_); refine PWp.region TT (by rfl) (fun K hK => ?_); simp only [push_cast, seval, Nat.reduceEqDiff, Nat.reduceLeDiff, reduceCtorEq]; (repeat refine sk ?_); refine hK _ ?_; clear hK K)
  ((repeat refine PWp.seq ?_); refine PWp.region TT (by rfl) (fun K hK => ?_); simp only [push_cast, seval, Nat.reduceEqDiff, Nat.reduceLeDiff, reduceCtorEq]; (repeat refine sk ?_); refine hK _ ?_; clear hK K)
  ((repeat refine PWp.seq ?_); refine PWp.region TT (by rfl) (fun K hK => ?_); simp only [push_cast, seval, Nat.reduceEqDiff, Nat.reduceLeDiff, reduceCtorEq])
  ((repeat refine sk ?_); refine PCall.use (lift_Lift lvI [] [0, 2] ⟨0, 0⟩ lvM 4 (by decide) (by decide) (by decide)) [] rfl (by simp [push_cast, lvI, lvM, show ByteArray.empty = ⟨#[]⟩ from rfl]) (by simp) (by simp [push_cast, lvI, lvM, show ByteArray.empty = ⟨#[]⟩ from rfl]) (by simp [push_cast, lvI, lvM, show ByteArray.empty = ⟨#[]⟩ from rfl]) (by simp [push_cast, lvI, lvM, show ByteArray.empty = ⟨#[]⟩ from rfl]) (by simp [push_cast, lvI, lvM, show ByteArray.empty = ⟨#[]⟩ from rfl]) ?_)
  rintro _ _ (⟨hE, _⟩ | ⟨_, rfl, rfl⟩)
  · exact absurd lvE hE
  · rw [lvK, show lvI.length = 3 from rfl, lvN]
    (simp only [push_cast, seval, Nat.reduceEqDiff, Nat.reduceLeDiff, reduceCtorEq]; (repeat refine sk ?_); refine hK _ ?_; clear hK K)
    ((repeat refine PWp.seq ?_); refine PWp.region TT (by rfl) (fun K hK => ?_); simp only [push_cast, seval, Nat.reduceEqDiff, Nat.reduceLeDiff, reduceCtorEq]; (repeat refine sk ?_); refine hK _ ?_; clear hK K)
    ((repeat refine PWp.seq ?_); refine PWp.ret ?_)
    refine ⟨.inr rfl, by omega, _, [], ?_, rfl, rfl⟩
    (simp [push_cast, -List.getD_eq_getElem?_getD])
theorem few_len {α : Type} (l : List α) : (l.take 40).length ≤ 40 := by rw [List.length_take]; omega
theorem ofAt_len (l : List It) (o : Lb) : (ofAt l o).length ≤ l.length := by
  have := visK_len l o l.length
  simpa [ofAt, atF] using this
theorem liftE_chk {l : List It} {p : List Int} {s : Lb} {m : List Md} {n : Int} (h : liftE l p s m n = 0) : chkF l p s m = 0 ∧ 1 ≤ n ∧ n ≤ 2147483647 - (m.length - (keptF m).length) := by
  unfold liftE at h
  split at h
  · rename_i h0; exact absurd h h0
  · rename_i h0
    split at h
    · cases h
    · rename_i h1
      exact ⟨by omega, by omega, by omega⟩
theorem cut_seg (l : List It) (o : Lb) : cutF l o = seg (fun k => [l.getD k default].filter fun x => belowF x.l o) 0 l.length := by
  rw [← seg_filter (fun k => [l.getD k default]), seg_all l (Nat.le_refl _), List.take_length, List.drop_zero]
  rfl
theorem blind {l : List It} {p : List Int} {s o : Lb} {m : List Md} {n : Int} (h : chkF l p s m = 0) (ho : belowF s o = false) : cutF (liftN l p s m n l.length) o = cutF l o := by
  obtain ⟨h1, h2, h3, h4⟩ := chkF_zero h
  rw [liftN_G h1 h2, cut_seg l o, ← G_blind h1 h4 ho (inO_of h1 m (-1) 0 h2 (.inl ⟨rfl, rfl⟩)) (Nat.zero_le _)]
  rfl
theorem liftN_le {l : List It} {p : List Int} {s : Lb} {m : List Md} {n : Int} (hl : l.length ≤ 40) (hm : m.length ≤ 40) : (liftN l p s m n l.length).length ≤ 1700 := by
  have h1 := liftN_len l p s m n l.length
  have h2 : l.length * (m.length + 1) ≤ 40 * 41 := Nat.mul_le_mul (by omega) (by omega)
  omega
theorem LiftBlind_walk (l : List It) (s o : Lb) (m : List Md) (n : Int) : PC Try.prog 5 [iIt l, iLb s, iLb o, iMd m, iI n] [] 0 400 (fun t obs => t = iB true ∧ obs = []) := by
  refine PC.body [10] Try.func5 rfl (by rfl) (Nat.le_of_ble_eq_true (by rfl)) rfl ?_; simp only [enumA]
  ((repeat refine PWp.seq ?_); refine PWp.region TT (by rfl) (fun K hK => ?_); simp only [push_cast, seval, Nat.reduceEqDiff, Nat.reduceLeDiff, reduceCtorEq]; (repeat refine sk ?_); refine hK _ ?_; clear hK K)
  ((repeat refine PWp.seq ?_); refine PWp.region TT (by rfl) (fun K hK => ?_); simp only [push_cast, seval, Nat.reduceEqDiff, Nat.reduceLeDiff, reduceCtorEq])
  ((repeat refine sk ?_); refine PCall.use (few18 l m) [] rfl (by simp [push_cast]) (by simp) (by simp [push_cast]) (by simp [push_cast]) (by simp [push_cast]) (by simp [push_cast]) ?_)
  rintro _ _ ⟨rfl, rfl⟩
  have hl := few_len l
  have hm := few_len m
  generalize l.take 40 = l at *
  generalize m.take 40 = m at *
  have hp := ofAt_len l s
  (simp only [push_cast, seval, Nat.reduceEqDiff, Nat.reduceLeDiff, reduceCtorEq]; (repeat refine sk ?_); refine hK _ ?_; clear hK K)
  ((repeat refine PWp.seq ?_); refine PWp.drawT TT (by kernel_rfl) [0, 1] (.q 0 (.q 1 (.q 2 (.q 4 (.q 5 (.q 6 (.x 3 (.x 7 (.q 8 (.q 9 (.q 10 (.q 11 (.q 12 (.q 13 (.q 14 .nil))))))))))))))) (by rfl) (by kernel_rfl) (by rfl) (by simp) (fun K hK => ?_); simp only [push_cast, seval, Nat.reduceEqDiff, Nat.reduceLeDiff, reduceCtorEq])
  ((repeat refine sk ?_); refine PCall.use (ref05_Of l s [46, 46, 46] (by omega)) [] rfl (by simp [push_cast]) (by simp) (by simp [push_cast]) (by simp [push_cast]) (by simp [push_cast]) (by simp [push_cast]) ?_)
  rintro _ _ ⟨rfl, rfl⟩
  (simp only [push_cast, seval, Nat.reduceEqDiff, Nat.reduceLeDiff, reduceCtorEq])
  ((repeat refine sk ?_); refine PCall.use (lift_Lift l (ofLn l s [46, 46, 46]) (ofAt l s) s m n (by omega) (by omega) (by omega)) [] rfl (by simp [push_cast]) (by simp) (by simp [push_cast]) (by simp [push_cast]) (by simp [push_cast]) (by simp [push_cast]) ?_)
  rintro _ _ (⟨hE, rfl, rfl⟩ | ⟨hE, rfl, rfl⟩)
  · have hE' : (liftE l (ofAt l s) s m n != 0) = true := by simpa using hE
    generalize liftE l (ofAt l s) s m n = e at *
    (simp only [push_cast, seval, Nat.reduceEqDiff, Nat.reduceLeDiff, reduceCtorEq]; (repeat refine sk ?_); refine hK _ ?_; clear hK K)
    ((repeat refine PWp.seq ?_); refine PWp.region TT (by rfl) (fun K hK => ?_); simp only [push_cast, seval, Nat.reduceEqDiff, Nat.reduceLeDiff, reduceCtorEq, hE']; (repeat refine sk ?_); refine hK _ ?_; clear hK K)
    ((repeat refine PWp.seq ?_); refine PWp.cond (by simp only [push_cast, seval, Nat.reduceEqDiff, Nat.reduceLeDiff, reduceCtorEq]; rfl) (fun hc => ?_) (fun hc => ?_))
    · clear hc
      ((repeat refine PWp.seq ?_); refine PWp.region TT (by rfl) (fun K hK => ?_); simp only [push_cast, seval, Nat.reduceEqDiff, Nat.reduceLeDiff, reduceCtorEq])
      ((repeat refine sk ?_); refine PCall.use (live18) [] rfl (by simp [push_cast]) (by simp) (by simp [push_cast]) (by simp [push_cast]) (by simp [push_cast]) (by simp [push_cast]) ?_)
      rintro _ _ ⟨rfl, rfl⟩
      (simp only [push_cast, seval, Nat.reduceEqDiff, Nat.reduceLeDiff, reduceCtorEq]; (repeat refine sk ?_); refine hK _ ?_; clear hK K)
      ((repeat refine PWp.seq ?_); refine PWp.ret ?_)
      refine ⟨.inr rfl, by omega, _, [], ?_, rfl, rfl⟩
      (simp [push_cast, -List.getD_eq_getElem?_getD])
    · cases hc
  · have hbl := blind (o := o) (n := n) (liftE_chk hE).1
    have hWl := liftN_le (p := ofAt l s) (s := s) (n := n) hl hm
    generalize liftN l (ofAt l s) s m n l.length = W at *
    (simp only [push_cast, seval, Nat.reduceEqDiff, Nat.reduceLeDiff, reduceCtorEq]; (repeat refine sk ?_); refine hK _ ?_; clear hK K)
    have h00 : ((0 : Int) != 0) = false := rfl
    refine PWp.gh (Gh.freeze 13 (by rfl)) ?_
    refine PWp.gh (st' := ⟨[(0, iIt l), (6, .bptr 0 0), (7, .bptr 1 0), (11, iIt W), (13, iI 0)], [(0, .box 29 [iI s.v, .iv (.lit (.int .u64 s.c))]), (1, .box 29 [iI o.v, .iv (.lit (.int .u64 o.c))])], 2⟩) (Gh.le (by simp [push_cast, -List.getD_eq_getElem?_getD]) (by simp)) ?_
    ((repeat refine PWp.seq ?_); refine PWp.region TT (by rfl) (fun K hK => ?_); simp only [push_cast, seval, Nat.reduceEqDiff, Nat.reduceLeDiff, reduceCtorEq, h00])
    ((repeat refine sk ?_); refine PCall.use (ref02_Below s o) [] rfl (by simp [push_cast]) (by simp) (by simp [push_cast]) (by simp [push_cast]) (by simp [push_cast]) (by simp [push_cast]) ?_)
    rintro _ _ ⟨rfl, rfl⟩
    cases hB : belowF s o with
    | true =>
      (simp only [push_cast, seval, Nat.reduceEqDiff, Nat.reduceLeDiff, reduceCtorEq, h00]; (repeat refine sk ?_); refine hK _ ?_; clear hK K)
      ((repeat refine PWp.seq ?_); refine PWp.cond (by simp only [push_cast, seval, Nat.reduceEqDiff, Nat.reduceLeDiff, reduceCtorEq]; rfl) (fun hc => ?_) (fun hc => ?_))
      · clear hc
        ((repeat refine PWp.seq ?_); refine PWp.region TT (by rfl) (fun K hK => ?_); simp only [push_cast, seval, Nat.reduceEqDiff, Nat.reduceLeDiff, reduceCtorEq])
        ((repeat refine sk ?_); refine PCall.use (live18) [] rfl (by simp [push_cast]) (by simp) (by simp [push_cast]) (by simp [push_cast]) (by simp [push_cast]) (by simp [push_cast]) ?_)
        rintro _ _ ⟨rfl, rfl⟩
        (simp only [push_cast, seval, Nat.reduceEqDiff, Nat.reduceLeDiff, reduceCtorEq]; (repeat refine sk ?_); refine hK _ ?_; clear hK K)
        ((repeat refine PWp.seq ?_); refine PWp.ret ?_)
        refine ⟨.inr rfl, by omega, _, [], ?_, rfl, rfl⟩
        (simp [push_cast, -List.getD_eq_getElem?_getD])
      · cases hc
    | false =>
      (simp only [push_cast, seval, Nat.reduceEqDiff, Nat.reduceLeDiff, reduceCtorEq, h00]; (repeat refine sk ?_); refine hK _ ?_; clear hK K)
      ((repeat refine PWp.seq ?_); refine PWp.cond (by simp only [push_cast, seval, Nat.reduceEqDiff, Nat.reduceLeDiff, reduceCtorEq]; rfl) (fun hc => ?_) (fun hc => ?_))
      · cases hc
      · clear hc
        have hcl : (cutF W o).length ≤ 1000000 := by
          have := List.length_filter_le (fun x : It => belowF x.l o) W
          unfold cutF
          omega
        ((repeat refine PWp.seq ?_); refine PWp.skip ?_)
        ((repeat refine PWp.seq ?_); refine PWp.drawT TT (by kernel_rfl) [1] (.x 0 (.q 1 (.q 2 (.q 3 (.q 5 (.q 6 (.x 4 (.x 7 (.x 8 (.q 9 (.q 10 .nil))))))))))) (by rfl) (by kernel_rfl) (by rfl) (by simp) (fun K hK => ?_); simp only [push_cast, seval, Nat.reduceEqDiff, Nat.reduceLeDiff, reduceCtorEq])
        ((repeat refine sk ?_); refine PCall.use (live18) [] rfl (by simp [push_cast]) (by simp) (by simp [push_cast]) (by simp [push_cast]) (by simp [push_cast]) (by simp [push_cast]) ?_)
        rintro _ _ ⟨rfl, rfl⟩
        (simp only [push_cast, seval, Nat.reduceEqDiff, Nat.reduceLeDiff, reduceCtorEq])
        ((repeat refine sk ?_); refine PCall.use (ref05_Cut W o (by omega)) [] rfl (by simp [push_cast]) (by simp) (by simp [push_cast]) (by simp [push_cast]) (by simp [push_cast]) (by simp [push_cast]) ?_)
        rintro _ _ ⟨rfl, rfl⟩
        (simp only [push_cast, seval, Nat.reduceEqDiff, Nat.reduceLeDiff, reduceCtorEq])
        ((repeat refine sk ?_); refine PCall.use (ref05_Cut l o (by omega)) [] rfl (by simp [push_cast]) (by simp) (by simp [push_cast]) (by simp [push_cast]) (by simp [push_cast]) (by simp [push_cast]) ?_)
        rintro _ _ ⟨rfl, rfl⟩
        (simp only [push_cast, seval, Nat.reduceEqDiff, Nat.reduceLeDiff, reduceCtorEq])
        ((repeat refine sk ?_); refine PCall.use (ref04_Same (cutF W o) (cutF l o) hcl) [] rfl (by simp [push_cast]) (by simp) (by simp [push_cast]) (by simp [push_cast]) (by simp [push_cast]) (by simp [push_cast]) ?_)
        rintro _ _ ⟨rfl, rfl⟩
        rw [decide_eq_true (hbl hB)]
        (simp only [push_cast, seval, Nat.reduceEqDiff, Nat.reduceLeDiff, reduceCtorEq]; (repeat refine sk ?_); refine hK _ ?_; clear hK K)
        ((repeat refine PWp.seq ?_); refine PWp.ret ?_)
        refine ⟨.inr rfl, by omega, _, [], ?_, rfl, rfl⟩
        (simp [push_cast, -List.getD_eq_getElem?_getD])
end Go.Proofs.Ytanopjcfackblaa
