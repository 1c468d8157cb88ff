/- Rows of a script: take, Rows. -/
import Derived.Test.YtjajefphfhdfkaaR2
namespace Go.Proofs.Ytjajefphfhdfkaa
open Go.PL
set_option maxRecDepth 100000
set_option linter.unusedSimpArgs false
set_option linter.unusedVariables false
def smR (l : List (List UInt8)) : List Pr := l.map fun s => ⟨61, s, s⟩
theorem smR_succ {l : List (List UInt8)} {k : Nat} (h : k < l.length) : smR (l.take (k + 1)) = smR (l.take k) ++ [⟨61, l.getD k default, l.getD k default⟩] := by
  unfold smR
  rw [take_succ_getD h, List.map_append]
  rfl
theorem smR_len (l : List (List UInt8)) : (smR l).length = l.length := List.length_map ..
def takS (p : List Pr × List (List UInt8)) (x : Ed) : List Pr × List (List UInt8) :=
  if x.d = 2 then (p.1, txt x.l) else if x.d = 3 then (p.1 ++ prW p.2 (txt x.l), []) else (p.1 ++ prW p.2 [] ++ smR (txt x.l), [])
theorem prW_len (W l : List (List UInt8)) : (prW W l).length = max W.length l.length := prN_len ..
set_option maxHeartbeats 1000000 in
theorem rows_take (P : List Pr) (W : List (List UInt8)) (x : Ed) (hP : P.length ≤ 100000) (hW : W.length ≤ 100000) (hl : x.l.length ≤ 100000) (hx : okD x = true) :
    PC Try.prog 23 [.bptr 0 0, .iv (encE x)] (rwO P W) 2 2 (fun t obs => obs = rwO (takS (P, W) x).1 (takS (P, W) x).2) := by
  have hd : x.d = 2 ∨ x.d = 3 ∨ x.d = 1 := by
    unfold okD at hx
    simp only [Bool.or_eq_true, Bool.and_eq_true, Bool.not_eq_true', Bool.not_eq_false', Bool.or_eq_false_iff, Bool.and_eq_false_iff, decide_eq_true_eq, decide_eq_false_iff_not, beq_iff_eq, beq_eq_false_iff_ne, bne_iff_ne, bne_eq_false_iff_eq, ne_eq, Classical.not_not, Int.not_lt, Int.not_le, ge_iff_le, gt_iff_lt] at hx
    omega
  have htl := txt_len x.l
  refine PC.body [] Try.func23 rfl (by rfl) (Nat.le_of_ble_eq_true (by rfl)) rfl ?_; simp only [enumA]
  refine PWp.post ?_
  ((repeat refine PWp.seq ?_); refine PWp.region TT (by rfl) (fun K hK => ?_); simp only [push_cast, seval, Nat.reduceEqDiff, Nat.reduceLeDiff, reduceCtorEq]; (repeat refine sk ?_); refine hK _ ?_; clear hK K)
  ((repeat refine PWp.seq ?_); refine PWp.region TT (by rfl) (fun K hK => ?_); simp only [push_cast, seval, Nat.reduceEqDiff, Nat.reduceLeDiff, reduceCtorEq])
  ((repeat refine sk ?_); refine PCall.use (sides_texts x.l (by omega)) [] rfl (by simp [push_cast]) (by simp) (by simp [push_cast]) (by simp [push_cast]) (by simp [push_cast]) (by simp [push_cast]) ?_)
  rintro _ _ ⟨rfl, rfl⟩
  (simp only [push_cast, seval, Nat.reduceEqDiff, Nat.reduceLeDiff, reduceCtorEq]; (repeat refine sk ?_); refine hK _ ?_; clear hK K)
  generalize hT : txt x.l = T at *
  rcases hd with hd | hd | hd
  · have e1 : takS (P, W) x = (P, T) := by unfold takS; rw [if_pos hd, hT]
    ((repeat refine PWp.seq ?_); refine PWp.region TT (by rfl) (fun K hK => ?_); simp only [push_cast, seval, Nat.reduceEqDiff, Nat.reduceLeDiff, reduceCtorEq, hd]; (repeat refine sk ?_); refine hK _ ?_; clear hK K)
    ((repeat refine PWp.seq ?_); refine PWp.block ?_)
    ((repeat refine PWp.seq ?_); refine PWp.region TT (by rfl) (fun K hK => ?_); simp only [push_cast, seval, Nat.reduceEqDiff, Nat.reduceLeDiff, reduceCtorEq]; (repeat refine sk ?_); refine hK _ ?_; clear hK K)
    ((repeat refine PWp.seq ?_); refine PWp.cond (by simp only [push_cast, seval, Nat.reduceEqDiff, Nat.reduceLeDiff, reduceCtorEq]; rfl) (fun hc => ?_) (fun hc => ?_))
    · ((repeat refine PWp.seq ?_); refine PWp.region TT (by rfl) (fun K hK => ?_); simp only [push_cast, seval, Nat.reduceEqDiff, Nat.reduceLeDiff, reduceCtorEq]; (repeat refine sk ?_); refine hK _ ?_; clear hK K)
      refine ⟨⟨[], rwO P T, 2⟩, Gh.le (by simp [push_cast, -List.getD_eq_getElem?_getD]) (by simp), .inl rfl, by omega, .tup [], _, ?_, by rw [e1]⟩
      (simp [push_cast, -List.getD_eq_getElem?_getD])
    · cases hc
  · have e1 : takS (P, W) x = (P ++ prW W T, []) := by unfold takS; rw [if_neg (by omega), if_pos hd, hT]
    ((repeat refine PWp.seq ?_); refine PWp.region TT (by rfl) (fun K hK => ?_); simp only [push_cast, seval, Nat.reduceEqDiff, Nat.reduceLeDiff, reduceCtorEq, hd]; (repeat refine sk ?_); refine hK _ ?_; clear hK K)
    ((repeat refine PWp.seq ?_); refine PWp.block ?_)
    ((repeat refine PWp.seq ?_); refine PWp.region TT (by rfl) (fun K hK => ?_); simp only [push_cast, seval, Nat.reduceEqDiff, Nat.reduceLeDiff, reduceCtorEq]; (repeat refine sk ?_); refine hK _ ?_; clear hK K)
    ((repeat refine PWp.seq ?_); refine PWp.cond (by simp only [push_cast, seval, Nat.reduceEqDiff, Nat.reduceLeDiff, reduceCtorEq]; rfl) (fun hc => ?_) (fun hc => ?_))
    · cases hc
    ((repeat refine PWp.seq ?_); refine PWp.region TT (by rfl) (fun K hK => ?_); simp only [push_cast, seval, Nat.reduceEqDiff, Nat.reduceLeDiff, reduceCtorEq]; (repeat refine sk ?_); refine hK _ ?_; clear hK K)
    ((repeat refine PWp.seq ?_); refine PWp.cond (by simp only [push_cast, seval, Nat.reduceEqDiff, Nat.reduceLeDiff, reduceCtorEq]; rfl) (fun hc => ?_) (fun hc => ?_))
    · ((repeat refine PWp.seq ?_); refine PWp.region TT (by rfl) (fun K hK => ?_); simp only [push_cast, seval, Nat.reduceEqDiff, Nat.reduceLeDiff, reduceCtorEq])
      ((repeat refine sk ?_); refine PCall.use (rows_flush P W T (by omega) (by omega) (by omega)) [0, 1] rfl (by simp [push_cast]) (by simp) (by simp [push_cast]) (by simp [push_cast]) (by simp [push_cast]) (by simp [push_cast]) ?_)
      rintro _ _ rfl
      (simp only [push_cast, seval, Nat.reduceEqDiff, Nat.reduceLeDiff, reduceCtorEq]; (repeat refine sk ?_); refine hK _ ?_; clear hK K)
      refine ⟨⟨[], rwO (P ++ prW W T) [], 2⟩, Gh.le (by simp [push_cast, -List.getD_eq_getElem?_getD]) (by simp), .inl rfl, by omega, .tup [], _, ?_, by rw [e1]⟩
      (simp [push_cast, -List.getD_eq_getElem?_getD])
    · cases hc
  · have e1 : takS (P, W) x = (P ++ prW W [] ++ smR T, []) := by unfold takS; rw [if_neg (by omega), if_neg (by omega), hT]
    have hpl := prW_len W []
    ((repeat refine PWp.seq ?_); refine PWp.region TT (by rfl) (fun K hK => ?_); simp only [push_cast, seval, Nat.reduceEqDiff, Nat.reduceLeDiff, reduceCtorEq, hd]; (repeat refine sk ?_); refine hK _ ?_; clear hK K)
    ((repeat refine PWp.seq ?_); refine PWp.block ?_)
    ((repeat refine PWp.seq ?_); refine PWp.region TT (by rfl) (fun K hK => ?_); simp only [push_cast, seval, Nat.reduceEqDiff, Nat.reduceLeDiff, reduceCtorEq]; (repeat refine sk ?_); refine hK _ ?_; clear hK K)
    ((repeat refine PWp.seq ?_); refine PWp.cond (by simp only [push_cast, seval, Nat.reduceEqDiff, Nat.reduceLeDiff, reduceCtorEq]; rfl) (fun hc => ?_) (fun hc => ?_))
    · cases hc
    ((repeat refine PWp.seq ?_); refine PWp.region TT (by rfl) (fun K hK => ?_); simp only [push_cast, seval, Nat.reduceEqDiff, Nat.reduceLeDiff, reduceCtorEq]; (repeat refine sk ?_); refine hK _ ?_; clear hK K)
    ((repeat refine PWp.seq ?_); refine PWp.cond (by simp only [push_cast, seval, Nat.reduceEqDiff, Nat.reduceLeDiff, reduceCtorEq]; rfl) (fun hc => ?_) (fun hc => ?_))
    · cases hc
    ((repeat refine PWp.seq ?_); refine PWp.region TT (by rfl) (fun K hK => ?_); simp only [push_cast, seval, Nat.reduceEqDiff, Nat.reduceLeDiff, reduceCtorEq])
    ((repeat refine sk ?_); refine PCall.use (rows_flush P W [] (by omega) (by omega) (by simp)) [0, 1] rfl (by simp [push_cast]) (by simp) (by simp [push_cast]) (by simp [push_cast]) (by simp [push_cast]) (by simp [push_cast]) ?_)
    rintro _ _ rfl
    (simp only [push_cast, seval, Nat.reduceEqDiff, Nat.reduceLeDiff, reduceCtorEq]; (repeat refine sk ?_); refine hK _ ?_; clear hK K)
    generalize prW W [] = F at *
    simp only [List.length_nil] at hpl
    ((repeat refine PWp.seq ?_); refine PWp.region TT (by rfl) (fun K hK => ?_); simp only [push_cast, seval, Nat.reduceEqDiff, Nat.reduceLeDiff, reduceCtorEq]; (repeat refine sk ?_); refine hK _ ?_; clear hK K)
    refine PWp.gh (st' := ⟨[(0, .bptr 0 0), (14, iT T), (15, iI T.length), (16, iI 0)], rwO (P ++ F) [], 2⟩) (Gh.le (by simp [push_cast, -List.getD_eq_getElem?_getD, htl]) (by simp)) ?_
    ((repeat refine PWp.seq ?_); refine PWp.block ?_)
    refine PWp.loop (fun c st => ∃ j : Nat, c = T.length - j ∧ j ≤ T.length ∧
      st = ⟨[(0, .bptr 0 0), (14, iT T), (15, iI T.length), (16, iI j)], rwO (P ++ F ++ smR (T.take j)) [], 2⟩) _ _ ⟨0, rfl, Nat.zero_le _, rfl⟩ (Gh.le (by simp [push_cast, -List.getD_eq_getElem?_getD, smR]) (by simp)) ?_
    rintro c st ⟨j, rfl, hj, rfl⟩
    ((repeat refine PWp.seq ?_); refine PWp.region TT (by rfl) (fun K hK => ?_); simp only [push_cast, seval, Nat.reduceEqDiff, Nat.reduceLeDiff, reduceCtorEq]; (repeat refine sk ?_); refine hK _ ?_; clear hK K)
    ((repeat refine PWp.seq ?_); refine PWp.cond (by simp only [push_cast, seval, Nat.reduceEqDiff, Nat.reduceLeDiff, reduceCtorEq]; rfl) (fun hc => ?_) (fun hc => ?_))
    · have hlt : j < T.length := by have := of_decide_eq_true hc; omega
      clear hc
      have hs := smR_succ hlt
      have hg : (T.map encT).getD j .any = encT (T.getD j default) := getD_map hlt
      have hsl : (smR (T.take j)).length ≤ j := by rw [smR_len, List.length_take]; omega
      generalize T.getD j default = a at *
      ((repeat refine PWp.seq ?_); refine PWp.skip ?_)
      ((repeat refine PWp.seq ?_); refine PWp.block ?_)
      ((repeat refine PWp.seq ?_); refine PWp.region TT (by rfl) (fun K hK => ?_); simp only [push_cast, seval, Nat.reduceEqDiff, Nat.reduceLeDiff, reduceCtorEq, hg]; (repeat refine sk ?_); refine hK _ ?_; clear hK K)
      ((repeat refine PWp.seq ?_); refine PWp.region TT (by rfl) (fun K hK => ?_); simp only [push_cast, seval, Nat.reduceEqDiff, Nat.reduceLeDiff, reduceCtorEq]; (repeat refine sk ?_); refine hK _ ?_; clear hK K)
      ((repeat refine PWp.seq ?_); refine PWp.region TT (by rfl) (fun K hK => ?_); simp only [push_cast, seval, Nat.reduceEqDiff, Nat.reduceLeDiff, reduceCtorEq, wrap64_id (n := (j : Int) + 1) (by omega) (by omega)]; (repeat refine sk ?_); refine hK _ ?_; clear hK K)
      refine ⟨_, _, ?_, ⟨j + 1, rfl, by omega, rfl⟩, Gh.le (by simp [push_cast, -List.getD_eq_getElem?_getD, hs]) (by simp)⟩
      omega
    · have hjn : j = T.length := by have := of_decide_eq_false hc; omega
      subst hjn
      rw [List.take_length]
      (repeat refine PWp.seq ?_); refine PWp.exit (iteT rfl ?_)
      refine ⟨⟨[], rwO (P ++ F ++ smR T) [], 2⟩, Gh.le (by simp [push_cast, -List.getD_eq_getElem?_getD]) (by simp), .inl rfl, by omega, .tup [], _, ?_, by rw [e1]⟩
      (simp [push_cast, -List.getD_eq_getElem?_getD])
def sF (N : List Ed) (k : Nat) : List Pr × List (List UInt8) := (N.take k).foldl takS ([], [])
theorem sF_succ {N : List Ed} {k : Nat} (h : k < N.length) : sF N (k + 1) = takS (sF N k) (N.getD k default) := by
  unfold sF
  rw [take_succ_getD h, List.foldl_append]
  rfl
theorem takS_b (p : List Pr × List (List UInt8)) (x : Ed) : (takS p x).1.length + (takS p x).2.length ≤ p.1.length + p.2.length + x.l.length := by
  have h1 := txt_len x.l
  unfold takS
  split
  · simp only; omega
  · split
    · have := prW_len p.2 (txt x.l)
      simp only [List.length_append, List.length_nil]
      omega
    · have := prW_len p.2 []
      have := smR_len (txt x.l)
      simp only [List.length_append, List.length_nil] at *
      omega
theorem sF_b (N : List Ed) : ∀ k, k ≤ N.length → (sF N k).1.length + (sF N k).2.length ≤ totL (N.take k)
  | 0, _ => by simp [sF, totL]
  | k + 1, h => by
    have := sF_b N k (by omega)
    have := takS_b (sF N k) (N.getD k default)
    rw [sF_succ (by omega), totL_succ (by omega)]
    omega
/-- The rows of a script. -/
def rowF (s : List Ed) : List Pr := (sF (norL s) (norL s).length).1 ++ prW (sF (norL s) (norL s).length).2 []
theorem norm_ok (s : List Ed) : ∀ e ∈ norL s, okD e = true := by
  have hn := norm_nf s
  generalize norL s = N at *
  have key : ∀ (N : List Ed) (ho hi : Bool), nf ho hi N = true → ∀ e ∈ N, okD e = true := by
    intro N
    induction N with
    | nil => intro _ _ _ e h; cases h
    | cons x r ih =>
      intro ho hi hn e he
      simp only [nf, Bool.and_eq_true] at hn
      obtain ⟨_, hh⟩ := hn
      rcases List.mem_cons.1 he with rfl | he
      · unfold okD
        split at hh
        · rename_i h; rw [h]; rfl
        · split at hh
          · rename_i h; rw [h]; rfl
          · simp only [Bool.and_eq_true, decide_eq_true_eq] at hh
            rw [hh.1.1]; rfl
      · split at hh
        · exact ih _ _ hh e he
        · split at hh
          · simp only [Bool.and_eq_true] at hh
            exact ih _ _ hh.2 e he
          · simp only [Bool.and_eq_true] at hh
            exact ih _ _ hh.2 e he
  exact key N _ _ hn
theorem norm_len (s : List Ed) : (norL s).length ≤ totL (norL s) := by
  have hn := norm_nf s
  generalize norL s = N at *
  have key : ∀ (N : List Ed) (ho hi : Bool), nf ho hi N = true → N.length ≤ totL N := by
    intro N
    induction N with
    | nil => intro _ _ _; simp
    | cons x r ih =>
      intro ho hi hn
      simp only [nf, Bool.and_eq_true, decide_eq_true_eq] at hn
      obtain ⟨hl, hh⟩ := hn
      have hp := List.length_pos_iff.2 hl
      have : r.length ≤ totL r := by
        split at hh
        · exact ih _ _ hh
        · split at hh
          · simp only [Bool.and_eq_true] at hh
            exact ih _ _ hh.2
          · simp only [Bool.and_eq_true] at hh
            exact ih _ _ hh.2
      simp only [List.length_cons, totL]
      omega
  exact key N _ _ hn
theorem norm_tot (s : List Ed) : totL (norL s) ≤ 800 := by
  by_cases h : chkE s = 0
  · have := (norm_sides h).2.2
    have := (chk_zero h).2.1
    omega
  · rw [show norL s = [] from if_neg h]
    simp [totL]
theorem rowF_len (s : List Ed) : (rowF s).length ≤ 800 := by
  have h1 := sF_b (norL s) (norL s).length (Nat.le_refl _)
  have h2 := norm_tot s
  have h3 := prW_len (sF (norL s) (norL s).length).2 []
  rw [List.take_length] at h1
  unfold rowF
  simp only [List.length_append, List.length_nil] at *
  omega
set_option maxHeartbeats 1000000 in
theorem sides_Rows (s : List Ed) (hs : bigE s) : PC Try.prog 7 [iE s] [] 0 90 (fun t obs => t = .tup [iR (rowF s), iI (chkE s)] ∧ obs = []) := by
  refine PC.body [2, 3] Try.func7 rfl (by rfl) (Nat.le_of_ble_eq_true (by rfl)) rfl ?_; simp only [enumA]
  ((repeat refine PWp.seq ?_); refine PWp.region TT (by rfl) (fun K hK => ?_); simp only [push_cast, seval, Nat.reduceEqDiff, Nat.reduceLeDiff, reduceCtorEq]; (repeat refine sk ?_); refine hK _ ?_; clear hK K)
  ((repeat refine PWp.seq ?_); refine PWp.region TT (by rfl) (fun K hK => ?_); simp only [push_cast, seval, Nat.reduceEqDiff, Nat.reduceLeDiff, reduceCtorEq])
  ((repeat refine sk ?_); refine PCall.use (script_Normal s hs) [] rfl (by simp [push_cast]) (by simp) (by simp [push_cast]) (by simp [push_cast]) (by simp [push_cast]) (by simp [push_cast]) ?_)
  rintro _ _ ⟨rfl, rfl⟩
  (simp only [push_cast, seval, Nat.reduceEqDiff, Nat.reduceLeDiff, reduceCtorEq]; (repeat refine sk ?_); refine hK _ ?_; clear hK K)
  have hrow : rowF s = (sF (norL s) (norL s).length).1 ++ prW (sF (norL s) (norL s).length).2 [] := rfl
  have hok := norm_ok s
  have htt := norm_tot s
  have hnl := norm_len s
  by_cases h : chkE s = 0
  case neg =>
    have hb : (chkE s != 0) = true := bne_iff_ne.2 h
    have hn : rowF s = [] := by
      rw [hrow, show norL s = [] from if_neg h]
      rfl
    ((repeat refine PWp.seq ?_); refine PWp.region TT (by rfl) (fun K hK => ?_); simp only [push_cast, seval, Nat.reduceEqDiff, Nat.reduceLeDiff, reduceCtorEq, hb]; (repeat refine sk ?_); refine hK _ ?_; clear hK K)
    ((repeat refine PWp.seq ?_); refine PWp.cond (by simp only [push_cast, seval, Nat.reduceEqDiff, Nat.reduceLeDiff, reduceCtorEq]; rfl) (fun hc => ?_) (fun hc => ?_))
    · ((repeat refine PWp.seq ?_); refine PWp.region TT (by rfl) (fun K hK => ?_); simp only [push_cast, seval, Nat.reduceEqDiff, Nat.reduceLeDiff, reduceCtorEq]; (repeat refine sk ?_); refine hK _ ?_; clear hK K)
      ((repeat refine PWp.seq ?_); refine PWp.ret ?_)
      refine ⟨.inr rfl, by omega, _, [], ?_, rfl, rfl⟩
      rw [hn]
      (simp [push_cast, -List.getD_eq_getElem?_getD])
    · cases hc
  have hb : (chkE s != 0) = false := by rw [h]; rfl
  generalize norL s = M at *
  generalize rowF s = R at *
  ((repeat refine PWp.seq ?_); refine PWp.region TT (by rfl) (fun K hK => ?_); simp only [push_cast, seval, Nat.reduceEqDiff, Nat.reduceLeDiff, reduceCtorEq, hb]; (repeat refine sk ?_); refine hK _ ?_; clear hK K)
  ((repeat refine PWp.seq ?_); refine PWp.cond (by simp only [push_cast, seval, Nat.reduceEqDiff, Nat.reduceLeDiff, reduceCtorEq]; rfl) (fun hc => ?_) (fun hc => ?_))
  · cases hc
  clear hc
  ((repeat refine PWp.seq ?_); refine PWp.skip ?_)
  ((repeat refine PWp.seq ?_); refine PWp.region TT (by rfl) (fun K hK => ?_); simp only [push_cast, seval, Nat.reduceEqDiff, Nat.reduceLeDiff, reduceCtorEq]; (repeat refine sk ?_); refine hK _ ?_; clear hK K)
  refine PWp.gh (st' := ⟨[(4, iE M), (6, .bptr 0 0)], [(0, .box 54 [.nilsl, .nilsl])], 1⟩) (Gh.leR [60] (by simp [push_cast, -List.getD_eq_getElem?_getD]; try decide)) ?_
  refine PWp.gh (st' := ⟨[(4, iE M), (6, .bptr 0 0)], [(0, .box 54 [.nilsl, iT []])], 1⟩) (Gh.le (by simp [push_cast, -List.getD_eq_getElem?_getD]) (by simp)) ?_
  refine PWp.gh (Gh.rowc 0 0 61 3 (by rfl) (by rfl)) ?_
  ((repeat refine PWp.seq ?_); refine PWp.region TT (by rfl) (fun K hK => ?_); simp only [push_cast, seval, Nat.reduceEqDiff, Nat.reduceLeDiff, reduceCtorEq]; (repeat refine sk ?_); refine hK _ ?_; clear hK K)
  refine PWp.gh (st' := ⟨[(6, .bptr 0 0), (19, iE M), (20, iI M.length), (21, iI 0)], rwO [] [], 2⟩) (Gh.le (by simp [push_cast, -List.getD_eq_getElem?_getD]) (by simp)) ?_
  ((repeat refine PWp.seq ?_); refine PWp.block ?_)
  refine PWp.loop (fun c st => ∃ k : Nat, c = M.length - k ∧ k ≤ M.length ∧
    st = ⟨[(6, .bptr 0 0), (19, iE M), (20, iI M.length), (21, iI k)], rwO (sF M k).1 (sF M k).2, 2⟩) _ _ ⟨0, rfl, Nat.zero_le _, rfl⟩ (Gh.le (by simp [push_cast, -List.getD_eq_getElem?_getD, sF]) (by simp)) ?_
  rintro c st ⟨k, rfl, hk, rfl⟩
  ((repeat refine PWp.seq ?_); refine PWp.region TT (by rfl) (fun K hK => ?_); simp only [push_cast, seval, Nat.reduceEqDiff, Nat.reduceLeDiff, reduceCtorEq]; (repeat refine sk ?_); refine hK _ ?_; clear hK K)
  ((repeat refine PWp.seq ?_); refine PWp.cond (by simp only [push_cast, seval, Nat.reduceEqDiff, Nat.reduceLeDiff, reduceCtorEq]; rfl) (fun hc => ?_) (fun hc => ?_))
  · have hlt : k < M.length := by have := of_decide_eq_true hc; omega
    clear hc
    have hg : (M.map encE).getD k .any = encE (M.getD k default) := getD_map hlt
    have hb0 := sF_b M k hk
    have h1 := totL_succ hlt
    have h3 := totL_le M (k + 1)
    have hstep := sF_succ hlt
    have hxo := hok _ (getD_mem hlt)
    generalize M.getD k default = x at *
    generalize hp : sF M k = p at *
    obtain ⟨P, W⟩ := p
    simp only at hb0
    ((repeat refine PWp.seq ?_); refine PWp.skip ?_)
    ((repeat refine PWp.seq ?_); refine PWp.block ?_)
    ((repeat refine PWp.seq ?_); refine PWp.region TT (by rfl) (fun K hK => ?_); simp only [push_cast, seval, Nat.reduceEqDiff, Nat.reduceLeDiff, reduceCtorEq, hg]; (repeat refine sk ?_); refine hK _ ?_; clear hK K)
    ((repeat refine PWp.seq ?_); refine PWp.region TT (by rfl) (fun K hK => ?_); simp only [push_cast, seval, Nat.reduceEqDiff, Nat.reduceLeDiff, reduceCtorEq])
    ((repeat refine sk ?_); refine PCall.use (rows_take P W x (by omega) (by omega) (by omega) hxo) [0, 1] rfl (by simp [push_cast]) (by simp) (by simp [push_cast]) (by simp [push_cast]) (by simp [push_cast]) (by simp [push_cast]) ?_)
    rintro _ _ rfl
    (simp only [push_cast, seval, Nat.reduceEqDiff, Nat.reduceLeDiff, reduceCtorEq]; (repeat refine sk ?_); refine hK _ ?_; clear hK K)
    ((repeat refine PWp.seq ?_); refine PWp.region TT (by rfl) (fun K hK => ?_); simp only [push_cast, seval, Nat.reduceEqDiff, Nat.reduceLeDiff, reduceCtorEq, wrap64_id (n := (k : Int) + 1) (by omega) (by omega)]; (repeat refine sk ?_); refine hK _ ?_; clear hK K)
    refine ⟨_, _, ?_, ⟨k + 1, rfl, by omega, rfl⟩, Gh.le (by simp [push_cast, -List.getD_eq_getElem?_getD, hstep]) (by simp)⟩
    omega
  · have hk' : k = M.length := by have := of_decide_eq_false hc; omega
    subst hk'
    clear hc
    have hb0 := sF_b M M.length hk
    rw [List.take_length] at hb0
    generalize sF M M.length = p at *
    obtain ⟨P, W⟩ := p
    simp only at hb0 hrow
    (repeat refine PWp.seq ?_); refine PWp.exit (iteT rfl ?_)
    ((repeat refine PWp.seq ?_); refine PWp.region TT (by rfl) (fun K hK => ?_); simp only [push_cast, seval, Nat.reduceEqDiff, Nat.reduceLeDiff, reduceCtorEq])
    ((repeat refine sk ?_); refine PCall.use (rows_flush P W [] (by omega) (by omega) (by simp)) [0, 1] rfl (by simp [push_cast]) (by simp) (by simp [push_cast]) (by simp [push_cast]) (by simp [push_cast]) (by simp [push_cast]) ?_)
    rintro _ _ rfl
    (simp only [push_cast, seval, Nat.reduceEqDiff, Nat.reduceLeDiff, reduceCtorEq]; (repeat refine sk ?_); refine hK _ ?_; clear hK K)
    rw [← hrow]
    ((repeat refine PWp.seq ?_); refine PWp.region TT (by rfl) (fun K hK => ?_); simp only [push_cast, seval, Nat.reduceEqDiff, Nat.reduceLeDiff, reduceCtorEq]; (repeat refine sk ?_); refine hK _ ?_; clear hK K)
    ((repeat refine PWp.seq ?_); refine PWp.ret ?_)
    refine ⟨.inr rfl, by omega, _, [], ?_, rfl, rfl⟩
    rw [h]
    (simp [push_cast, -List.getD_eq_getElem?_getD])
end Go.Proofs.Ytjajefphfhdfkaa
