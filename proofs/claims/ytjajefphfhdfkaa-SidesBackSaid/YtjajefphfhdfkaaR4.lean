/- The document's rows are the same. -/
import Derived.Test.YtjajefphfhdfkaaR3
namespace Go.Proofs.Ytjajefphfhdfkaa
open Go.PL
set_option maxRecDepth 100000
set_option linter.unusedSimpArgs false
set_option linter.unusedVariables false
/-- The rows of a script of which some lines wait. -/
def roP : List (List UInt8) → List Ed → List Pr
  | W, [] => prW W []
  | W, e :: r => if e.d = 2 then roP (txt e.l) r else if e.d = 3 then prW W (txt e.l) ++ roP [] r else prW W [] ++ smR (txt e.l) ++ roP [] r
theorem roP_out {W : List (List UInt8)} {e : Ed} {r : List Ed} (h : e.d = 2) : roP W (e :: r) = roP (txt e.l) r := by rw [roP, if_pos h]
theorem roP_in {W : List (List UInt8)} {e : Ed} {r : List Ed} (h : e.d = 3) : roP W (e :: r) = prW W (txt e.l) ++ roP [] r := by rw [roP, if_neg (by omega), if_pos h]
theorem roP_keep {W : List (List UInt8)} {e : Ed} {r : List Ed} (h : e.d = 1) : roP W (e :: r) = prW W [] ++ smR (txt e.l) ++ roP [] r := by rw [roP, if_neg (by omega), if_neg (by omega)]
theorem fold_roP : ∀ (N : List Ed) (P : List Pr) (W : List (List UInt8)), (N.foldl takS (P, W)).1 ++ prW (N.foldl takS (P, W)).2 [] = P ++ roP W N
  | [], P, W => rfl
  | e :: r, P, W => by
    rw [List.foldl_cons]
    by_cases h2 : e.d = 2
    · rw [roP_out h2, show takS (P, W) e = (P, txt e.l) from if_pos h2, fold_roP r]
    · by_cases h3 : e.d = 3
      · have e1 : takS (P, W) e = (P ++ prW W (txt e.l), []) := by unfold takS; rw [if_neg h2, if_pos h3]
        rw [roP_in h3, e1, fold_roP r, List.append_assoc]
      · have e1 : takS (P, W) e = (P ++ prW W [] ++ smR (txt e.l), []) := by unfold takS; rw [if_neg h2, if_neg h3]
        rw [roP, if_neg h2, if_neg h3, e1, fold_roP r]
        simp only [List.append_assoc]
theorem rowF_eq (s : List Ed) : rowF s = roP [] (norL s) := by
  have := fold_roP (norL s) [] []
  unfold rowF sF
  rw [List.take_length]
  simpa using this
theorem prW_nil : prW [] [] = [] := rfl
theorem nf_consS {ho hi : Bool} {e : Ed} {r : List Ed} (h : nf ho hi (e :: r) = true) : e.l ≠ [] ∧ ((e.d = 1 ∧ nf false false r = true) ∨ (e.d = 2 ∧ ho = false ∧ nf true hi r = true) ∨ (e.d = 3 ∧ hi = false ∧ nf ho true r = true)) := by
  simp only [nf, Bool.and_eq_true, decide_eq_true_eq] at h
  obtain ⟨h1, h2⟩ := h
  refine ⟨h1, ?_⟩
  split at h2
  · exact .inl ⟨by assumption, h2⟩
  · split at h2
    · simp only [Bool.and_eq_true, Bool.not_eq_true'] at h2
      exact .inr (.inl ⟨by assumption, h2⟩)
    · simp only [Bool.and_eq_true, Bool.not_eq_true', decide_eq_true_eq] at h2
      exact .inr (.inr ⟨h2.1.1, h2.1.2, h2.2⟩)
/-- What the document lays beside each other at a place: what goes, what comes, and the place of the last edit of these. -/
theorem drop_step {N : List Ed} {i : Nat} {ho hi : Bool} (h : i < N.length) (hn : nf ho hi (N.drop i) = true) :
    ((N.getD i default).d = 1 ∧ ∃ a b, nf a b (N.drop (i + 1)) = true ∧ roP [] (N.drop i) = smR (txt (N.getD i default).l) ++ roP [] (N.drop (i + 1))) ∨
    ((N.getD i default).d = 3 ∧ ∃ a b, nf a b (N.drop (i + 1)) = true ∧ roP [] (N.drop i) = prW (txt []) (txt (N.getD i default).l) ++ roP [] (N.drop (i + 1))) ∨
    ((N.getD i default).d = 2 ∧ (i + 1 < N.length → (N.getD (i + 1) default).d ≠ 3) ∧ ∃ a b, nf a b (N.drop (i + 1)) = true ∧ roP [] (N.drop i) = prW (txt (N.getD i default).l) (txt []) ++ roP [] (N.drop (i + 1))) ∨
    ((N.getD i default).d = 2 ∧ i + 1 < N.length ∧ (N.getD (i + 1) default).d = 3 ∧ ∃ a b, nf a b (N.drop (i + 2)) = true ∧ roP [] (N.drop i) = prW (txt (N.getD i default).l) (txt (N.getD (i + 1) default).l) ++ roP [] (N.drop (i + 2))) := by
  rw [drop_getD h] at hn ⊢
  generalize N.getD i default = x at *
  obtain ⟨hl, ⟨hd, hn⟩ | ⟨hd, hh, hn⟩ | ⟨hd, hh, hn⟩⟩ := nf_consS hn
  · refine .inl ⟨hd, _, _, hn, ?_⟩
    rw [roP_keep hd, prW_nil]
    rfl
  · by_cases h1 : i + 1 < N.length
    · rw [drop_getD h1] at hn ⊢
      generalize N.getD (i + 1) default = y at *
      obtain ⟨hl2, ⟨hd2, hn2⟩ | ⟨hd2, hh2, hn2⟩ | ⟨hd2, hh2, hn2⟩⟩ := nf_consS hn
      · refine .inr (.inr (.inl ⟨hd, fun _ => by omega, _, _, hn, ?_⟩))
        rw [roP_out hd, roP_keep hd2, roP_keep hd2, prW_nil]
        simp [txt]
      · cases hh2
      · refine .inr (.inr (.inr ⟨hd, h1, hd2, _, _, hn2, ?_⟩))
        rw [roP_out hd, roP_in hd2]
    · have h0 : N.drop (i + 1) = [] := List.drop_eq_nil_of_le (by omega)
      refine .inr (.inr (.inl ⟨hd, fun h => absurd h h1, true, hi, hn, ?_⟩))
      rw [h0, roP_out hd]
      show prW (txt x.l) [] = prW (txt x.l) (txt []) ++ prW [] []
      rw [prW_nil, List.append_nil]
      rfl
  · refine .inr (.inl ⟨hd, _, _, hn, ?_⟩)
    rw [roP_in hd]
    rfl
theorem txt_get {l : List Ln} {k : Nat} (h : k < l.length) : (txt l).getD k default = (l.getD k default).t := by
  unfold txt
  rw [List.getD_eq_getElem?_getD, List.getD_eq_getElem?_getD, List.getElem?_map, List.getElem?_eq_getElem h]
  rfl
def b61 : TV := .iv (.lit (.int .u8 61))
set_option maxHeartbeats 8000000 in
theorem ref29_Rows (s : List Ed) (hs : bigE s) : PC Try.prog 8 [iE s] [] 0 90 (fun t obs => t = .tup [iR (rowF s), iI (chkE s)] ∧ obs = []) := by
  refine PC.body [2, 3] Try.func8 rfl (by rfl) (Nat.le_of_ble_eq_true (by rfl)) rfl ?_; simp only [enumA]
  ((repeat refine PWp.seq ?_); refine PWp.region TT (by rfl) (fun K hK => ?_); simp only [push_cast, seval, Nat.reduceEqDiff, Nat.reduceLeDiff, reduceCtorEq]; (repeat refine sk ?_); refine hK _ ?_; clear hK K)
  ((repeat refine PWp.seq ?_); refine PWp.region TT (by rfl) (fun K hK => ?_); simp only [push_cast, seval, Nat.reduceEqDiff, Nat.reduceLeDiff, reduceCtorEq])
  ((repeat refine sk ?_); refine PCall.use (ref08_Normal s hs) [] rfl (by simp [push_cast]) (by simp) (by simp [push_cast]) (by simp [push_cast]) (by simp [push_cast]) (by simp [push_cast]) ?_)
  rintro _ _ ⟨rfl, rfl⟩
  (simp only [push_cast, seval, Nat.reduceEqDiff, Nat.reduceLeDiff, reduceCtorEq]; (repeat refine sk ?_); refine hK _ ?_; clear hK K)
  have hrow := rowF_eq s
  have hnf := norm_nf s
  have htt := norm_tot s
  have hnl := norm_len s
  by_cases h : chkE s = 0
  case neg =>
    have hb : (chkE s != 0) = true := bne_iff_ne.2 h
    have hn : rowF s = [] := by
      rw [hrow, show norL s = [] from if_neg h]
      rfl
    ((repeat refine PWp.seq ?_); refine PWp.region TT (by rfl) (fun K hK => ?_); simp only [push_cast, seval, Nat.reduceEqDiff, Nat.reduceLeDiff, reduceCtorEq, hb]; (repeat refine sk ?_); refine hK _ ?_; clear hK K)
    ((repeat refine PWp.seq ?_); refine PWp.cond (by simp only [push_cast, seval, Nat.reduceEqDiff, Nat.reduceLeDiff, reduceCtorEq]; rfl) (fun hc => ?_) (fun hc => ?_))
    · ((repeat refine PWp.seq ?_); refine PWp.region TT (by rfl) (fun K hK => ?_); simp only [push_cast, seval, Nat.reduceEqDiff, Nat.reduceLeDiff, reduceCtorEq]; (repeat refine sk ?_); refine hK _ ?_; clear hK K)
      ((repeat refine PWp.seq ?_); refine PWp.ret ?_)
      refine ⟨.inr rfl, by omega, _, [], ?_, rfl, rfl⟩
      rw [hn]
      (simp [push_cast, -List.getD_eq_getElem?_getD])
    · cases hc
  have hb : (chkE s != 0) = false := by rw [h]; rfl
  generalize norL s = M at *
  generalize rowF s = R at *
  ((repeat refine PWp.seq ?_); refine PWp.region TT (by rfl) (fun K hK => ?_); simp only [push_cast, seval, Nat.reduceEqDiff, Nat.reduceLeDiff, reduceCtorEq, hb]; (repeat refine sk ?_); refine hK _ ?_; clear hK K)
  ((repeat refine PWp.seq ?_); refine PWp.cond (by simp only [push_cast, seval, Nat.reduceEqDiff, Nat.reduceLeDiff, reduceCtorEq]; rfl) (fun hc => ?_) (fun hc => ?_))
  · cases hc
  clear hc
  ((repeat refine PWp.seq ?_); refine PWp.skip ?_)
  ((repeat refine PWp.seq ?_); refine PWp.region TT (by rfl) (fun K hK => ?_); simp only [push_cast, seval, Nat.reduceEqDiff, Nat.reduceLeDiff, reduceCtorEq]; (repeat refine sk ?_); refine hK _ ?_; clear hK K)
  ((repeat refine PWp.seq ?_); refine PWp.region TT (by rfl) (fun K hK => ?_); simp only [push_cast, seval, Nat.reduceEqDiff, Nat.reduceLeDiff, reduceCtorEq]; (repeat refine sk ?_); refine hK _ ?_; clear hK K)
  refine PWp.gh (st' := ⟨[(4, iE M), (6, .acc 0 3 []), (7, iI 0)], [(0, .row 61 3)], 1⟩) (Gh.leR [60] (by simp [push_cast, -List.getD_eq_getElem?_getD]; try decide)) ?_
  ((repeat refine PWp.seq ?_); refine PWp.block ?_)
  refine PWp.loop (fun c st => ∃ (i : Nat) (out : List Pr) (a b : Bool), c = M.length - i ∧ i ≤ M.length ∧ R = out ++ roP [] (M.drop i) ∧ nf a b (M.drop i) = true ∧ out.length ≤ totL (M.take i) ∧
    st = ⟨[(4, iE M), (6, .acc 0 3 (out.map encP)), (7, iI i)], [(0, .row 61 3)], 1⟩) _ _ ⟨0, [], false, false, rfl, Nat.zero_le _, by simpa using hrow, hnf, by simp, rfl⟩ (Gh.le (by simp [push_cast, -List.getD_eq_getElem?_getD]) (by simp)) ?_
  rintro c st ⟨i, out, a, b, rfl, hi, hR, hnd, hol, rfl⟩
  ((repeat refine PWp.seq ?_); refine PWp.region TT (by rfl) (fun K hK => ?_); simp only [push_cast, seval, Nat.reduceEqDiff, Nat.reduceLeDiff, reduceCtorEq]; (repeat refine sk ?_); refine hK _ ?_; clear hK K)
  ((repeat refine PWp.seq ?_); refine PWp.cond (by simp only [push_cast, seval, Nat.reduceEqDiff, Nat.reduceLeDiff, reduceCtorEq]; rfl) (fun hc => ?_) (fun hc => ?_))
  · have hlt : i < M.length := by have := of_decide_eq_true hc; omega
    clear hc
    have hg : (M.map encE).getD i .any = encE (M.getD i default) := getD_map hlt
    have hstep := drop_step hlt hnd
    have h1 := totL_succ hlt
    have h3 := totL_le M (i + 1)
    have w1 := wrap64_id (n := (i : Int) + 1) (by omega) (by omega)
    ((repeat refine PWp.seq ?_); refine PWp.skip ?_)
    ((repeat refine PWp.seq ?_); refine PWp.block ?_)
    by_cases hd1 : (M.getD i default).d = 1
    · obtain ⟨a', b', hn', hro⟩ : ∃ a b, nf a b (M.drop (i + 1)) = true ∧ roP [] (M.drop i) = smR (txt (M.getD i default).l) ++ roP [] (M.drop (i + 1)) := by
        rcases hstep with ⟨_, h⟩ | ⟨h, _⟩ | ⟨h, _⟩ | ⟨h, _⟩
        · exact h
        · omega
        · omega
        · omega
      clear hstep
      rw [hro, ← List.append_assoc] at hR
      clear hro
      generalize M.getD i default = x at *
      have htl := txt_len x.l
      have hsl := smR_len (txt x.l)
      ((repeat refine PWp.seq ?_); refine PWp.region TT (by rfl) (fun K hK => ?_); simp only [push_cast, seval, Nat.reduceEqDiff, Nat.reduceLeDiff, reduceCtorEq, hg, hd1]; (repeat refine sk ?_); refine hK _ ?_; clear hK K)
      ((repeat refine PWp.seq ?_); refine PWp.cond (by simp only [push_cast, seval, Nat.reduceEqDiff, Nat.reduceLeDiff, reduceCtorEq]; rfl) (fun hc => ?_) (fun hc => ?_))
      · ((repeat refine PWp.seq ?_); refine PWp.region TT (by rfl) (fun K hK => ?_); simp only [push_cast, seval, Nat.reduceEqDiff, Nat.reduceLeDiff, reduceCtorEq]; (repeat refine sk ?_); refine hK _ ?_; clear hK K)
        refine PWp.gh (st' := ⟨[(4, iE M), (6, .acc 0 3 (out.map encP)), (7, iI i), (8, iI 0)], [(0, .row 61 3)], 1⟩) (Gh.le (by simp [push_cast, -List.getD_eq_getElem?_getD]) (by simp)) ?_
        · ((repeat refine PWp.seq ?_); refine PWp.block ?_)
          refine PWp.loop (fun c st => ∃ k : Nat, c = x.l.length - k ∧ k ≤ x.l.length ∧
            st = ⟨[(4, iE M), (6, .acc 0 3 ((out ++ smR ((txt x.l).take k)).map encP)), (7, iI i), (8, iI k)], [(0, .row 61 3)], 1⟩) _ _ ⟨0, rfl, Nat.zero_le _, rfl⟩ (Gh.le (by simp [push_cast, -List.getD_eq_getElem?_getD, smR]) (by simp)) ?_
          rintro c st ⟨k, rfl, hk, rfl⟩
          ((repeat refine PWp.seq ?_); refine PWp.region TT (by rfl) (fun K hK => ?_); simp only [push_cast, seval, Nat.reduceEqDiff, Nat.reduceLeDiff, reduceCtorEq, hg]; (repeat refine sk ?_); refine hK _ ?_; clear hK K)
          ((repeat refine PWp.seq ?_); refine PWp.cond (by simp only [push_cast, seval, Nat.reduceEqDiff, Nat.reduceLeDiff, reduceCtorEq]; rfl) (fun hc => ?_) (fun hc => ?_))
          · have hkl : k < x.l.length := by have := of_decide_eq_true hc; omega
            clear hc
            have hs := smR_succ (l := txt x.l) (k := k) (by omega)
            have hgl : (x.l.map encL).getD k .any = encL (x.l.getD k default) := getD_map hkl
            have hsk : (smR ((txt x.l).take k)).length ≤ k := by rw [smR_len, List.length_take]; omega
            rw [txt_get hkl] at hs
            generalize x.l.getD k default = z at *
            ((repeat refine PWp.seq ?_); refine PWp.skip ?_)
            ((repeat refine PWp.seq ?_); refine PWp.block ?_)
            ((repeat refine PWp.seq ?_); refine PWp.drawT TT (by kernel_rfl) [] (.q 0 (.q 1 (.q 2 (.q 3 (.q 4 (.q 5 (.q 6 (.q 7 (.q 8 (.q 9 (.q 10 (.q 11 (.q 12 (.q 13 (.q 14 (.q 15 (.q 16 (.q 17 (.q 18 (.q 19 (.x 20 (.x 21 (.q 22 .nil))))))))))))))))))))))) (by rfl) (by kernel_rfl) (by rfl) (by simp) (fun K hK => ?_); simp only [push_cast, seval, Nat.reduceEqDiff, Nat.reduceLeDiff, reduceCtorEq, hg, hgl]; (repeat refine sk ?_); refine hK _ ?_; clear hK K)
            ((repeat refine PWp.seq ?_); refine PWp.region TT (by rfl) (fun K hK => ?_); simp only [push_cast, seval, Nat.reduceEqDiff, Nat.reduceLeDiff, reduceCtorEq, wrap64_id (n := (k : Int) + 1) (by omega) (by omega)]; (repeat refine sk ?_); refine hK _ ?_; clear hK K)
            refine ⟨_, _, ?_, ⟨k + 1, rfl, by omega, rfl⟩, Gh.le (by simp [push_cast, -List.getD_eq_getElem?_getD, hs]) (by simp)⟩
            omega
          · have hkl : k = x.l.length := by have := of_decide_eq_false hc; omega
            subst hkl
            rw [List.take_of_length_le (by omega)]
            (repeat refine PWp.seq ?_); refine PWp.exit (iteT rfl ?_)
            (repeat refine PWp.seq ?_); refine PWp.exit (iteT rfl ?_)
            ((repeat refine PWp.seq ?_); refine PWp.region TT (by rfl) (fun K hK => ?_); simp only [push_cast, seval, Nat.reduceEqDiff, Nat.reduceLeDiff, reduceCtorEq, w1]; (repeat refine sk ?_); refine hK _ ?_; clear hK K)
            refine ⟨_, _, ?_, ⟨i + 1, out ++ smR (txt x.l), a', b', rfl, by omega, hR, hn', by rw [List.length_append]; omega, rfl⟩, Gh.le (by simp [push_cast, -List.getD_eq_getElem?_getD]) (by simp)⟩
            omega
      · cases hc
    have hb1 : ((M.getD i default).d == 1) = false := beq_eq_false_iff_ne.2 hd1
    obtain ⟨g, m, j, a', b', hj1, hj2, hn', hro, hlen, hcase⟩ : ∃ (g m : List Ln) (j : Nat) (a b : Bool), i ≤ j ∧ j < M.length ∧ nf a b (M.drop (j + 1)) = true ∧ roP [] (M.drop i) = prW (txt g) (txt m) ++ roP [] (M.drop (j + 1)) ∧
        max g.length m.length + totL (M.take i) ≤ totL (M.take (j + 1)) ∧
        (((M.getD i default).d = 3 ∧ g = [] ∧ m = (M.getD i default).l ∧ j = i) ∨ ((M.getD i default).d = 2 ∧ (i + 1 < M.length → (M.getD (i + 1) default).d ≠ 3) ∧ g = (M.getD i default).l ∧ m = [] ∧ j = i) ∨
         ((M.getD i default).d = 2 ∧ i + 1 < M.length ∧ (M.getD (i + 1) default).d = 3 ∧ g = (M.getD i default).l ∧ m = (M.getD (i + 1) default).l ∧ j = i + 1)) := by
      rcases hstep with ⟨h, _⟩ | ⟨hd, a, b, h1', h2'⟩ | ⟨hd, hx, a, b, h1', h2'⟩ | ⟨hd, hx, hy, a, b, h1', h2'⟩
      · exact absurd h hd1
      · exact ⟨[], _, i, a, b, by omega, hlt, h1', h2', by simp only [List.length_nil]; omega, .inl ⟨hd, rfl, rfl, rfl⟩⟩
      · exact ⟨_, [], i, a, b, by omega, hlt, h1', h2', by simp only [List.length_nil]; omega, .inr (.inl ⟨hd, hx, rfl, rfl, rfl⟩)⟩
      · have h4 := totL_succ hx
        exact ⟨_, _, i + 1, a, b, by omega, hx, h1', h2', by omega, .inr (.inr ⟨hd, hx, hy, rfl, rfl, rfl⟩)⟩
    clear hstep
    rw [hro, ← List.append_assoc] at hR
    clear hro
    have h5 := totL_le M (j + 1)
    have hgj : (M.map encE).getD j .any = encE (M.getD j default) := getD_map hj2
    have w2 := wrap64_id (n := (j : Int) + 1) (by omega) (by omega)
    ((repeat refine PWp.seq ?_); refine PWp.region TT (by rfl) (fun K hK => ?_); simp only [push_cast, seval, Nat.reduceEqDiff, Nat.reduceLeDiff, reduceCtorEq, hg, hb1]; (repeat refine sk ?_); refine hK _ ?_; clear hK K)
    ((repeat refine PWp.seq ?_); refine PWp.cond (by simp only [push_cast, seval, Nat.reduceEqDiff, Nat.reduceLeDiff, reduceCtorEq]; rfl) (fun hc => ?_) (fun hc => ?_))
    · cases hc
    ((repeat refine PWp.seq ?_); refine PWp.skip ?_)
    ((repeat refine PWp.seq ?_); refine PWp.region TT (by rfl) (fun K hK => ?_); simp only [push_cast, seval, Nat.reduceEqDiff, Nat.reduceLeDiff, reduceCtorEq]; (repeat refine sk ?_); refine hK _ ?_; clear hK K)
    ((repeat refine PWp.seq ?_); refine PWp.region TT (by rfl) (fun K hK => ?_); simp only [push_cast, seval, Nat.reduceEqDiff, Nat.reduceLeDiff, reduceCtorEq]; (repeat refine sk ?_); refine hK _ ?_; clear hK K)
    refine PJoin ⟨[(4, iE M), (6, .acc 0 3 (out.map encP)), (7, iI j), (9, iL g), (10, iL [])], [(0, .row 61 3)], 1⟩ ?_ ?_
    · rcases hcase with ⟨hd, rfl, rfl, rfl⟩ | ⟨hd, hx, rfl, rfl, rfl⟩ | ⟨hd, hx, hy, rfl, rfl, rfl⟩
      · ((repeat refine PWp.seq ?_); refine PWp.region TT (by rfl) (fun K hK => ?_); simp only [push_cast, seval, Nat.reduceEqDiff, Nat.reduceLeDiff, reduceCtorEq, hg, hd]; (repeat refine sk ?_); refine hK _ ?_; clear hK K)
        ((repeat refine PWp.seq ?_); refine PWp.cond (by simp only [push_cast, seval, Nat.reduceEqDiff, Nat.reduceLeDiff, reduceCtorEq]; rfl) (fun hc => ?_) (fun hc => ?_))
        · cases hc
        · ((repeat refine PWp.seq ?_); refine PWp.skip ?_)
          exact ⟨rfl, Gh.le (by simp [push_cast, -List.getD_eq_getElem?_getD]) (by simp)⟩
      · ((repeat refine PWp.seq ?_); refine PWp.region TT (by rfl) (fun K hK => ?_); simp only [push_cast, seval, Nat.reduceEqDiff, Nat.reduceLeDiff, reduceCtorEq, hg, hd]; (repeat refine sk ?_); refine hK _ ?_; clear hK K)
        ((repeat refine PWp.seq ?_); refine PWp.cond (by simp only [push_cast, seval, Nat.reduceEqDiff, Nat.reduceLeDiff, reduceCtorEq]; rfl) (fun hc => ?_) (fun hc => ?_))
        · ((repeat refine PWp.seq ?_); refine PWp.region TT (by rfl) (fun K hK => ?_); simp only [push_cast, seval, Nat.reduceEqDiff, Nat.reduceLeDiff, reduceCtorEq, hg]; (repeat refine sk ?_); refine hK _ ?_; clear hK K)
          by_cases hx1 : j + 1 < M.length
          · have hg1 : (M.map encE).getD (j + 1) .any = encE (M.getD (j + 1) default) := getD_map hx1
            have hdx := hx hx1
            have hbx : ((M.getD (j + 1) default).d == 3) = false := beq_eq_false_iff_ne.2 hdx
            have hlx : decide ((j : Int) + 1 < M.length) = true := decide_eq_true (by omega)
            have t1 : ((j : Int) + 1).toNat = j + 1 := by omega
            ((repeat refine PWp.seq ?_); refine PWp.region TT (by rfl) (fun K hK => ?_); simp only [push_cast, seval, Nat.reduceEqDiff, Nat.reduceLeDiff, reduceCtorEq, w1, hlx, t1, hg1, hbx]; (repeat refine sk ?_); refine hK _ ?_; clear hK K)
            ((repeat refine PWp.seq ?_); refine PWp.cond (by simp only [push_cast, seval, Nat.reduceEqDiff, Nat.reduceLeDiff, reduceCtorEq]; rfl) (fun hc => ?_) (fun hc => ?_))
            · cases hc
            · ((repeat refine PWp.seq ?_); refine PWp.skip ?_)
              exact ⟨rfl, Gh.le (by simp [push_cast, -List.getD_eq_getElem?_getD]) (by simp)⟩
          · have hlx : decide ((j : Int) + 1 < M.length) = false := decide_eq_false (by omega)
            have t1 : ((j : Int) + 1).toNat = j + 1 := by omega
            have hg1 : (M.map encE).getD (j + 1) .any = .any := by rw [List.getD_eq_getElem?_getD, List.getElem?_eq_none (by simp; omega)]; rfl
            ((repeat refine PWp.seq ?_); refine PWp.region TT (by rfl) (fun K hK => ?_); simp only [push_cast, seval, Nat.reduceEqDiff, Nat.reduceLeDiff, reduceCtorEq, w1, hlx, t1, hg1]; (repeat refine sk ?_); refine hK _ ?_; clear hK K)
            ((repeat refine PWp.seq ?_); refine PWp.cond (by simp only [push_cast, seval, Nat.reduceEqDiff, Nat.reduceLeDiff, reduceCtorEq]; rfl) (fun hc => ?_) (fun hc => ?_))
            · cases hc
            · ((repeat refine PWp.seq ?_); refine PWp.skip ?_)
              exact ⟨rfl, Gh.le (by simp [push_cast, -List.getD_eq_getElem?_getD]) (by simp)⟩
        · cases hc
      · ((repeat refine PWp.seq ?_); refine PWp.region TT (by rfl) (fun K hK => ?_); simp only [push_cast, seval, Nat.reduceEqDiff, Nat.reduceLeDiff, reduceCtorEq, hg, hd]; (repeat refine sk ?_); refine hK _ ?_; clear hK K)
        ((repeat refine PWp.seq ?_); refine PWp.cond (by simp only [push_cast, seval, Nat.reduceEqDiff, Nat.reduceLeDiff, reduceCtorEq]; rfl) (fun hc => ?_) (fun hc => ?_))
        · ((repeat refine PWp.seq ?_); refine PWp.region TT (by rfl) (fun K hK => ?_); simp only [push_cast, seval, Nat.reduceEqDiff, Nat.reduceLeDiff, reduceCtorEq, hg]; (repeat refine sk ?_); refine hK _ ?_; clear hK K)
          have hg1 : (M.map encE).getD (i + 1) .any = encE (M.getD (i + 1) default) := getD_map hx
          have hlx : decide ((i : Int) + 1 < M.length) = true := decide_eq_true (by omega)
          have t1 : ((i : Int) + 1).toNat = i + 1 := by omega
          ((repeat refine PWp.seq ?_); refine PWp.region TT (by rfl) (fun K hK => ?_); simp only [push_cast, seval, Nat.reduceEqDiff, Nat.reduceLeDiff, reduceCtorEq, w1, hlx, t1, hg1, hy]; (repeat refine sk ?_); refine hK _ ?_; clear hK K)
          ((repeat refine PWp.seq ?_); refine PWp.cond (by simp only [push_cast, seval, Nat.reduceEqDiff, Nat.reduceLeDiff, reduceCtorEq]; rfl) (fun hc => ?_) (fun hc => ?_))
          · ((repeat refine PWp.seq ?_); refine PWp.region TT (by rfl) (fun K hK => ?_); simp only [push_cast, seval, Nat.reduceEqDiff, Nat.reduceLeDiff, reduceCtorEq, w1]; (repeat refine sk ?_); refine hK _ ?_; clear hK K)
            exact ⟨rfl, Gh.le (by simp [push_cast, -List.getD_eq_getElem?_getD]) (by simp)⟩
          · cases hc
        · cases hc
    refine PJoin ⟨[(4, iE M), (6, .acc 0 3 (out.map encP)), (7, iI j), (9, iL g), (10, iL m)], [(0, .row 61 3)], 1⟩ ?_ ?_
    · rcases hcase with ⟨hd, rfl, rfl, rfl⟩ | ⟨hd, hx, rfl, rfl, rfl⟩ | ⟨hd, hx, hy, rfl, rfl, rfl⟩
      · ((repeat refine PWp.seq ?_); refine PWp.region TT (by rfl) (fun K hK => ?_); simp only [push_cast, seval, Nat.reduceEqDiff, Nat.reduceLeDiff, reduceCtorEq, hgj, hd]; (repeat refine sk ?_); refine hK _ ?_; clear hK K)
        ((repeat refine PWp.seq ?_); refine PWp.cond (by simp only [push_cast, seval, Nat.reduceEqDiff, Nat.reduceLeDiff, reduceCtorEq]; rfl) (fun hc => ?_) (fun hc => ?_))
        · ((repeat refine PWp.seq ?_); refine PWp.region TT (by rfl) (fun K hK => ?_); simp only [push_cast, seval, Nat.reduceEqDiff, Nat.reduceLeDiff, reduceCtorEq, hgj]; (repeat refine sk ?_); refine hK _ ?_; clear hK K)
          exact ⟨rfl, Gh.le (by simp [push_cast, -List.getD_eq_getElem?_getD]) (by simp)⟩
        · cases hc
      · ((repeat refine PWp.seq ?_); refine PWp.region TT (by rfl) (fun K hK => ?_); simp only [push_cast, seval, Nat.reduceEqDiff, Nat.reduceLeDiff, reduceCtorEq, hgj, hd]; (repeat refine sk ?_); refine hK _ ?_; clear hK K)
        ((repeat refine PWp.seq ?_); refine PWp.cond (by simp only [push_cast, seval, Nat.reduceEqDiff, Nat.reduceLeDiff, reduceCtorEq]; rfl) (fun hc => ?_) (fun hc => ?_))
        · cases hc
        · ((repeat refine PWp.seq ?_); refine PWp.skip ?_)
          exact ⟨rfl, Gh.le (by simp [push_cast, -List.getD_eq_getElem?_getD]) (by simp)⟩
      · have t1 : ((i : Int) + 1).toNat = i + 1 := by omega
        ((repeat refine PWp.seq ?_); refine PWp.region TT (by rfl) (fun K hK => ?_); simp only [push_cast, seval, Nat.reduceEqDiff, Nat.reduceLeDiff, reduceCtorEq, t1, hgj, hy]; (repeat refine sk ?_); refine hK _ ?_; clear hK K)
        ((repeat refine PWp.seq ?_); refine PWp.cond (by simp only [push_cast, seval, Nat.reduceEqDiff, Nat.reduceLeDiff, reduceCtorEq]; rfl) (fun hc => ?_) (fun hc => ?_))
        · ((repeat refine PWp.seq ?_); refine PWp.region TT (by rfl) (fun K hK => ?_); simp only [push_cast, seval, Nat.reduceEqDiff, Nat.reduceLeDiff, reduceCtorEq, t1, hgj]; (repeat refine sk ?_); refine hK _ ?_; clear hK K)
          exact ⟨rfl, Gh.le (by simp [push_cast, -List.getD_eq_getElem?_getD]) (by simp)⟩
        · cases hc
    clear hcase hg hb1 hd1
    have hgl := txt_len g
    have hml := txt_len m
    have hpW : prW (txt g) (txt m) = prN (txt g) (txt m) (max g.length m.length) := by unfold prW; rw [hgl, hml]
    ((repeat refine PWp.seq ?_); refine PWp.region TT (by rfl) (fun K hK => ?_); simp only [push_cast, seval, Nat.reduceEqDiff, Nat.reduceLeDiff, reduceCtorEq]; (repeat refine sk ?_); refine hK _ ?_; clear hK K)
    refine PWp.gh (st' := ⟨[(4, iE M), (6, .acc 0 3 (out.map encP)), (7, iI j), (9, iL g), (10, iL m), (11, iI 0)], [(0, .row 61 3)], 1⟩) (Gh.le (by simp [push_cast, -List.getD_eq_getElem?_getD]) (by simp)) ?_
    · ((repeat refine PWp.seq ?_); refine PWp.block ?_)
      refine PWp.loop (fun c st => ∃ k : Nat, c = max g.length m.length - k ∧ k ≤ max g.length m.length ∧
        st = ⟨[(4, iE M), (6, .acc 0 3 ((out ++ prN (txt g) (txt m) k).map encP)), (7, iI j), (9, iL g), (10, iL m), (11, iI k)], [(0, .row 61 3)], 1⟩) _ _ ⟨0, rfl, Nat.zero_le _, rfl⟩ (Gh.le (by simp [push_cast, -List.getD_eq_getElem?_getD, prN]) (by simp)) ?_
      rintro c st ⟨k, rfl, hk, rfl⟩
      ((repeat refine PWp.seq ?_); refine PWp.region TT (by rfl) (fun K hK => ?_); simp only [push_cast, seval, Nat.reduceEqDiff, Nat.reduceLeDiff, reduceCtorEq]; (repeat refine sk ?_); refine hK _ ?_; clear hK K)
      ((repeat refine PWp.seq ?_); refine PWp.cond (by simp only [push_cast, seval, Nat.reduceEqDiff, Nat.reduceLeDiff, reduceCtorEq]; rfl) (fun hc => ?_) (fun hc => ?_))
      · have hkl : k < max g.length m.length := by simp only [Bool.or_eq_true, Bool.and_eq_true, Bool.not_eq_true', Bool.not_eq_false', Bool.or_eq_false_iff, Bool.and_eq_false_iff, decide_eq_true_eq, decide_eq_false_iff_not, beq_iff_eq, beq_eq_false_iff_ne, bne_iff_ne, bne_eq_false_iff_eq, ne_eq, Classical.not_not, Int.not_lt, Int.not_le, ge_iff_le, gt_iff_lt] at hc; omega
        clear hc
        have hsn := prN_succ (txt g) (txt m) k
        have hpl := prN_len (txt g) (txt m) k
        have hpk : pk (txt g) (txt m) k = if k < g.length ∧ k < m.length then ⟨124, (txt g).getD k default, (txt m).getD k default⟩ else if k < g.length then ⟨60, (txt g).getD k default, []⟩ else ⟨62, [], (txt m).getD k default⟩ := by
          unfold pk
          rw [hgl, hml]
        ((repeat refine PWp.seq ?_); refine PWp.skip ?_)
        ((repeat refine PWp.seq ?_); refine PWp.block ?_)
        ((repeat refine PWp.seq ?_); refine PWp.region TT (by rfl) (fun K hK => ?_); simp only [push_cast, seval, Nat.reduceEqDiff, Nat.reduceLeDiff, reduceCtorEq]; (repeat refine sk ?_); refine hK _ ?_; clear hK K)
        refine PJoin ⟨[(4, iE M), (6, .acc 0 3 ((out ++ prN (txt g) (txt m) k).map encP)), (7, iI j), (9, iL g), (10, iL m), (11, iI k), (12, .bptr 1 0)], [(0, .row 61 3), (1, .box 61 [.iv (.lit (.int .u8 (pk (txt g) (txt m) k).g)), iS (pk (txt g) (txt m) k).l, iS (pk (txt g) (txt m) k).r])], 2⟩ ?_ ?_
        · by_cases hkg : k < g.length
          · have hgg : (g.map encL).getD k .any = encL (g.getD k default) := getD_map hkg
            have hlg : decide ((k : Int) < g.length) = true := decide_eq_true (by omega)
            by_cases hkm : k < m.length
            · have hgm : (m.map encL).getD k .any = encL (m.getD k default) := getD_map hkm
              have hlm : decide ((k : Int) < m.length) = true := decide_eq_true (by omega)
              rw [if_pos ⟨hkg, hkm⟩, txt_get hkg, txt_get hkm] at hpk
              rw [hpk]
              ((repeat refine PWp.seq ?_); refine PWp.region TT (by rfl) (fun K hK => ?_); simp only [push_cast, seval, Nat.reduceEqDiff, Nat.reduceLeDiff, reduceCtorEq, hlg, hlm]; (repeat refine sk ?_); refine hK _ ?_; clear hK K)
              ((repeat refine PWp.seq ?_); refine PWp.cond (by simp only [push_cast, seval, Nat.reduceEqDiff, Nat.reduceLeDiff, reduceCtorEq]; rfl) (fun hc => ?_) (fun hc => ?_))
              · ((repeat refine PWp.seq ?_); refine PWp.drawT TT (by kernel_rfl) [] (.q 0 (.q 1 (.q 2 (.q 3 (.q 4 (.q 5 (.q 6 (.q 7 (.q 8 (.q 9 (.q 10 (.x 11 .nil)))))))))))) (by rfl) (by kernel_rfl) (by rfl) (by simp) (fun K hK => ?_); simp only [push_cast, seval, Nat.reduceEqDiff, Nat.reduceLeDiff, reduceCtorEq, hgg, hgm]; (repeat refine sk ?_); refine hK _ ?_; clear hK K)
                exact ⟨rfl, Gh.le (by simp [push_cast, -List.getD_eq_getElem?_getD]) (by simp)⟩
              · cases hc
            · have hlm : decide ((k : Int) < m.length) = false := decide_eq_false (by omega)
              rw [if_neg (by omega), if_pos hkg, txt_get hkg] at hpk
              rw [hpk]
              ((repeat refine PWp.seq ?_); refine PWp.region TT (by rfl) (fun K hK => ?_); simp only [push_cast, seval, Nat.reduceEqDiff, Nat.reduceLeDiff, reduceCtorEq, hlg, hlm]; (repeat refine sk ?_); refine hK _ ?_; clear hK K)
              ((repeat refine PWp.seq ?_); refine PWp.cond (by simp only [push_cast, seval, Nat.reduceEqDiff, Nat.reduceLeDiff, reduceCtorEq]; rfl) (fun hc => ?_) (fun hc => ?_))
              · cases hc
              ((repeat refine PWp.seq ?_); refine PWp.region TT (by rfl) (fun K hK => ?_); simp only [push_cast, seval, Nat.reduceEqDiff, Nat.reduceLeDiff, reduceCtorEq, hlg]; (repeat refine sk ?_); refine hK _ ?_; clear hK K)
              ((repeat refine PWp.seq ?_); refine PWp.cond (by simp only [push_cast, seval, Nat.reduceEqDiff, Nat.reduceLeDiff, reduceCtorEq]; rfl) (fun hc => ?_) (fun hc => ?_))
              · ((repeat refine PWp.seq ?_); refine PWp.region TT (by rfl) (fun K hK => ?_); simp only [push_cast, seval, Nat.reduceEqDiff, Nat.reduceLeDiff, reduceCtorEq, hgg]; (repeat refine sk ?_); refine hK _ ?_; clear hK K)
                exact ⟨rfl, Gh.le (by simp [push_cast, -List.getD_eq_getElem?_getD]) (by simp)⟩
              · cases hc
          · have hkm : k < m.length := by omega
            have hgm : (m.map encL).getD k .any = encL (m.getD k default) := getD_map hkm
            have hlg : decide ((k : Int) < g.length) = false := decide_eq_false (by omega)
            have hlm : decide ((k : Int) < m.length) = true := decide_eq_true (by omega)
            rw [if_neg (by omega), if_neg hkg, txt_get hkm] at hpk
            rw [hpk]
            ((repeat refine PWp.seq ?_); refine PWp.region TT (by rfl) (fun K hK => ?_); simp only [push_cast, seval, Nat.reduceEqDiff, Nat.reduceLeDiff, reduceCtorEq, hlg, hlm]; (repeat refine sk ?_); refine hK _ ?_; clear hK K)
            ((repeat refine PWp.seq ?_); refine PWp.cond (by simp only [push_cast, seval, Nat.reduceEqDiff, Nat.reduceLeDiff, reduceCtorEq]; rfl) (fun hc => ?_) (fun hc => ?_))
            · cases hc
            ((repeat refine PWp.seq ?_); refine PWp.region TT (by rfl) (fun K hK => ?_); simp only [push_cast, seval, Nat.reduceEqDiff, Nat.reduceLeDiff, reduceCtorEq, hlg]; (repeat refine sk ?_); refine hK _ ?_; clear hK K)
            ((repeat refine PWp.seq ?_); refine PWp.cond (by simp only [push_cast, seval, Nat.reduceEqDiff, Nat.reduceLeDiff, reduceCtorEq]; rfl) (fun hc => ?_) (fun hc => ?_))
            · cases hc
            · ((repeat refine PWp.seq ?_); refine PWp.region TT (by rfl) (fun K hK => ?_); simp only [push_cast, seval, Nat.reduceEqDiff, Nat.reduceLeDiff, reduceCtorEq, hgm]; (repeat refine sk ?_); refine hK _ ?_; clear hK K)
              exact ⟨rfl, Gh.le (by simp [push_cast, -List.getD_eq_getElem?_getD]) (by simp)⟩
        clear hpk
        generalize pk (txt g) (txt m) k = z at *
        ((repeat refine PWp.seq ?_); refine PWp.region TT (by rfl) (fun K hK => ?_); simp only [push_cast, seval, Nat.reduceEqDiff, Nat.reduceLeDiff, reduceCtorEq]; (repeat refine sk ?_); refine hK _ ?_; clear hK K)
        ((repeat refine PWp.seq ?_); refine PWp.region TT (by rfl) (fun K hK => ?_); simp only [push_cast, seval, Nat.reduceEqDiff, Nat.reduceLeDiff, reduceCtorEq, wrap64_id (n := (k : Int) + 1) (by omega) (by omega)]; (repeat refine sk ?_); refine hK _ ?_; clear hK K)
        refine ⟨_, _, ?_, ⟨k + 1, rfl, by omega, rfl⟩, Gh.le (by simp [push_cast, -List.getD_eq_getElem?_getD, hsn]) (by simp)⟩
        omega
      · have hkl : k = max g.length m.length := by simp only [Bool.or_eq_true, Bool.and_eq_true, Bool.not_eq_true', Bool.not_eq_false', Bool.or_eq_false_iff, Bool.and_eq_false_iff, decide_eq_true_eq, decide_eq_false_iff_not, beq_iff_eq, beq_eq_false_iff_ne, bne_iff_ne, bne_eq_false_iff_eq, ne_eq, Classical.not_not, Int.not_lt, Int.not_le, ge_iff_le, gt_iff_lt] at hc; omega
        rw [hkl, ← hpW]
        have hpl2 := prW_len (txt g) (txt m)
        (repeat refine PWp.seq ?_); refine PWp.exit (iteT rfl ?_)
        ((repeat refine PWp.seq ?_); refine PWp.region TT (by rfl) (fun K hK => ?_); simp only [push_cast, seval, Nat.reduceEqDiff, Nat.reduceLeDiff, reduceCtorEq, w2]; (repeat refine sk ?_); refine hK _ ?_; clear hK K)
        refine ⟨_, _, ?_, ⟨j + 1, out ++ prW (txt g) (txt m), a', b', rfl, by omega, hR, hn', by rw [List.length_append]; omega, rfl⟩, Gh.le (by simp [push_cast, -List.getD_eq_getElem?_getD]) (by simp)⟩
        omega
  · have hk' : i = M.length := by have := of_decide_eq_false hc; omega
    subst hk'
    rw [List.drop_length] at hR
    have hfin : R = out := by
      rw [hR]
      show out ++ prW [] [] = out
      rw [prW_nil, List.append_nil]
    rw [hfin]
    (repeat refine PWp.seq ?_); refine PWp.exit (iteT rfl ?_)
    ((repeat refine PWp.seq ?_); refine PWp.region TT (by rfl) (fun K hK => ?_); simp only [push_cast, seval, Nat.reduceEqDiff, Nat.reduceLeDiff, reduceCtorEq]; (repeat refine sk ?_); refine hK _ ?_; clear hK K)
    ((repeat refine PWp.seq ?_); refine PWp.ret ?_)
    refine ⟨.inr rfl, by omega, _, [], ?_, rfl, rfl⟩
    rw [h]
    (simp [push_cast, -List.getD_eq_getElem?_getD])
end Go.Proofs.Ytjajefphfhdfkaa
