/- The columns of the rows are both sides of the script; the walk of SidesBack. -/
import Derived.Test.YtjajefphfhdfkaaR8
namespace Go.Proofs.Ytjajefphfhdfkaa
open Go.PL
set_option maxRecDepth 100000
set_option linter.unusedSimpArgs false
set_option linter.unusedVariables false
def sdF (d : Int) : List Ed → List Ln
  | [] => []
  | e :: s => (if e.d ≠ d then e.l else []) ++ sdF d s
theorem sdF_A (s : List Ed) : sdF 3 s = sA s := by
  induction s with
  | nil => rfl
  | cons e s ih => simp only [sdF, sA, ih]
theorem sdF_B (s : List Ed) : sdF 2 s = sB s := by
  induction s with
  | nil => rfl
  | cons e s ih => simp only [sdF, sB, ih]
theorem sdF_append (d : Int) (s r : List Ed) : sdF d (s ++ r) = sdF d s ++ sdF d r := by
  induction s with
  | nil => rfl
  | cons e s ih => simp only [List.cons_append, sdF, ih, List.append_assoc]
theorem sdF_succ (d : Int) {s : List Ed} {k : Nat} (h : k < s.length) : sdF d (s.take (k + 1)) = sdF d (s.take k) ++ (if (s.getD k default).d ≠ d then (s.getD k default).l else []) := by
  rw [take_succ_getD h, sdF_append]
  simp [sdF]
theorem sdF_len (d : Int) (s : List Ed) : (sdF d s).length ≤ totL s := by
  induction s with
  | nil => simp [sdF, totL]
  | cons e s ih =>
    simp only [sdF, totL, List.length_append]
    split <;> simp <;> omega
theorem ref08_side (s : List Ed) (d : Int) (hs : s.length ≤ 100000) (ht : totL s ≤ 1000000) : PC Try.prog 29 [iE s, iI d] [] 0 9 (fun t obs => t = iL (sdF d s) ∧ obs = []) := by
  refine PC.body [4] Try.func29 rfl (by rfl) (Nat.le_of_ble_eq_true (by rfl)) rfl ?_; simp only [enumA]
  ((repeat refine PWp.seq ?_); refine PWp.region TT (by rfl) (fun K hK => ?_); simp only [push_cast, seval, Nat.reduceEqDiff, Nat.reduceLeDiff, reduceCtorEq]; (repeat refine sk ?_); refine hK _ ?_; clear hK K)
  ((repeat refine PWp.seq ?_); refine PWp.region TT (by rfl) (fun K hK => ?_); simp only [push_cast, seval, Nat.reduceEqDiff, Nat.reduceLeDiff, reduceCtorEq]; (repeat refine sk ?_); refine hK _ ?_; clear hK K)
  ((repeat refine PWp.seq ?_); refine PWp.region TT (by rfl) (fun K hK => ?_); simp only [push_cast, seval, Nat.reduceEqDiff, Nat.reduceLeDiff, reduceCtorEq]; (repeat refine sk ?_); refine hK _ ?_; clear hK K)
  refine PWp.gh (st' := ⟨[(0, iE s), (1, iI d), (5, .acc 0 2 []), (6, iI 0)], [(0, .row 47 2)], 1⟩) (Gh.le (by simp [push_cast, -List.getD_eq_getElem?_getD]) (by simp)) ?_
  ((repeat refine PWp.seq ?_); refine PWp.block ?_)
  refine PWp.loop (fun c st => ∃ k : Nat, c = s.length - k ∧ k ≤ s.length ∧
    st = ⟨[(0, iE s), (1, iI d), (5, .acc 0 2 ((sdF d (s.take k)).map encL)), (6, iI k)], [(0, .row 47 2)], 1⟩) _ _ ⟨0, rfl, Nat.zero_le _, rfl⟩ (Gh.le (by simp [push_cast, -List.getD_eq_getElem?_getD, sdF]) (by simp)) ?_
  rintro c st ⟨k, rfl, hk, rfl⟩
  ((repeat refine PWp.seq ?_); refine PWp.region TT (by rfl) (fun K hK => ?_); simp only [push_cast, seval, Nat.reduceEqDiff, Nat.reduceLeDiff, reduceCtorEq]; (repeat refine sk ?_); refine hK _ ?_; clear hK K)
  ((repeat refine PWp.seq ?_); refine PWp.cond (by simp only [push_cast, seval, Nat.reduceEqDiff, Nat.reduceLeDiff, reduceCtorEq]; rfl) (fun hc => ?_) (fun hc => ?_))
  · have hlt : k < s.length := by have := of_decide_eq_true hc; omega
    clear hc
    have hg : (s.map encE).getD k .any = encE (s.getD k default) := getD_map hlt
    have h1 := sdF_succ d hlt
    have h2 := sdF_len d (s.take k)
    have h3 := totL_le s (k + 1)
    have h4 := totL_succ hlt
    generalize s.getD k default = x at *
    ((repeat refine PWp.seq ?_); refine PWp.skip ?_)
    ((repeat refine PWp.seq ?_); refine PWp.block ?_)
    ((repeat refine PWp.seq ?_); refine PWp.region TT (by rfl) (fun K hK => ?_); simp only [push_cast, seval, Nat.reduceEqDiff, Nat.reduceLeDiff, reduceCtorEq, hg]; (repeat refine sk ?_); refine hK _ ?_; clear hK K)
    ((repeat refine PWp.seq ?_); refine PWp.cond (by simp only [push_cast, seval, Nat.reduceEqDiff, Nat.reduceLeDiff, reduceCtorEq]; rfl) (fun hc => ?_) (fun hc => ?_))
    · rw [if_pos (bne_iff_ne.1 hc)] at h1
      ((repeat refine PWp.seq ?_); refine PWp.region TT (by rfl) (fun K hK => ?_); simp only [push_cast, seval, Nat.reduceEqDiff, Nat.reduceLeDiff, reduceCtorEq, hg, lensLn x.l]; (repeat refine sk ?_); refine hK _ ?_; clear hK K)
      ((repeat refine PWp.seq ?_); refine PWp.region TT (by rfl) (fun K hK => ?_); simp only [push_cast, seval, Nat.reduceEqDiff, Nat.reduceLeDiff, reduceCtorEq, wrap64_id (n := (k : Int) + 1) (by omega) (by omega)]; (repeat refine sk ?_); refine hK _ ?_; clear hK K)
      refine ⟨_, _, ?_, ⟨k + 1, rfl, by omega, rfl⟩, Gh.le (by simp [push_cast, -List.getD_eq_getElem?_getD, h1]) (by simp)⟩
      omega
    · rw [if_neg (by simpa using hc), List.append_nil] at h1
      ((repeat refine PWp.seq ?_); refine PWp.skip ?_)
      ((repeat refine PWp.seq ?_); refine PWp.region TT (by rfl) (fun K hK => ?_); simp only [push_cast, seval, Nat.reduceEqDiff, Nat.reduceLeDiff, reduceCtorEq, wrap64_id (n := (k : Int) + 1) (by omega) (by omega)]; (repeat refine sk ?_); refine hK _ ?_; clear hK K)
      refine ⟨_, _, ?_, ⟨k + 1, rfl, by omega, rfl⟩, Gh.le (by simp [push_cast, -List.getD_eq_getElem?_getD, h1]) (by simp)⟩
      omega
  · have hk' : k = s.length := by have := of_decide_eq_false hc; omega
    subst hk'
    rw [List.take_length]
    (repeat refine PWp.seq ?_); refine PWp.exit (iteT rfl ?_)
    ((repeat refine PWp.seq ?_); refine PWp.region TT (by rfl) (fun K hK => ?_); simp only [push_cast, seval, Nat.reduceEqDiff, Nat.reduceLeDiff, reduceCtorEq]; (repeat refine sk ?_); refine hK _ ?_; clear hK K)
    ((repeat refine PWp.seq ?_); refine PWp.ret ?_)
    refine ⟨.inr rfl, by omega, _, [], ?_, rfl, rfl⟩
    (simp [push_cast, -List.getD_eq_getElem?_getD])
def sidA (s : List Ed) : List Ln := if chkE s = 0 then sA s else []
def sidB (s : List Ed) : List Ln := if chkE s = 0 then sB s else []
theorem ref08_Sides (s : List Ed) (hs : bigE s) : PC Try.prog 20 [iE s] [] 0 60 (fun t obs => t = .tup [iL (sidA s), iL (sidB s), iI (chkE s)] ∧ obs = []) := by
  refine PC.body [2, 3, 4] Try.func20 rfl (by rfl) (Nat.le_of_ble_eq_true (by rfl)) rfl ?_; simp only [enumA]
  ((repeat refine PWp.seq ?_); refine PWp.region TT (by rfl) (fun K hK => ?_); simp only [push_cast, seval, Nat.reduceEqDiff, Nat.reduceLeDiff, reduceCtorEq]; (repeat refine sk ?_); refine hK _ ?_; clear hK K)
  ((repeat refine PWp.seq ?_); refine PWp.region TT (by rfl) (fun K hK => ?_); simp only [push_cast, seval, Nat.reduceEqDiff, Nat.reduceLeDiff, reduceCtorEq])
  ((repeat refine sk ?_); refine PCall.use (ref08_Check s hs) [] rfl (by simp [push_cast]) (by simp) (by simp [push_cast]) (by simp [push_cast]) (by simp [push_cast]) (by simp [push_cast]) ?_)
  rintro _ _ ⟨rfl, rfl⟩
  (simp only [push_cast, seval, Nat.reduceEqDiff, Nat.reduceLeDiff, reduceCtorEq]; (repeat refine sk ?_); refine hK _ ?_; clear hK K)
  by_cases h : chkE s = 0
  · have hb : (chkE s != 0) = false := by rw [h]; rfl
    obtain ⟨c1, c2, c3⟩ := chk_zero h
    have h1 : sidA s = sdF 3 s := by rw [sdF_A]; exact if_pos h
    have h2 : sidB s = sdF 2 s := by rw [sdF_B]; exact if_pos h
    ((repeat refine PWp.seq ?_); refine PWp.region TT (by rfl) (fun K hK => ?_); simp only [push_cast, seval, Nat.reduceEqDiff, Nat.reduceLeDiff, reduceCtorEq, hb]; (repeat refine sk ?_); refine hK _ ?_; clear hK K)
    ((repeat refine PWp.seq ?_); refine PWp.cond (by simp only [push_cast, seval, Nat.reduceEqDiff, Nat.reduceLeDiff, reduceCtorEq]; rfl) (fun hc => ?_) (fun hc => ?_))
    · cases hc
    ((repeat refine PWp.seq ?_); refine PWp.skip ?_)
    ((repeat refine PWp.seq ?_); refine PWp.region TT (by rfl) (fun K hK => ?_); simp only [push_cast, seval, Nat.reduceEqDiff, Nat.reduceLeDiff, reduceCtorEq])
    ((repeat refine sk ?_); refine PCall.use (ref08_side s 3 (by omega) (by omega)) [] rfl (by simp [push_cast]) (by simp) (by simp [push_cast]) (by simp [push_cast]) (by simp [push_cast]) (by simp [push_cast]) ?_)
    rintro _ _ ⟨rfl, rfl⟩
    (simp only [push_cast, seval, Nat.reduceEqDiff, Nat.reduceLeDiff, reduceCtorEq])
    ((repeat refine sk ?_); refine PCall.use (ref08_side s 2 (by omega) (by omega)) [] rfl (by simp [push_cast]) (by simp) (by simp [push_cast]) (by simp [push_cast]) (by simp [push_cast]) (by simp [push_cast]) ?_)
    rintro _ _ ⟨rfl, rfl⟩
    (simp only [push_cast, seval, Nat.reduceEqDiff, Nat.reduceLeDiff, reduceCtorEq]; (repeat refine sk ?_); refine hK _ ?_; clear hK K)
    ((repeat refine PWp.seq ?_); refine PWp.ret ?_)
    refine ⟨.inr rfl, by omega, _, [], ?_, rfl, rfl⟩
    rw [h1, h2, h]
    (simp [push_cast, -List.getD_eq_getElem?_getD])
  · have hb : (chkE s != 0) = true := bne_iff_ne.2 h
    have h1 : sidA s = [] := if_neg h
    have h2 : sidB s = [] := if_neg h
    ((repeat refine PWp.seq ?_); refine PWp.region TT (by rfl) (fun K hK => ?_); simp only [push_cast, seval, Nat.reduceEqDiff, Nat.reduceLeDiff, reduceCtorEq, hb]; (repeat refine sk ?_); refine hK _ ?_; clear hK K)
    ((repeat refine PWp.seq ?_); refine PWp.cond (by simp only [push_cast, seval, Nat.reduceEqDiff, Nat.reduceLeDiff, reduceCtorEq]; rfl) (fun hc => ?_) (fun hc => ?_))
    · ((repeat refine PWp.seq ?_); refine PWp.region TT (by rfl) (fun K hK => ?_); simp only [push_cast, seval, Nat.reduceEqDiff, Nat.reduceLeDiff, reduceCtorEq]; (repeat refine sk ?_); refine hK _ ?_; clear hK K)
      ((repeat refine PWp.seq ?_); refine PWp.ret ?_)
      refine ⟨.inr rfl, by omega, _, [], ?_, rfl, rfl⟩
      rw [h1, h2]
      (simp [push_cast, -List.getD_eq_getElem?_getD])
    · cases hc
/-! ### Plain -/
theorem take_getT {l : List (List UInt8)} {k : Nat} (h : k < l.length) : l.take (k + 1) = l.take k ++ [l.getD k default] := take_succ_getD h
theorem prN_cols (W l : List (List UInt8)) : ∀ k, k ≤ max W.length l.length → cA (prN W l k) = W.take k ∧ cB (prN W l k) = l.take k ∧ (prN W l k).all sgOk = true ∧ cnt 61 (prN W l k) = 0 ∧ cnt 60 (prN W l k) + cnt 62 (prN W l k) + cnt 124 (prN W l k) = k ∧
    cnt 60 (prN W l k) + cnt 62 (prN W l k) + 2 * cnt 124 (prN W l k) = min k W.length + min k l.length
  | 0, _ => by simp [prN, cA, cB, cnt]
  | k + 1, h => by
    obtain ⟨h1, h2, h3, h4, h5, h6⟩ := prN_cols W l k (by omega)
    rw [prN_succ, cA_app, cB_app, List.all_append, cnt_app, cnt_app, cnt_app, cnt_app, h1, h2, h3, h4]
    by_cases hW : k < W.length
    · by_cases hl : k < l.length
      · have e : pk W l k = ⟨124, W.getD k default, l.getD k default⟩ := if_pos ⟨hW, hl⟩
        rw [e, take_getT hW, take_getT hl]
        refine ⟨rfl, rfl, rfl, rfl, ?_, ?_⟩
        · simp only [cnt]; simp; omega
        · simp only [cnt]; simp; omega
      · have e : pk W l k = ⟨60, W.getD k default, []⟩ := by unfold pk; rw [if_neg (by omega), if_pos hW]
        rw [e, take_getT hW, List.take_of_length_le (by omega : l.length ≤ k), List.take_of_length_le (by omega : l.length ≤ k + 1)]
        refine ⟨rfl, ?_, rfl, rfl, ?_, ?_⟩
        · simp [cB]
        · simp only [cnt]; simp; omega
        · simp only [cnt]; simp; omega
    · have hl : k < l.length := by omega
      have e : pk W l k = ⟨62, [], l.getD k default⟩ := by unfold pk; rw [if_neg (by omega), if_neg hW]
      rw [e, take_getT hl, List.take_of_length_le (by omega : W.length ≤ k), List.take_of_length_le (by omega : W.length ≤ k + 1)]
      refine ⟨?_, rfl, rfl, rfl, ?_, ?_⟩
      · simp [cA]
      · simp only [cnt]; simp; omega
      · simp only [cnt]; simp; omega
theorem prW_cols (W l : List (List UInt8)) : cA (prW W l) = W ∧ cB (prW W l) = l ∧ (prW W l).all sgOk = true ∧ cnt 61 (prW W l) = 0 ∧ cnt 60 (prW W l) + cnt 62 (prW W l) + cnt 124 (prW W l) = max W.length l.length ∧
    cnt 60 (prW W l) + cnt 62 (prW W l) + 2 * cnt 124 (prW W l) = W.length + l.length := by
  obtain ⟨h1, h2, h3, h4, h5, h6⟩ := prN_cols W l (max W.length l.length) (Nat.le_refl _)
  unfold prW
  rw [h1, h2, h3, h4]
  refine ⟨List.take_of_length_le (by omega), List.take_of_length_le (by omega), rfl, rfl, h5, by omega⟩
theorem smR_cols (T : List (List UInt8)) : cA (smR T) = T ∧ cB (smR T) = T ∧ (smR T).all sgOk = true ∧ cnt 61 (smR T) = T.length ∧ cnt 60 (smR T) = 0 ∧ cnt 62 (smR T) = 0 ∧ cnt 124 (smR T) = 0 := by
  induction T with
  | nil => exact ⟨rfl, rfl, rfl, rfl, rfl, rfl, rfl⟩
  | cons a T ih =>
    obtain ⟨h1, h2, h3, h4, h5, h6, h7⟩ := ih
    have e : smR (a :: T) = ⟨61, a, a⟩ :: smR T := rfl
    rw [e]
    refine ⟨?_, ?_, ?_, ?_, ?_, ?_, ?_⟩
    · rw [cA, h1]; rfl
    · rw [cB, h2]; rfl
    · rw [List.all_cons, h3]; rfl
    · rw [cnt, h4]; simp; omega
    · rw [cnt, h5]; rfl
    · rw [cnt, h6]; rfl
    · rw [cnt, h7]; rfl
def chF : List Ed → Nat
  | [] => 0
  | e :: s => (if e.d = 2 ∨ e.d = 3 then e.l.length else 0) + chF s
theorem chF_app (a b : List Ed) : chF (a ++ b) = chF a + chF b := by
  induction a with
  | nil => simp [chF]
  | cons e a ih => simp only [List.cons_append, chF, ih]; omega
theorem chF_succ {l : List Ed} {k : Nat} (h : k < l.length) : chF (l.take (k + 1)) = chF (l.take k) + (if (l.getD k default).d = 2 ∨ (l.getD k default).d = 3 then (l.getD k default).l.length else 0) := by
  rw [take_succ_getD h, chF_app]
  simp [chF]
theorem chF_le (s : List Ed) : chF s ≤ totL s := by
  induction s with
  | nil => simp [chF, totL]
  | cons e s ih =>
    simp only [chF, totL]
    split <;> omega
theorem chF_sum : ∀ (s : List Ed), (∀ e ∈ s, okD e = true) → chF s + (sA s).length + (sB s).length = 2 * totL s
  | [], _ => rfl
  | e :: s, h => by
    have ih := chF_sum s (fun x hx => h x (List.mem_cons_of_mem _ hx))
    have hd : e.d = 1 ∨ e.d = 2 ∨ e.d = 3 := by
      have := h e (List.mem_cons_self ..)
      unfold okD at this
      simp only [Bool.and_eq_true, decide_eq_true_eq] at this
      omega
    simp only [chF, sA, sB, totL, List.length_append]
    rcases hd with hd | hd | hd
    · rw [if_neg (by omega), if_pos (by omega), if_pos (by omega)]; omega
    · rw [if_pos (by omega), if_pos (by omega), if_neg (by omega)]; simp; omega
    · rw [if_pos (by omega), if_neg (by omega), if_pos (by omega)]; simp; omega
theorem txt_app (a b : List Ln) : txt (a ++ b) = txt a ++ txt b := by unfold txt; rw [List.map_append]
/-- What the rows hold. -/
theorem roP_cols : ∀ (N : List Ed) (ho hi : Bool) (W : List (List UInt8)), nf ho hi N = true → (ho = false → W = []) →
    cA (roP W N) = W ++ txt (sA N) ∧ cB (roP W N) = txt (sB N) ∧ (roP W N).all sgOk = true ∧ cnt 61 (roP W N) + cnt 60 (roP W N) + cnt 62 (roP W N) + cnt 124 (roP W N) = (roP W N).length ∧
    cnt 60 (roP W N) + cnt 62 (roP W N) + 2 * cnt 124 (roP W N) = W.length + chF N
  | [], ho, hi, W, _, _ => by
    obtain ⟨h1, h2, h3, h4, h5, h6⟩ := prW_cols W []
    have hl := prW_len W []
    simp only [List.length_nil] at h5 h6 hl
    have e : roP W [] = prW W [] := rfl
    rw [e, h1, h2, h3, h4, hl]
    refine ⟨by simp [sA, txt], rfl, rfl, by omega, by simp only [chF]; omega⟩
  | e :: r, ho, hi, W, hn, hW => by
    obtain ⟨hl, ⟨hd, hn⟩ | ⟨hd, hh, hn⟩ | ⟨hd, hh, hn⟩⟩ := nf_consS hn
    · obtain ⟨i1, i2, i3, i4, i5⟩ := roP_cols r false false [] hn (fun _ => rfl)
      obtain ⟨h1, h2, h3, h4, h5, h6⟩ := prW_cols W []
      obtain ⟨s1, s2, s3, s4, s5, s6, s7⟩ := smR_cols (txt e.l)
      have hlp := prW_len W []
      have hls := smR_len (txt e.l)
      have ea : sA (e :: r) = e.l ++ sA r := by rw [sA, if_pos (by omega)]
      have eb : sB (e :: r) = e.l ++ sB r := by rw [sB, if_pos (by omega)]
      have ec : chF (e :: r) = chF r := by rw [chF, if_neg (by omega), Nat.zero_add]
      simp only [List.length_nil] at h5 h6 hlp i5
      rw [roP_keep hd, ea, eb, ec, txt_app, txt_app]
      simp only [cA_app, cB_app, List.all_append, cnt_app, List.length_append, h1, h2, h3, h4, s1, s2, s3, s4, s5, s6, s7, i1, i2, i3, hlp, hls]
      refine ⟨by simp, by simp, rfl, by omega, by omega⟩
    · have hW0 := hW hh
      subst hW0
      obtain ⟨i1, i2, i3, i4, i5⟩ := roP_cols r true hi (txt e.l) hn (fun h => by cases h)
      have ea : sA (e :: r) = e.l ++ sA r := by rw [sA, if_pos (by omega)]
      have eb : sB (e :: r) = sB r := by rw [sB, if_neg (by omega), List.nil_append]
      have ec : chF (e :: r) = e.l.length + chF r := by rw [chF, if_pos (by omega)]
      have htl := txt_len e.l
      rw [roP_out hd, ea, eb, ec, txt_app, i1, i2, i3]
      refine ⟨by simp, rfl, rfl, i4, by simp only [List.length_nil]; omega⟩
    · obtain ⟨i1, i2, i3, i4, i5⟩ := roP_cols r ho true [] hn (fun _ => rfl)
      obtain ⟨h1, h2, h3, h4, h5, h6⟩ := prW_cols W (txt e.l)
      have hlp := prW_len W (txt e.l)
      have htl := txt_len e.l
      have ea : sA (e :: r) = sA r := by rw [sA, if_neg (by omega), List.nil_append]
      have eb : sB (e :: r) = e.l ++ sB r := by rw [sB, if_pos (by omega)]
      have ec : chF (e :: r) = e.l.length + chF r := by rw [chF, if_pos (by omega)]
      simp only [List.length_nil] at i5
      rw [roP_in hd, ea, eb, ec, txt_app]
      simp only [cA_app, cB_app, List.all_append, cnt_app, List.length_append, h1, h2, h3, h4, i1, i2, i3, hlp]
      refine ⟨by simp, by first | rfl | trivial, by first | rfl | trivial, by omega, by omega⟩
theorem rowF_laws {s : List Ed} (h : chkE s = 0) : cA (rowF s) = txt (sidA s) ∧ cB (rowF s) = txt (sidB s) ∧ (rowF s).all sgOk = true ∧ cnt 61 (rowF s) + cnt 60 (rowF s) + cnt 62 (rowF s) + cnt 124 (rowF s) = (rowF s).length ∧
    cnt 60 (rowF s) + cnt 62 (rowF s) + 2 * cnt 124 (rowF s) = chF s := by
  obtain ⟨n1, n2, n3⟩ := norm_sides h
  obtain ⟨c1, c2, c3⟩ := chk_zero h
  have e1 : sidA s = sA s := if_pos h
  have e2 : sidB s = sB s := if_pos h
  obtain ⟨h1, h2, h3, h4, h5⟩ := roP_cols (norL s) false false [] (norm_nf s) (fun _ => rfl)
  have k1 := chF_sum (norL s) (norm_ok s)
  have k2 := chF_sum s (fun e he => List.all_eq_true.1 c3 e he)
  rw [n1, n2, n3] at k1
  rw [← rowF_eq] at h1 h2 h3 h4 h5
  rw [e1, e2, ← n1, ← n2]
  simp only [List.length_nil] at h5
  exact ⟨by simpa using h1, h2, h3, h4, by omega⟩
theorem rowF_none {s : List Ed} (h : chkE s ≠ 0) : rowF s = [] := by
  rw [rowF_eq, show norL s = [] from if_neg h]
  rfl
theorem rowF_okG (s : List Ed) : okG (rowF s) := by
  by_cases h : chkE s = 0
  · intro p hp
    have := List.all_eq_true.1 (rowF_laws h).2.2.1 p hp
    unfold sgOk at this
    simp only [Bool.or_eq_true, decide_eq_true_eq] at this
    omega
  · rw [rowF_none h]
    intro p hp
    cases hp
theorem ref08_Changed (s : List Ed) (hs : s.length ≤ 100000) (ht : totL s ≤ 1000000) : PC Try.prog 21 [iE s] [] 0 0 (fun t obs => t = iI (chF s) ∧ obs = []) := by
  refine PC.body [2] Try.func21 rfl (by rfl) (Nat.le_of_ble_eq_true (by rfl)) rfl ?_; simp only [enumA]
  ((repeat refine PWp.seq ?_); refine PWp.region TT (by rfl) (fun K hK => ?_); simp only [push_cast, seval, Nat.reduceEqDiff, Nat.reduceLeDiff, reduceCtorEq]; (repeat refine sk ?_); refine hK _ ?_; clear hK K)
  ((repeat refine PWp.seq ?_); refine PWp.region TT (by rfl) (fun K hK => ?_); simp only [push_cast, seval, Nat.reduceEqDiff, Nat.reduceLeDiff, reduceCtorEq]; (repeat refine sk ?_); refine hK _ ?_; clear hK K)
  ((repeat refine PWp.seq ?_); refine PWp.region TT (by rfl) (fun K hK => ?_); simp only [push_cast, seval, Nat.reduceEqDiff, Nat.reduceLeDiff, reduceCtorEq]; (repeat refine sk ?_); refine hK _ ?_; clear hK K)
  ((repeat refine PWp.seq ?_); refine PWp.block ?_)
  refine PWp.loop (fun c st => ∃ k : Nat, c = s.length - k ∧ k ≤ s.length ∧
    st = ⟨[(0, iE s), (3, iI (chF (s.take k))), (4, iI k)], [], 0⟩) _ _ ⟨0, rfl, Nat.zero_le _, rfl⟩ (Gh.le (by simp [push_cast, -List.getD_eq_getElem?_getD, chF]) (by simp)) ?_
  rintro c st ⟨k, rfl, hk, rfl⟩
  ((repeat refine PWp.seq ?_); refine PWp.region TT (by rfl) (fun K hK => ?_); simp only [push_cast, seval, Nat.reduceEqDiff, Nat.reduceLeDiff, reduceCtorEq]; (repeat refine sk ?_); refine hK _ ?_; clear hK K)
  ((repeat refine PWp.seq ?_); refine PWp.cond (by simp only [push_cast, seval, Nat.reduceEqDiff, Nat.reduceLeDiff, reduceCtorEq]; rfl) (fun hc => ?_) (fun hc => ?_))
  · have hlt : k < s.length := by have := of_decide_eq_true hc; omega
    clear hc
    have hg : (s.map encE).getD k .any = encE (s.getD k default) := getD_map hlt
    have h1 := chF_succ hlt
    have h2 := chF_le (s.take k)
    have h3 := totL_le s (k + 1)
    have h4 := totL_succ hlt
    generalize s.getD k default = x at *
    generalize chF (s.take k) = n at *
    have w1 := wrap64_id (n := (n : Int) + x.l.length) (by omega) (by omega)
    ((repeat refine PWp.seq ?_); refine PWp.skip ?_)
    ((repeat refine PWp.seq ?_); refine PWp.block ?_)
    ((repeat refine PWp.seq ?_); refine PWp.region TT (by rfl) (fun K hK => ?_); simp only [push_cast, seval, Nat.reduceEqDiff, Nat.reduceLeDiff, reduceCtorEq, hg]; (repeat refine sk ?_); refine hK _ ?_; clear hK K)
    ((repeat refine PWp.seq ?_); refine PWp.cond (by simp only [push_cast, seval, Nat.reduceEqDiff, Nat.reduceLeDiff, reduceCtorEq]; rfl) (fun hc => ?_) (fun hc => ?_))
    · rw [if_pos (by simp only [Bool.or_eq_true, Bool.and_eq_true, Bool.not_eq_true', Bool.not_eq_false', Bool.or_eq_false_iff, Bool.and_eq_false_iff, decide_eq_true_eq, decide_eq_false_iff_not, beq_iff_eq, beq_eq_false_iff_ne, bne_iff_ne, bne_eq_false_iff_eq, ne_eq, Classical.not_not, Int.not_lt, Int.not_le, ge_iff_le, gt_iff_lt] at hc; exact hc)] at h1
      ((repeat refine PWp.seq ?_); refine PWp.region TT (by rfl) (fun K hK => ?_); simp only [push_cast, seval, Nat.reduceEqDiff, Nat.reduceLeDiff, reduceCtorEq, hg, w1]; (repeat refine sk ?_); refine hK _ ?_; clear hK K)
      ((repeat refine PWp.seq ?_); refine PWp.region TT (by rfl) (fun K hK => ?_); simp only [push_cast, seval, Nat.reduceEqDiff, Nat.reduceLeDiff, reduceCtorEq, wrap64_id (n := (k : Int) + 1) (by omega) (by omega)]; (repeat refine sk ?_); refine hK _ ?_; clear hK K)
      refine ⟨_, _, ?_, ⟨k + 1, rfl, by omega, rfl⟩, Gh.le (by simp [push_cast, -List.getD_eq_getElem?_getD, h1]) (by simp)⟩
      omega
    · rw [if_neg (by simp only [Bool.or_eq_true, Bool.and_eq_true, Bool.not_eq_true', Bool.not_eq_false', Bool.or_eq_false_iff, Bool.and_eq_false_iff, decide_eq_true_eq, decide_eq_false_iff_not, beq_iff_eq, beq_eq_false_iff_ne, bne_iff_ne, bne_eq_false_iff_eq, ne_eq, Classical.not_not, Int.not_lt, Int.not_le, ge_iff_le, gt_iff_lt] at hc; omega)] at h1
      ((repeat refine PWp.seq ?_); refine PWp.skip ?_)
      ((repeat refine PWp.seq ?_); refine PWp.region TT (by rfl) (fun K hK => ?_); simp only [push_cast, seval, Nat.reduceEqDiff, Nat.reduceLeDiff, reduceCtorEq, wrap64_id (n := (k : Int) + 1) (by omega) (by omega)]; (repeat refine sk ?_); refine hK _ ?_; clear hK K)
      refine ⟨_, _, ?_, ⟨k + 1, rfl, by omega, rfl⟩, Gh.le (by simp [push_cast, -List.getD_eq_getElem?_getD, h1]) (by simp)⟩
      omega
  · have hk' : k = s.length := by have := of_decide_eq_false hc; omega
    subst hk'
    rw [List.take_length]
    (repeat refine PWp.seq ?_); refine PWp.exit (iteT rfl ?_)
    ((repeat refine PWp.seq ?_); refine PWp.region TT (by rfl) (fun K hK => ?_); simp only [push_cast, seval, Nat.reduceEqDiff, Nat.reduceLeDiff, reduceCtorEq]; (repeat refine sk ?_); refine hK _ ?_; clear hK K)
    ((repeat refine PWp.seq ?_); refine PWp.ret ?_)
    refine ⟨.inr rfl, by omega, _, [], ?_, rfl, rfl⟩
    (simp [push_cast, -List.getD_eq_getElem?_getD])
set_option maxHeartbeats 4000000 in
theorem SidesBack_walk (s : List Ed) (n : Int) (hs : bigE s) (hn0 : 0 ≤ n) (hn1 : n ≤ 255) : PC Try.prog 6 [iE s, .iv (.lit (.int .u8 n))] [] 0 900 (fun t obs => t = iB true ∧ obs = []) := by
  have hrl := rowF_len s
  refine PC.body [4] Try.func6 rfl (by rfl) (Nat.le_of_ble_eq_true (by rfl)) rfl ?_; simp only [enumA]
  ((repeat refine PWp.seq ?_); refine PWp.region TT (by rfl) (fun K hK => ?_); simp only [push_cast, seval, Nat.reduceEqDiff, Nat.reduceLeDiff, reduceCtorEq]; (repeat refine sk ?_); refine hK _ ?_; clear hK K)
  ((repeat refine PWp.seq ?_); refine PWp.region TT (by rfl) (fun K hK => ?_); simp only [push_cast, seval, Nat.reduceEqDiff, Nat.reduceLeDiff, reduceCtorEq])
  ((repeat refine sk ?_); refine PCall.use (sides_Rows s hs) [] rfl (by simp [push_cast]) (by simp) (by simp [push_cast]) (by simp [push_cast]) (by simp [push_cast]) (by simp [push_cast]) ?_)
  rintro _ _ ⟨rfl, rfl⟩
  (simp only [push_cast, seval, Nat.reduceEqDiff, Nat.reduceLeDiff, reduceCtorEq]; (repeat refine sk ?_); refine hK _ ?_; clear hK K)
  ((repeat refine PWp.seq ?_); refine PWp.region TT (by rfl) (fun K hK => ?_); simp only [push_cast, seval, Nat.reduceEqDiff, Nat.reduceLeDiff, reduceCtorEq])
  ((repeat refine sk ?_); refine PCall.use (ref08_Sides s hs) [] rfl (by simp [push_cast]) (by simp) (by simp [push_cast]) (by simp [push_cast]) (by simp [push_cast]) (by simp [push_cast]) ?_)
  rintro _ _ ⟨rfl, rfl⟩
  (simp only [push_cast, seval, Nat.reduceEqDiff, Nat.reduceLeDiff, reduceCtorEq]; (repeat refine sk ?_); refine hK _ ?_; clear hK K)
  have hbs := bne_self_eq_false (chkE s)
  ((repeat refine PWp.seq ?_); refine PWp.region TT (by rfl) (fun K hK => ?_); simp only [push_cast, seval, Nat.reduceEqDiff, Nat.reduceLeDiff, reduceCtorEq, hbs]; (repeat refine sk ?_); refine hK _ ?_; clear hK K)
  ((repeat refine PWp.seq ?_); refine PWp.cond (by simp only [push_cast, seval, Nat.reduceEqDiff, Nat.reduceLeDiff, reduceCtorEq]; rfl) (fun hc => ?_) (fun hc => ?_))
  · cases hc
  clear hc
  ((repeat refine PWp.seq ?_); refine PWp.skip ?_)
  by_cases h : chkE s = 0
  case neg =>
    have hb : (chkE s != 0) = true := bne_iff_ne.2 h
    rw [rowF_none h]
    ((repeat refine PWp.seq ?_); refine PWp.region TT (by rfl) (fun K hK => ?_); simp only [push_cast, seval, Nat.reduceEqDiff, Nat.reduceLeDiff, reduceCtorEq, hb]; (repeat refine sk ?_); refine hK _ ?_; clear hK K)
    ((repeat refine PWp.seq ?_); refine PWp.cond (by simp only [push_cast, seval, Nat.reduceEqDiff, Nat.reduceLeDiff, reduceCtorEq]; rfl) (fun hc => ?_) (fun hc => ?_))
    · ((repeat refine PWp.seq ?_); refine PWp.region TT (by rfl) (fun K hK => ?_); simp only [push_cast, seval, Nat.reduceEqDiff, Nat.reduceLeDiff, reduceCtorEq])
      ((repeat refine sk ?_); refine PCall.use (live29) [] rfl (by simp [push_cast]) (by simp) (by simp [push_cast]) (by simp [push_cast]) (by simp [push_cast]) (by simp [push_cast]) ?_)
      rintro _ _ ⟨rfl, rfl⟩
      (simp only [push_cast, seval, Nat.reduceEqDiff, Nat.reduceLeDiff, reduceCtorEq]; (repeat refine sk ?_); refine hK _ ?_; clear hK K)
      ((repeat refine PWp.seq ?_); refine PWp.ret ?_)
      refine ⟨.inr rfl, by omega, _, [], ?_, rfl, rfl⟩
      (simp [push_cast, -List.getD_eq_getElem?_getD])
    · cases hc
  have hb : (chkE s != 0) = false := by rw [h]; rfl
  obtain ⟨c1, c2, c3⟩ := chk_zero h
  obtain ⟨l1, l2, l3, l4, l5⟩ := rowF_laws h
  have hgk := rowF_okG s
  have hla : (sidA s).length ≤ 800 := by rw [show sidA s = sA s from if_pos h]; have := sA_len s; omega
  have hlb : (sidB s).length ≤ 800 := by rw [show sidB s = sB s from if_pos h]; have := sB_len s; omega
  have htA := txt_len (sidA s)
  have htB := txt_len (sidB s)
  generalize hR : rowF s = R at *
  generalize sidA s = X at *
  generalize sidB s = Y at *
  ((repeat refine PWp.seq ?_); refine PWp.region TT (by rfl) (fun K hK => ?_); simp only [push_cast, seval, Nat.reduceEqDiff, Nat.reduceLeDiff, reduceCtorEq, hb]; (repeat refine sk ?_); refine hK _ ?_; clear hK K)
  ((repeat refine PWp.seq ?_); refine PWp.cond (by simp only [push_cast, seval, Nat.reduceEqDiff, Nat.reduceLeDiff, reduceCtorEq]; rfl) (fun hc => ?_) (fun hc => ?_))
  · cases hc
  clear hc
  ((repeat refine PWp.seq ?_); refine PWp.skip ?_)
  ((repeat refine PWp.seq ?_); refine PWp.region TT (by rfl) (fun K hK => ?_); simp only [push_cast, seval, Nat.reduceEqDiff, Nat.reduceLeDiff, reduceCtorEq])
  ((repeat refine sk ?_); refine PCall.use (sides_Columns R (by omega)) [] rfl (by simp [push_cast]) (by simp) (by simp [push_cast]) (by simp [push_cast]) (by simp [push_cast]) (by simp [push_cast]) ?_)
  rintro _ _ ⟨rfl, rfl⟩
  rw [l1, l2]
  (simp only [push_cast, seval, Nat.reduceEqDiff, Nat.reduceLeDiff, reduceCtorEq]; (repeat refine sk ?_); refine hK _ ?_; clear hK K)
  have n1 := bne_self_eq_false (X.length : Int)
  have n2 := bne_self_eq_false (Y.length : Int)
  ((repeat refine PWp.seq ?_); refine PWp.region TT (by rfl) (fun K hK => ?_); simp only [push_cast, seval, Nat.reduceEqDiff, Nat.reduceLeDiff, reduceCtorEq, htA, htB, n1, n2]; (repeat refine sk ?_); refine hK _ ?_; clear hK K)
  ((repeat refine PWp.seq ?_); refine PWp.cond (by simp only [push_cast, seval, Nat.reduceEqDiff, Nat.reduceLeDiff, reduceCtorEq]; rfl) (fun hc => ?_) (fun hc => ?_))
  · cases hc
  clear hc
  ((repeat refine PWp.seq ?_); refine PWp.skip ?_)
  ((repeat refine PWp.seq ?_); refine PWp.region TT (by rfl) (fun K hK => ?_); simp only [push_cast, seval, Nat.reduceEqDiff, Nat.reduceLeDiff, reduceCtorEq]; (repeat refine sk ?_); refine hK _ ?_; clear hK K)
  refine PWp.gh (st' := ⟨[(0, iE s), (1, .iv (.lit (.int .u8 n))), (5, iR R), (7, iL X), (8, iL Y), (10, iT (txt X)), (11, iT (txt Y)), (12, iI 0)], [], 0⟩) (Gh.le (by simp [push_cast, -List.getD_eq_getElem?_getD]) (by simp)) ?_
  ((repeat refine PWp.seq ?_); refine PWp.block ?_)
  refine PWp.loop (fun c st => ∃ k : Nat, c = X.length - k ∧ k ≤ X.length ∧
    st = ⟨[(0, iE s), (1, .iv (.lit (.int .u8 n))), (5, iR R), (7, iL X), (8, iL Y), (10, iT (txt X)), (11, iT (txt Y)), (12, iI k)], [], 0⟩) _ _ ⟨0, rfl, Nat.zero_le _, rfl⟩ (Gh.le (by simp [push_cast, -List.getD_eq_getElem?_getD]) (by simp)) ?_
  rintro c st ⟨k, rfl, hk, rfl⟩
  ((repeat refine PWp.seq ?_); refine PWp.region TT (by rfl) (fun K hK => ?_); simp only [push_cast, seval, Nat.reduceEqDiff, Nat.reduceLeDiff, reduceCtorEq, htA]; (repeat refine sk ?_); refine hK _ ?_; clear hK K)
  ((repeat refine PWp.seq ?_); refine PWp.cond (by simp only [push_cast, seval, Nat.reduceEqDiff, Nat.reduceLeDiff, reduceCtorEq]; rfl) (fun hc => ?_) (fun hc => ?_))
  · have hlt : k < X.length := by have := of_decide_eq_true hc; omega
    clear hc
    have hg1 : ((txt X).map encT).getD k .any = encT ((txt X).getD k default) := getD_map (by omega)
    have hg2 : (X.map encL).getD k .any = encL (X.getD k default) := getD_map hlt
    rw [txt_get hlt] at hg1
    generalize X.getD k default = x at *
    have hxx := bne_self_eq_false x.t
    ((repeat refine PWp.seq ?_); refine PWp.skip ?_)
    ((repeat refine PWp.seq ?_); refine PWp.block ?_)
    ((repeat refine PWp.seq ?_); refine PWp.draw TT (by kernel_rfl) (by kernel_rfl) (by rfl) (by rfl) (fun K hK => ?_); simp only [push_cast, seval, Nat.reduceEqDiff, Nat.reduceLeDiff, reduceCtorEq, hg1, hg2, htA]; (repeat refine sk ?_); refine hK _ ?_; clear hK K)
    ((repeat refine PWp.seq ?_); refine PWp.cond (by simp only [push_cast, seval, Nat.reduceEqDiff, Nat.reduceLeDiff, reduceCtorEq]; rfl) (fun hc => ?_) (fun hc => ?_))
    · simp at hc
    · clear hc
      ((repeat refine PWp.seq ?_); refine PWp.skip ?_)
      ((repeat refine PWp.seq ?_); refine PWp.region TT (by rfl) (fun K hK => ?_); simp only [push_cast, seval, Nat.reduceEqDiff, Nat.reduceLeDiff, reduceCtorEq, wrap64_id (n := (k : Int) + 1) (by omega) (by omega)]; (repeat refine sk ?_); refine hK _ ?_; clear hK K)
      refine ⟨_, _, ?_, ⟨k + 1, rfl, by omega, rfl⟩, Gh.le (by simp [push_cast, -List.getD_eq_getElem?_getD]) (by simp)⟩
      omega
  clear hc
  (repeat refine PWp.seq ?_); refine PWp.exit (iteT rfl ?_)
  ((repeat refine PWp.seq ?_); refine PWp.region TT (by rfl) (fun K hK => ?_); simp only [push_cast, seval, Nat.reduceEqDiff, Nat.reduceLeDiff, reduceCtorEq]; (repeat refine sk ?_); refine hK _ ?_; clear hK K)
  refine PWp.gh (st' := ⟨[(0, iE s), (1, .iv (.lit (.int .u8 n))), (5, iR R), (8, iL Y), (11, iT (txt Y)), (13, iI 0)], [], 0⟩) (Gh.le (by simp [push_cast, -List.getD_eq_getElem?_getD]) (by simp)) ?_
  ((repeat refine PWp.seq ?_); refine PWp.block ?_)
  refine PWp.loop (fun c st => ∃ k : Nat, c = Y.length - k ∧ k ≤ Y.length ∧
    st = ⟨[(0, iE s), (1, .iv (.lit (.int .u8 n))), (5, iR R), (8, iL Y), (11, iT (txt Y)), (13, iI k)], [], 0⟩) _ _ ⟨0, rfl, Nat.zero_le _, rfl⟩ (Gh.le (by simp [push_cast, -List.getD_eq_getElem?_getD]) (by simp)) ?_
  rintro c st ⟨k, rfl, hk, rfl⟩
  ((repeat refine PWp.seq ?_); refine PWp.region TT (by rfl) (fun K hK => ?_); simp only [push_cast, seval, Nat.reduceEqDiff, Nat.reduceLeDiff, reduceCtorEq, htB]; (repeat refine sk ?_); refine hK _ ?_; clear hK K)
  ((repeat refine PWp.seq ?_); refine PWp.cond (by simp only [push_cast, seval, Nat.reduceEqDiff, Nat.reduceLeDiff, reduceCtorEq]; rfl) (fun hc => ?_) (fun hc => ?_))
  · have hlt : k < Y.length := by have := of_decide_eq_true hc; omega
    clear hc
    have hg1 : ((txt Y).map encT).getD k .any = encT ((txt Y).getD k default) := getD_map (by omega)
    have hg2 : (Y.map encL).getD k .any = encL (Y.getD k default) := getD_map hlt
    rw [txt_get hlt] at hg1
    generalize Y.getD k default = x at *
    ((repeat refine PWp.seq ?_); refine PWp.skip ?_)
    ((repeat refine PWp.seq ?_); refine PWp.block ?_)
    ((repeat refine PWp.seq ?_); refine PWp.draw TT (by kernel_rfl) (by kernel_rfl) (by rfl) (by rfl) (fun K hK => ?_); simp only [push_cast, seval, Nat.reduceEqDiff, Nat.reduceLeDiff, reduceCtorEq, hg1, hg2, htB]; (repeat refine sk ?_); refine hK _ ?_; clear hK K)
    ((repeat refine PWp.seq ?_); refine PWp.cond (by simp only [push_cast, seval, Nat.reduceEqDiff, Nat.reduceLeDiff, reduceCtorEq]; rfl) (fun hc => ?_) (fun hc => ?_))
    · simp at hc
    · clear hc
      ((repeat refine PWp.seq ?_); refine PWp.skip ?_)
      ((repeat refine PWp.seq ?_); refine PWp.region TT (by rfl) (fun K hK => ?_); simp only [push_cast, seval, Nat.reduceEqDiff, Nat.reduceLeDiff, reduceCtorEq, wrap64_id (n := (k : Int) + 1) (by omega) (by omega)]; (repeat refine sk ?_); refine hK _ ?_; clear hK K)
      refine ⟨_, _, ?_, ⟨k + 1, rfl, by omega, rfl⟩, Gh.le (by simp [push_cast, -List.getD_eq_getElem?_getD]) (by simp)⟩
      omega
  clear hc
  (repeat refine PWp.seq ?_); refine PWp.exit (iteT rfl ?_)
  have hm0 : 0 ≤ n.tmod 100 := Int.tmod_nonneg 100 hn0
  have hm1 := Int.tmod_lt_of_pos n (by omega : (0 : Int) < 100)
  have w0 := wrap64_id (n := n) (by omega) (by omega)
  generalize hmm : n.tmod 100 = m at *
  have w1 := wrap64_id (n := 4 + m) (by omega) (by omega)
  ((repeat refine PWp.seq ?_); refine PWp.region TT (by rfl) (fun K hK => ?_); simp only [push_cast, seval, Nat.reduceEqDiff, Nat.reduceLeDiff, reduceCtorEq, w0, hmm, w1]; (repeat refine sk ?_); refine hK _ ?_; clear hK K)
  have hpE : ppE R (4 + m) = 0 := by
    unfold ppE
    rw [if_neg (by omega), l3, if_pos rfl]
  have hpB : ppB R (4 + m) = prB (4 + m) R := by unfold ppB; rw [hpE, if_pos rfl]
  have hpl := prB_len (w := 4 + m) (by omega) R
  ((repeat refine PWp.seq ?_); refine PWp.region TT (by rfl) (fun K hK => ?_); simp only [push_cast, seval, Nat.reduceEqDiff, Nat.reduceLeDiff, reduceCtorEq])
  ((repeat refine sk ?_); refine PCall.use (sides_Print R (4 + m) (by omega)) [] rfl (by simp [push_cast]) (by simp) (by simp [push_cast]) (by simp [push_cast]) (by simp [push_cast]) (by simp [push_cast]) ?_)
  rintro _ _ ⟨rfl, rfl⟩
  rw [hpE, hpB]
  (simp only [push_cast, seval, Nat.reduceEqDiff, Nat.reduceLeDiff, reduceCtorEq]; (repeat refine sk ?_); refine hK _ ?_; clear hK K)
  ((repeat refine PWp.seq ?_); refine PWp.region TT (by rfl) (fun K hK => ?_); simp only [push_cast, seval, Nat.reduceEqDiff, Nat.reduceLeDiff, reduceCtorEq])
  ((repeat refine sk ?_); refine PCall.use (sides_Legend R (by omega) hgk) [] rfl (by simp [push_cast]) (by simp) (by simp [push_cast]) (by simp [push_cast]) (by simp [push_cast]) (by simp [push_cast]) ?_)
  rintro _ _ ⟨rfl, rfl⟩
  (simp only [push_cast, seval, Nat.reduceEqDiff, Nat.reduceLeDiff, reduceCtorEq, legI]; (repeat refine sk ?_); refine hK _ ?_; clear hK K)
  generalize cnt 61 R = c61 at *
  generalize cnt 60 R = c60 at *
  generalize cnt 62 R = c62 at *
  generalize cnt 124 R = c124 at *
  generalize prB (4 + m) R = B at *
  have w2 := wrap64_id (n := 2 * (4 + m)) (by omega) (by omega)
  have w3 := wrap64_id (n := 2 * (4 + m) + 4) (by omega) (by omega)
  have hbd : (R.length : Int) * (2 * (4 + m) + 4) ≤ 800 * 214 := Int.mul_le_mul (by omega) (by omega) (by omega) (by omega)
  have hbd0 : 0 ≤ (R.length : Int) * (2 * (4 + m) + 4) := Int.mul_nonneg (by omega) (by omega)
  have w4 := wrap64_id (n := (R.length : Int) * (2 * (4 + m) + 4)) (by omega) (by omega)
  have b1 : ((B.length : Int) == R.length * (2 * (4 + m) + 4)) = true := beq_iff_eq.2 hpl
  have w5 := wrap64_id (n := (c61 : Int) + c60) (by omega) (by omega)
  have w6 := wrap64_id (n := (c61 : Int) + c60 + c62) (by omega) (by omega)
  have w7 := wrap64_id (n := (c61 : Int) + c60 + c62 + c124) (by omega) (by omega)
  have b2 : ((c61 : Int) + c60 + c62 + c124 == R.length) = true := beq_iff_eq.2 (by omega)
  have w8 := wrap64_id (n := (c60 : Int) + c62) (by omega) (by omega)
  have w9 := wrap64_id (n := 2 * (c124 : Int)) (by omega) (by omega)
  have w10 := wrap64_id (n := (c60 : Int) + c62 + 2 * c124) (by omega) (by omega)
  have b3 : ((c60 : Int) + c62 + 2 * c124 == chF s) = true := beq_iff_eq.2 (by omega)
  clear hpl hbd hbd0
  generalize hprod : (R.length : Int) * (2 * (4 + m) + 4) = prod at *
  refine PWp.gh (st' := ⟨[(0, iE s), (5, iR R), (14, iI (4 + m)), (15, iBy B), (16, iI 0), (17, .bptr 0 0)], [(0, .box 40 [iI c61, iI c60, iI c62, iI c124])], 1⟩) (Gh.leR [62] (by simp [push_cast, -List.getD_eq_getElem?_getD]; try decide)) ?_
  ((repeat refine PWp.seq ?_); refine PWp.drawT TT (by kernel_rfl) [0] (.x 0 (.q 1 (.q 2 (.q 3 (.q 4 (.q 5 (.q 6 (.q 7 (.q 8 (.q 9 (.q 10 (.q 11 (.q 12 (.q 13 (.q 14 (.q 15 (.q 16 (.q 17 (.q 18 (.q 19 (.q 20 (.q 21 (.q 22 (.q 23 (.q 24 (.q 25 (.q 26 (.q 27 (.q 28 (.q 29 (.q 30 (.q 31 (.q 32 (.q 33 (.q 34 (.q 35 (.q 36 (.q 37 (.q 38 (.q 39 (.q 40 (.q 41 (.q 42 (.x 43 (.q 44 (.q 45 (.q 46 .nil))))))))))))))))))))))))))))))))))))))))))))))) (by rfl) (by kernel_rfl) (by rfl) (by simp) (fun K hK => ?_); simp only [push_cast, seval, Nat.reduceEqDiff, Nat.reduceLeDiff, reduceCtorEq])
  (refine PCall.use (live29) [] rfl (by simp [push_cast]) (by simp) (by simp [push_cast]) (by simp [push_cast]) (by simp [push_cast]) (by simp [push_cast]) ?_)
  rintro _ _ ⟨rfl, rfl⟩
  (simp only [push_cast, seval, Nat.reduceEqDiff, Nat.reduceLeDiff, reduceCtorEq, w2, w3, hprod, w4, b1, w5, w6, w7, b2, w8, w9, w10])
  (refine PCall.use (ref08_Changed s (by omega) (by omega)) [] rfl (by simp [push_cast]) (by simp) (by simp [push_cast]) (by simp [push_cast]) (by simp [push_cast]) (by simp [push_cast]) ?_)
  rintro _ _ ⟨rfl, rfl⟩
  (simp only [push_cast, seval, Nat.reduceEqDiff, Nat.reduceLeDiff, reduceCtorEq, b3]; (repeat refine sk ?_); refine hK _ ?_; clear hK K)
  ((repeat refine PWp.seq ?_); refine PWp.ret ?_)
  refine ⟨.inr rfl, by omega, _, [], ?_, rfl, rfl⟩
  (simp [push_cast, -List.getD_eq_getElem?_getD])
end Go.Proofs.Ytjajefphfhdfkaa
