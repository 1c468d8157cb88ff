/- find.Around: the stretches around places. -/
import Derived.Test.YtjlnialglahdoaaH7
namespace Go.Proofs.Ytjlnialglahdoaa
open Go.PL
set_option maxRecDepth 100000
set_option linter.unusedSimpArgs false
set_option linter.unusedVariables false
/-! ### Plain -/
abbrev Rg := Int × Int
def encR (x : Rg) : IV := .agg [.lit (.int .i64 x.1), .lit (.int .i64 x.2)]
def iR (l : List Rg) : TV := .iv (.sl 2 (l.map encR))
attribute [push_cast] encR iR
theorem lensR : ∀ l : List Rg, lens? 2 (l.map encR) := lens_map fun a => ⟨trivial, rfl⟩
/-- A stretch of places comes behind others: [a, c). -/
def extR (L : List Rg) (a c : Int) : List Rg :=
  if c ≤ a then L else match L.getLast? with
    | none => [(a, c - a)]
    | some r => if r.1 + r.2 < a then L ++ [(a, c - a)] else L.dropLast ++ [(r.1, mx (r.1 + r.2) c - r.1)]
/-- One place comes behind others. -/
def stR (L : List Rg) (x : Int) : List Rg := match L.getLast? with
  | none => [(x, 1)]
  | some r => if x = r.1 + r.2 then L.dropLast ++ [(r.1, r.2 + 1)] else if r.1 + r.2 < x then L ++ [(x, 1)] else L
theorem last_split {L : List Rg} {r : Rg} (h : L.getLast? = some r) : L = L.dropLast ++ [r] := by
  have hne : L ≠ [] := fun e => by rw [e] at h; cases h
  have := List.dropLast_concat_getLast hne
  rw [List.getLast?_eq_some_getLast hne] at h
  injection h with h
  rw [h] at this
  exact this.symm
theorem mx_pos {a b : Int} (h : a < b) : mx a b = b := if_pos h
theorem mx_neg {a b : Int} (h : ¬ a < b) : mx a b = a := if_neg h
theorem mn_pos {a b : Int} (h : b < a) : mn a b = b := if_pos h
theorem mn_neg {a b : Int} (h : ¬ b < a) : mn a b = a := if_neg h
theorem ext_step (L : List Rg) (a x : Int) (h : a ≤ x) : stR (extR L a x) x = extR L a (x + 1) := by
  unfold extR
  rw [if_neg (by omega : ¬ x + 1 ≤ a)]
  cases hL : L.getLast? with
  | none =>
    have hn : L = [] := by simpa using hL
    subst hn
    by_cases hx : x ≤ a
    · have : x = a := by omega
      subst this
      rw [if_pos hx]
      show [(x, 1)] = [(x, x + 1 - x)]
      congr 2 <;> omega
    · rw [if_neg hx]
      show (if x = a + (x - a) then [] ++ [(a, x - a + 1)] else _) = [(a, x + 1 - a)]
      rw [if_pos (by omega), List.nil_append]
      congr 2 <;> omega
  | some r =>
    simp only
    by_cases hx : x ≤ a
    · have : x = a := by omega
      subst this
      rw [if_pos hx]
      unfold stR
      rw [hL]
      simp only
      by_cases h1 : r.1 + r.2 < x
      · rw [if_neg (by omega), if_pos h1, if_pos h1, show x + 1 - x = 1 by omega]
      · rw [if_neg h1]
        by_cases h2 : x = r.1 + r.2
        · rw [if_pos h2, if_neg h1, mx_pos (by omega), show x + 1 - r.1 = r.2 + 1 by omega]
        · rw [if_neg h2, if_neg h1, mx_neg (by omega)]
          have e : ((r.1, r.1 + r.2 - r.1) : Rg) = r := Prod.ext rfl (by show r.1 + r.2 - r.1 = r.2; omega)
          rw [e]
          exact last_split hL
    · rw [if_neg hx]
      by_cases h1 : r.1 + r.2 < a
      · rw [if_pos h1, if_pos h1]
        unfold stR
        rw [List.getLast?_concat, List.dropLast_concat]
        simp only
        rw [if_pos (by omega)]
        congr 3 <;> omega
      · rw [if_neg h1, if_neg h1]
        unfold stR
        rw [List.getLast?_concat, List.dropLast_concat]
        simp only
        by_cases h2 : r.1 + r.2 < x
        · rw [mx_pos h2, if_pos (by omega), mx_pos (by omega)]
          congr 3 <;> omega
        · rw [mx_neg h2]
          by_cases h3 : x = r.1 + r.2
          · rw [if_pos (by omega), mx_pos (by omega)]
            congr 3 <;> omega
          · rw [if_neg (by omega), if_neg (by omega), mx_neg (by omega)]
theorem ext_len (L : List Rg) (a c : Int) : (extR L a c).length ≤ L.length + 1 := by
  unfold extR
  split
  · omega
  · split
    · simp
    · split
      · simp
      · simp <;> omega
def aR (n r p : Int) : Int := mx 0 (p - r)
def bR (n r p : Int) : Int := mn n (p + r + 1)
def arF (n r : Int) (P : List Int) : List Rg := P.foldl (fun L p => extR L (aR n r p) (bR n r p)) []
theorem arF_succ (n r : Int) (P : List Int) {k : Nat} (h : k < P.length) : arF n r (P.take (k + 1)) = extR (arF n r (P.take k)) (aR n r (P.getD k default)) (bR n r (P.getD k default)) := by
  unfold arF
  rw [take_succ_getD h, List.foldl_append]
  rfl
theorem arF_len (n r : Int) (P : List Int) : ∀ k, k ≤ P.length → (arF n r (P.take k)).length ≤ k
  | 0, _ => by simp [arF]
  | k + 1, h => by
    rw [arF_succ n r P (by omega)]
    have := arF_len n r P k (by omega)
    have := ext_len (arF n r (P.take k)) (aR n r (P.getD k default)) (bR n r (P.getD k default))
    omega
def okP (n : Int) : Int → List Int → Bool
  | _, [] => true
  | last, p :: ps => decide (last < p) && decide (p < n) && okP n p ps
theorem okP_get {n : Int} : ∀ {last : Int} {P : List Int}, okP n last P = true → ∀ k, k < P.length → last < P.getD k default ∧ P.getD k default < n ∧ ∀ j, j < k → P.getD j default < P.getD k default
  | last, [], _, k, hk => absurd hk (by simp)
  | last, p :: ps, h, k, hk => by
    unfold okP at h
    rw [Bool.and_eq_true, Bool.and_eq_true, decide_eq_true_eq, decide_eq_true_eq] at h
    obtain ⟨⟨h1, h2⟩, h3⟩ := h
    cases k with
    | zero => exact ⟨h1, h2, fun j hj => absurd hj (Nat.not_lt_zero _)⟩
    | succ k =>
      obtain ⟨g1, g2, g3⟩ := okP_get h3 k (by simpa using hk)
      have e : (p :: ps).getD (k + 1) default = ps.getD k default := rfl
      rw [e]
      refine ⟨by omega, g2, fun j hj => ?_⟩
      cases j with
      | zero => exact g1
      | succ j => exact g3 j (by omega)
def badA (n r : Int) : Bool := decide (n < 0) || decide (n > 1073741824) || decide (r < 0) || decide (r > 20)
def arE (n r : Int) (P : List Int) : Int := if badA n r then 2 else if okP n (-1) P then 0 else 2
def arL (n r : Int) (P : List Int) : List Rg := if badA n r then [] else if okP n (-1) P then arF n r P else []
/-! ### The walk over the stretches -/
def aObjs (P : List Int) (n r : Int) (N : Nat) (ps : List Nat) (ac bd : Code) (e0 : Nat) (pre : List Rg) : List (Nat × Ob) :=
  [(0, .box 34 [.acc 1 2 (pre.map encR)]), (1, .row 65 2), (2, .box 33 [iN P]), (3, .box 3 [iI n]), (4, .box 3 [iI r]), (5, .lp N ps ac bd [(e0, .bptr 0 0)])]
attribute [push_cast] aObjs
def pend (f t : Int) : List Rg := if t < 0 then [] else [(f, t - f)]
theorem find_ranges (P : List Int) (n r : Int) : PC Try.prog 31 [iN P, iI n, iI r] [] 0 3
    (fun t obs => t = .clo 41 [.bptr 0 0, .bptr 2 0, .bptr 1 0] ∧ obs = [(0, .box 33 [iN P]), (1, .box 3 [iI n]), (2, .box 3 [iI r])]) := by
  refine PC.body [6] Try.func31 rfl (by rfl) (Nat.le_of_ble_eq_true (by rfl)) rfl ?_; simp only [enumA]
  ((repeat refine PWp.seq ?_); refine PWp.region TT (by rfl) (fun K hK => ?_); simp only [push_cast, seval, Nat.reduceEqDiff, Nat.reduceLeDiff, reduceCtorEq]; (repeat refine sk ?_); refine hK _ ?_; clear hK K)
  ((repeat refine PWp.seq ?_); refine PWp.region TT (by rfl) (fun K hK => ?_); simp only [push_cast, seval, Nat.reduceEqDiff, Nat.reduceLeDiff, reduceCtorEq]; (repeat refine sk ?_); refine hK _ ?_; clear hK K)
  ((repeat refine PWp.seq ?_); refine PWp.ret ?_)
  refine ⟨.inr rfl, by omega, _, _, ?_, rfl, rfl⟩
  (simp [push_cast, -List.getD_eq_getElem?_getD])
set_option maxHeartbeats 1000000 in
theorem ranges1 (P : List Int) (n r : Int) (N : Nat) (ps : List Nat) (ac bd : Code) (e0 : Nat) (hk : badA n r = false) (ho : okP n (-1) P = true) (hP : P.length ≤ 400)
    (HY : ∀ (m : Nat) (e : List (Nat × TV)) (pre : List Rg) (x : Rg) (K : TV → St → Prop), pre.length ≤ 1200 → K (boolTV true) ⟨keepE e, aObjs P n r N ps ac bd e0 (pre ++ [x]), 6⟩ → PYield Try.prog m 5 [.iv (encR x)] ⟨e, aObjs P n r N ps ac bd e0 pre, 6⟩ K) :
    PC Try.prog 41 [.yld 5, .bptr 2 0, .bptr 4 0, .bptr 3 0] (aObjs P n r N ps ac bd e0 []) 6 6
    (fun t obs => obs = aObjs P n r N ps ac bd e0 (arF n r P)) := by
  have hbd : 0 ≤ n ∧ n ≤ 1073741824 ∧ 0 ≤ r ∧ r ≤ 20 := by
    unfold badA at hk
    simp only [Bool.or_eq_false_iff, decide_eq_false_iff_not] at hk
    omega
  obtain ⟨b1, b2, b3, b4⟩ := hbd
  have hget := okP_get ho
  refine PC.body [] Try.func41 rfl (by rfl) (Nat.le_of_ble_eq_true (by rfl)) rfl ?_; simp only [enumA]
  ((repeat refine PWp.seq ?_); refine PWp.region TT (by rfl) (fun K hK => ?_); simp only [push_cast, seval, Nat.reduceEqDiff, Nat.reduceLeDiff, reduceCtorEq]; (repeat refine sk ?_); refine hK _ ?_; clear hK K)
  ((repeat refine PWp.seq ?_); refine PWp.region TT (by rfl) (fun K hK => ?_); simp only [push_cast, seval, Nat.reduceEqDiff, Nat.reduceLeDiff, reduceCtorEq]; (repeat refine sk ?_); refine hK _ ?_; clear hK K)
  ((repeat refine PWp.seq ?_); refine PWp.block ?_)
  refine PWp.loop (fun cc st => ∃ (k : Nat) (pre : List Rg) (f t : Int), cc = P.length - k ∧ k ≤ P.length ∧ pre.length ≤ k ∧ pre ++ pend f t = arF n r (P.take k) ∧ (t = -1 ∧ pre = [] ∨ 0 ≤ f ∧ f < t ∧ t ≤ n ∧ ∀ j, k ≤ j → j < P.length → t ≤ bR n r (P.getD j default)) ∧
    st = ⟨[(0, .yld 5), (1, .bptr 2 0), (2, .bptr 4 0), (3, .bptr 3 0), (5, iI f), (6, iI t), (11, iN P), (12, iI P.length), (13, iI k)], aObjs P n r N ps ac bd e0 pre, 6⟩) _ _ ⟨0, [], 0, -1, rfl, Nat.zero_le _, Nat.zero_le _, rfl, .inl ⟨rfl, rfl⟩, rfl⟩ (Gh.le (by simp [push_cast, -List.getD_eq_getElem?_getD]) (by simp)) ?_
  rintro cc st ⟨k, pre, f, t, rfl, hkl, hpl, hpre, hft, rfl⟩
  ((repeat refine PWp.seq ?_); refine PWp.region TT (by rfl) (fun K hK => ?_); simp only [push_cast, seval, Nat.reduceEqDiff, Nat.reduceLeDiff, reduceCtorEq]; (repeat refine sk ?_); refine hK _ ?_; clear hK K)
  ((repeat refine PWp.seq ?_); refine PWp.cond (by simp only [push_cast, seval, Nat.reduceEqDiff, Nat.reduceLeDiff, reduceCtorEq]; rfl) (fun hc => ?_) (fun hc => ?_))
  · have hlt : k < P.length := by simp at hc; omega
    clear hc
    have hs := arF_succ n r P hlt
    rw [← hpre] at hs
    obtain ⟨g1, g2, g3⟩ := hget k hlt
    have hnext : ∀ j, k + 1 ≤ j → j < P.length → bR n r (P.getD k default) ≤ bR n r (P.getD j default) := fun j h1 h2 => by
      have := (hget j h2).2.2 k (by omega)
      unfold bR mn
      split <;> split <;> omega
    have hg : (P.map encI).getD k .any = encI (P.getD k default) := getD_map hlt
    have hbk : t ≠ -1 → t ≤ bR n r (P.getD k default) := fun h => by
      rcases hft with ⟨h1, _⟩ | ⟨_, _, _, h4⟩
      · exact absurd h1 h
      · exact h4 k (Nat.le_refl _) hlt
    generalize P.getD k default = p at *
    have hab : 0 ≤ aR n r p ∧ aR n r p < bR n r p ∧ bR n r p ≤ n := by
      unfold aR bR mx mn
      split <;> split <;> omega
    have ea : mx 0 (p - r) = aR n r p := rfl
    have eb : mn n (p + r + 1) = bR n r p := rfl
    generalize aR n r p = a at *
    generalize bR n r p = b at *
    obtain ⟨q1, q2, q3⟩ := hab
    ((repeat refine PWp.seq ?_); refine PWp.skip ?_)
    ((repeat refine PWp.seq ?_); refine PWp.block ?_)
    ((repeat refine PWp.seq ?_); refine PWp.region TT (by rfl) (fun K hK => ?_); simp only [push_cast, seval, Nat.reduceEqDiff, Nat.reduceLeDiff, reduceCtorEq, hg]; (repeat refine sk ?_); refine hK _ ?_; clear hK K)
    ((repeat refine PWp.seq ?_); refine PWp.draw TT (by kernel_rfl) (by kernel_rfl) (by rfl) (by rfl) (fun K hK => ?_); simp only [push_cast, seval, Nat.reduceEqDiff, Nat.reduceLeDiff, reduceCtorEq, ea, eb, wrap64_id (n := p - r) (by omega) (by omega), wrap64_id (n := p + r) (by omega) (by omega), wrap64_id (n := p + r + 1) (by omega) (by omega)]; (repeat refine sk ?_); refine hK _ ?_; clear hK K)
    refine PWp.gh (st' := ⟨[(0, .yld 5), (1, .bptr 2 0), (2, .bptr 4 0), (3, .bptr 3 0), (5, iI f), (6, iI t), (9, iI a), (10, iI b), (11, iN P), (12, iI P.length), (13, iI k)], aObjs P n r N ps ac bd e0 pre, 6⟩) (Gh.le (by simp [push_cast, -List.getD_eq_getElem?_getD]) (by simp)) ?_
    rcases hft with ⟨rfl, rfl⟩ | ⟨f1, f2, f3, f4⟩
    · have hs' : arF n r (P.take (k + 1)) = [] ++ pend a b := by
        rw [hs]
        unfold extR pend
        rw [if_neg (by omega : ¬ b ≤ a), if_pos (by omega : (-1 : Int) < 0), if_neg (by omega : ¬ b < 0)]
        rfl
      ((repeat refine PWp.seq ?_); refine PWp.region TT (by rfl) (fun K hK => ?_); simp only [push_cast, seval, Nat.reduceEqDiff, Nat.reduceLeDiff, reduceCtorEq]; (repeat refine sk ?_); refine hK _ ?_; clear hK K)
      ((repeat refine PWp.seq ?_); refine PWp.cond (by simp only [push_cast, seval, Nat.reduceEqDiff, Nat.reduceLeDiff, reduceCtorEq]; rfl) (fun hc => ?_) (fun hc => ?_))
      · cases hc
      · ((repeat refine PWp.seq ?_); refine PWp.skip ?_)
        ((repeat refine PWp.seq ?_); refine PWp.region TT (by rfl) (fun K hK => ?_); simp only [push_cast, seval, Nat.reduceEqDiff, Nat.reduceLeDiff, reduceCtorEq]; (repeat refine sk ?_); refine hK _ ?_; clear hK K)
        ((repeat refine PWp.seq ?_); refine PWp.cond (by simp only [push_cast, seval, Nat.reduceEqDiff, Nat.reduceLeDiff, reduceCtorEq]; rfl) (fun hc => ?_) (fun hc => ?_))
        · ((repeat refine PWp.seq ?_); refine PWp.region TT (by rfl) (fun K hK => ?_); simp only [push_cast, seval, Nat.reduceEqDiff, Nat.reduceLeDiff, reduceCtorEq]; (repeat refine sk ?_); refine hK _ ?_; clear hK K)
          ((repeat refine PWp.seq ?_); refine PWp.region TT (by rfl) (fun K hK => ?_); simp only [push_cast, seval, Nat.reduceEqDiff, Nat.reduceLeDiff, reduceCtorEq]; (repeat refine sk ?_); refine hK _ ?_; clear hK K)
          ((repeat refine PWp.seq ?_); refine PWp.region TT (by rfl) (fun K hK => ?_); simp only [push_cast, seval, Nat.reduceEqDiff, Nat.reduceLeDiff, reduceCtorEq, wrap64_id (n := (k : Int) + 1) (by omega) (by omega)]; (repeat refine sk ?_); refine hK _ ?_; clear hK K)
          refine ⟨_, _, ?_, ⟨k + 1, [], a, b, rfl, by omega, by simp, hs'.symm, .inr ⟨q1, q2, q3, fun j h1 h2 => hnext j h1 h2⟩, rfl⟩, Gh.le (by simp [push_cast, -List.getD_eq_getElem?_getD]) (by simp)⟩
          omega
        · cases hc
    · have hbt := hbk (by omega)
      have hd0 : decide (t ≥ 0) = true := decide_eq_true (by omega)
      have hd1 : decide (t < 0) = false := decide_eq_false (by omega)
      have hpe : pend f t = [(f, t - f)] := by unfold pend; rw [if_neg (by omega)]
      have hpb : ∀ f, pend f b = [(f, b - f)] := fun f => by unfold pend; rw [if_neg (by omega)]
      rw [hpe] at hs
      by_cases hat : a > t
      · have hda : decide (a > t) = true := decide_eq_true hat
        have hs' : arF n r (P.take (k + 1)) = pre ++ [(f, t - f)] ++ pend a b := by
          rw [hs, hpb]
          unfold extR
          rw [if_neg (by omega : ¬ b ≤ a), List.getLast?_concat]
          simp only
          rw [if_pos (by omega)]
        ((repeat refine PWp.seq ?_); refine PWp.region TT (by rfl) (fun K hK => ?_); simp only [push_cast, seval, Nat.reduceEqDiff, Nat.reduceLeDiff, reduceCtorEq, hd0, hda]; (repeat refine sk ?_); refine hK _ ?_; clear hK K)
        ((repeat refine PWp.seq ?_); refine PWp.cond (by simp only [push_cast, seval, Nat.reduceEqDiff, Nat.reduceLeDiff, reduceCtorEq]; rfl) (fun hc => ?_) (fun hc => ?_))
        · clear hc
          ((repeat refine PWp.seq ?_); refine PWp.region TT (by rfl) (fun K hK => ?_); simp only [push_cast, seval, Nat.reduceEqDiff, Nat.reduceLeDiff, reduceCtorEq, wrap64_id (n := t - f) (by omega) (by omega)])
          (repeat refine sk ?_)
          refine HY _ _ pre (f, t - f) _ (by omega) ?_
          (simp only [push_cast, seval, Nat.reduceEqDiff, Nat.reduceLeDiff, reduceCtorEq]; (repeat refine sk ?_); refine hK _ ?_; clear hK K)
          ((repeat refine PWp.seq ?_); refine PWp.cond (by simp only [push_cast, seval, Nat.reduceEqDiff, Nat.reduceLeDiff, reduceCtorEq]; rfl) (fun hc => ?_) (fun hc => ?_))
          · cases hc
          · clear hc
            ((repeat refine PWp.seq ?_); refine PWp.skip ?_)
            ((repeat refine PWp.seq ?_); refine PWp.region TT (by rfl) (fun K hK => ?_); simp only [push_cast, seval, Nat.reduceEqDiff, Nat.reduceLeDiff, reduceCtorEq]; (repeat refine sk ?_); refine hK _ ?_; clear hK K)
            ((repeat refine PWp.seq ?_); refine PWp.region TT (by rfl) (fun K hK => ?_); simp only [push_cast, seval, Nat.reduceEqDiff, Nat.reduceLeDiff, reduceCtorEq]; (repeat refine sk ?_); refine hK _ ?_; clear hK K)
            ((repeat refine PWp.seq ?_); refine PWp.cond (by simp only [push_cast, seval, Nat.reduceEqDiff, Nat.reduceLeDiff, reduceCtorEq]; rfl) (fun hc => ?_) (fun hc => ?_))
            · ((repeat refine PWp.seq ?_); refine PWp.region TT (by rfl) (fun K hK => ?_); simp only [push_cast, seval, Nat.reduceEqDiff, Nat.reduceLeDiff, reduceCtorEq]; (repeat refine sk ?_); refine hK _ ?_; clear hK K)
              ((repeat refine PWp.seq ?_); refine PWp.region TT (by rfl) (fun K hK => ?_); simp only [push_cast, seval, Nat.reduceEqDiff, Nat.reduceLeDiff, reduceCtorEq]; (repeat refine sk ?_); refine hK _ ?_; clear hK K)
              ((repeat refine PWp.seq ?_); refine PWp.region TT (by rfl) (fun K hK => ?_); simp only [push_cast, seval, Nat.reduceEqDiff, Nat.reduceLeDiff, reduceCtorEq, wrap64_id (n := (k : Int) + 1) (by omega) (by omega)]; (repeat refine sk ?_); refine hK _ ?_; clear hK K)
              refine ⟨_, _, ?_, ⟨k + 1, pre ++ [(f, t - f)], a, b, rfl, by omega, by simp; omega, hs'.symm, .inr ⟨q1, q2, q3, fun j h1 h2 => hnext j h1 h2⟩, rfl⟩, Gh.le (by simp [push_cast, -List.getD_eq_getElem?_getD]) (by simp)⟩
              omega
            · cases hc
        · cases hc
      · have hda : decide (a > t) = false := decide_eq_false hat
        have hs' : arF n r (P.take (k + 1)) = pre ++ pend f b := by
          rw [hs, hpb]
          unfold extR
          rw [if_neg (by omega : ¬ b ≤ a), List.getLast?_concat, List.dropLast_concat]
          simp only
          rw [if_neg (by omega)]
          congr 3
          unfold mx
          split <;> omega
        ((repeat refine PWp.seq ?_); refine PWp.region TT (by rfl) (fun K hK => ?_); simp only [push_cast, seval, Nat.reduceEqDiff, Nat.reduceLeDiff, reduceCtorEq, hd0, hda]; (repeat refine sk ?_); refine hK _ ?_; clear hK K)
        ((repeat refine PWp.seq ?_); refine PWp.cond (by simp only [push_cast, seval, Nat.reduceEqDiff, Nat.reduceLeDiff, reduceCtorEq]; rfl) (fun hc => ?_) (fun hc => ?_))
        · cases hc
        · clear hc
          ((repeat refine PWp.seq ?_); refine PWp.skip ?_)
          ((repeat refine PWp.seq ?_); refine PWp.region TT (by rfl) (fun K hK => ?_); simp only [push_cast, seval, Nat.reduceEqDiff, Nat.reduceLeDiff, reduceCtorEq, hd1]; (repeat refine sk ?_); refine hK _ ?_; clear hK K)
          ((repeat refine PWp.seq ?_); refine PWp.cond (by simp only [push_cast, seval, Nat.reduceEqDiff, Nat.reduceLeDiff, reduceCtorEq]; rfl) (fun hc => ?_) (fun hc => ?_))
          · cases hc
          · clear hc
            ((repeat refine PWp.seq ?_); refine PWp.skip ?_)
            ((repeat refine PWp.seq ?_); refine PWp.region TT (by rfl) (fun K hK => ?_); simp only [push_cast, seval, Nat.reduceEqDiff, Nat.reduceLeDiff, reduceCtorEq]; (repeat refine sk ?_); refine hK _ ?_; clear hK K)
            ((repeat refine PWp.seq ?_); refine PWp.region TT (by rfl) (fun K hK => ?_); simp only [push_cast, seval, Nat.reduceEqDiff, Nat.reduceLeDiff, reduceCtorEq, wrap64_id (n := (k : Int) + 1) (by omega) (by omega)]; (repeat refine sk ?_); refine hK _ ?_; clear hK K)
            refine ⟨_, _, ?_, ⟨k + 1, pre, f, b, rfl, by omega, by omega, hs'.symm, .inr ⟨f1, by omega, q3, fun j h1 h2 => hnext j h1 h2⟩, rfl⟩, Gh.le (by simp [push_cast, -List.getD_eq_getElem?_getD]) (by simp)⟩
            omega
  · have hk' : k = P.length := by simp at hc; omega
    subst hk'
    rw [List.take_length] at hpre
    clear hc
    (repeat refine PWp.seq ?_); refine PWp.exit (iteT rfl ?_)
    rcases hft with ⟨rfl, rfl⟩ | ⟨f1, f2, f3, f4⟩
    · have hz : arF n r P = [] := by rw [← hpre]; rfl
      ((repeat refine PWp.seq ?_); refine PWp.region TT (by rfl) (fun K hK => ?_); simp only [push_cast, seval, Nat.reduceEqDiff, Nat.reduceLeDiff, reduceCtorEq]; (repeat refine sk ?_); refine hK _ ?_; clear hK K)
      ((repeat refine PWp.seq ?_); refine PWp.cond (by simp only [push_cast, seval, Nat.reduceEqDiff, Nat.reduceLeDiff, reduceCtorEq]; rfl) (fun hc => ?_) (fun hc => ?_))
      · cases hc
      · ((repeat refine PWp.seq ?_); refine PWp.skip ?_)
        refine ⟨.inl rfl, by omega, .tup [], _, ?_, rfl⟩
        rw [hz]
        (simp [push_cast, -List.getD_eq_getElem?_getD])
    · have hd0 : decide (t ≥ 0) = true := decide_eq_true (by omega)
      have hz : arF n r P = pre ++ [(f, t - f)] := by rw [← hpre]; unfold pend; rw [if_neg (by omega)]
      ((repeat refine PWp.seq ?_); refine PWp.region TT (by rfl) (fun K hK => ?_); simp only [push_cast, seval, Nat.reduceEqDiff, Nat.reduceLeDiff, reduceCtorEq, hd0]; (repeat refine sk ?_); refine hK _ ?_; clear hK K)
      ((repeat refine PWp.seq ?_); refine PWp.cond (by simp only [push_cast, seval, Nat.reduceEqDiff, Nat.reduceLeDiff, reduceCtorEq]; rfl) (fun hc => ?_) (fun hc => ?_))
      · clear hc
        ((repeat refine PWp.seq ?_); refine PWp.region TT (by rfl) (fun K hK => ?_); simp only [push_cast, seval, Nat.reduceEqDiff, Nat.reduceLeDiff, reduceCtorEq, wrap64_id (n := t - f) (by omega) (by omega)])
        (repeat refine sk ?_)
        refine HY _ _ pre (f, t - f) _ (by omega) ?_
        (simp only [push_cast, seval, Nat.reduceEqDiff, Nat.reduceLeDiff, reduceCtorEq]; (repeat refine sk ?_); refine hK _ ?_; clear hK K)
        refine ⟨.inl rfl, by omega, .tup [], _, ?_, rfl⟩
        rw [hz]
        (simp [push_cast, -List.getD_eq_getElem?_getD])
      · cases hc
end Go.Proofs.Ytjlnialglahdoaa
