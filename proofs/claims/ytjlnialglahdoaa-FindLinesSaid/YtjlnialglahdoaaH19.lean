/- What is found, printed: plain, and the walk of find.Print. -/
import Derived.Test.YtjlnialglahdoaaH18
namespace Go.Proofs.Ytjlnialglahdoaa
open Go.PL
set_option maxRecDepth 100000
set_option linter.unusedSimpArgs false
set_option linter.unusedVariables false
/-- Ways that join again. -/
theorem PJoin {r : Option Nat} {P : Program} {N m : Nat} {x y : Code} {Q : Exit → St → Prop} {st : St} (S : St) (h : PWpF r P N m x (fun e st' => e = .normal ∧ Gh m st' S) st) (k : PWpF r P N m y Q S) : PWpF r P N m (.seq x y) Q st :=
  PWp.seq (PWp.mono h (fun e st' hh => by
    obtain ⟨rfl, hg⟩ := hh
    exact PWp.gh hg k))
/-! ### Plain -/
def sgB (P : List Int) (i : Nat) : List UInt8 := if (i : Int) ∈ P then [58] else [45]
def lnB (l : List Ln) (P : List Int) (i : Nat) : List UInt8 := decL (i + 1) ++ sgB P i ++ (l.getD i default).t ++ [10]
def rgB (l : List Ln) (P : List Int) (f n : Nat) : List UInt8 := ((List.range n).map fun d => lnB l P (f + d)).flatten
def sepB (k : Nat) : List UInt8 := if 0 < k then [45, 45, 10] else []
def prB (l : List Ln) (P : List Int) (R : List Rg) (k : Nat) : List UInt8 := ((List.range k).map fun j => sepB j ++ rgB l P (R.getD j default).1.toNat (R.getD j default).2.toNat).flatten
theorem rgB_succ (l : List Ln) (P : List Int) (f n : Nat) : rgB l P f (n + 1) = rgB l P f n ++ lnB l P (f + n) := by
  unfold rgB
  rw [List.range_succ, List.map_append, List.flatten_append]
  simp
theorem prB_succ (l : List Ln) (P : List Int) (R : List Rg) (k : Nat) {f n : Nat} (h : R.getD k default = ((f : Int), (n : Int))) : prB l P R (k + 1) = prB l P R k ++ sepB k ++ rgB l P f n := by
  unfold prB
  rw [List.range_succ, List.map_append, List.flatten_append]
  simp only [List.map_cons, List.map_nil, List.flatten_cons, List.flatten_nil, List.append_nil, h, Int.toNat_natCast, List.append_assoc]
theorem sgB_len (P : List Int) (i : Nat) : (sgB P i).length = 1 := by unfold sgB; split <;> rfl
theorem sepB_len (k : Nat) : (sepB k).length ≤ 3 := by unfold sepB; split <;> simp
theorem lnB_len {l : List Ln} (h : okL l) (P : List Int) {i : Nat} (hi : i < l.length) (hl : l.length ≤ 1000) : (lnB l P i).length ≤ 61 := by
  unfold lnB
  have h1 := okL_get h hi
  have h2 := decL_len 18 (i + 1) (by omega)
  have h3 := sgB_len P i
  rw [List.length_append, List.length_append, List.length_append, h3]
  simp only [List.length_cons, List.length_nil]
  omega
theorem rgB_len {l : List Ln} (h : okL l) (P : List Int) (f : Nat) (hl : l.length ≤ 1000) : ∀ n, f + n ≤ l.length → (rgB l P f n).length ≤ 61 * n
  | 0, _ => by simp [rgB]
  | n + 1, hn => by
    have h1 := rgB_len h P f hl n (by omega)
    have h2 := lnB_len h P (i := f + n) (by omega) hl
    rw [rgB_succ, List.length_append]
    omega
/-- Stretches within so many lines. -/
def okR (n : Nat) (R : List Rg) : Prop := ∀ k, k < R.length → ∃ f m : Nat, R.getD k default = ((f : Int), (m : Int)) ∧ f + m ≤ n
theorem okR_of {n : Nat} {R : List Rg} (h : bdR n R) : okR n R := by
  intro k hk
  have hx := h _ (getD_mem hk)
  generalize R.getD k default = x at *
  obtain ⟨a, b⟩ := x
  refine ⟨a.toNat, b.toNat, ?_, ?_⟩
  · rw [Int.toNat_of_nonneg hx.1, Int.toNat_of_nonneg hx.2.1]
  · have := hx.1; have := hx.2.1; have := hx.2.2
    simp only at *
    omega
theorem prB_len {l : List Ln} (h : okL l) (P : List Int) {R : List Rg} (hR : okR l.length R) (hl : l.length ≤ 1000) : ∀ k, k ≤ R.length → (prB l P R k).length ≤ 61003 * k
  | 0, _ => by simp [prB]
  | k + 1, hk => by
    have h1 := prB_len h P hR hl k (by omega)
    obtain ⟨f, n, he, hn⟩ := hR k (by omega)
    have h2 := rgB_len h P f hl n hn
    have h3 := sepB_len k
    rw [prB_succ l P R k he, List.length_append, List.length_append]
    omega
theorem arL_bd (n r : Int) (P : List Int) : bdR n (arL n r P) := by
  unfold arL
  split
  · intro x hx; cases hx
  · split
    · have := arF_bd (n := n) (r := r) (P := P) P.length (Nat.le_refl _)
      rwa [List.take_length] at this
    · intro x hx; cases hx
theorem plA_in (p : List UInt8) (l : List Ln) : ∀ x ∈ plA p l, 0 ≤ x ∧ x < l.length := by
  unfold plA
  split
  · exact liK_in
  · intro x hx; cases hx
theorem plA_len (p : List UInt8) (l : List Ln) : (plA p l).length ≤ l.length := by
  unfold plA
  split
  · exact liK_len p l _
  · simp
def prF (l : List Ln) (p : List UInt8) (r : Int) : List UInt8 := if parE p = 0 then (if arE l.length r (plA p l) = 0 then prB l (plA p l) (arL l.length r (plA p l)) (arL l.length r (plA p l)).length else []) else []
def prE (l : List Ln) (p : List UInt8) (r : Int) : Int := if parE p = 0 then arE l.length r (plA p l) else parE p
def iBy (l : List UInt8) : TV := .iv (.sl 1 (l.map byteV))
attribute [push_cast] iBy
theorem arE_ok {n r : Int} {P : List Int} (h : arE n r P = 0) : okP n (-1) P = true := by
  unfold arE at h
  split at h
  · cases h
  · split at h
    · assumption
    · cases h
theorem okP_new {n : Int} {P : List Int} (h : okP n (-1) P = true) {k : Nat} (hk : k < P.length) : P.getD k default ∉ P.take k := by
  intro hm
  obtain ⟨j, hj, e⟩ := mem_get hm
  rw [List.length_take] at hj
  have := (okP_get h k hk).2.2 j (by omega)
  have e2 : (P.take k).getD j default = P.getD j default := by
    rw [List.getD_eq_getElem?_getD, List.getD_eq_getElem?_getD, List.getElem?_take, if_pos (by omega)]
  rw [e2] at e
  omega
theorem lens_byte (l : List UInt8) : lens? 1 (l.map byteV) := lens_map (f := byteV) (fun a => ⟨rfl, rfl⟩) l
set_option maxHeartbeats 2000000 in
theorem find_Print (l : List Ln) (p : List UInt8) (r : Int) (hl : l.length ≤ 400) (ht : okL l) (hp : p.length ≤ 9223372036854775807) : PC Try.prog 21 [iL l, iS p, iI r] [] 0 60
    (fun t obs => t = .tup [iBy (prF l p r), iI (prE l p r)] ∧ obs = []) := by
  have hPl := plA_len p l
  have hPi := plA_in p l
  refine PC.body [6, 7] Try.func21 rfl (by rfl) (Nat.le_of_ble_eq_true (by rfl)) rfl ?_; simp only [enumA]
  ((repeat refine PWp.seq ?_); refine PWp.region TT (by rfl) (fun K hK => ?_); simp only [push_cast, seval, Nat.reduceEqDiff, Nat.reduceLeDiff, reduceCtorEq]; (repeat refine sk ?_); refine hK _ ?_; clear hK K)
  ((repeat refine PWp.seq ?_); refine PWp.region TT (by rfl) (fun K hK => ?_); simp only [push_cast, seval, Nat.reduceEqDiff, Nat.reduceLeDiff, reduceCtorEq])
  ((repeat refine sk ?_); refine PCall.use (find_Lines l p (by omega) ht hp) [] rfl (by simp [push_cast]) (by simp) (by simp [push_cast]) (by simp [push_cast]) (by simp [push_cast]) (by simp [push_cast]) ?_)
  rintro _ _ ⟨rfl, rfl⟩
  (simp only [push_cast, seval, Nat.reduceEqDiff, Nat.reduceLeDiff, reduceCtorEq]; (repeat refine sk ?_); refine hK _ ?_; clear hK K)
  by_cases he : parE p = 0
  case neg =>
    have hb : (parE p != 0) = true := bne_iff_ne.2 he
    have r1 : prF l p r = [] := if_neg he
    have r2 : prE l p r = parE p := if_neg he
    ((repeat refine PWp.seq ?_); refine PWp.region TT (by rfl) (fun K hK => ?_); simp only [push_cast, seval, Nat.reduceEqDiff, Nat.reduceLeDiff, reduceCtorEq, hb]; (repeat refine sk ?_); refine hK _ ?_; clear hK K)
    ((repeat refine PWp.seq ?_); refine PWp.cond (by simp only [push_cast, seval, Nat.reduceEqDiff, Nat.reduceLeDiff, reduceCtorEq]; rfl) (fun hc => ?_) (fun hc => ?_))
    · ((repeat refine PWp.seq ?_); refine PWp.region TT (by rfl) (fun K hK => ?_); simp only [push_cast, seval, Nat.reduceEqDiff, Nat.reduceLeDiff, reduceCtorEq]; (repeat refine sk ?_); refine hK _ ?_; clear hK K)
      ((repeat refine PWp.seq ?_); refine PWp.ret ?_)
      refine ⟨.inr rfl, by omega, _, [], ?_, rfl, rfl⟩
      rw [r1, r2]
      (simp [push_cast, -List.getD_eq_getElem?_getD])
    · cases hc
  have hb : (parE p != 0) = false := by rw [he]; rfl
  have r1 : prF l p r = (if arE l.length r (plA p l) = 0 then prB l (plA p l) (arL l.length r (plA p l)) (arL l.length r (plA p l)).length else []) := if_pos he
  have r2 : prE l p r = arE l.length r (plA p l) := if_pos he
  generalize plA p l = P at *
  ((repeat refine PWp.seq ?_); refine PWp.region TT (by rfl) (fun K hK => ?_); simp only [push_cast, seval, Nat.reduceEqDiff, Nat.reduceLeDiff, reduceCtorEq, hb]; (repeat refine sk ?_); refine hK _ ?_; clear hK K)
  ((repeat refine PWp.seq ?_); refine PWp.cond (by simp only [push_cast, seval, Nat.reduceEqDiff, Nat.reduceLeDiff, reduceCtorEq]; rfl) (fun hc => ?_) (fun hc => ?_))
  · cases hc
  clear hc
  ((repeat refine PWp.seq ?_); refine PWp.skip ?_)
  ((repeat refine PWp.seq ?_); refine PWp.region TT (by rfl) (fun K hK => ?_); simp only [push_cast, seval, Nat.reduceEqDiff, Nat.reduceLeDiff, reduceCtorEq])
  ((repeat refine sk ?_); refine PCall.use (find_Around P l.length r (by omega)) [] rfl (by simp [push_cast]) (by simp) (by simp [push_cast]) (by simp [push_cast]) (by simp [push_cast]) (by simp [push_cast]) ?_)
  rintro _ _ ⟨rfl, rfl⟩
  (simp only [push_cast, seval, Nat.reduceEqDiff, Nat.reduceLeDiff, reduceCtorEq]; (repeat refine sk ?_); refine hK _ ?_; clear hK K)
  have hRl := arL_len l.length r P
  have hRb := okR_of (arL_bd (l.length : Int) r P)
  by_cases hae : arE l.length r P = 0
  case neg =>
    have hb2 : (arE l.length r P != 0) = true := bne_iff_ne.2 hae
    rw [if_neg hae] at r1
    ((repeat refine PWp.seq ?_); refine PWp.region TT (by rfl) (fun K hK => ?_); simp only [push_cast, seval, Nat.reduceEqDiff, Nat.reduceLeDiff, reduceCtorEq, hb2]; (repeat refine sk ?_); refine hK _ ?_; clear hK K)
    ((repeat refine PWp.seq ?_); refine PWp.cond (by simp only [push_cast, seval, Nat.reduceEqDiff, Nat.reduceLeDiff, reduceCtorEq]; rfl) (fun hc => ?_) (fun hc => ?_))
    · ((repeat refine PWp.seq ?_); refine PWp.region TT (by rfl) (fun K hK => ?_); simp only [push_cast, seval, Nat.reduceEqDiff, Nat.reduceLeDiff, reduceCtorEq]; (repeat refine sk ?_); refine hK _ ?_; clear hK K)
      ((repeat refine PWp.seq ?_); refine PWp.ret ?_)
      refine ⟨.inr rfl, by omega, _, [], ?_, rfl, rfl⟩
      rw [r1, r2]
      (simp [push_cast, -List.getD_eq_getElem?_getD])
    · cases hc
  have hb2 : (arE l.length r P != 0) = false := by rw [hae]; rfl
  have hok := arE_ok hae
  rw [if_pos hae] at r1
  rw [hae] at r2
  generalize arL l.length r P = R at *
  ((repeat refine PWp.seq ?_); refine PWp.region TT (by rfl) (fun K hK => ?_); simp only [push_cast, seval, Nat.reduceEqDiff, Nat.reduceLeDiff, reduceCtorEq, hb2]; (repeat refine sk ?_); refine hK _ ?_; clear hK K)
  ((repeat refine PWp.seq ?_); refine PWp.cond (by simp only [push_cast, seval, Nat.reduceEqDiff, Nat.reduceLeDiff, reduceCtorEq]; rfl) (fun hc => ?_) (fun hc => ?_))
  · cases hc
  clear hc
  ((repeat refine PWp.seq ?_); refine PWp.skip ?_)
  ((repeat refine PWp.seq ?_); refine PWp.region TT (by rfl) (fun K hK => ?_); simp only [push_cast, seval, Nat.reduceEqDiff, Nat.reduceLeDiff, reduceCtorEq]; (repeat refine sk ?_); refine hK _ ?_; clear hK K)
  ((repeat refine PWp.seq ?_); refine PWp.region TT (by rfl) (fun K hK => ?_); simp only [push_cast, seval, Nat.reduceEqDiff, Nat.reduceLeDiff, reduceCtorEq]; (repeat refine sk ?_); refine hK _ ?_; clear hK K)
  refine PWp.gh (st' := ⟨[(0, iL l), (8, iN P), (10, iR R), (11, .mptr 0), (40, iN P), (41, iI P.length), (42, iI 0)], [(0, .map 3 4 [])], 1⟩) (Gh.leR [20] (by simp [push_cast, -List.getD_eq_getElem?_getD]; try decide)) ?_
  ((repeat refine PWp.seq ?_); refine PWp.block ?_)
  refine PWp.loop (fun d st => ∃ k : Nat, d = P.length - k ∧ k ≤ P.length ∧
    st = ⟨[(0, iL l), (8, iN P), (10, iR R), (11, .mptr 0), (40, iN P), (41, iI P.length), (42, iI k)], [(0, .map 3 4 (fm (P.take k)))], 1⟩) _ _ ⟨0, rfl, Nat.zero_le _, rfl⟩ (Gh.le (by simp [push_cast, -List.getD_eq_getElem?_getD, fm]) (by simp)) ?_
  rintro d st ⟨k, rfl, hk, rfl⟩
  ((repeat refine PWp.seq ?_); refine PWp.region TT (by rfl) (fun K hK => ?_); simp only [push_cast, seval, Nat.reduceEqDiff, Nat.reduceLeDiff, reduceCtorEq]; (repeat refine sk ?_); refine hK _ ?_; clear hK K)
  ((repeat refine PWp.seq ?_); refine PWp.cond (by simp only [push_cast, seval, Nat.reduceEqDiff, Nat.reduceLeDiff, reduceCtorEq]; rfl) (fun hc => ?_) (fun hc => ?_))
  · have hlt : k < P.length := by have := of_decide_eq_true hc; omega
    clear hc
    have hg : (P.map encI).getD k .any = encI (P.getD k default) := getD_map hlt
    have hn := okP_new hok hlt
    have hs : P.take (k + 1) = P.take k ++ [P.getD k default] := take_succ_getD hlt
    have hfp := fm_put _ _ hn
    rw [← hs] at hfp
    ((repeat refine PWp.seq ?_); refine PWp.skip ?_)
    ((repeat refine PWp.seq ?_); refine PWp.block ?_)
    ((repeat refine PWp.seq ?_); refine PWp.region TT (by rfl) (fun K hK => ?_); simp only [push_cast, seval, Nat.reduceEqDiff, Nat.reduceLeDiff, reduceCtorEq, hg]; (repeat refine sk ?_); refine hK _ ?_; clear hK K)
    ((repeat refine PWp.seq ?_); refine PWp.region TT (by rfl) (fun K hK => ?_); simp only [push_cast, seval, Nat.reduceEqDiff, Nat.reduceLeDiff, reduceCtorEq, hfp]; (repeat refine sk ?_); refine hK _ ?_; clear hK K)
    ((repeat refine PWp.seq ?_); refine PWp.region TT (by rfl) (fun K hK => ?_); simp only [push_cast, seval, Nat.reduceEqDiff, Nat.reduceLeDiff, reduceCtorEq, wrap64_id (n := (k : Int) + 1) (by omega) (by omega)]; (repeat refine sk ?_); refine hK _ ?_; clear hK K)
    refine ⟨_, _, ?_, ⟨k + 1, rfl, by omega, rfl⟩, Gh.le (by simp [push_cast, -List.getD_eq_getElem?_getD]) (by simp)⟩
    omega
  · have hk' : k = P.length := by have := of_decide_eq_false hc; omega
    subst hk'
    rw [List.take_length]
    clear hc hk
    (repeat refine PWp.seq ?_); refine PWp.exit (iteT rfl ?_)
    ((repeat refine PWp.seq ?_); refine PWp.region TT (by rfl) (fun K hK => ?_); simp only [push_cast, seval, Nat.reduceEqDiff, Nat.reduceLeDiff, reduceCtorEq]; (repeat refine sk ?_); refine hK _ ?_; clear hK K)
    ((repeat refine PWp.seq ?_); refine PWp.region TT (by rfl) (fun K hK => ?_); simp only [push_cast, seval, Nat.reduceEqDiff, Nat.reduceLeDiff, reduceCtorEq]; (repeat refine sk ?_); refine hK _ ?_; clear hK K)
    refine PWp.gh (st' := ⟨[(0, iL l), (8, iN P), (10, iR R), (11, .mptr 0), (14, .acc 1 1 []), (50, iR R), (51, iI R.length), (52, iI 0)], [(0, .map 3 4 (fm P)), (1, .row 5 1)], 2⟩) (Gh.leR [0, 1] (by simp [push_cast, -List.getD_eq_getElem?_getD]; try decide)) ?_
    ((repeat refine PWp.seq ?_); refine PWp.block ?_)
    refine PWp.loop (fun d st => ∃ k : Nat, d = R.length - k ∧ k ≤ R.length ∧
      st = ⟨[(0, iL l), (8, iN P), (10, iR R), (11, .mptr 0), (14, .acc 1 1 ((prB l P R k).map byteV)), (50, iR R), (51, iI R.length), (52, iI k)], [(0, .map 3 4 (fm P)), (1, .row 5 1)], 2⟩) _ _ ⟨0, rfl, Nat.zero_le _, rfl⟩ (Gh.le (by simp [push_cast, -List.getD_eq_getElem?_getD, show prB l P R 0 = [] from rfl]) (by simp)) ?_
    rintro d st ⟨k, rfl, hk, rfl⟩
    ((repeat refine PWp.seq ?_); refine PWp.region TT (by rfl) (fun K hK => ?_); simp only [push_cast, seval, Nat.reduceEqDiff, Nat.reduceLeDiff, reduceCtorEq]; (repeat refine sk ?_); refine hK _ ?_; clear hK K)
    ((repeat refine PWp.seq ?_); refine PWp.cond (by simp only [push_cast, seval, Nat.reduceEqDiff, Nat.reduceLeDiff, reduceCtorEq]; rfl) (fun hc => ?_) (fun hc => ?_))
    · have hlt : k < R.length := by have := of_decide_eq_true hc; omega
      clear hc
      obtain ⟨f, n, hx, hfn⟩ := hRb k hlt
      have hg : (R.map encR).getD k .any = encR ((f : Int), (n : Int)) := by rw [← hx]; exact getD_map hlt
      have hps := prB_succ l P R k hx
      have hpl := prB_len ht P hRb (by omega) k (by omega)
      have hsl := sepB_len k
      clear hx
      generalize prB l P R k = A at *
      have hlA : ∀ x : List UInt8, lens? 1 (x.map byteV) := lens_byte
      ((repeat refine PWp.seq ?_); refine PWp.skip ?_)
      ((repeat refine PWp.seq ?_); refine PWp.block ?_)
      ((repeat refine PWp.seq ?_); refine PWp.region TT (by rfl) (fun K hK => ?_); simp only [push_cast, seval, Nat.reduceEqDiff, Nat.reduceLeDiff, reduceCtorEq, hg]; (repeat refine sk ?_); refine hK _ ?_; clear hK K)
      refine PWp.gh (st' := ⟨[(0, iL l), (8, iN P), (10, iR R), (11, .mptr 0), (14, .acc 1 1 (A.map byteV)), (15, iI k), (16, .bptr 2 0), (50, iR R), (51, iI R.length), (52, iI k)], [(0, .map 3 4 (fm P)), (1, .row 5 1), (2, .box 65 [iI f, iI n])], 3⟩) (Gh.le (by simp [push_cast, -List.getD_eq_getElem?_getD]) (by simp)) ?_
      refine PJoin ⟨[(0, iL l), (8, iN P), (10, iR R), (11, .mptr 0), (14, .acc 1 1 ((A ++ sepB k).map byteV)), (16, .bptr 2 0), (50, iR R), (51, iI R.length), (52, iI k)], [(0, .map 3 4 (fm P)), (1, .row 5 1), (2, .box 65 [iI f, iI n])], 3⟩ ?_ ?_
      · ((repeat refine PWp.seq ?_); refine PWp.region TT (by rfl) (fun K hK => ?_); simp only [push_cast, seval, Nat.reduceEqDiff, Nat.reduceLeDiff, reduceCtorEq]; (repeat refine sk ?_); refine hK _ ?_; clear hK K)
        ((repeat refine PWp.seq ?_); refine PWp.cond (by simp only [push_cast, seval, Nat.reduceEqDiff, Nat.reduceLeDiff, reduceCtorEq]; rfl) (fun hc => ?_) (fun hc => ?_))
        · have hk0 : 0 < k := by have := of_decide_eq_true hc; omega
          have hse : sepB k = [45, 45, 10] := if_pos hk0
          ((repeat refine PWp.seq ?_); refine PWp.region TT (by rfl) (fun K hK => ?_); simp only [push_cast, seval, Nat.reduceEqDiff, Nat.reduceLeDiff, reduceCtorEq]; (repeat refine sk ?_); refine hK _ ?_; clear hK K)
          exact ⟨rfl, Gh.le (by simp [push_cast, -List.getD_eq_getElem?_getD, hse]) (by simp)⟩
        · have hk0 : ¬ 0 < k := by have := of_decide_eq_false hc; omega
          have hse : sepB k = [] := if_neg hk0
          ((repeat refine PWp.seq ?_); refine PWp.skip ?_)
          exact ⟨rfl, Gh.le (by simp [push_cast, -List.getD_eq_getElem?_getD, hse]) (by simp)⟩
      have hB0 : (A ++ sepB k).length ≤ 61003 * k + 3 := by rw [List.length_append]; omega
      generalize A ++ sepB k = B at *
      clear hpl hsl hg hlA
      ((repeat refine PWp.seq ?_); refine PWp.region TT (by rfl) (fun K hK => ?_); simp only [push_cast, seval, Nat.reduceEqDiff, Nat.reduceLeDiff, reduceCtorEq]; (repeat refine sk ?_); refine hK _ ?_; clear hK K)
      ((repeat refine PWp.seq ?_); refine PWp.block ?_)
      refine PWp.loop (fun c st => ∃ d : Nat, c = n - d ∧ d ≤ n ∧
        st = ⟨[(0, iL l), (8, iN P), (10, iR R), (11, .mptr 0), (14, .acc 1 1 ((B ++ rgB l P f d).map byteV)), (16, .bptr 2 0), (17, iI (f + d)), (50, iR R), (51, iI R.length), (52, iI k)], [(0, .map 3 4 (fm P)), (1, .row 5 1), (2, .box 65 [iI f, iI n])], 3⟩) _ _ ⟨0, rfl, Nat.zero_le _, rfl⟩ (Gh.le (by simp [push_cast, -List.getD_eq_getElem?_getD, show rgB l P f 0 = [] from rfl]) (by simp)) ?_
      rintro c st ⟨d, rfl, hd, rfl⟩
      ((repeat refine PWp.seq ?_); refine PWp.region TT (by rfl) (fun K hK => ?_); simp only [push_cast, seval, Nat.reduceEqDiff, Nat.reduceLeDiff, reduceCtorEq, wrap64_id (n := (f : Int) + n) (by omega) (by omega)]; (repeat refine sk ?_); refine hK _ ?_; clear hK K)
      ((repeat refine PWp.seq ?_); refine PWp.cond (by simp only [push_cast, seval, Nat.reduceEqDiff, Nat.reduceLeDiff, reduceCtorEq]; rfl) (fun hc => ?_) (fun hc => ?_))
      · have hdn : d < n := by have := of_decide_eq_true hc; omega
        clear hc
        have hrs := rgB_succ l P f d
        have hrl := rgB_len ht P f (by omega) d (by omega)
        have hg : (l.map encL).getD (f + d) .any = encL (l.getD (f + d) default) := getD_map (by omega)
        have hxl := okL_get ht (show f + d < l.length by omega)
        have hdl := decL_len 18 (f + d + 1) (by omega)
        have hfd := fm_find P ((f : Int) + d)
        have hlB : ∀ x : List UInt8, lens? 1 (x.map byteV) := lens_byte
        have t1 : ((f : Int) + d).toNat = f + d := by omega
        have w1 := wrap64_id (n := (f : Int) + d + 1) (by omega) (by omega)
        unfold lnB at hrs
        generalize rgB l P f d = C at *
        generalize l.getD (f + d) default = x at *
        ((repeat refine PWp.seq ?_); refine PWp.skip ?_)
        ((repeat refine PWp.seq ?_); refine PWp.block ?_)
        ((repeat refine PWp.seq ?_); refine PWp.region TT (by rfl) (fun K hK => ?_); simp only [push_cast, seval, Nat.reduceEqDiff, Nat.reduceLeDiff, reduceCtorEq]; (repeat refine sk ?_); refine hK _ ?_; clear hK K)
        refine PJoin ⟨[(0, iL l), (8, iN P), (10, iR R), (11, .mptr 0), (14, .acc 1 1 ((B ++ C).map byteV)), (16, .bptr 2 0), (17, iI (f + d)), (18, iS (sgB P (f + d))), (50, iR R), (51, iI R.length), (52, iI k)], [(0, .map 3 4 (fm P)), (1, .row 5 1), (2, .box 65 [iI f, iI n])], 3⟩ ?_ ?_
        · by_cases hm : (f : Int) + d ∈ P
          · rw [if_pos hm] at hfd
            have hse : sgB P (f + d) = [58] := if_pos (by push_cast; exact hm)
            ((repeat refine PWp.seq ?_); refine PWp.region TT (by rfl) (fun K hK => ?_); simp only [push_cast, seval, Nat.reduceEqDiff, Nat.reduceLeDiff, reduceCtorEq, hfd, Option.getD_some]; (repeat refine sk ?_); refine hK _ ?_; clear hK K)
            ((repeat refine PWp.seq ?_); refine PWp.cond (by simp only [push_cast, seval, Nat.reduceEqDiff, Nat.reduceLeDiff, reduceCtorEq]; rfl) (fun hc => ?_) (fun hc => ?_))
            · ((repeat refine PWp.seq ?_); refine PWp.region TT (by rfl) (fun K hK => ?_); simp only [push_cast, seval, Nat.reduceEqDiff, Nat.reduceLeDiff, reduceCtorEq]; (repeat refine sk ?_); refine hK _ ?_; clear hK K)
              exact ⟨rfl, Gh.le (by simp [push_cast, -List.getD_eq_getElem?_getD, hse]) (by simp)⟩
            · cases hc
          · rw [if_neg hm] at hfd
            have hse : sgB P (f + d) = [45] := if_neg (by push_cast; exact hm)
            ((repeat refine PWp.seq ?_); refine PWp.region TT (by rfl) (fun K hK => ?_); simp only [push_cast, seval, Nat.reduceEqDiff, Nat.reduceLeDiff, reduceCtorEq, hfd, Option.getD_none]; (repeat refine sk ?_); refine hK _ ?_; clear hK K)
            ((repeat refine PWp.seq ?_); refine PWp.cond (by simp only [push_cast, seval, Nat.reduceEqDiff, Nat.reduceLeDiff, reduceCtorEq]; rfl) (fun hc => ?_) (fun hc => ?_))
            · cases hc
            · ((repeat refine PWp.seq ?_); refine PWp.skip ?_)
              exact ⟨rfl, Gh.le (by simp [push_cast, -List.getD_eq_getElem?_getD, hse]) (by simp)⟩
        have hsl := sgB_len P (f + d)
        generalize sgB P (f + d) = S at *
        ((repeat refine PWp.seq ?_); refine PWp.drawT TT (by kernel_rfl) [] (.q 0 (.q 1 (.q 2 (.q 4 (.q 6 (.q 7 (.q 8 (.q 9 (.q 10 (.x 3 (.q 5 (.q 11 (.q 12 (.x 13 (.q 14 .nil))))))))))))))) (by rfl) (by kernel_rfl) (by rfl) (by simp) (fun K hK => ?_); simp only [push_cast, seval, Nat.reduceEqDiff, Nat.reduceLeDiff, reduceCtorEq, w1, hg, t1])
        (repeat refine sk ?_)
        ((repeat refine sk ?_); refine PCall.use (find_digits (f + d + 1) (by omega)) [] rfl (by simp [push_cast]) (by simp) (by simp [push_cast]) (by simp [push_cast]) (by simp [push_cast]) (by simp [push_cast]) ?_)
        rintro _ _ ⟨rfl, rfl⟩
        (simp only [push_cast, seval, Nat.reduceEqDiff, Nat.reduceLeDiff, reduceCtorEq, hlB]; (repeat refine sk ?_); refine hK _ ?_; clear hK K)
        ((repeat refine PWp.seq ?_); refine PWp.region TT (by rfl) (fun K hK => ?_); simp only [push_cast, seval, Nat.reduceEqDiff, Nat.reduceLeDiff, reduceCtorEq, wrap64_id (n := (f : Int) + d + 1) (by omega) (by omega)]; (repeat refine sk ?_); refine hK _ ?_; clear hK K)
        refine ⟨_, _, ?_, ⟨d + 1, rfl, by omega, rfl⟩, Gh.le (by simp [push_cast, -List.getD_eq_getElem?_getD, hrs, show (f : Int) + (d + 1) = f + d + 1 by omega]) (by simp)⟩
        omega
      · have hdn : d = n := by have := of_decide_eq_false hc; omega
        subst hdn
        clear hc
        (repeat refine PWp.seq ?_); refine PWp.exit (iteT rfl ?_)
        ((repeat refine PWp.seq ?_); refine PWp.region TT (by rfl) (fun K hK => ?_); simp only [push_cast, seval, Nat.reduceEqDiff, Nat.reduceLeDiff, reduceCtorEq, wrap64_id (n := (k : Int) + 1) (by omega) (by omega)]; (repeat refine sk ?_); refine hK _ ?_; clear hK K)
        refine ⟨_, _, ?_, ⟨k + 1, rfl, by omega, rfl⟩, Gh.le (by simp [push_cast, -List.getD_eq_getElem?_getD, hps]) (by simp)⟩
        omega
    · have hk' : k = R.length := by have := of_decide_eq_false hc; omega
      subst hk'
      clear hc
      (repeat refine PWp.seq ?_); refine PWp.exit (iteT rfl ?_)
      ((repeat refine PWp.seq ?_); refine PWp.region TT (by rfl) (fun K hK => ?_); simp only [push_cast, seval, Nat.reduceEqDiff, Nat.reduceLeDiff, reduceCtorEq]; (repeat refine sk ?_); refine hK _ ?_; clear hK K)
      ((repeat refine PWp.seq ?_); refine PWp.ret ?_)
      refine ⟨.inr rfl, by omega, _, [], ?_, rfl, rfl⟩
      rw [r1, r2]
      (simp [push_cast, -List.getD_eq_getElem?_getD])
end Go.Proofs.Ytjlnialglahdoaa
