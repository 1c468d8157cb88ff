/- find.shortest, Check, Fits, Span. -/
import Derived.Test.YtjlnialglahdoaaH4
namespace Go.Proofs.Ytjlnialglahdoaa
open Go.PL
set_option maxRecDepth 100000
set_option linter.unusedSimpArgs false
set_option linter.unusedVariables false
def shN (l : List At) : List UInt8 → List Bool → Int → Int
  | [], v, i => if v.getD l.length default then i else -1
  | c :: s, v, i => if v.getD l.length default then i else shN l s (stepF l v c.toNat) (i + 1)
def shF (l : List At) (s : List UInt8) : Int := shN l s (startF l) 0
theorem find_shortest (l : List At) (s : List UInt8) (hl : l.length ≤ 1000000) (hsl : s.length ≤ 1000000) : PC Try.prog 30 [iA l, iS s] [] 0 0 (fun t obs => t = iI (shF l s) ∧ obs = []) := by
  refine PC.body [4] Try.func30 rfl (by rfl) (Nat.le_of_ble_eq_true (by rfl)) rfl ?_; simp only [enumA]
  ((repeat refine PWp.seq ?_); refine PWp.region TT (by rfl) (fun K hK => ?_); simp only [push_cast, seval, Nat.reduceEqDiff, Nat.reduceLeDiff, reduceCtorEq]; (repeat refine sk ?_); refine hK _ ?_; clear hK K)
  ((repeat refine PWp.seq ?_); refine PWp.region TT (by rfl) (fun K hK => ?_); simp only [push_cast, seval, Nat.reduceEqDiff, Nat.reduceLeDiff, reduceCtorEq])
  ((repeat refine sk ?_); refine PCall.use (find_start l hl) [] rfl (by simp [push_cast]) (by simp) (by simp [push_cast]) (by simp [push_cast]) (by simp [push_cast]) (by simp [push_cast]) ?_)
  rintro _ _ ⟨rfl, rfl⟩
  (simp only [push_cast, seval, Nat.reduceEqDiff, Nat.reduceLeDiff, reduceCtorEq]; (repeat refine sk ?_); refine hK _ ?_; clear hK K)
  ((repeat refine PWp.seq ?_); refine PWp.region TT (by rfl) (fun K hK => ?_); simp only [push_cast, seval, Nat.reduceEqDiff, Nat.reduceLeDiff, reduceCtorEq]; (repeat refine sk ?_); refine hK _ ?_; clear hK K)
  ((repeat refine PWp.seq ?_); refine PWp.block ?_)
  refine PWp.loop (fun d st => ∃ (k : Nat) (v : List Bool), d = s.length - k ∧ k ≤ s.length ∧ v.length = l.length + 1 ∧ shF l s = shN l (s.drop k) v k ∧
    st = ⟨[(0, iA l), (1, iS s), (5, iV v), (10, iI s.length), (11, iI k)], [], 0⟩) _ _ ⟨0, startF l, rfl, Nat.zero_le _, startF_len l, rfl, rfl⟩ (Gh.le (by simp [push_cast, -List.getD_eq_getElem?_getD]) (by simp)) ?_
  rintro d st ⟨k, v, rfl, hk, hv, hN, rfl⟩
  have hgv : (v.map encB).getD l.length .any = .lit (.bool (v.getD l.length default)) := getD_map (by omega)
  ((repeat refine PWp.seq ?_); refine PWp.region TT (by rfl) (fun K hK => ?_); simp only [push_cast, seval, Nat.reduceEqDiff, Nat.reduceLeDiff, reduceCtorEq]; (repeat refine sk ?_); refine hK _ ?_; clear hK K)
  ((repeat refine PWp.seq ?_); refine PWp.cond (by simp only [push_cast, seval, Nat.reduceEqDiff, Nat.reduceLeDiff, reduceCtorEq]; rfl) (fun hc => ?_) (fun hc => ?_))
  · have hlt : k < s.length := by simp at hc; omega
    clear hc
    rw [drop_getD hlt] at hN
    have hN' : shF l s = if v.getD l.length default then (k : Int) else shN l (s.drop (k + 1)) (stepF l v (s.getD k 0).toNat) (k + 1) := hN
    clear hN
    have hx := (s.getD k 0).toNat_lt
    ((repeat refine PWp.seq ?_); refine PWp.skip ?_)
    ((repeat refine PWp.seq ?_); refine PWp.block ?_)
    ((repeat refine PWp.seq ?_); refine PWp.region TT (by rfl) (fun K hK => ?_); simp only [push_cast, seval, Nat.reduceEqDiff, Nat.reduceLeDiff, reduceCtorEq]; (repeat refine sk ?_); refine hK _ ?_; clear hK K)
    cases h1 : v.getD l.length default with
    | true =>
      ((repeat refine PWp.seq ?_); refine PWp.region TT (by rfl) (fun K hK => ?_); simp only [push_cast, seval, Nat.reduceEqDiff, Nat.reduceLeDiff, reduceCtorEq, hgv, h1]; (repeat refine sk ?_); refine hK _ ?_; clear hK K)
      ((repeat refine PWp.seq ?_); refine PWp.cond (by simp only [push_cast, seval, Nat.reduceEqDiff, Nat.reduceLeDiff, reduceCtorEq]; rfl) (fun hc => ?_) (fun hc => ?_))
      · rw [h1, if_pos rfl] at hN'
        ((repeat refine PWp.seq ?_); refine PWp.region TT (by rfl) (fun K hK => ?_); simp only [push_cast, seval, Nat.reduceEqDiff, Nat.reduceLeDiff, reduceCtorEq]; (repeat refine sk ?_); refine hK _ ?_; clear hK K)
        ((repeat refine PWp.seq ?_); refine PWp.ret ?_)
        refine ⟨.inr rfl, by omega, _, [], ?_, rfl, rfl⟩
        rw [hN']
        (simp [push_cast, -List.getD_eq_getElem?_getD])
      · cases hc
    | false =>
      rw [h1, if_neg (by decide)] at hN'
      ((repeat refine PWp.seq ?_); refine PWp.region TT (by rfl) (fun K hK => ?_); simp only [push_cast, seval, Nat.reduceEqDiff, Nat.reduceLeDiff, reduceCtorEq, hgv, h1]; (repeat refine sk ?_); refine hK _ ?_; clear hK K)
      ((repeat refine PWp.seq ?_); refine PWp.cond (by simp only [push_cast, seval, Nat.reduceEqDiff, Nat.reduceLeDiff, reduceCtorEq]; rfl) (fun hc => ?_) (fun hc => ?_))
      · cases hc
      · ((repeat refine PWp.seq ?_); refine PWp.skip ?_)
        ((repeat refine PWp.seq ?_); refine PWp.region TT (by rfl) (fun K hK => ?_); simp only [push_cast, seval, Nat.reduceEqDiff, Nat.reduceLeDiff, reduceCtorEq])
        ((repeat refine sk ?_); refine PCall.use (find_step l v (s.getD k 0).toNat (by omega) hv hl) [] rfl (by simp [push_cast]) (by simp) (by simp [push_cast]) (by simp [push_cast]) (by simp [push_cast]) (by simp [push_cast]) ?_)
        rintro _ _ ⟨rfl, rfl⟩
        (simp only [push_cast, seval, Nat.reduceEqDiff, Nat.reduceLeDiff, reduceCtorEq]; (repeat refine sk ?_); refine hK _ ?_; clear hK K)
        ((repeat refine PWp.seq ?_); refine PWp.region TT (by rfl) (fun K hK => ?_); simp only [push_cast, seval, Nat.reduceEqDiff, Nat.reduceLeDiff, reduceCtorEq, wrap64_id (n := (k : Int) + 1) (by omega) (by omega)]; (repeat refine sk ?_); refine hK _ ?_; clear hK K)
        refine ⟨_, _, ?_, ⟨k + 1, stepF l v (s.getD k 0).toNat, rfl, by omega, by rw [stepF_len]; exact hv, hN', rfl⟩, Gh.le (by simp [push_cast, -List.getD_eq_getElem?_getD]) (by simp)⟩
        omega
  · have hk' : k = s.length := by simp at hc; omega
    subst hk'
    rw [List.drop_length] at hN
    have hN' : shF l s = if v.getD l.length default then (s.length : Int) else -1 := hN
    clear hc
    (repeat refine PWp.seq ?_); refine PWp.exit (iteT rfl ?_)
    cases h1 : v.getD l.length default with
    | true =>
      ((repeat refine PWp.seq ?_); refine PWp.region TT (by rfl) (fun K hK => ?_); simp only [push_cast, seval, Nat.reduceEqDiff, Nat.reduceLeDiff, reduceCtorEq, hgv, h1]; (repeat refine sk ?_); refine hK _ ?_; clear hK K)
      ((repeat refine PWp.seq ?_); refine PWp.cond (by simp only [push_cast, seval, Nat.reduceEqDiff, Nat.reduceLeDiff, reduceCtorEq]; rfl) (fun hc => ?_) (fun hc => ?_))
      · rw [h1, if_pos rfl] at hN'
        ((repeat refine PWp.seq ?_); refine PWp.region TT (by rfl) (fun K hK => ?_); simp only [push_cast, seval, Nat.reduceEqDiff, Nat.reduceLeDiff, reduceCtorEq]; (repeat refine sk ?_); refine hK _ ?_; clear hK K)
        ((repeat refine PWp.seq ?_); refine PWp.ret ?_)
        refine ⟨.inr rfl, by omega, _, [], ?_, rfl, rfl⟩
        rw [hN']
        (simp [push_cast, -List.getD_eq_getElem?_getD])
      · cases hc
    | false =>
      rw [h1, if_neg (by decide)] at hN'
      ((repeat refine PWp.seq ?_); refine PWp.region TT (by rfl) (fun K hK => ?_); simp only [push_cast, seval, Nat.reduceEqDiff, Nat.reduceLeDiff, reduceCtorEq, hgv, h1]; (repeat refine sk ?_); refine hK _ ?_; clear hK K)
      ((repeat refine PWp.seq ?_); refine PWp.cond (by simp only [push_cast, seval, Nat.reduceEqDiff, Nat.reduceLeDiff, reduceCtorEq]; rfl) (fun hc => ?_) (fun hc => ?_))
      · cases hc
      · ((repeat refine PWp.seq ?_); refine PWp.skip ?_)
        ((repeat refine PWp.seq ?_); refine PWp.region TT (by rfl) (fun K hK => ?_); simp only [push_cast, seval, Nat.reduceEqDiff, Nat.reduceLeDiff, reduceCtorEq]; (repeat refine sk ?_); refine hK _ ?_; clear hK K)
        ((repeat refine PWp.seq ?_); refine PWp.ret ?_)
        refine ⟨.inr rfl, by omega, _, [], ?_, rfl, rfl⟩
        rw [hN']
        (simp [push_cast, -List.getD_eq_getElem?_getD])
theorem parL_len (p : List UInt8) : (parL p).length ≤ 200 := by
  unfold parL
  split
  · simp
  · rename_i h
    cases hp : parO p with
    | none => simp
    | some out =>
      have := parN_len _ _ _ _ hp
      simp at this
      simp
      omega
def atL (p : List UInt8) : List At := (parL p).map atP
theorem atL_len (p : List UInt8) : (atL p).length ≤ 200 := by unfold atL; rw [List.length_map]; exact parL_len p
theorem find_parseA (p : List UInt8) (hp : p.length ≤ 9223372036854775807) : PC Try.prog 26 [iS p] [] 0 9 (fun t obs => t = .tup [iA (atL p), iI (parE p)] ∧ obs = []) := by
  have h := find_parse p hp
  rw [iP_iA] at h
  exact h
theorem find_Check (p : List UInt8) (hp : p.length ≤ 9223372036854775807) : PC Try.prog 10 [iS p] [] 0 9 (fun t obs => t = iI (parE p) ∧ obs = []) := by
  refine PC.body [2] Try.func10 rfl (by rfl) (Nat.le_of_ble_eq_true (by rfl)) rfl ?_; simp only [enumA]
  ((repeat refine PWp.seq ?_); refine PWp.region TT (by rfl) (fun K hK => ?_); simp only [push_cast, seval, Nat.reduceEqDiff, Nat.reduceLeDiff, reduceCtorEq]; (repeat refine sk ?_); refine hK _ ?_; clear hK K)
  ((repeat refine PWp.seq ?_); refine PWp.region TT (by rfl) (fun K hK => ?_); simp only [push_cast, seval, Nat.reduceEqDiff, Nat.reduceLeDiff, reduceCtorEq])
  ((repeat refine sk ?_); refine PCall.use (find_parseA p hp) [] rfl (by simp [push_cast]) (by simp) (by simp [push_cast]) (by simp [push_cast]) (by simp [push_cast]) (by simp [push_cast]) ?_)
  rintro _ _ ⟨rfl, rfl⟩
  (simp only [push_cast, seval, Nat.reduceEqDiff, Nat.reduceLeDiff, reduceCtorEq]; (repeat refine sk ?_); refine hK _ ?_; clear hK K)
  ((repeat refine PWp.seq ?_); refine PWp.region TT (by rfl) (fun K hK => ?_); simp only [push_cast, seval, Nat.reduceEqDiff, Nat.reduceLeDiff, reduceCtorEq]; (repeat refine sk ?_); refine hK _ ?_; clear hK K)
  ((repeat refine PWp.seq ?_); refine PWp.ret ?_)
  refine ⟨.inr rfl, by omega, _, [], ?_, rfl, rfl⟩
  (simp [push_cast, -List.getD_eq_getElem?_getD])
def runF (l : List At) (v : List Bool) (s : List UInt8) : List Bool := s.foldl (fun v c => stepF l v c.toNat) v
theorem runF_len (l : List At) (v : List Bool) (s : List UInt8) : (runF l v s).length = v.length := by
  induction s generalizing v with
  | nil => rfl
  | cons c s ih => unfold runF at *; rw [List.foldl_cons, ih, stepF_len]
def fitF (l : List At) (s : List UInt8) : Bool := (runF l (startF l) s).getD l.length default
def fitB (p s : List UInt8) : Bool := parE p == 0 && fitF (atL p) s
theorem find_Fits (p s : List UInt8) (hp : p.length ≤ 9223372036854775807) (hs : s.length ≤ 1000000) : PC Try.prog 11 [iS p, iS s] [] 0 9 (fun t obs => t = iB (fitB p s) ∧ obs = []) := by
  refine PC.body [4] Try.func11 rfl (by rfl) (Nat.le_of_ble_eq_true (by rfl)) rfl ?_; simp only [enumA]
  ((repeat refine PWp.seq ?_); refine PWp.region TT (by rfl) (fun K hK => ?_); simp only [push_cast, seval, Nat.reduceEqDiff, Nat.reduceLeDiff, reduceCtorEq]; (repeat refine sk ?_); refine hK _ ?_; clear hK K)
  ((repeat refine PWp.seq ?_); refine PWp.region TT (by rfl) (fun K hK => ?_); simp only [push_cast, seval, Nat.reduceEqDiff, Nat.reduceLeDiff, reduceCtorEq])
  ((repeat refine sk ?_); refine PCall.use (find_parseA p hp) [] rfl (by simp [push_cast]) (by simp) (by simp [push_cast]) (by simp [push_cast]) (by simp [push_cast]) (by simp [push_cast]) ?_)
  rintro _ _ ⟨rfl, rfl⟩
  (simp only [push_cast, seval, Nat.reduceEqDiff, Nat.reduceLeDiff, reduceCtorEq]; (repeat refine sk ?_); refine hK _ ?_; clear hK K)
  have hl := atL_len p
  cases he : parE p == 0 with
  | false =>
    have hne : (parE p != 0) = true := by rw [bne, he]; rfl
    ((repeat refine PWp.seq ?_); refine PWp.region TT (by rfl) (fun K hK => ?_); simp only [push_cast, seval, Nat.reduceEqDiff, Nat.reduceLeDiff, reduceCtorEq, hne]; (repeat refine sk ?_); refine hK _ ?_; clear hK K)
    ((repeat refine PWp.seq ?_); refine PWp.cond (by simp only [push_cast, seval, Nat.reduceEqDiff, Nat.reduceLeDiff, reduceCtorEq]; rfl) (fun hc => ?_) (fun hc => ?_))
    · ((repeat refine PWp.seq ?_); refine PWp.region TT (by rfl) (fun K hK => ?_); simp only [push_cast, seval, Nat.reduceEqDiff, Nat.reduceLeDiff, reduceCtorEq]; (repeat refine sk ?_); refine hK _ ?_; clear hK K)
      ((repeat refine PWp.seq ?_); refine PWp.ret ?_)
      refine ⟨.inr rfl, by omega, _, [], ?_, rfl, rfl⟩
      (simp [push_cast, -List.getD_eq_getElem?_getD, fitB, he])
    · cases hc
  | true =>
    have hne : (parE p != 0) = false := by rw [bne, he]; rfl
    ((repeat refine PWp.seq ?_); refine PWp.region TT (by rfl) (fun K hK => ?_); simp only [push_cast, seval, Nat.reduceEqDiff, Nat.reduceLeDiff, reduceCtorEq, hne]; (repeat refine sk ?_); refine hK _ ?_; clear hK K)
    ((repeat refine PWp.seq ?_); refine PWp.cond (by simp only [push_cast, seval, Nat.reduceEqDiff, Nat.reduceLeDiff, reduceCtorEq]; rfl) (fun hc => ?_) (fun hc => ?_))
    · cases hc
    · ((repeat refine PWp.seq ?_); refine PWp.skip ?_)
      generalize hlp : atL p = l at *
      ((repeat refine PWp.seq ?_); refine PWp.region TT (by rfl) (fun K hK => ?_); simp only [push_cast, seval, Nat.reduceEqDiff, Nat.reduceLeDiff, reduceCtorEq])
      ((repeat refine sk ?_); refine PCall.use (find_start l (by omega)) [] rfl (by simp [push_cast]) (by simp) (by simp [push_cast]) (by simp [push_cast]) (by simp [push_cast]) (by simp [push_cast]) ?_)
      rintro _ _ ⟨rfl, rfl⟩
      (simp only [push_cast, seval, Nat.reduceEqDiff, Nat.reduceLeDiff, reduceCtorEq]; (repeat refine sk ?_); refine hK _ ?_; clear hK K)
      ((repeat refine PWp.seq ?_); refine PWp.region TT (by rfl) (fun K hK => ?_); simp only [push_cast, seval, Nat.reduceEqDiff, Nat.reduceLeDiff, reduceCtorEq]; (repeat refine sk ?_); refine hK _ ?_; clear hK K)
      ((repeat refine PWp.seq ?_); refine PWp.block ?_)
      refine PWp.loop (fun d st => ∃ (k : Nat) (v : List Bool), d = s.length - k ∧ k ≤ s.length ∧ v.length = l.length + 1 ∧ runF l (startF l) s = runF l v (s.drop k) ∧
        st = ⟨[(5, iA l), (7, iV v), (1, iS s), (19, iI s.length), (20, iI k)], [], 0⟩) _ _ ⟨0, startF l, rfl, Nat.zero_le _, startF_len l, rfl, rfl⟩ (Gh.le (by simp [push_cast, -List.getD_eq_getElem?_getD]) (by simp)) ?_
      rintro d st ⟨k, v, rfl, hk, hv, hN, rfl⟩
      ((repeat refine PWp.seq ?_); refine PWp.region TT (by rfl) (fun K hK => ?_); simp only [push_cast, seval, Nat.reduceEqDiff, Nat.reduceLeDiff, reduceCtorEq]; (repeat refine sk ?_); refine hK _ ?_; clear hK K)
      ((repeat refine PWp.seq ?_); refine PWp.cond (by simp only [push_cast, seval, Nat.reduceEqDiff, Nat.reduceLeDiff, reduceCtorEq]; rfl) (fun hc => ?_) (fun hc => ?_))
      · have hlt : k < s.length := by simp at hc; omega
        clear hc
        rw [drop_getD hlt] at hN
        have hN' : runF l (startF l) s = runF l (stepF l v (s.getD k 0).toNat) (s.drop (k + 1)) := hN
        clear hN
        have hx := (s.getD k 0).toNat_lt
        ((repeat refine PWp.seq ?_); refine PWp.skip ?_)
        ((repeat refine PWp.seq ?_); refine PWp.block ?_)
        ((repeat refine PWp.seq ?_); refine PWp.region TT (by rfl) (fun K hK => ?_); simp only [push_cast, seval, Nat.reduceEqDiff, Nat.reduceLeDiff, reduceCtorEq]; (repeat refine sk ?_); refine hK _ ?_; clear hK K)
        ((repeat refine PWp.seq ?_); refine PWp.region TT (by rfl) (fun K hK => ?_); simp only [push_cast, seval, Nat.reduceEqDiff, Nat.reduceLeDiff, reduceCtorEq])
        ((repeat refine sk ?_); refine PCall.use (find_step l v (s.getD k 0).toNat (by omega) hv (by omega)) [] rfl (by simp [push_cast]) (by simp) (by simp [push_cast]) (by simp [push_cast]) (by simp [push_cast]) (by simp [push_cast]) ?_)
        rintro _ _ ⟨rfl, rfl⟩
        (simp only [push_cast, seval, Nat.reduceEqDiff, Nat.reduceLeDiff, reduceCtorEq]; (repeat refine sk ?_); refine hK _ ?_; clear hK K)
        ((repeat refine PWp.seq ?_); refine PWp.region TT (by rfl) (fun K hK => ?_); simp only [push_cast, seval, Nat.reduceEqDiff, Nat.reduceLeDiff, reduceCtorEq, wrap64_id (n := (k : Int) + 1) (by omega) (by omega)]; (repeat refine sk ?_); refine hK _ ?_; clear hK K)
        refine ⟨_, _, ?_, ⟨k + 1, stepF l v (s.getD k 0).toNat, rfl, by omega, by rw [stepF_len]; exact hv, hN', rfl⟩, Gh.le (by simp [push_cast, -List.getD_eq_getElem?_getD]) (by simp)⟩
        omega
      · have hk' : k = s.length := by simp at hc; omega
        subst hk'
        clear hc
        rw [List.drop_length] at hN
        have hN' : runF l (startF l) s = v := hN
        have hgv : (v.map encB).getD l.length .any = .lit (.bool (v.getD l.length default)) := getD_map (by omega)
        (repeat refine PWp.seq ?_); refine PWp.exit (iteT rfl ?_)
        ((repeat refine PWp.seq ?_); refine PWp.region TT (by rfl) (fun K hK => ?_); simp only [push_cast, seval, Nat.reduceEqDiff, Nat.reduceLeDiff, reduceCtorEq, hgv]; (repeat refine sk ?_); refine hK _ ?_; clear hK K)
        ((repeat refine PWp.seq ?_); refine PWp.ret ?_)
        refine ⟨.inr rfl, by omega, _, [], ?_, rfl, rfl⟩
        (simp [push_cast, -List.getD_eq_getElem?_getD, fitB, he, hlp, fitF, hN'])
def spN (l : List At) : List UInt8 → Int → Int × Int × Bool
  | [], i => if 0 ≤ shF l [] then (i, shF l [], true) else (0, 0, false)
  | c :: s, i => if 0 ≤ shF l (c :: s) then (i, shF l (c :: s), true) else spN l s (i + 1)
def spB (p s : List UInt8) : Int × Int × Bool := if parE p == 0 then spN (atL p) s 0 else (0, 0, false)
def iSp (x : Int × Int × Bool) : TV := .tup [iI x.1, iI x.2.1, iB x.2.2]
attribute [push_cast] iSp
theorem spN_eq (l : List At) (s : List UInt8) (i : Int) : spN l s i = if 0 ≤ shF l s then (i, shF l s, true) else if s.length = 0 then (0, 0, false) else spN l (s.drop 1) (i + 1) := by
  cases s with
  | nil => rfl
  | cons c s => simp [spN]
theorem find_Span (p s : List UInt8) (hp : p.length ≤ 9223372036854775807) (hs : s.length ≤ 1000000) : PC Try.prog 14 [iS p, iS s] [] 0 9 (fun t obs => t = iSp (spB p s) ∧ obs = []) := by
  refine PC.body [4, 5, 6] Try.func14 rfl (by rfl) (Nat.le_of_ble_eq_true (by rfl)) rfl ?_; simp only [enumA]
  ((repeat refine PWp.seq ?_); refine PWp.region TT (by rfl) (fun K hK => ?_); simp only [push_cast, seval, Nat.reduceEqDiff, Nat.reduceLeDiff, reduceCtorEq]; (repeat refine sk ?_); refine hK _ ?_; clear hK K)
  ((repeat refine PWp.seq ?_); refine PWp.region TT (by rfl) (fun K hK => ?_); simp only [push_cast, seval, Nat.reduceEqDiff, Nat.reduceLeDiff, reduceCtorEq])
  ((repeat refine sk ?_); refine PCall.use (find_parseA p hp) [] rfl (by simp [push_cast]) (by simp) (by simp [push_cast]) (by simp [push_cast]) (by simp [push_cast]) (by simp [push_cast]) ?_)
  rintro _ _ ⟨rfl, rfl⟩
  (simp only [push_cast, seval, Nat.reduceEqDiff, Nat.reduceLeDiff, reduceCtorEq]; (repeat refine sk ?_); refine hK _ ?_; clear hK K)
  have hl := atL_len p
  ((repeat refine PWp.seq ?_); refine PWp.region TT (by rfl) (fun K hK => ?_); simp only [push_cast, seval, Nat.reduceEqDiff, Nat.reduceLeDiff, reduceCtorEq]; (repeat refine sk ?_); refine hK _ ?_; clear hK K)
  ((repeat refine PWp.seq ?_); refine PWp.block ?_)
  refine PWp.loop (fun d st => ∃ (k : Nat), d = s.length + 1 - k ∧ k ≤ s.length + 1 ∧ (k ≤ s.length → spB p s = if parE p == 0 then spN (atL p) (s.drop k) k else (0, 0, false)) ∧ (s.length < k → spB p s = (0, 0, false)) ∧
    st = ⟨[(7, iA (atL p)), (8, iI (parE p)), (9, iI k), (1, iS s)], [], 0⟩) _ _ ⟨0, rfl, Nat.zero_le _, fun _ => rfl, fun h => absurd h (by omega), rfl⟩ (Gh.le (by simp [push_cast, -List.getD_eq_getElem?_getD]) (by simp)) ?_
  rintro d st ⟨k, rfl, hk, hN, hNe, rfl⟩
  cases he : parE p == 0 with
  | false =>
    have hres : spB p s = (0, 0, false) := by unfold spB; rw [he]; rfl
    ((repeat refine PWp.seq ?_); refine PWp.region TT (by rfl) (fun K hK => ?_); simp only [push_cast, seval, Nat.reduceEqDiff, Nat.reduceLeDiff, reduceCtorEq, he]; (repeat refine sk ?_); refine hK _ ?_; clear hK K)
    ((repeat refine PWp.seq ?_); refine PWp.cond (by simp only [push_cast, seval, Nat.reduceEqDiff, Nat.reduceLeDiff, reduceCtorEq]; rfl) (fun hc => ?_) (fun hc => ?_))
    · cases hc
    · (repeat refine PWp.seq ?_); refine PWp.exit (iteT rfl ?_)
      ((repeat refine PWp.seq ?_); refine PWp.region TT (by rfl) (fun K hK => ?_); simp only [push_cast, seval, Nat.reduceEqDiff, Nat.reduceLeDiff, reduceCtorEq]; (repeat refine sk ?_); refine hK _ ?_; clear hK K)
      ((repeat refine PWp.seq ?_); refine PWp.ret ?_)
      refine ⟨.inr rfl, by omega, _, [], ?_, rfl, rfl⟩
      (simp [push_cast, -List.getD_eq_getElem?_getD, hres])
  | true =>
    by_cases hk1 : s.length < k
    · have hres := hNe hk1
      have hd : decide ((k : Int) ≤ (s.length : Int)) = false := decide_eq_false (by omega)
      ((repeat refine PWp.seq ?_); refine PWp.region TT (by rfl) (fun K hK => ?_); simp only [push_cast, seval, Nat.reduceEqDiff, Nat.reduceLeDiff, reduceCtorEq, he, hd]; (repeat refine sk ?_); refine hK _ ?_; clear hK K)
      ((repeat refine PWp.seq ?_); refine PWp.cond (by simp only [push_cast, seval, Nat.reduceEqDiff, Nat.reduceLeDiff, reduceCtorEq]; rfl) (fun hc => ?_) (fun hc => ?_))
      · cases hc
      · (repeat refine PWp.seq ?_); refine PWp.exit (iteT rfl ?_)
        ((repeat refine PWp.seq ?_); refine PWp.region TT (by rfl) (fun K hK => ?_); simp only [push_cast, seval, Nat.reduceEqDiff, Nat.reduceLeDiff, reduceCtorEq]; (repeat refine sk ?_); refine hK _ ?_; clear hK K)
        ((repeat refine PWp.seq ?_); refine PWp.ret ?_)
        refine ⟨.inr rfl, by omega, _, [], ?_, rfl, rfl⟩
        (simp [push_cast, -List.getD_eq_getElem?_getD, hres])
    · have hN1 := hN (by omega)
      rw [he, if_pos rfl, spN_eq] at hN1
      have hd : decide ((k : Int) ≤ (s.length : Int)) = true := decide_eq_true (by omega)
      have hdr : (s.take s.length).drop k = s.drop k := by rw [List.take_length]
      have hdl : (s.drop k).length = s.length - k := List.length_drop
      ((repeat refine PWp.seq ?_); refine PWp.region TT (by rfl) (fun K hK => ?_); simp only [push_cast, seval, Nat.reduceEqDiff, Nat.reduceLeDiff, reduceCtorEq, he, hd]; (repeat refine sk ?_); refine hK _ ?_; clear hK K)
      ((repeat refine PWp.seq ?_); refine PWp.cond (by simp only [push_cast, seval, Nat.reduceEqDiff, Nat.reduceLeDiff, reduceCtorEq]; rfl) (fun hc => ?_) (fun hc => ?_))
      · clear hc
        ((repeat refine PWp.seq ?_); refine PWp.skip ?_)
        ((repeat refine PWp.seq ?_); refine PWp.block ?_)
        ((repeat refine PWp.seq ?_); refine PWp.region TT (by rfl) (fun K hK => ?_); simp only [push_cast, seval, Nat.reduceEqDiff, Nat.reduceLeDiff, reduceCtorEq, hdr])
        ((repeat refine sk ?_); refine PCall.use (find_shortest (atL p) (s.drop k) (by omega) (by omega)) [] rfl (by simp [push_cast, hdr]) (by simp) (by simp [push_cast, hdr]) (by simp [push_cast, hdr]) (by simp [push_cast, hdr]) (by simp [push_cast, hdr]) ?_)
        rintro _ _ ⟨rfl, rfl⟩
        (simp only [push_cast, seval, Nat.reduceEqDiff, Nat.reduceLeDiff, reduceCtorEq]; (repeat refine sk ?_); refine hK _ ?_; clear hK K)
        by_cases h0 : 0 ≤ shF (atL p) (s.drop k)
        · have hd0 : decide (shF (atL p) (s.drop k) ≥ 0) = true := decide_eq_true h0
          rw [if_pos h0] at hN1
          ((repeat refine PWp.seq ?_); refine PWp.region TT (by rfl) (fun K hK => ?_); simp only [push_cast, seval, Nat.reduceEqDiff, Nat.reduceLeDiff, reduceCtorEq, hd0]; (repeat refine sk ?_); refine hK _ ?_; clear hK K)
          ((repeat refine PWp.seq ?_); refine PWp.cond (by simp only [push_cast, seval, Nat.reduceEqDiff, Nat.reduceLeDiff, reduceCtorEq]; rfl) (fun hc => ?_) (fun hc => ?_))
          · ((repeat refine PWp.seq ?_); refine PWp.region TT (by rfl) (fun K hK => ?_); simp only [push_cast, seval, Nat.reduceEqDiff, Nat.reduceLeDiff, reduceCtorEq]; (repeat refine sk ?_); refine hK _ ?_; clear hK K)
            ((repeat refine PWp.seq ?_); refine PWp.ret ?_)
            refine ⟨.inr rfl, by omega, _, [], ?_, rfl, rfl⟩
            (simp [push_cast, -List.getD_eq_getElem?_getD, hN1])
          · cases hc
        · have hd0 : decide (shF (atL p) (s.drop k) ≥ 0) = false := decide_eq_false h0
          rw [if_neg h0, hdl, List.drop_drop] at hN1
          ((repeat refine PWp.seq ?_); refine PWp.region TT (by rfl) (fun K hK => ?_); simp only [push_cast, seval, Nat.reduceEqDiff, Nat.reduceLeDiff, reduceCtorEq, hd0]; (repeat refine sk ?_); refine hK _ ?_; clear hK K)
          ((repeat refine PWp.seq ?_); refine PWp.cond (by simp only [push_cast, seval, Nat.reduceEqDiff, Nat.reduceLeDiff, reduceCtorEq]; rfl) (fun hc => ?_) (fun hc => ?_))
          · cases hc
          · ((repeat refine PWp.seq ?_); refine PWp.skip ?_)
            ((repeat refine PWp.seq ?_); refine PWp.region TT (by rfl) (fun K hK => ?_); simp only [push_cast, seval, Nat.reduceEqDiff, Nat.reduceLeDiff, reduceCtorEq, wrap64_id (n := (k : Int) + 1) (by omega) (by omega)]; (repeat refine sk ?_); refine hK _ ?_; clear hK K)
            refine ⟨_, _, ?_, ⟨k + 1, rfl, by omega, fun h => ?_, fun h => ?_, rfl⟩, Gh.le (by simp [push_cast, -List.getD_eq_getElem?_getD]) (by simp)⟩
            · omega
            · rw [if_neg (by omega)] at hN1
              rw [if_pos rfl]
              exact hN1
            · rw [if_pos (by omega)] at hN1
              exact hN1
      · cases hc
end Go.Proofs.Ytjlnialglahdoaa
