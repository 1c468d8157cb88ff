/- Both checks of chapter 18. -/
import Derived.Test.YtanopjcfackblaaE2
namespace Go.Proofs.Ytanopjcfackblaa
open Go.PL
set_option maxRecDepth 100000
set_option linter.unusedSimpArgs false
set_option linter.unusedVariables false
def lbNe (x s : Lb) : Bool := !(x.v == s.v && x.c == s.c)
theorem lbNe_false {x s : Lb} (h : lbNe x s = false) : x = s := by
  obtain ⟨v, c⟩ := x
  obtain ⟨v', c'⟩ := s
  simp [lbNe] at h
  rw [h.1, h.2]
/-- What is seen at a place of the view. -/
def atV (l : List It) (p : List Int) (i : Nat) : It := l.getD (p.getD i default).toNat default
/-- A line that is not one's own, and goes. -/
def badV (l : List It) (p : List Int) (s : Lb) (m : List Md) (i : Nat) : Bool := ((atV l p i).a || lbNe (atV l p i).l s) && !madeB m i
def chkF (l : List It) (p : List Int) (s : Lb) (m : List Md) : Int :=
  if riF l.length (-1) p then (if riF p.length (-1) (keptF m) && !m.any badM then (if (List.range p.length).any (badV l p s m) then 9 else 0) else 2) else 3
theorem riF_mem {b : Int} : ∀ {l : List Int} {p : Int}, riF b p l = true → ∀ n ∈ l, p < n ∧ n < b
  | [], _, _, n, hn => by cases hn
  | x :: l, p, h, n, hn => by
    simp only [riF, Bool.and_eq_true, decide_eq_true_eq] at h
    rcases List.mem_cons.1 hn with rfl | hn
    · exact h.1
    · have := riF_mem h.2 n hn
      omega
theorem riF_len {b : Int} : ∀ {l : List Int} {p : Int}, riF b p l = true → p < b → (l.length : Int) ≤ b - p - 1
  | [], _, _, hp => by simp; omega
  | x :: l, p, h, hp => by
    simp only [riF, Bool.and_eq_true, decide_eq_true_eq] at h
    have := riF_len h.2 h.1.2
    rw [List.length_cons]
    push_cast
    omega
theorem riF_getD {b : Int} {l : List Int} (h : riF b (-1) l = true) {k : Nat} (hk : k < l.length) : 0 ≤ l.getD k default ∧ l.getD k default < b := by
  have := riF_mem h _ (getD_mem hk)
  omega
theorem any_lt {p : Nat → Bool} {n : Nat} (h : ∀ i < n, p i = false) : (List.range n).any p = false := by
  rw [← Bool.not_eq_true, List.any_eq_true]
  rintro ⟨i, hi, hp⟩
  rw [h i (List.mem_range.1 hi)] at hp
  cases hp
theorem lift_Check (l : List It) (ls : List Ln) (p : List Int) (s : Lb) (m : List Md) (hl : l.length ≤ 1000000) (hp : p.length ≤ 9223372036854775807) (hm : m.length ≤ 1000000) :
    PC Try.prog 12 [iIt l, iV ls p, iLb s, iMd m] [] 0 9 (fun t obs => t = iI (chkF l p s m) ∧ obs = []) := by
  refine PC.body [8] Try.func12 rfl (by rfl) (Nat.le_of_ble_eq_true (by rfl)) rfl ?_; simp only [enumA]
  ((repeat refine PWp.seq ?_); refine PWp.region TT (by rfl) (fun K hK => ?_); simp only [push_cast, seval, Nat.reduceEqDiff, Nat.reduceLeDiff, reduceCtorEq]; (repeat refine sk ?_); refine hK _ ?_; clear hK K)
  ((repeat refine PWp.seq ?_); refine PWp.region TT (by rfl) (fun K hK => ?_); simp only [push_cast, seval, Nat.reduceEqDiff, Nat.reduceLeDiff, reduceCtorEq])
  ((repeat refine sk ?_); refine PCall.use (lift_kept m hm) [] rfl (by simp [push_cast]) (by simp) (by simp [push_cast]) (by simp [push_cast]) (by simp [push_cast]) (by simp [push_cast]) ?_)
  rintro _ _ ⟨rfl, rfl⟩
  have hkl := keptF_length m
  (simp only [push_cast, seval, Nat.reduceEqDiff, Nat.reduceLeDiff, reduceCtorEq]; (repeat refine sk ?_); refine hK _ ?_; clear hK K)
  ((repeat refine PWp.seq ?_); refine PWp.block ?_)
  ((repeat refine PWp.seq ?_); refine PWp.region TT (by rfl) (fun K hK => ?_); simp only [push_cast, seval, Nat.reduceEqDiff, Nat.reduceLeDiff, reduceCtorEq])
  ((repeat refine sk ?_); refine PCall.use (lift_rises p l.length hp) [] rfl (by simp [push_cast]) (by simp) (by simp [push_cast]) (by simp [push_cast]) (by simp [push_cast]) (by simp [push_cast]) ?_)
  rintro _ _ ⟨rfl, rfl⟩
  (simp only [push_cast, seval, Nat.reduceEqDiff, Nat.reduceLeDiff, reduceCtorEq]; (repeat refine sk ?_); refine hK _ ?_; clear hK K)
  ((repeat refine PWp.seq ?_); refine PWp.cond (by simp only [push_cast, seval, Nat.reduceEqDiff, Nat.reduceLeDiff, reduceCtorEq]; rfl) (fun hc => ?_) (fun hc => ?_))
  · have e : chkF l p s m = 3 := by
      unfold chkF
      rw [if_neg (by simpa using hc)]
    ((repeat refine PWp.seq ?_); refine PWp.region TT (by rfl) (fun K hK => ?_); simp only [push_cast, seval, Nat.reduceEqDiff, Nat.reduceLeDiff, reduceCtorEq]; (repeat refine sk ?_); refine hK _ ?_; clear hK K)
    ((repeat refine PWp.seq ?_); refine PWp.ret ?_)
    refine ⟨.inr rfl, by omega, _, [], ?_, rfl, rfl⟩
    rw [e]
    (simp [push_cast, -List.getD_eq_getElem?_getD])
  · have h1 : riF l.length (-1) p = true := by simpa using hc
    clear hc
    have hpl := riF_len h1 (by omega)
    ((repeat refine PWp.seq ?_); refine PWp.region TT (by rfl) (fun K hK => ?_); simp only [push_cast, seval, Nat.reduceEqDiff, Nat.reduceLeDiff, reduceCtorEq])
    ((repeat refine sk ?_); refine PCall.use (lift_rises (keptF m) p.length (by omega)) [] rfl (by simp [push_cast]) (by simp) (by simp [push_cast]) (by simp [push_cast]) (by simp [push_cast]) (by simp [push_cast]) ?_)
    rintro _ _ ⟨rfl, rfl⟩
    have two : (riF p.length (-1) (keptF m) && !m.any badM) = false → chkF l p s m = 2 := fun h => by
      unfold chkF
      rw [if_pos h1, if_neg (by rw [h]; decide)]
    cases h2 : riF p.length (-1) (keptF m) with
    | false =>
      (simp only [push_cast, seval, Nat.reduceEqDiff, Nat.reduceLeDiff, reduceCtorEq])
      ((repeat refine sk ?_); refine hK _ ?_; clear hK K)
      ((repeat refine PWp.seq ?_); refine PWp.cond (by simp only [push_cast, seval, Nat.reduceEqDiff, Nat.reduceLeDiff, reduceCtorEq]; rfl) (fun hc => ?_) (fun hc => ?_))
      · ((repeat refine PWp.seq ?_); refine PWp.region TT (by rfl) (fun K hK => ?_); simp only [push_cast, seval, Nat.reduceEqDiff, Nat.reduceLeDiff, reduceCtorEq]; (repeat refine sk ?_); refine hK _ ?_; clear hK K)
        ((repeat refine PWp.seq ?_); refine PWp.ret ?_)
        refine ⟨.inr rfl, by omega, _, [], ?_, rfl, rfl⟩
        rw [two (by rw [h2]; rfl)]
        (simp [push_cast, -List.getD_eq_getElem?_getD])
      · cases hc
    | true =>
      (simp only [push_cast, seval, Nat.reduceEqDiff, Nat.reduceLeDiff, reduceCtorEq])
      ((repeat refine sk ?_); refine PCall.use (ContainsFunc_bad m hm) [] rfl (by simp [push_cast]) (by simp) (by simp [push_cast]) (by simp [push_cast]) (by simp [push_cast]) (by simp [push_cast]) ?_)
      rintro _ _ ⟨rfl, rfl⟩
      (simp only [push_cast, seval, Nat.reduceEqDiff, Nat.reduceLeDiff, reduceCtorEq]; (repeat refine sk ?_); refine hK _ ?_; clear hK K)
      ((repeat refine PWp.seq ?_); refine PWp.cond (by simp only [push_cast, seval, Nat.reduceEqDiff, Nat.reduceLeDiff, reduceCtorEq]; rfl) (fun hc => ?_) (fun hc => ?_))
      · ((repeat refine PWp.seq ?_); refine PWp.region TT (by rfl) (fun K hK => ?_); simp only [push_cast, seval, Nat.reduceEqDiff, Nat.reduceLeDiff, reduceCtorEq]; (repeat refine sk ?_); refine hK _ ?_; clear hK K)
        ((repeat refine PWp.seq ?_); refine PWp.ret ?_)
        refine ⟨.inr rfl, by omega, _, [], ?_, rfl, rfl⟩
        rw [two (by rw [h2]; simpa using hc)]
        (simp [push_cast, -List.getD_eq_getElem?_getD])
      · have h3 : m.any badM = false := by simpa using hc
        clear hc two
        have hE : chkF l p s m = if (List.range p.length).any (badV l p s m) then 9 else 0 := by
          unfold chkF
          rw [if_pos h1, if_pos (by rw [h2, h3]; rfl)]
        ((repeat refine PWp.seq ?_); refine PWp.skip ?_)
        ((repeat refine PWp.seq ?_); refine PWp.region TT (by rfl) (fun K hK => ?_); simp only [push_cast, seval, Nat.reduceEqDiff, Nat.reduceLeDiff, reduceCtorEq]; (repeat refine sk ?_); refine hK _ ?_; clear hK K)
        ((repeat refine PWp.seq ?_); refine PWp.block ?_)
        refine PWp.loop (fun c st => ∃ k : Nat, c = p.length - k ∧ k ≤ p.length ∧ (∀ i < k, badV l p s m i = false) ∧
          st = ⟨[(0, iIt l), (6, .bptr 1 0), (9, iN (keptF m)), (34, iN p), (35, iI p.length), (36, iI k)], [(1, .box 29 [iI s.v, .iv (.lit (.int .u64 s.c))])], 2⟩) _ _ ⟨0, rfl, Nat.zero_le _, by simp, rfl⟩ (Gh.le (by simp [push_cast, -List.getD_eq_getElem?_getD]) (by simp)) ?_
        rintro c st ⟨k, rfl, hk, hf, rfl⟩
        ((repeat refine PWp.seq ?_); refine PWp.region TT (by rfl) (fun K hK => ?_); simp only [push_cast, seval, Nat.reduceEqDiff, Nat.reduceLeDiff, reduceCtorEq]; (repeat refine sk ?_); refine hK _ ?_; clear hK K)
        ((repeat refine PWp.seq ?_); refine PWp.cond (by simp only [push_cast, seval, Nat.reduceEqDiff, Nat.reduceLeDiff, reduceCtorEq]; rfl) (fun hc => ?_) (fun hc => ?_))
        · have hlt : k < p.length := by simpa using hc
          clear hc
          have hb := riF_getD h1 hlt
          have hg : (p.map encI).getD k .any = encI (p.getD k default) := getD_map hlt
          have hg2 : (l.map encIt).getD (p.getD k default).toNat .any = encIt (atV l p k) := getD_map (by omega)
          have next : badV l p s m k = false → ∀ i < k + 1, badV l p s m i = false := fun h i hi => by
            by_cases e : i = k
            · subst e; exact h
            · exact hf i (by omega)
          have bad : badV l p s m k = true → chkF l p s m = 9 := fun h => by
            rw [hE, if_pos (List.any_eq_true.2 ⟨k, List.mem_range.2 hlt, h⟩)]
          unfold badV at next bad
          generalize atV l p k = x at *
          generalize p.getD k default = q at *
          ((repeat refine PWp.seq ?_); refine PWp.skip ?_)
          ((repeat refine PWp.seq ?_); refine PWp.block ?_)
          ((repeat refine PWp.seq ?_); refine PWp.region TT (by rfl) (fun K hK => ?_); simp only [push_cast, seval, Nat.reduceEqDiff, Nat.reduceLeDiff, reduceCtorEq, hg]; (repeat refine sk ?_); refine hK _ ?_; clear hK K)
          ((repeat refine PWp.seq ?_); refine PWp.region TT (by rfl) (fun K hK => ?_); simp only [push_cast, seval, Nat.reduceEqDiff, Nat.reduceLeDiff, reduceCtorEq, hg2]; (repeat refine sk ?_); refine hK _ ?_; clear hK K)
          have km := kept_made m k
          cases hA : x.a with
          | true =>
            rw [hA, Bool.true_or, Bool.true_and] at next bad
            ((repeat refine PWp.seq ?_); refine PWp.region TT (by rfl) (fun K hK => ?_); simp only [push_cast, seval, Nat.reduceEqDiff, Nat.reduceLeDiff, reduceCtorEq, hA])
            ((repeat refine sk ?_); refine PCall.use (slices_Contains (keptF m) k (by omega)) [] rfl (by simp [push_cast]) (by simp) (by simp [push_cast]) (by simp [push_cast]) (by simp [push_cast]) (by simp [push_cast]) ?_)
            rintro _ _ ⟨rfl, rfl⟩
            rw [km]
            (simp only [push_cast, seval, Nat.reduceEqDiff, Nat.reduceLeDiff, reduceCtorEq]; (repeat refine sk ?_); refine hK _ ?_; clear hK K)
            ((repeat refine PWp.seq ?_); refine PWp.cond (by simp only [push_cast, seval, Nat.reduceEqDiff, Nat.reduceLeDiff, reduceCtorEq]; rfl) (fun hc => ?_) (fun hc => ?_))
            · ((repeat refine PWp.seq ?_); refine PWp.region TT (by rfl) (fun K hK => ?_); simp only [push_cast, seval, Nat.reduceEqDiff, Nat.reduceLeDiff, reduceCtorEq]; (repeat refine sk ?_); refine hK _ ?_; clear hK K)
              ((repeat refine PWp.seq ?_); refine PWp.ret ?_)
              refine ⟨.inr rfl, by omega, _, [], ?_, rfl, rfl⟩
              rw [bad (by simpa using hc)]
              (simp [push_cast, -List.getD_eq_getElem?_getD])
            · ((repeat refine PWp.seq ?_); refine PWp.skip ?_)
              ((repeat refine PWp.seq ?_); refine PWp.region TT (by rfl) (fun K hK => ?_); simp only [push_cast, seval, Nat.reduceEqDiff, Nat.reduceLeDiff, reduceCtorEq, wrap64_id (n := (k : Int) + 1) (by omega) (by omega)]; (repeat refine sk ?_); refine hK _ ?_; clear hK K)
              refine ⟨_, _, ?_, ⟨k + 1, rfl, by omega, next (by simpa using hc), rfl⟩, Gh.le (by simp [push_cast, -List.getD_eq_getElem?_getD]) (by simp)⟩
              omega
          | false =>
            rw [hA, Bool.false_or] at next bad
            cases hN : lbNe x.l s with
            | true =>
              rw [hN, Bool.true_and] at next bad
              unfold lbNe at hN
              ((repeat refine PWp.seq ?_); refine PWp.region TT (by rfl) (fun K hK => ?_); simp only [push_cast, seval, Nat.reduceEqDiff, Nat.reduceLeDiff, reduceCtorEq, hA, hN])
              ((repeat refine sk ?_); refine PCall.use (slices_Contains (keptF m) k (by omega)) [] rfl (by simp [push_cast]) (by simp) (by simp [push_cast]) (by simp [push_cast]) (by simp [push_cast]) (by simp [push_cast]) ?_)
              rintro _ _ ⟨rfl, rfl⟩
              rw [km]
              (simp only [push_cast, seval, Nat.reduceEqDiff, Nat.reduceLeDiff, reduceCtorEq]; (repeat refine sk ?_); refine hK _ ?_; clear hK K)
              ((repeat refine PWp.seq ?_); refine PWp.cond (by simp only [push_cast, seval, Nat.reduceEqDiff, Nat.reduceLeDiff, reduceCtorEq]; rfl) (fun hc => ?_) (fun hc => ?_))
              · ((repeat refine PWp.seq ?_); refine PWp.region TT (by rfl) (fun K hK => ?_); simp only [push_cast, seval, Nat.reduceEqDiff, Nat.reduceLeDiff, reduceCtorEq]; (repeat refine sk ?_); refine hK _ ?_; clear hK K)
                ((repeat refine PWp.seq ?_); refine PWp.ret ?_)
                refine ⟨.inr rfl, by omega, _, [], ?_, rfl, rfl⟩
                rw [bad (by simpa using hc)]
                (simp [push_cast, -List.getD_eq_getElem?_getD])
              · ((repeat refine PWp.seq ?_); refine PWp.skip ?_)
                ((repeat refine PWp.seq ?_); refine PWp.region TT (by rfl) (fun K hK => ?_); simp only [push_cast, seval, Nat.reduceEqDiff, Nat.reduceLeDiff, reduceCtorEq, wrap64_id (n := (k : Int) + 1) (by omega) (by omega)]; (repeat refine sk ?_); refine hK _ ?_; clear hK K)
                refine ⟨_, _, ?_, ⟨k + 1, rfl, by omega, next (by simpa using hc), rfl⟩, Gh.le (by simp [push_cast, -List.getD_eq_getElem?_getD]) (by simp)⟩
                omega
            | false =>
              rw [hN, Bool.false_and] at next
              unfold lbNe at hN
              ((repeat refine PWp.seq ?_); refine PWp.region TT (by rfl) (fun K hK => ?_); simp only [push_cast, seval, Nat.reduceEqDiff, Nat.reduceLeDiff, reduceCtorEq, hA, hN]; (repeat refine sk ?_); refine hK _ ?_; clear hK K)
              ((repeat refine PWp.seq ?_); refine PWp.cond (by simp only [push_cast, seval, Nat.reduceEqDiff, Nat.reduceLeDiff, reduceCtorEq]; rfl) (fun hc => ?_) (fun hc => ?_))
              · cases hc
              · ((repeat refine PWp.seq ?_); refine PWp.skip ?_)
                ((repeat refine PWp.seq ?_); refine PWp.region TT (by rfl) (fun K hK => ?_); simp only [push_cast, seval, Nat.reduceEqDiff, Nat.reduceLeDiff, reduceCtorEq, wrap64_id (n := (k : Int) + 1) (by omega) (by omega)]; (repeat refine sk ?_); refine hK _ ?_; clear hK K)
                refine ⟨_, _, ?_, ⟨k + 1, rfl, by omega, next rfl, rfl⟩, Gh.le (by simp [push_cast, -List.getD_eq_getElem?_getD]) (by simp)⟩
                omega
        · have hk' : k = p.length := by simp at hc; omega
          subst hk'
          (repeat refine PWp.seq ?_); refine PWp.exit (iteT rfl ?_)
          ((repeat refine PWp.seq ?_); refine PWp.region TT (by rfl) (fun K hK => ?_); simp only [push_cast, seval, Nat.reduceEqDiff, Nat.reduceLeDiff, reduceCtorEq]; (repeat refine sk ?_); refine hK _ ?_; clear hK K)
          ((repeat refine PWp.seq ?_); refine PWp.ret ?_)
          refine ⟨.inr rfl, by omega, _, [], ?_, rfl, rfl⟩
          rw [hE, any_lt hf]
          (simp [push_cast, -List.getD_eq_getElem?_getD])
/-! ### The document's -/
theorem keptF_cons (x : Md) (m : List Md) : keptF (x :: m) = (if x.o then [x.i] else []) ++ keptF m := by
  unfold keptF
  cases ho : x.o <;> simp [List.filter, ho]
theorem ref18_Check (l : List It) (ls : List Ln) (p : List Int) (s : Lb) (m : List Md) (hl : l.length ≤ 1000000) (hp : p.length ≤ 9223372036854775807) (hm : m.length ≤ 1000000) :
    PC Try.prog 13 [iIt l, iV ls p, iLb s, iMd m] [] 0 9 (fun t obs => t = iI (chkF l p s m) ∧ obs = []) := by
  refine PC.body [8] Try.func13 rfl (by rfl) (Nat.le_of_ble_eq_true (by rfl)) rfl ?_; simp only [enumA]
  ((repeat refine PWp.seq ?_); refine PWp.region TT (by rfl) (fun K hK => ?_); simp only [push_cast, seval, Nat.reduceEqDiff, Nat.reduceLeDiff, reduceCtorEq]; (repeat refine sk ?_); refine hK _ ?_; clear hK K)
  ((repeat refine PWp.seq ?_); refine PWp.region TT (by rfl) (fun K hK => ?_); simp only [push_cast, seval, Nat.reduceEqDiff, Nat.reduceLeDiff, reduceCtorEq]; (repeat refine sk ?_); refine hK _ ?_; clear hK K)
  ((repeat refine PWp.seq ?_); refine PWp.block ?_)
  refine PWp.loop (fun c st => ∃ (k : Nat) (q : Int), c = p.length - k ∧ k ≤ p.length ∧ riF l.length (-1) p = riF l.length q (p.drop k) ∧ -1 ≤ q ∧ (k = 0 → q = -1) ∧ (0 < k → q = p.getD (k - 1) default ∧ 0 ≤ q) ∧
    st = ⟨[(0, iIt l), (3, iMd m), (5, .bptr 0 0), (6, .bptr 1 0), (9, iI k)], [(0, .box 26 [.iv (.sl 2 (ls.map encL)), iN p]), (1, .box 29 [iI s.v, .iv (.lit (.int .u64 s.c))])], 2⟩) _ _ ⟨0, -1, rfl, Nat.zero_le _, rfl, by omega, fun _ => rfl, fun h => absurd h (by decide), rfl⟩ (Gh.le (by simp [push_cast, -List.getD_eq_getElem?_getD]) (by simp)) ?_
  rintro c st ⟨k, q, rfl, hk, hf, hq, hq0, hq1, rfl⟩
  ((repeat refine PWp.seq ?_); refine PWp.region TT (by rfl) (fun K hK => ?_); simp only [push_cast, seval, Nat.reduceEqDiff, Nat.reduceLeDiff, reduceCtorEq]; (repeat refine sk ?_); refine hK _ ?_; clear hK K)
  ((repeat refine PWp.seq ?_); refine PWp.cond (by simp only [push_cast, seval, Nat.reduceEqDiff, Nat.reduceLeDiff, reduceCtorEq]; rfl) (fun hc => ?_) (fun hc => ?_))
  · have hlt : k < p.length := by simpa using hc
    clear hc
    have hg : (p.map encI).getD k .any = encI (p.getD k default) := getD_map hlt
    have hg1 : (p.map encI).getD ((k : Int) - 1).toNat .any = encI (p.getD ((k : Int) - 1).toNat default) := getD_map (by omega)
    rw [drop_getD hlt] at hf
    have hx : p.getD (k + 1 - 1) default = p.getD k default := by simp
    have hy : 0 < k → p.getD ((k : Int) - 1).toNat default = q := fun h => by rw [(hq1 h).1, show ((k : Int) - 1).toNat = k - 1 by omega]
    generalize p.getD k default = n at *
    generalize p.getD ((k : Int) - 1).toNat default = y at *
    ((repeat refine PWp.seq ?_); refine PWp.skip ?_)
    ((repeat refine PWp.seq ?_); refine PWp.block ?_)
    ((repeat refine PWp.seq ?_); refine PWp.draw TT (by kernel_rfl) (by kernel_rfl) (by rfl) (by rfl) (fun K hK => ?_); simp only [push_cast, seval, Nat.reduceEqDiff, Nat.reduceLeDiff, reduceCtorEq, hg, hg1, wrap64_id (n := (k : Int) - 1) (by omega) (by omega)]; (repeat refine sk ?_); refine hK _ ?_; clear hK K)
    ((repeat refine PWp.seq ?_); refine PWp.cond (by simp only [push_cast, seval, Nat.reduceEqDiff, Nat.reduceLeDiff, reduceCtorEq]; rfl) (fun hc => ?_) (fun hc => ?_))
    · have e : chkF l p s m = 3 := by
        unfold chkF
        rw [if_neg]
        rw [hf]
        simp only [riF, Bool.and_eq_true, decide_eq_true_eq]
        simp only [Bool.or_eq_true, Bool.and_eq_true, Bool.not_eq_true', Bool.not_eq_false', Bool.or_eq_false_iff, Bool.and_eq_false_iff, decide_eq_true_eq, decide_eq_false_iff_not, beq_iff_eq, beq_eq_false_iff_ne, bne_iff_ne, bne_eq_false_iff_eq, ne_eq, Classical.not_not, Int.not_lt, Int.not_le, ge_iff_le, gt_iff_lt] at hc
        by_cases h0 : k = 0
        · have := hq0 h0
          omega
        · have h1 := hy (by omega)
          have h2 := hq1 (by omega)
          omega
      ((repeat refine PWp.seq ?_); refine PWp.region TT (by rfl) (fun K hK => ?_); simp only [push_cast, seval, Nat.reduceEqDiff, Nat.reduceLeDiff, reduceCtorEq]; (repeat refine sk ?_); refine hK _ ?_; clear hK K)
      ((repeat refine PWp.seq ?_); refine PWp.ret ?_)
      refine ⟨.inr rfl, by omega, _, [], ?_, rfl, rfl⟩
      rw [e]
      (simp [push_cast, -List.getD_eq_getElem?_getD])
    · simp only [Bool.or_eq_true, Bool.and_eq_true, Bool.not_eq_true', Bool.not_eq_false', Bool.or_eq_false_iff, Bool.and_eq_false_iff, decide_eq_true_eq, decide_eq_false_iff_not, beq_iff_eq, beq_eq_false_iff_ne, bne_iff_ne, bne_eq_false_iff_eq, ne_eq, Classical.not_not, Int.not_lt, Int.not_le, ge_iff_le, gt_iff_lt] at hc
      have hb : q < n ∧ n < l.length ∧ 0 ≤ n := by
        by_cases h0 : k = 0
        · have := hq0 h0
          omega
        · have h1 := hy (by omega)
          have h2 := hq1 (by omega)
          omega
      clear hc
      have hf' : riF l.length (-1) p = riF l.length n (p.drop (k + 1)) := by
        rw [hf]
        simp only [riF]
        rw [decide_eq_true (p := q < n) hb.1, decide_eq_true (p := n < (l.length : Int)) hb.2.1]; rfl
      ((repeat refine PWp.seq ?_); refine PWp.skip ?_)
      ((repeat refine PWp.seq ?_); refine PWp.region TT (by rfl) (fun K hK => ?_); simp only [push_cast, seval, Nat.reduceEqDiff, Nat.reduceLeDiff, reduceCtorEq, wrap64_id (n := (k : Int) + 1) (by omega) (by omega)]; (repeat refine sk ?_); refine hK _ ?_; clear hK K)
      refine ⟨_, _, ?_, ⟨k + 1, n, rfl, by omega, hf', by omega, fun h => by omega, fun _ => ⟨hx.symm, by omega⟩, rfl⟩, Gh.le (by simp [push_cast, -List.getD_eq_getElem?_getD]) (by simp)⟩
      omega
  · have hk' : k = p.length := by simp at hc; omega
    subst hk'
    rw [List.drop_length] at hf
    have h1 : riF l.length (-1) p = true := hf
    have hpl := riF_len h1 (by omega)
    (repeat refine PWp.seq ?_); refine PWp.exit (iteT rfl ?_)
    ((repeat refine PWp.seq ?_); refine PWp.region TT (by rfl) (fun K hK => ?_); simp only [push_cast, seval, Nat.reduceEqDiff, Nat.reduceLeDiff, reduceCtorEq]; (repeat refine sk ?_); refine hK _ ?_; clear hK K)
    ((repeat refine PWp.seq ?_); refine PWp.region TT (by rfl) (fun K hK => ?_); simp only [push_cast, seval, Nat.reduceEqDiff, Nat.reduceLeDiff, reduceCtorEq]; (repeat refine sk ?_); refine hK _ ?_; clear hK K)
    ((repeat refine PWp.seq ?_); refine PWp.block ?_)
    refine PWp.loop (fun c st => ∃ (k : Nat) (q : Int), c = m.length - k ∧ k ≤ m.length ∧ (riF p.length (-1) (keptF m) && !m.any badM) = (riF p.length q (keptF (m.drop k)) && !(m.drop k).any badM) ∧
      st = ⟨[(0, iIt l), (3, iMd m), (5, .bptr 0 0), (6, .bptr 1 0), (10, iI q), (11, iI k)], [(0, .box 26 [.iv (.sl 2 (ls.map encL)), iN p]), (1, .box 29 [iI s.v, .iv (.lit (.int .u64 s.c))])], 2⟩) _ _ ⟨0, -1, rfl, Nat.zero_le _, rfl, rfl⟩ (Gh.le (by simp [push_cast, -List.getD_eq_getElem?_getD]) (by simp)) ?_
    rintro c st ⟨k, q, rfl, hk, hf2, rfl⟩
    ((repeat refine PWp.seq ?_); refine PWp.region TT (by rfl) (fun K hK => ?_); simp only [push_cast, seval, Nat.reduceEqDiff, Nat.reduceLeDiff, reduceCtorEq]; (repeat refine sk ?_); refine hK _ ?_; clear hK K)
    ((repeat refine PWp.seq ?_); refine PWp.cond (by simp only [push_cast, seval, Nat.reduceEqDiff, Nat.reduceLeDiff, reduceCtorEq]; rfl) (fun hc => ?_) (fun hc => ?_))
    · have hlt : k < m.length := by simpa using hc
      clear hc
      have hg : (m.map encMd).getD k .any = encMd (m.getD k default) := getD_map hlt
      rw [drop_getD hlt, keptF_cons, List.any_cons] at hf2
      have two : (riF p.length (-1) (keptF m) && !m.any badM) = false → chkF l p s m = 2 := fun h => by
        unfold chkF
        rw [if_pos h1, if_neg (by rw [h]; decide)]
      generalize m.getD k default = x at *
      ((repeat refine PWp.seq ?_); refine PWp.skip ?_)
      ((repeat refine PWp.seq ?_); refine PWp.block ?_)
      ((repeat refine PWp.seq ?_); refine PWp.region TT (by rfl) (fun K hK => ?_); simp only [push_cast, seval, Nat.reduceEqDiff, Nat.reduceLeDiff, reduceCtorEq, hg]; (repeat refine sk ?_); refine hK _ ?_; clear hK K)
      ((repeat refine PWp.seq ?_); refine PWp.region TT (by rfl) (fun K hK => ?_); simp only [push_cast, seval, Nat.reduceEqDiff, Nat.reduceLeDiff, reduceCtorEq]; (repeat refine sk ?_); refine hK _ ?_; clear hK K)
      ((repeat refine PWp.seq ?_); refine PWp.cond (by simp only [push_cast, seval, Nat.reduceEqDiff, Nat.reduceLeDiff, reduceCtorEq]; rfl) (fun hc => ?_) (fun hc => ?_))
      · rw [if_pos hc] at hf2
        have hb : badM x = !(x.x.t == [] && !x.x.b) := by unfold badM; rw [hc]; simp
        ((repeat refine PWp.seq ?_); refine PWp.region TT (by rfl) (fun K hK => ?_); simp only [push_cast, seval, Nat.reduceEqDiff, Nat.reduceLeDiff, reduceCtorEq]; (repeat refine sk ?_); refine hK _ ?_; clear hK K)
        ((repeat refine PWp.seq ?_); refine PWp.cond (by simp only [push_cast, seval, Nat.reduceEqDiff, Nat.reduceLeDiff, reduceCtorEq]; rfl) (fun hc => ?_) (fun hc => ?_))
        · have e : (riF p.length (-1) (keptF m) && !m.any badM) = false := by
            rw [hf2, hb]
            simp only [List.cons_append, List.nil_append, riF]
            rw [Bool.or_eq_true, Bool.or_eq_true] at hc
            rcases hc with (h | h) | h
            · rw [decide_eq_false (p := q < x.i) (by simp at h; omega)]; simp
            · rw [decide_eq_false (p := x.i < (p.length : Int)) (by simp at h; omega)]; simp
            · rw [h]; simp
          ((repeat refine PWp.seq ?_); refine PWp.region TT (by rfl) (fun K hK => ?_); simp only [push_cast, seval, Nat.reduceEqDiff, Nat.reduceLeDiff, reduceCtorEq]; (repeat refine sk ?_); refine hK _ ?_; clear hK K)
          ((repeat refine PWp.seq ?_); refine PWp.ret ?_)
          refine ⟨.inr rfl, by omega, _, [], ?_, rfl, rfl⟩
          rw [two e]
          (simp [push_cast, -List.getD_eq_getElem?_getD])
        · rw [Bool.or_eq_false_iff, Bool.or_eq_false_iff] at hc
          obtain ⟨⟨hc1, hc2⟩, hc3⟩ := hc
          have e : (riF p.length (-1) (keptF m) && !m.any badM) = (riF p.length x.i (keptF (m.drop (k + 1))) && !(m.drop (k + 1)).any badM) := by
            rw [hf2, hb]
            simp only [List.cons_append, List.nil_append, riF]
            rw [decide_eq_true (p := q < x.i) (by simp at hc1; omega), decide_eq_true (p := x.i < (p.length : Int)) (by simp at hc2; omega), hc3]
            simp
          ((repeat refine PWp.seq ?_); refine PWp.skip ?_)
          ((repeat refine PWp.seq ?_); refine PWp.region TT (by rfl) (fun K hK => ?_); simp only [push_cast, seval, Nat.reduceEqDiff, Nat.reduceLeDiff, reduceCtorEq]; (repeat refine sk ?_); refine hK _ ?_; clear hK K)
          ((repeat refine PWp.seq ?_); refine PWp.region TT (by rfl) (fun K hK => ?_); simp only [push_cast, seval, Nat.reduceEqDiff, Nat.reduceLeDiff, reduceCtorEq, wrap64_id (n := (k : Int) + 1) (by omega) (by omega)]; (repeat refine sk ?_); refine hK _ ?_; clear hK K)
          refine ⟨_, _, ?_, ⟨k + 1, x.i, rfl, by omega, e, rfl⟩, Gh.le (by simp [push_cast, -List.getD_eq_getElem?_getD]) (by simp)⟩
          omega
      · rw [if_neg (by rw [hc]; decide), List.nil_append] at hf2
        have hb : badM x = (x.i != 0) := by unfold badM; rw [hc]; simp [bne]
        ((repeat refine PWp.seq ?_); refine PWp.region TT (by rfl) (fun K hK => ?_); simp only [push_cast, seval, Nat.reduceEqDiff, Nat.reduceLeDiff, reduceCtorEq]; (repeat refine sk ?_); refine hK _ ?_; clear hK K)
        ((repeat refine PWp.seq ?_); refine PWp.cond (by simp only [push_cast, seval, Nat.reduceEqDiff, Nat.reduceLeDiff, reduceCtorEq]; rfl) (fun hc => ?_) (fun hc => ?_))
        · have e : (riF p.length (-1) (keptF m) && !m.any badM) = false := by
            rw [hf2, hb, hc]
            simp
          ((repeat refine PWp.seq ?_); refine PWp.region TT (by rfl) (fun K hK => ?_); simp only [push_cast, seval, Nat.reduceEqDiff, Nat.reduceLeDiff, reduceCtorEq]; (repeat refine sk ?_); refine hK _ ?_; clear hK K)
          ((repeat refine PWp.seq ?_); refine PWp.ret ?_)
          refine ⟨.inr rfl, by omega, _, [], ?_, rfl, rfl⟩
          rw [two e]
          (simp [push_cast, -List.getD_eq_getElem?_getD])
        · have e : (riF p.length (-1) (keptF m) && !m.any badM) = (riF p.length q (keptF (m.drop (k + 1))) && !(m.drop (k + 1)).any badM) := by
            rw [hf2, hb, hc]
            simp
          ((repeat refine PWp.seq ?_); refine PWp.skip ?_)
          ((repeat refine PWp.seq ?_); refine PWp.region TT (by rfl) (fun K hK => ?_); simp only [push_cast, seval, Nat.reduceEqDiff, Nat.reduceLeDiff, reduceCtorEq, wrap64_id (n := (k : Int) + 1) (by omega) (by omega)]; (repeat refine sk ?_); refine hK _ ?_; clear hK K)
          refine ⟨_, _, ?_, ⟨k + 1, q, rfl, by omega, e, rfl⟩, Gh.le (by simp [push_cast, -List.getD_eq_getElem?_getD]) (by simp)⟩
          omega
    · have hk' : k = m.length := by simp at hc; omega
      subst hk'
      rw [List.drop_length] at hf2
      have hE : chkF l p s m = if (List.range p.length).any (badV l p s m) then 9 else 0 := by
        unfold chkF
        rw [if_pos h1, if_pos (by rw [hf2]; rfl)]
      (repeat refine PWp.seq ?_); refine PWp.exit (iteT rfl ?_)
      ((repeat refine PWp.seq ?_); refine PWp.region TT (by rfl) (fun K hK => ?_); simp only [push_cast, seval, Nat.reduceEqDiff, Nat.reduceLeDiff, reduceCtorEq]; (repeat refine sk ?_); refine hK _ ?_; clear hK K)
      ((repeat refine PWp.seq ?_); refine PWp.block ?_)
      refine PWp.loop (fun c st => ∃ k : Nat, c = p.length - k ∧ k ≤ p.length ∧ (∀ i < k, badV l p s m i = false) ∧
        st = ⟨[(0, iIt l), (3, iMd m), (5, .bptr 0 0), (6, .bptr 1 0), (13, iI k)], [(0, .box 26 [.iv (.sl 2 (ls.map encL)), iN p]), (1, .box 29 [iI s.v, .iv (.lit (.int .u64 s.c))])], 2⟩) _ _ ⟨0, rfl, Nat.zero_le _, by simp, rfl⟩ (Gh.le (by simp [push_cast, -List.getD_eq_getElem?_getD]) (by simp)) ?_
      rintro c st ⟨k, rfl, hk, hf, rfl⟩
      ((repeat refine PWp.seq ?_); refine PWp.region TT (by rfl) (fun K hK => ?_); simp only [push_cast, seval, Nat.reduceEqDiff, Nat.reduceLeDiff, reduceCtorEq]; (repeat refine sk ?_); refine hK _ ?_; clear hK K)
      ((repeat refine PWp.seq ?_); refine PWp.cond (by simp only [push_cast, seval, Nat.reduceEqDiff, Nat.reduceLeDiff, reduceCtorEq]; rfl) (fun hc => ?_) (fun hc => ?_))
      · have hlt : k < p.length := by simpa using hc
        clear hc
        have hb := riF_getD h1 hlt
        have hg : (p.map encI).getD k .any = encI (p.getD k default) := getD_map hlt
        have hg2 : (l.map encIt).getD (p.getD k default).toNat .any = encIt (atV l p k) := getD_map (by omega)
        have next : badV l p s m k = false → ∀ i < k + 1, badV l p s m i = false := fun h i hi => by
          by_cases e : i = k
          · subst e; exact h
          · exact hf i (by omega)
        have bad : badV l p s m k = true → chkF l p s m = 9 := fun h => by
          rw [hE, if_pos (List.any_eq_true.2 ⟨k, List.mem_range.2 hlt, h⟩)]
        unfold badV at next bad
        generalize atV l p k = x at *
        generalize p.getD k default = q at *
        ((repeat refine PWp.seq ?_); refine PWp.skip ?_)
        ((repeat refine PWp.seq ?_); refine PWp.block ?_)
        ((repeat refine PWp.seq ?_); refine PWp.region TT (by rfl) (fun K hK => ?_); simp only [push_cast, seval, Nat.reduceEqDiff, Nat.reduceLeDiff, reduceCtorEq, hg, hg2]; (repeat refine sk ?_); refine hK _ ?_; clear hK K)
        ((repeat refine PWp.seq ?_); refine PWp.region TT (by rfl) (fun K hK => ?_); simp only [push_cast, seval, Nat.reduceEqDiff, Nat.reduceLeDiff, reduceCtorEq])
        ((repeat refine sk ?_); refine PCall.use (ref18_isMade m k (by omega)) [] rfl (by simp [push_cast]) (by simp) (by simp [push_cast]) (by simp [push_cast]) (by simp [push_cast]) (by simp [push_cast]) ?_)
        rintro _ _ ⟨rfl, rfl⟩
        cases hM : madeB m k with
        | true =>
          rw [hM] at next
          (simp only [push_cast, seval, Nat.reduceEqDiff, Nat.reduceLeDiff, reduceCtorEq])
          ((repeat refine sk ?_); refine hK _ ?_; clear hK K)
          ((repeat refine PWp.seq ?_); refine PWp.cond (by simp only [push_cast, seval, Nat.reduceEqDiff, Nat.reduceLeDiff, reduceCtorEq]; rfl) (fun hc => ?_) (fun hc => ?_))
          · cases hc
          · ((repeat refine PWp.seq ?_); refine PWp.skip ?_)
            ((repeat refine PWp.seq ?_); refine PWp.region TT (by rfl) (fun K hK => ?_); simp only [push_cast, seval, Nat.reduceEqDiff, Nat.reduceLeDiff, reduceCtorEq, wrap64_id (n := (k : Int) + 1) (by omega) (by omega)]; (repeat refine sk ?_); refine hK _ ?_; clear hK K)
            refine ⟨_, _, ?_, ⟨k + 1, rfl, by omega, next (by simp), rfl⟩, Gh.le (by simp [push_cast, -List.getD_eq_getElem?_getD]) (by simp)⟩
            omega
        | false =>
          rw [hM] at next bad
          unfold lbNe at next bad
          (simp only [push_cast, seval, Nat.reduceEqDiff, Nat.reduceLeDiff, reduceCtorEq])
          ((repeat refine sk ?_); refine hK _ ?_; clear hK K)
          ((repeat refine PWp.seq ?_); refine PWp.cond (by simp only [push_cast, seval, Nat.reduceEqDiff, Nat.reduceLeDiff, reduceCtorEq]; rfl) (fun hc => ?_) (fun hc => ?_))
          · ((repeat refine PWp.seq ?_); refine PWp.region TT (by rfl) (fun K hK => ?_); simp only [push_cast, seval, Nat.reduceEqDiff, Nat.reduceLeDiff, reduceCtorEq]; (repeat refine sk ?_); refine hK _ ?_; clear hK K)
            ((repeat refine PWp.seq ?_); refine PWp.ret ?_)
            refine ⟨.inr rfl, by omega, _, [], ?_, rfl, rfl⟩
            rw [bad (by rw [hc]; rfl)]
            (simp [push_cast, -List.getD_eq_getElem?_getD])
          · ((repeat refine PWp.seq ?_); refine PWp.skip ?_)
            ((repeat refine PWp.seq ?_); refine PWp.region TT (by rfl) (fun K hK => ?_); simp only [push_cast, seval, Nat.reduceEqDiff, Nat.reduceLeDiff, reduceCtorEq, wrap64_id (n := (k : Int) + 1) (by omega) (by omega)]; (repeat refine sk ?_); refine hK _ ?_; clear hK K)
            refine ⟨_, _, ?_, ⟨k + 1, rfl, by omega, next (by rw [hc]; rfl), rfl⟩, Gh.le (by simp [push_cast, -List.getD_eq_getElem?_getD]) (by simp)⟩
            omega
      · have hk' : k = p.length := by simp at hc; omega
        subst hk'
        (repeat refine PWp.seq ?_); refine PWp.exit (iteT rfl ?_)
        ((repeat refine PWp.seq ?_); refine PWp.region TT (by rfl) (fun K hK => ?_); simp only [push_cast, seval, Nat.reduceEqDiff, Nat.reduceLeDiff, reduceCtorEq]; (repeat refine sk ?_); refine hK _ ?_; clear hK K)
        ((repeat refine PWp.seq ?_); refine PWp.ret ?_)
        refine ⟨.inr rfl, by omega, _, [], ?_, rfl, rfl⟩
        rw [hE, any_lt hf]
        (simp [push_cast, -List.getD_eq_getElem?_getD])
end Go.Proofs.Ytanopjcfackblaa
