/- Walk of jalousielaw14.pairs: a match of two texts. -/
import Derived.Test.YtjcdmdejhbmoeaaT4
namespace Go.Proofs.Ytjcdmdejhbmoeaa
open Go.PL
set_option maxRecDepth 100000
set_option linter.unusedSimpArgs false
set_option linter.unusedVariables false
/-- A match of equal lines. -/
def matchP (a b : List Ln) (p : List (Int × Int)) : Prop := rRight p a.length b.length = true ∧ p.length ≤ 400 ∧ ∀ q ∈ p, a.getD q.1.toNat default = b.getD q.2.toNat default
theorem numL_length (kn l : List Ln) : (numL kn l).length = l.length := by simp [numL]
theorem numL_get {kn l : List Ln} {i : Nat} (h : i < l.length) : (numL kn l).getD i 0 = (kn.idxOf (l.getD i default) : Int) := by simp [numL, List.getD, h]
theorem idx_inj {kn : List Ln} {x y : Ln} (hx : x ∈ kn) (hy : y ∈ kn) (h : (kn.idxOf x : Int) = (kn.idxOf y : Int)) : x = y := by
  have h' : kn.idxOf x = kn.idxOf y := by omega
  have h1 := List.idxOf_lt_length_iff.2 hx
  have h2 := List.idxOf_lt_length_iff.2 hy
  have e1 : kn[kn.idxOf x] = x := List.getElem_idxOf h1
  have e2 : kn[kn.idxOf y] = y := List.getElem_idxOf h2
  rw [← e1, ← e2]
  congr 1
theorem goodP_match {kn a b : List Ln} {p : List (Int × Int)} (ha : ∀ x ∈ a, x ∈ kn) (hb : ∀ x ∈ b, x ∈ kn) (hal : a.length ≤ 40) (hbl : b.length ≤ 40) (hl : p.length ≤ a.length + b.length) (h : goodP (numL kn a) (numL kn b) a.length b.length p) : matchP a b p := by
  refine ⟨(right_iff p _ _).2 ⟨fun x hx => ?_, h.2⟩, by omega, fun q hq => ?_⟩
  · have := h.1 x hx; omega
  · obtain ⟨h1, h2, h3, h4, h5⟩ := h.1 q hq
    have k1 : q.1.toNat < a.length := by omega
    have k2 : q.2.toNat < b.length := by omega
    rw [numL_get k1, numL_get k2] at h5
    exact idx_inj (ha _ (getD_mem k1)) (hb _ (getD_mem k2)) h5
theorem law14_pairs (a b : List Ln) (ha : a.length ≤ 40) (hb : b.length ≤ 40) : PC Try.prog 13 [iL a, iL b] [] 0 60 (fun t obs => (∃ p, matchP a b p ∧ t = .iv (.sl 2 (p.map encP))) ∧ obs = []) := by
  refine PC.body [4] Try.func13 rfl (by rfl) (Nat.le_of_ble_eq_true (by rfl)) rfl ?_; simp only [enumA]
  ((repeat refine PWp.seq ?_); refine PWp.region TT (by rfl) (fun K hK => ?_); simp only [push_cast, seval, Nat.reduceEqDiff, Nat.reduceLeDiff, reduceCtorEq]; (repeat refine sk ?_); refine hK _ ?_; clear hK K)
  ((repeat refine PWp.seq ?_); refine PWp.region TT (by rfl) (fun K hK => ?_); simp only [push_cast, seval, Nat.reduceEqDiff, Nat.reduceLeDiff, reduceCtorEq])
  ((repeat refine sk ?_); refine PCall.use (ref06_Numbers [a, b] (by simp) (by intro l hl; simp at hl; rcases hl with rfl | rfl <;> omega)) [] rfl (by simp [push_cast, encLs]) (by simp) (by simp [push_cast, encLs]) (by simp [push_cast, encLs]) (by simp [push_cast, encLs]) (by simp [push_cast, encLs]) ?_)
  rintro _ _ ⟨⟨kn, hnd, hin, rfl⟩, rfl⟩
  have hka : ∀ x ∈ a, x ∈ kn := fun x hx => hin a (by simp) x hx
  have hkb : ∀ x ∈ b, x ∈ kn := fun x hx => hin b (by simp) x hx
  have hg := fun p hl h => goodP_match (p := p) hka hkb ha hb hl h
  have la := numL_length kn a
  have lb := numL_length kn b
  have e : iNums kn [a, b] = [.sl 1 ((numL kn a).map encI), .sl 1 ((numL kn b).map encI)] := rfl
  rw [e]
  generalize numL kn a = x at *
  generalize numL kn b = y at *
  rw [← la, ← lb] at hg
  (simp only [push_cast, seval, Nat.reduceEqDiff, Nat.reduceLeDiff, reduceCtorEq]; (repeat refine sk ?_); refine hK _ ?_; clear hK K)
  ((repeat refine PWp.seq ?_); refine PWp.drawT TT (by kernel_rfl) [] (.q 0 (.q 1 (.q 2 (.q 3 (.q 4 (.q 5 (.x 6 (.q 7 .nil)))))))) (by rfl) (by kernel_rfl) (by rfl) (by simp) (fun K hK => ?_); simp only [push_cast, seval, Nat.reduceEqDiff, Nat.reduceLeDiff, reduceCtorEq])
  ((repeat refine sk ?_); refine PCall.use (ref07_Pairs x y (by omega) (by omega)) [] rfl (by simp [push_cast]) (by simp) (by simp [push_cast]) (by simp [push_cast]) (by simp [push_cast]) (by simp [push_cast]) ?_)
  rintro _ _ ⟨⟨p, hp, hpl, rfl⟩, rfl⟩
  (simp only [push_cast, seval, Nat.reduceEqDiff, Nat.reduceLeDiff, reduceCtorEq]; (repeat refine sk ?_); refine hK _ ?_; clear hK K)
  ((repeat refine PWp.seq ?_); refine PWp.ret ?_)
  refine ⟨.inr rfl, by omega, _, [], ?_, ⟨p, hg p hpl hp, rfl⟩, rfl⟩
  (simp [push_cast, -List.getD_eq_getElem?_getD])
end Go.Proofs.Ytjcdmdejhbmoeaa
