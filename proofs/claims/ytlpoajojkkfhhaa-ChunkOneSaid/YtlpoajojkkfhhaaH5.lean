/- The statement ChunkOne: what its function answers. -/
import Derived.Test.YtlpoajojkkfhhaaH4
namespace Go.Proofs.Ytlpoajojkkfhhaa
open Go.PL
set_option maxRecDepth 100000
set_option linter.unusedSimpArgs false
set_option linter.unusedVariables false
/-- Line by line. -/
def idn (n : Nat) : List (Int × Int) := (List.range n).map fun (i : Nat) => ((i : Int), (i : Int))
theorem idn_length (n : Nat) : (idn n).length = n := by simp [idn]
theorem idn_succ (n : Nat) : idn (n + 1) = idn n ++ [((n : Int), (n : Int))] := by simp [idn, List.range_succ]
theorem idn_getD {n k : Nat} (h : k < n) : (idn n).getD k default = ((k : Int), (k : Int)) := by simp [idn, List.getD, h]
theorem idn_right (n : Nat) : rRight (idn n) n n = true := by
  unfold rRight
  refine decide_eq_true (fun k hk => ?_)
  rw [idn_length] at hk
  unfold rPt
  rw [idn_getD hk]
  simp only
  refine ⟨by omega, fun h => ?_⟩
  rw [idn_getD (by omega)]
  simp only
  omega
theorem idn_to {n : Nat} {x : Int} (h0 : 0 ≤ x) (h1 : x < n) : toI (idn n) x = some x := by
  have := toI_of_right (idn_right n) (k := x.toNat) (by rw [idn_length]; omega)
  rw [idn_getD (by omega)] at this
  simpa [Int.toNat_of_nonneg h0] using this
def sumS : List Ck → Int
  | [] => 0
  | c :: l => (if c.s then c.on else 0) + sumS l
/-- Pairs ahead of a place and behind it. -/
def cutAt (oa : List (Int × Int)) (k : Nat) (x y : Int) : Prop :=
  k ≤ oa.length ∧ (∀ i, i < k → (oa.getD i default).1 < x ∧ (oa.getD i default).2 < y) ∧ ∀ i, k ≤ i → i < oa.length → x ≤ (oa.getD i default).1 ∧ y ≤ (oa.getD i default).2
theorem one_run {oa : List (Int × Int)} {n m : Int} (h : rRight oa n m = true) {k : Nat} {x y : Int} (hc : cutAt oa k x y) (r : Nat) (hr : ∀ j : Nat, j < r → toI oa (x + j) = some (y + j)) :
    ∀ j : Nat, j < r → k + j < oa.length ∧ oa.getD (k + j) default = (x + j, y + j) := by
  intro j
  induction j using Nat.strongRecOn with
  | _ j ih =>
    intro hj
    obtain ⟨i, hi, e1, e2⟩ := toI_mem (hr j hj)
    obtain ⟨c1, c2, c3⟩ := hc
    have hki : k ≤ i := by
      rcases Nat.lt_or_ge i k with hlt | hge
      · have := (c2 i hlt).1; omega
      · exact hge
    have hge : k + j ≤ i := by
      rcases Nat.lt_or_ge i (k + j) with hlt | hge
      · have := (ih (i - k) (by omega) (by omega)).2
        rw [show k + (i - k) = i by omega] at this
        rw [this] at e1
        simp only at e1
        omega
      · exact hge
    have hij : i = k + j := by
      rcases Nat.lt_or_ge (k + j) i with hlt | hle
      · have h1 := (lt_of_right h i (k + j) hlt hi).1
        rcases Nat.eq_zero_or_pos j with h0 | h0
        · subst h0
          have := (c3 (k + 0) (by omega) (by omega)).1
          simp only [Nat.add_zero] at this h1
          omega
        · have h2 := (ih (j - 1) (by omega) (by omega)).2
          have h3 := (lt_of_right h (k + j) (k + (j - 1)) (by omega) (by omega)).1
          rw [h2] at h3
          simp only at h3
          omega
      · omega
    subst hij
    exact ⟨hi, Prod.ext e1 e2⟩
theorem one_ok {oa : List (Int × Int)} {n : Nat} {a : Int} (h : rRight oa n a = true) : ∀ (f : Nat) (x y : Int) (k : Nat), inB n a n x y x → meas n a n x y x ≤ f → cutAt oa k x y →
    (∀ c ∈ chunksF oa (idn n) n a n f x y x, c.o = c.b ∧ c.on = c.bn) ∧ sumS (chunksF oa (idn n) n a n f x y x) + k = oa.length
  | 0, x, y, k, hin, hf, hc => by
    unfold chunksF sumS
    refine ⟨by simp, ?_⟩
    obtain ⟨c1, c2, c3⟩ := hc
    unfold inB at hin
    unfold meas at hf
    rcases Nat.lt_or_ge k oa.length with hlt | hge
    · have h1 := (c3 k (Nat.le_refl _) hlt).1
      have h2 := ((of_decide_eq_true h) k hlt).1
      omega
    · omega
  | f + 1, x, y, k, hin, hf, hc => by
    have hb := idn_right n
    unfold chunksF
    by_cases hcc : x < n ∨ y < a ∨ x < n
    · rw [if_pos hcc]
      obtain ⟨e1, e2, e3, h1, h2, h3, h4, h5⟩ := stepC_ok h hb hin hcc
      have hin' := hin
      unfold inB at hin'
      obtain ⟨c1, c2, c3⟩ := hc
      by_cases hn : 0 < runN oa (idn n) x y x
      · have hs : stepC oa (idn n) n a n x y x = ⟨true, x, runN oa (idn n) x y x, y, runN oa (idn n) x y x, x, runN oa (idn n) x y x⟩ := by unfold stepC; rw [if_pos hn]
        rw [hs] at h1 h2 h3 h4 h5 ⊢
        have hr := one_run h ⟨c1, c2, c3⟩ (runN oa (idn n) x y x) (fun j hj => ((runN_spec oa (idn n) x y x).2.1 j hj).1)
        generalize runN oa (idn n) x y x = r at *
        obtain ⟨g1, g2⟩ := hr (r - 1) (by omega)
        have key : cutAt oa (k + r) (x + r) (y + r) := by
          refine ⟨by omega, fun i hi => ?_, fun i hi hl => ?_⟩
          · rcases Nat.lt_or_ge i k with hlt | hge
            · have := c2 i hlt; omega
            · have := (hr (i - k) (by omega)).2
              rw [show k + (i - k) = i by omega] at this
              rw [this]
              simp only
              omega
          · have := lt_of_right h i (k + (r - 1)) (by omega) hl
            rw [g2] at this
            simp only at this
            omega
        obtain ⟨i1, i2⟩ := one_ok h f (x + r) (y + r) (k + r) h5 (by unfold inB at h5; unfold meas at *; simp only at *; omega) key
        refine ⟨fun c hc => ?_, ?_⟩
        · rcases List.mem_cons.1 hc with rfl | hc
          · exact ⟨rfl, rfl⟩
          · exact i1 c hc
        · unfold sumS
          simp only [if_true]
          omega
      · cases hx : nextO oa (idn n) x y x with
        | none =>
          have hs : stepC oa (idn n) n a n x y x = ⟨false, x, n - x, y, a - y, x, n - x⟩ := by unfold stepC; rw [if_neg hn, hx]
          rw [hs] at h1 h2 h3 h4 h5 ⊢
          have hk : k = oa.length := by
            rcases Nat.lt_or_ge k oa.length with hlt | hge
            · have g1 := c3 k (Nat.le_refl _) hlt
              have g2 := ((of_decide_eq_true h) k hlt).1
              have hm : (oa.getD k default).1 ∈ cand oa (idn n) x y x := cand_iff.2 ⟨_, _, toI_of_right h hlt, idn_to (by omega) (by omega), by omega, by omega, by omega⟩
              have := minOpt_none hx
              rw [this] at hm
              simp at hm
            · omega
          have key : cutAt oa k (x + (n - x)) (y + (a - y)) := by
            refine ⟨c1, fun i hi => ?_, fun i hi hl => by omega⟩
            have := ((of_decide_eq_true h) i (by omega)).1
            omega
          obtain ⟨i1, i2⟩ := one_ok h f (x + (n - x)) (y + (a - y)) k h5 (by unfold inB at h5; unfold meas at *; simp only at *; omega) key
          refine ⟨fun c hc => ?_, ?_⟩
          · rcases List.mem_cons.1 hc with rfl | hc
            · exact ⟨rfl, rfl⟩
            · exact i1 c hc
          · unfold sumS
            simp only [Bool.false_eq_true, if_false]
            omega
        | some u =>
          obtain ⟨hmem, hmin⟩ := minOpt_spec hx
          obtain ⟨v, w, hv, hw, g1, g2, g3⟩ := cand_mem hmem
          have b1 := toI_bound h hv
          rw [idn_to (by omega) (by omega)] at hw
          injection hw with hw
          subst hw
          have hs : stepC oa (idn n) n a n x y x = ⟨false, x, u - x, y, v - y, x, u - x⟩ := by unfold stepC; rw [if_neg hn, hx]; simp [hv, idn_to (n := n) (x := u) (by omega) (by omega)]
          rw [hs] at h1 h2 h3 h4 h5 ⊢
          obtain ⟨i0, hi0, q1, q2⟩ := toI_mem hv
          have hki : k ≤ i0 := by
            rcases Nat.lt_or_ge i0 k with hlt | hge
            · have := (c2 i0 hlt).1; omega
            · exact hge
          have hi0k : i0 = k := by
            rcases Nat.lt_or_ge k i0 with hlt | hle
            · have p1 := c3 k (Nat.le_refl _) (by omega)
              have p2 := ((of_decide_eq_true h) k (by omega)).1
              have hm : (oa.getD k default).1 ∈ cand oa (idn n) x y x := cand_iff.2 ⟨_, _, toI_of_right h (by omega), idn_to (by omega) (by omega), by omega, by omega, by omega⟩
              have p3 := hmin _ hm
              have p4 := (lt_of_right h i0 k hlt hi0).1
              omega
            · omega
          subst hi0k
          have key : cutAt oa i0 (x + (u - x)) (y + (v - y)) := by
            refine ⟨c1, fun i hi => ?_, fun i hi hl => ?_⟩
            · have := c2 i hi; omega
            · rcases Nat.lt_or_ge i0 i with hlt | hge
              · have := lt_of_right h i i0 hlt hl; omega
              · have : i = i0 := by omega
                subst this
                omega
          obtain ⟨i1, i2⟩ := one_ok h f (x + (u - x)) (y + (v - y)) i0 h5 (by unfold inB at h5; unfold meas at *; simp only at *; omega) key
          refine ⟨fun c hc => ?_, ?_⟩
          · rcases List.mem_cons.1 hc with rfl | hc
            · exact ⟨rfl, rfl⟩
            · exact i1 c hc
          · unfold sumS
            simp only [Bool.false_eq_true, if_false]
            omega
    · rw [if_neg hcc]
      refine ⟨by simp, ?_⟩
      unfold sumS
      obtain ⟨c1, c2, c3⟩ := hc
      rcases Nat.lt_or_ge k oa.length with hlt | hge
      · have h1 := (c3 k (Nat.le_refl _) hlt).1
        have h2 := ((of_decide_eq_true h) k hlt).1
        unfold inB at hin
        omega
      · omega
end Go.Proofs.Ytlpoajojkkfhhaa
