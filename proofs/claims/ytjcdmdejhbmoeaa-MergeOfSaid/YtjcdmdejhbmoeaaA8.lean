/- Walks of chapter 13: the chunks. -/
import Derived.Test.YtjcdmdejhbmoeaaA7
namespace Go.Proofs.Ytjcdmdejhbmoeaa
open Go.PL
set_option maxRecDepth 100000
set_option linter.unusedSimpArgs false
set_option linter.unusedVariables false
/-- The chunk at a place. -/
def stepC (oa ob : List (Int × Int)) (o a b x y z : Int) : Ck :=
  if 0 < runN oa ob x y z then ⟨true, x, runN oa ob x y z, y, runN oa ob x y z, z, runN oa ob x y z⟩
  else match nextO oa ob x y z with
    | some u => ⟨false, x, u - x, y, (toI oa u).getD 0 - y, z, (toI ob u).getD 0 - z⟩
    | none => ⟨false, x, o - x, y, a - y, z, b - z⟩
def chunksF (oa ob : List (Int × Int)) (o a b : Int) : Nat → Int → Int → Int → List Ck
  | 0, _, _, _ => []
  | f + 1, x, y, z => if x < o ∨ y < a ∨ z < b then stepC oa ob o a b x y z :: chunksF oa ob o a b f (x + (stepC oa ob o a b x y z).on) (y + (stepC oa ob o a b x y z).an) (z + (stepC oa ob o a b x y z).bn) else []
def meas (o a b x y z : Int) : Nat := ((o - x) + (a - y) + (b - z)).toNat
def inB (o a b x y z : Int) : Prop := 0 ≤ x ∧ x ≤ o ∧ 0 ≤ y ∧ y ≤ a ∧ 0 ≤ z ∧ z ≤ b
theorem toI_bound {p : List (Int × Int)} {n m : Int} (h : rRight p n m = true) {i j : Int} (hj : toI p i = some j) : 0 ≤ i ∧ i < n ∧ 0 ≤ j ∧ j < m := by
  obtain ⟨k, hk, rfl, rfl⟩ := toI_mem hj
  exact ((of_decide_eq_true h) k hk).1
theorem mn_le (a b : Int) : mn a b = a ∨ mn a b = b := by unfold mn; split <;> simp
theorem foldl_mn_mem : ∀ (l : List Int) (x : Int), l.foldl mn x = x ∨ l.foldl mn x ∈ l
  | [], x => .inl rfl
  | y :: l, x => by
    rw [List.foldl_cons]
    rcases foldl_mn_mem l (mn x y) with h | h
    · rcases mn_le x y with e | e
      · left; rw [h, e]
      · right; rw [h, e]; exact List.mem_cons_self ..
    · right; exact List.mem_cons_of_mem _ h
theorem foldl_mn_le : ∀ (l : List Int) (x : Int), l.foldl mn x ≤ x ∧ ∀ y ∈ l, l.foldl mn x ≤ y
  | [], x => ⟨Int.le_refl _, by simp⟩
  | y :: l, x => by
    rw [List.foldl_cons]
    obtain ⟨h1, h2⟩ := foldl_mn_le l (mn x y)
    have h3 : mn x y ≤ x ∧ mn x y ≤ y := by unfold mn; split <;> omega
    refine ⟨by omega, fun z hz => ?_⟩
    rcases List.mem_cons.1 hz with rfl | hz
    · omega
    · exact h2 z hz
theorem minOpt_spec {l : List Int} {m : Int} (h : minOpt l = some m) : m ∈ l ∧ ∀ y ∈ l, m ≤ y := by
  cases l with
  | nil => cases h
  | cons x l =>
    simp only [minOpt, Option.some.injEq] at h
    subst h
    obtain ⟨h1, h2⟩ := foldl_mn_le l x
    refine ⟨?_, fun y hy => ?_⟩
    · rcases foldl_mn_mem l x with e | e
      · rw [e]; exact List.mem_cons_self ..
      · exact List.mem_cons_of_mem _ e
    · rcases List.mem_cons.1 hy with rfl | hy
      · exact h1
      · exact h2 y hy
theorem cand_mem {oa ob : List (Int × Int)} {o a b x : Int} (h : x ∈ cand oa ob o a b) : ∃ u v, toI oa x = some u ∧ toI ob x = some v ∧ o ≤ x ∧ a ≤ u ∧ b ≤ v := by
  have := (List.mem_filter.1 h).2
  simp only [okP, Bool.and_eq_true, decide_eq_true_eq] at this
  obtain ⟨⟨⟨⟨h1, h2⟩, h3⟩, h4⟩, h5⟩ := this
  obtain ⟨u, hu⟩ := Option.isSome_iff_exists.1 h1
  obtain ⟨v, hv⟩ := Option.isSome_iff_exists.1 h2
  rw [hu] at h4
  rw [hv] at h5
  exact ⟨u, v, hu, hv, h3, by simpa using h4, by simpa using h5⟩
theorem runN_spec (oa ob : List (Int × Int)) (x y z : Int) : runN oa ob x y z ≤ oa.length ∧ (∀ j, j < runN oa ob x y z → toI oa (x + j) = some (y + j) ∧ toI ob (x + j) = some (z + j)) ∧ (runN oa ob x y z < oa.length → hit oa ob x y z (runN oa ob x y z) = false) := by
  obtain ⟨h1, h2, h3, h4⟩ := runF_spec (hit oa ob x y z) oa.length 0
  refine ⟨by unfold runN; omega, fun j hj => ?_, fun h => h4 (by unfold runN at h; omega)⟩
  have := h3 j (Nat.zero_le _) hj
  simpa [hit] using this
/-- A chunk goes on, and stays within. -/
theorem stepC_ok {oa ob : List (Int × Int)} {o a b x y z : Int} (ha : rRight oa o a = true) (hb : rRight ob o b = true) (h : inB o a b x y z) (hc : x < o ∨ y < a ∨ z < b) :
    (stepC oa ob o a b x y z).o = x ∧ (stepC oa ob o a b x y z).a = y ∧ (stepC oa ob o a b x y z).b = z ∧ 0 ≤ (stepC oa ob o a b x y z).on ∧ 0 ≤ (stepC oa ob o a b x y z).an ∧ 0 ≤ (stepC oa ob o a b x y z).bn ∧
    0 < (stepC oa ob o a b x y z).on + (stepC oa ob o a b x y z).an + (stepC oa ob o a b x y z).bn ∧
    inB o a b (x + (stepC oa ob o a b x y z).on) (y + (stepC oa ob o a b x y z).an) (z + (stepC oa ob o a b x y z).bn) := by
  obtain ⟨r1, r2, r3⟩ := runN_spec oa ob x y z
  unfold inB at *
  unfold stepC
  split
  · rename_i hn
    obtain ⟨h1, h2⟩ := r2 (runN oa ob x y z - 1) (by omega)
    have b1 := toI_bound ha h1
    have b2 := toI_bound hb h2
    refine ⟨rfl, rfl, rfl, ?_⟩
    simp only
    omega
  · rename_i hn
    split
    · rename_i u hu
      obtain ⟨hm, _⟩ := minOpt_spec hu
      obtain ⟨v, w, hv, hw, h1, h2, h3⟩ := cand_mem hm
      have b1 := toI_bound ha hv
      have b2 := toI_bound hb hw
      rw [hv, hw]
      simp only [Option.getD_some]
      have hne : ¬ (u = x ∧ v = y ∧ w = z) := by
        rintro ⟨rfl, rfl, rfl⟩
        have hl : 0 < oa.length := by obtain ⟨k, hk, _⟩ := toI_mem hv; omega
        have h0 : runN oa ob u v w = 0 := by omega
        have := r3 (by omega)
        rw [h0] at this
        simp [hit, hv, hw] at this
      refine ⟨trivial, trivial, trivial, ?_⟩
      omega
    · refine ⟨rfl, rfl, rfl, ?_⟩
      simp only
      omega
theorem chunksF_fuel {oa ob : List (Int × Int)} {o a b : Int} (ha : rRight oa o a = true) (hb : rRight ob o b = true) : ∀ (f g : Nat) (x y z : Int), inB o a b x y z → meas o a b x y z ≤ f → meas o a b x y z ≤ g → chunksF oa ob o a b f x y z = chunksF oa ob o a b g x y z
  | 0, 0, x, y, z, _, _, _ => rfl
  | 0, g + 1, x, y, z, h, hf, _ => by
    unfold chunksF
    rw [if_neg]
    unfold inB at h
    unfold meas at hf
    omega
  | f + 1, 0, x, y, z, h, _, hg => by
    unfold chunksF
    rw [if_neg]
    unfold inB at h
    unfold meas at hg
    omega
  | f + 1, g + 1, x, y, z, h, hf, hg => by
    unfold chunksF
    by_cases hc : x < o ∨ y < a ∨ z < b
    · rw [if_pos hc, if_pos hc]
      obtain ⟨_, _, _, h1, h2, h3, h4, h5⟩ := stepC_ok ha hb h hc
      rw [chunksF_fuel ha hb f g _ _ _ h5]
      · unfold inB at h h5; unfold meas at *; omega
      · unfold inB at h h5; unfold meas at *; omega
    · rw [if_neg hc, if_neg hc]
def chunks (oa ob : List (Int × Int)) (o a b x y z : Int) : List Ck := chunksF oa ob o a b (meas o a b x y z) x y z
theorem chunks_step {oa ob : List (Int × Int)} {o a b x y z : Int} (ha : rRight oa o a = true) (hb : rRight ob o b = true) (h : inB o a b x y z) (hc : x < o ∨ y < a ∨ z < b) :
    chunks oa ob o a b x y z = stepC oa ob o a b x y z :: chunks oa ob o a b (x + (stepC oa ob o a b x y z).on) (y + (stepC oa ob o a b x y z).an) (z + (stepC oa ob o a b x y z).bn) := by
  obtain ⟨_, _, _, h1, h2, h3, h4, h5⟩ := stepC_ok ha hb h hc
  have hm : meas o a b x y z = (meas o a b x y z - 1) + 1 := by unfold inB at h h5; unfold meas; omega
  unfold chunks
  rw [hm]
  conv => lhs; unfold chunksF
  rw [if_pos hc]
  congr 1
  refine chunksF_fuel ha hb _ _ _ _ _ h5 ?_ (Nat.le_refl _)
  unfold inB at h h5; unfold meas at *; omega
theorem chunks_done {oa ob : List (Int × Int)} {o a b x y z : Int} (h : inB o a b x y z) (hc : ¬ (x < o ∨ y < a ∨ z < b)) : chunks oa ob o a b x y z = [] := by
  unfold chunks chunksF
  have : meas o a b x y z = 0 := by unfold inB at h; unfold meas; omega
  rw [this]
def okOf (oa ob : List (Int × Int)) (o a b : Int) : Bool := decide (0 ≤ o) && decide (o ≤ 400) && decide (0 ≤ a) && decide (a ≤ 400) && decide (0 ≤ b) && decide (b ≤ 400) && rRight oa o a && rRight ob o b
def ofL (oa ob : List (Int × Int)) (o a b : Int) : List Ck := if okOf oa ob o a b then chunks oa ob o a b 0 0 0 else []
def ofE (oa ob : List (Int × Int)) (o a b : Int) : Int := if okOf oa ob o a b then 0 else 2
end Go.Proofs.Ytjcdmdejhbmoeaa
