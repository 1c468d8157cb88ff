/- Plain laws of chunks: they are all of the three texts, turn by turn, and what they are with one side matched line by line. -/
import Derived.Test.YtjcdmdejhbmoeaaA12
namespace Go.Proofs.Ytjcdmdejhbmoeaa
open Go.PL
set_option maxRecDepth 100000
set_option linter.unusedSimpArgs false
set_option linter.unusedVariables false
theorem runN_miss {oa ob : List (Int × Int)} {n m : Int} (h : rRight oa n m = true) (x y z : Int) : hit oa ob x y z (runN oa ob x y z) = false := by
  obtain ⟨r1, r2, r3⟩ := runN_spec oa ob x y z
  rcases Nat.lt_or_ge (runN oa ob x y z) oa.length with hl | hl
  · exact r3 hl
  · obtain ⟨d, hd, hm⟩ := miss (ob := ob) h x y z
    have : d = runN oa ob x y z := by
      rcases Nat.lt_or_ge d (runN oa ob x y z) with hlt | hge
      · have := r2 d hlt
        simp [hit, this] at hm
      · omega
    rw [← this]; exact hm
theorem runN_uniq {oa ob : List (Int × Int)} {x y z : Int} {n : Nat} (h1 : ∀ j, j < n → hit oa ob x y z j = true) (h2 : hit oa ob x y z n = false) (hr : hit oa ob x y z (runN oa ob x y z) = false) : runN oa ob x y z = n := by
  obtain ⟨r1, r2, r3⟩ := runN_spec oa ob x y z
  rcases Nat.lt_trichotomy (runN oa ob x y z) n with hlt | he | hlt
  · rw [h1 _ hlt] at hr; cases hr
  · exact he
  · have := r2 n hlt
    simp [hit, this] at h2
theorem hit_comm (oa ob : List (Int × Int)) (x y z : Int) (n : Nat) : hit ob oa x z y n = hit oa ob x y z n := Bool.and_comm _ _
theorem runN_comm {oa ob : List (Int × Int)} {o a b : Int} (ha : rRight oa o a = true) (hb : rRight ob o b = true) (x y z : Int) : runN ob oa x z y = runN oa ob x y z := by
  refine runN_uniq (fun j hj => ?_) ?_ (runN_miss hb _ _ _)
  · rw [hit_comm]
    have := (runN_spec oa ob x y z).2.1 j hj
    simp [hit, this]
  · rw [hit_comm]; exact runN_miss ha _ _ _
theorem minOpt_congr {l l' : List Int} (h : ∀ x, x ∈ l ↔ x ∈ l') : minOpt l = minOpt l' := by
  cases h1 : minOpt l with
  | none =>
    rw [minOpt_none h1] at h
    cases l' with
    | nil => rfl
    | cons y l' => exact absurd ((h y).2 (List.mem_cons_self ..)) (by simp)
  | some m =>
    obtain ⟨hm, hle⟩ := minOpt_spec h1
    cases h2 : minOpt l' with
    | none => rw [minOpt_none h2] at h; exact absurd ((h m).1 hm) (by simp)
    | some m' =>
      obtain ⟨hm', hle'⟩ := minOpt_spec h2
      have e1 := hle m' ((h m').2 hm')
      have e2 := hle' m ((h m).1 hm)
      congr 1
      omega
theorem cand_iff {oa ob : List (Int × Int)} {o a b x : Int} : x ∈ cand oa ob o a b ↔ ∃ u v, toI oa x = some u ∧ toI ob x = some v ∧ o ≤ x ∧ a ≤ u ∧ b ≤ v := by
  refine ⟨cand_mem, ?_⟩
  rintro ⟨u, v, hu, hv, h1, h2, h3⟩
  refine List.mem_filter.2 ⟨?_, ?_⟩
  · obtain ⟨k, hk, e1, _⟩ := toI_mem hu
    refine List.mem_map.2 ⟨oa.getD k default, ?_, e1⟩
    simp [List.getD, hk]
  · simp [okP, hu, hv, h1, h2, h3]
theorem nextO_comm (oa ob : List (Int × Int)) (x y z : Int) : nextO ob oa x z y = nextO oa ob x y z := by
  refine minOpt_congr fun u => ?_
  rw [cand_iff, cand_iff]
  constructor
  · rintro ⟨v, w, h1, h2, h3, h4, h5⟩; exact ⟨w, v, h2, h1, h3, h5, h4⟩
  · rintro ⟨v, w, h1, h2, h3, h4, h5⟩; exact ⟨w, v, h2, h1, h3, h5, h4⟩
def swapC (c : Ck) : Ck := ⟨c.s, c.o, c.on, c.b, c.bn, c.a, c.an⟩
theorem stepC_comm {oa ob : List (Int × Int)} {o a b : Int} (ha : rRight oa o a = true) (hb : rRight ob o b = true) (x y z : Int) : stepC ob oa o b a x z y = swapC (stepC oa ob o a b x y z) := by
  unfold stepC
  rw [runN_comm ha hb, nextO_comm]
  split
  · rfl
  · cases nextO oa ob x y z <;> rfl
theorem chunksF_comm {oa ob : List (Int × Int)} {o a b : Int} (ha : rRight oa o a = true) (hb : rRight ob o b = true) : ∀ (f : Nat) (x y z : Int), chunksF ob oa o b a f x z y = (chunksF oa ob o a b f x y z).map swapC
  | 0, x, y, z => rfl
  | f + 1, x, y, z => by
    unfold chunksF
    rw [stepC_comm ha hb]
    by_cases h : x < o ∨ y < a ∨ z < b
    · rw [if_pos h, if_pos (by omega), List.map_cons]
      congr 1
      exact chunksF_comm ha hb f _ _ _
    · rw [if_neg h, if_neg (by omega)]; rfl
theorem okOf_comm (oa ob : List (Int × Int)) (o a b : Int) : okOf ob oa o b a = okOf oa ob o a b := by
  rw [Bool.eq_iff_iff]
  simp only [okOf, Bool.and_eq_true, decide_eq_true_eq]
  constructor <;> (rintro ⟨⟨⟨⟨⟨⟨⟨h1, h2⟩, h3⟩, h4⟩, h5⟩, h6⟩, h7⟩, h8⟩; exact ⟨⟨⟨⟨⟨⟨⟨h1, h2⟩, h5⟩, h6⟩, h3⟩, h4⟩, h8⟩, h7⟩)
theorem ofL_comm (oa ob : List (Int × Int)) (o a b : Int) : ofL oa ob o a b = (ofL ob oa o b a).map swapC := by
  unfold ofL
  rw [okOf_comm]
  split
  · rename_i h
    simp only [okOf, Bool.and_eq_true, decide_eq_true_eq] at h
    unfold chunks
    rw [show meas o b a 0 0 0 = meas o a b 0 0 0 by unfold meas; congr 1; omega]
    first | exact chunksF_comm h.1.2 h.2 _ _ _ _ | exact chunksF_comm h.2 h.1.2 _ _ _ _
  · rfl
theorem ofE_comm (oa ob : List (Int × Int)) (o a b : Int) : ofE ob oa o b a = ofE oa ob o a b := by unfold ofE; rw [okOf_comm]

/-! ### All of the three texts -/
theorem chunksF_right {oa ob : List (Int × Int)} {o a b : Int} (ha : rRight oa o a = true) (hb : rRight ob o b = true) (ho : o ≤ 400) (hao : a ≤ 400) (hbo : b ≤ 400) : ∀ (f : Nat) (x y z : Int), inB o a b x y z → meas o a b x y z ≤ f → rightC o a b (chunksF oa ob o a b f x y z) x y z = true
  | 0, x, y, z, h, hf => by
    unfold chunksF rightC
    unfold inB at h
    unfold meas at hf
    simp only [Bool.and_eq_true, beq_iff_eq]
    omega
  | f + 1, x, y, z, h, hf => by
    unfold chunksF
    by_cases hc : x < o ∨ y < a ∨ z < b
    · rw [if_pos hc]
      obtain ⟨e1, e2, e3, h1, h2, h3, h4, h5⟩ := stepC_ok ha hb h hc
      have hin := h
      have hin5 := h5
      unfold inB at hin hin5
      unfold rightC
      rw [wrap64_id (n := x + (stepC oa ob o a b x y z).on) (by omega) (by omega), wrap64_id (n := y + (stepC oa ob o a b x y z).an) (by omega) (by omega), wrap64_id (n := z + (stepC oa ob o a b x y z).bn) (by omega) (by omega)]
      rw [chunksF_right ha hb ho hao hbo f _ _ _ h5 (by unfold meas at *; omega), Bool.and_true, decide_eq_true_eq]
      unfold okC
      rw [wrap64_id (n := o - x) (by omega) (by omega), wrap64_id (n := a - y) (by omega) (by omega), wrap64_id (n := b - z) (by omega) (by omega)]
      refine ⟨e1, e2, e3, h1, h2, h3, by omega, ?_, by omega, by omega, by omega⟩
      unfold stepC
      split
      · intro _; exact ⟨rfl, rfl⟩
      · split <;> (intro hh; cases hh)
    · rw [if_neg hc]
      unfold rightC
      unfold inB at h
      simp only [Bool.and_eq_true, beq_iff_eq]
      omega
theorem ofL_right {oa ob : List (Int × Int)} {o a b : Int} (h : okOf oa ob o a b = true) : rightC o a b (ofL oa ob o a b) 0 0 0 = true := by
  unfold ofL
  rw [h, if_pos rfl]
  simp only [okOf, Bool.and_eq_true, decide_eq_true_eq] at h
  obtain ⟨⟨⟨⟨⟨⟨⟨b1, b2⟩, b3⟩, b4⟩, b5⟩, b6⟩, hra⟩, hrb⟩ := h
  exact chunksF_right hra hrb b2 b4 b6 _ 0 0 0 (by unfold inB; omega) (Nat.le_refl _)
/-- Lines of a stable chunk are matched one by one. -/
theorem chunksF_stable {oa ob : List (Int × Int)} {o a b : Int} : ∀ (f : Nat) (x y z : Int) (c : Ck), c ∈ chunksF oa ob o a b f x y z → c.s = true → ∀ k : Nat, (k : Int) < c.on → toI oa (c.o + k) = some (c.a + k) ∧ toI ob (c.o + k) = some (c.b + k)
  | 0, x, y, z, c, h => by simp [chunksF] at h
  | f + 1, x, y, z, c, h => by
    unfold chunksF at h
    split at h
    · rcases List.mem_cons.1 h with rfl | h
      · intro hs k hk
        unfold stepC at hs hk ⊢
        split at hs
        · rename_i hn
          rw [if_pos hn] at hk ⊢
          exact (runN_spec oa ob x y z).2.1 k (by simp only at hk; omega)
        · split at hs <;> cases hs
      · exact chunksF_stable f _ _ _ c h
    · simp at h
def altC : List Ck → Prop
  | c :: d :: l => d.s ≠ c.s ∧ altC (d :: l)
  | _ => True
theorem altC_get : ∀ (l : List Ck), altC l → ∀ i, i + 1 < l.length → (l.getD (i + 1) default).s ≠ (l.getD i default).s
  | [], _, i, h => by simp at h
  | [c], _, i, h => by simp at h
  | c :: d :: l, h, 0, _ => by simpa using h.1
  | c :: d :: l, h, i + 1, hl => by
    have := altC_get (d :: l) h.2 i (by simpa using hl)
    simpa using this
theorem stepC_s (oa ob : List (Int × Int)) (o a b x y z : Int) : (stepC oa ob o a b x y z).s = decide (0 < runN oa ob x y z) := by
  unfold stepC
  split
  · rename_i h; simp [h]
  · rename_i h
    rw [decide_eq_false h]
    split <;> rfl
theorem runN_pos {oa ob : List (Int × Int)} {n m : Int} (h : rRight oa n m = true) {x y z : Int} (h0 : hit oa ob x y z 0 = true) : 0 < runN oa ob x y z := by
  rcases Nat.eq_zero_or_pos (runN oa ob x y z) with h1 | h1
  · have := runN_miss (ob := ob) h x y z
    rw [h1, h0] at this; cases this
  · exact h1
theorem chunksF_alt {oa ob : List (Int × Int)} {o a b : Int} (ha : rRight oa o a = true) (hb : rRight ob o b = true) : ∀ (f : Nat) (x y z : Int), inB o a b x y z → altC (chunksF oa ob o a b f x y z)
  | 0, x, y, z, _ => trivial
  | f + 1, x, y, z, h => by
    unfold chunksF
    by_cases hc : x < o ∨ y < a ∨ z < b
    · rw [if_pos hc]
      obtain ⟨e1, e2, e3, h1, h2, h3, h4, h5⟩ := stepC_ok ha hb h hc
      have ih := chunksF_alt ha hb f _ _ _ h5
      cases f with
      | zero => trivial
      | succ f =>
        unfold chunksF at ih ⊢
        by_cases hc2 : x + (stepC oa ob o a b x y z).on < o ∨ y + (stepC oa ob o a b x y z).an < a ∨ z + (stepC oa ob o a b x y z).bn < b
        · rw [if_pos hc2] at ih ⊢
          refine ⟨?_, ih⟩
          rw [stepC_s, stepC_s]
          by_cases hn : 0 < runN oa ob x y z
          · -- behind a run
            have hm := runN_miss (ob := ob) ha x y z
            have hs : stepC oa ob o a b x y z = ⟨true, x, runN oa ob x y z, y, runN oa ob x y z, z, runN oa ob x y z⟩ := by unfold stepC; rw [if_pos hn]
            rw [hs]
            simp only
            have h0 : runN oa ob (x + runN oa ob x y z) (y + runN oa ob x y z) (z + runN oa ob x y z) = 0 := by
              refine runN_uniq (fun j hj => by omega) ?_ (runN_miss ha _ _ _)
              simpa [hit] using hm
            rw [h0, decide_eq_true hn]
            simp
          · rw [decide_eq_false hn]
            cases hx : nextO oa ob x y z with
            | none =>
              have hs : stepC oa ob o a b x y z = ⟨false, x, o - x, y, a - y, z, b - z⟩ := by unfold stepC; rw [if_neg hn, hx]
              rw [hs] at hc2
              simp only at hc2
              omega
            | some u =>
              obtain ⟨v, w, hv, hw, g1, g2, g3⟩ := cand_mem (minOpt_spec hx).1
              have hs : stepC oa ob o a b x y z = ⟨false, x, u - x, y, v - y, z, w - z⟩ := by unfold stepC; rw [if_neg hn, hx]; simp [hv, hw]
              rw [hs]
              simp only
              have : 0 < runN oa ob (x + (u - x)) (y + (v - y)) (z + (w - z)) := runN_pos ha (by
                rw [show x + (u - x) = u by omega, show y + (v - y) = v by omega, show z + (w - z) = w by omega]
                simp [hit, hv, hw])
              rw [decide_eq_true this]
              simp
        · rw [if_neg hc2]; trivial
    · rw [if_neg hc]; trivial
theorem ofL_alt (oa ob : List (Int × Int)) (o a b : Int) : altC (ofL oa ob o a b) := by
  unfold ofL
  split
  · rename_i h
    simp only [okOf, Bool.and_eq_true, decide_eq_true_eq] at h
    exact chunksF_alt h.1.2 h.2 _ _ _ _ (by unfold inB; omega)
  · trivial
theorem ofL_stable {oa ob : List (Int × Int)} {o a b : Int} {c : Ck} (h : c ∈ ofL oa ob o a b) (hs : c.s = true) (k : Nat) (hk : (k : Int) < c.on) : toI oa (c.o + k) = some (c.a + k) ∧ toI ob (c.o + k) = some (c.b + k) := by
  unfold ofL at h
  split at h
  · exact chunksF_stable _ _ _ _ c h hs k hk
  · simp at h
theorem chunksF_bound {oa ob : List (Int × Int)} {o a b : Int} (ha : rRight oa o a = true) (hb : rRight ob o b = true) : ∀ (f : Nat) (x y z : Int), inB o a b x y z → ∀ c ∈ chunksF oa ob o a b f x y z, 0 ≤ c.o ∧ 0 ≤ c.on ∧ c.o + c.on ≤ o ∧ 0 ≤ c.a ∧ 0 ≤ c.an ∧ c.a + c.an ≤ a ∧ 0 ≤ c.b ∧ 0 ≤ c.bn ∧ c.b + c.bn ≤ b
  | 0, x, y, z, _, c, h => by simp [chunksF] at h
  | f + 1, x, y, z, hin, c, h => by
    unfold chunksF at h
    split at h
    · rename_i hc
      obtain ⟨e1, e2, e3, h1, h2, h3, h4, h5⟩ := stepC_ok ha hb hin hc
      rcases List.mem_cons.1 h with rfl | h
      · unfold inB at hin h5
        omega
      · exact chunksF_bound ha hb f _ _ _ h5 c h
    · simp at h
theorem ofL_bound {oa ob : List (Int × Int)} {o a b : Int} {c : Ck} (h : c ∈ ofL oa ob o a b) : 0 ≤ c.o ∧ 0 ≤ c.on ∧ c.o + c.on ≤ o ∧ 0 ≤ c.a ∧ 0 ≤ c.an ∧ c.a + c.an ≤ a ∧ 0 ≤ c.b ∧ 0 ≤ c.bn ∧ c.b + c.bn ≤ b ∧ o ≤ 400 ∧ a ≤ 400 ∧ b ≤ 400 := by
  unfold ofL at h
  split at h
  · rename_i hk
    simp only [okOf, Bool.and_eq_true, decide_eq_true_eq] at hk
    have := chunksF_bound hk.1.2 hk.2 _ _ _ _ (by unfold inB; omega) c h
    omega
  · simp at h
end Go.Proofs.Ytjcdmdejhbmoeaa
