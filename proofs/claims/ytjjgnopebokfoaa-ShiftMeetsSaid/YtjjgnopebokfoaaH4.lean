/- Two patches that do not touch, one done behind the other: the same text. -/
import Derived.Test.YtjjgnopebokfoaaF15
import Derived.Test.YtjjgnopebokfoaaH1
namespace Go.Proofs.Ytjjgnopebokfoaa
open Go.PL
set_option linter.unusedSimpArgs false
set_option linter.unusedVariables false
/-! ### Two patches that do not touch -/
theorem segL_app {X : List Ln} {i j k : Int} (hi : 0 ≤ i) (h1 : i ≤ j) (h2 : j ≤ k) : segL X i k = segL X i j ++ segL X j k := by
  have e1 : segL X i j = ((X.take k.toNat).drop i.toNat).take (j.toNat - i.toNat) := by
    unfold segL
    rw [show X.take j.toNat = (X.take k.toNat).take j.toNat by rw [List.take_take, Nat.min_eq_left (by omega)], List.drop_take]
  have e2 : segL X j k = ((X.take k.toNat).drop i.toNat).drop (j.toNat - i.toNat) := by
    unfold segL
    rw [List.drop_drop]
    congr 1
    omega
  rw [e1, e2, List.take_append_drop]
  rfl
theorem segL_self (X : List Ln) (i : Int) : segL X i i = [] := by
  unfold segL
  exact List.drop_eq_nil_of_le (by rw [List.length_take]; omega)
/-- A stretch behind what stands ahead. -/
theorem segL_right {O T : List Ln} {i j : Int} (hi : (O.length : Int) ≤ i) (hj : i ≤ j) : segL (O ++ T) i j = segL T (i - O.length) (j - O.length) := by
  unfold segL
  rw [List.take_append, List.drop_append, List.drop_eq_nil_of_le (by rw [List.length_take]; omega), List.nil_append, List.length_take]
  congr 1
  · omega
  · congr 1; omega
theorem segL_left {S T : List Ln} {j : Int} (h0 : 0 ≤ j) (hj : j ≤ S.length) : segL (S ++ T) 0 j = S.take j.toNat := by
  unfold segL
  rw [Int.toNat_zero, List.drop_zero, List.take_append_of_le_length (by omega)]
theorem tailA_from {a : List Ln} {last at_ e : Int} {l : List Sb} (hl : okF a.length last l = true) (h0 : 0 ≤ at_) (h1 : at_ ≤ e) (h2 : e ≤ last + 1) (h3 : e ≤ a.length) : tailA a at_ l = segL a at_ e ++ tailA a e l := by
  cases l with
  | nil =>
    simp only [tailA, segL]
    rw [List.drop_take, show a.drop e.toNat = (a.drop at_.toNat).drop (e.toNat - at_.toNat) by rw [List.drop_drop]; congr 1; omega, List.take_append_drop]
  | cons s m =>
    obtain ⟨g1, g2, g3, g4⟩ := okF_at hl
    simp only [tailA]
    rw [segL_app h0 h1 (show e ≤ s.at_ by omega), List.append_assoc, List.append_assoc, List.append_assoc]
def tailM (a : List Ln) (at_ : Int) (p q : List Sb) : List Ln :=
  match p, q with
  | [], q => tailA a at_ q
  | s :: p, [] => tailA a at_ (s :: p)
  | s :: p, y :: q => if endS s < y.at_ then segL a at_ s.at_ ++ s.in_ ++ tailM a (endS s) p (y :: q) else segL a at_ y.at_ ++ y.in_ ++ tailM a (endS y) (s :: p) q
termination_by p.length + q.length
theorem tailM_comm {a : List Ln} : ∀ (n : Nat) (at_ : Int) (p q : List Sb), p.length + q.length ≤ n → (∀ x ∈ p, ∀ y ∈ q, endS x < y.at_ ∨ endS y < x.at_) → tailM a at_ p q = tailM a at_ q p := by
  intro n
  induction n with
  | zero =>
    intro at_ p q h _
    have hp : p = [] := List.eq_nil_of_length_eq_zero (by omega)
    have hq : q = [] := List.eq_nil_of_length_eq_zero (by omega)
    rw [hp, hq]
  | succ n ih =>
    intro at_ p q h hn
    cases p with
    | nil => cases q <;> simp [tailM]
    | cons s p =>
      cases q with
      | nil => simp [tailM]
      | cons y q =>
        have h1 : s.at_ ≤ endS s := by unfold endS; omega
        have h2 : y.at_ ≤ endS y := by unfold endS; omega
        simp only [List.length_cons] at h
        have hsy := hn s (List.mem_cons_self ..) y (List.mem_cons_self ..)
        rw [tailM, tailM]
        by_cases hs : endS s < y.at_
        · rw [if_pos hs, if_neg (by omega), ih _ _ _ (by simp only [List.length_cons]; omega) (fun x hx z hz => hn x (List.mem_cons_of_mem _ hx) z hz)]
        · rw [if_neg hs, if_pos (by omega), ih _ _ _ (by simp only [List.length_cons]; omega) (fun x hx z hz => hn x hx z (List.mem_cons_of_mem _ hz))]
theorem okF_less {n last last' : Int} {l : List Sb} (h : okF n last l = true) (hl : last' ≤ last) : okF n last' l = true := by
  cases l with
  | nil => rfl
  | cons s m =>
    simp only [okF, stF, Bool.and_eq_true, decide_eq_true_eq] at h ⊢
    exact ⟨⟨⟨h.1.1.1, by omega⟩, h.1.2⟩, h.2⟩
theorem okF_all {n last : Int} : ∀ {l : List Sb}, okF n last l = true → ∀ x ∈ l, last < x.at_
  | [], _, x, hx => by cases hx
  | s :: l, h, x, hx => by
    obtain ⟨h1, h2, h3, h4⟩ := okF_at h
    rcases List.mem_cons.1 hx with rfl | hx
    · exact h1
    · have := okF_all h4 x hx
      omega
def shiftBy (g : Int) (p : List Sb) (y : Sb) : Sb := ⟨y.at_ + g + aheadL y.at_ p, y.out, y.in_⟩
theorem meets_main {a : List Ln} : ∀ (n : Nat) (p q : List Sb) (O : List Ln) (at_ g lp lq : Int), p.length + q.length ≤ n → okF a.length lp p = true → okF a.length lq q = true → at_ ≤ lp + 1 → at_ ≤ lq + 1 → 0 ≤ at_ → at_ ≤ a.length →
    (O.length : Int) = at_ + g → (∀ x ∈ p, ∀ y ∈ q, endS x < y.at_ ∨ endS y < x.at_) → fitsL a q = true →
    fitsL (O ++ tailA a at_ p) (q.map (shiftBy g p)) = true ∧ okF (O ++ tailA a at_ p).length (at_ + g - 1) (q.map (shiftBy g p)) = true ∧ tailA (O ++ tailA a at_ p) (at_ + g) (q.map (shiftBy g p)) = tailM a at_ p q := by
  intro n
  induction n with
  | zero =>
    intro p q O at_ g lp lq h _ _ _ _ h0 hn hO _ _
    have hp : p = [] := List.eq_nil_of_length_eq_zero (by omega)
    have hq : q = [] := List.eq_nil_of_length_eq_zero (by omega)
    subst hp
    subst hq
    refine ⟨rfl, rfl, ?_⟩
    simp only [List.map_nil, tailA, tailM]
    rw [List.drop_left' (by omega)]
  | succ n ih =>
    intro p q O at_ g lp lq h hp hq hlp hlq h0 hn hO hno hfit
    cases q with
    | nil =>
      refine ⟨rfl, rfl, ?_⟩
      have : tailM a at_ p [] = tailA a at_ p := by cases p <;> simp [tailM, tailA]
      rw [this]
      simp only [List.map_nil, tailA]
      rw [List.drop_left' (by omega)]
    | cons y q =>
      obtain ⟨y1, y2, y3, y4⟩ := okF_at hq
      have hfy : y.out = segL a y.at_ (endS y) ∧ fitsL a q = true := by
        unfold fitsL at hfit ⊢
        rw [List.all_cons, Bool.and_eq_true, decide_eq_true_eq] at hfit
        exact hfit
      -- y comes first
      have first : aheadL y.at_ p = 0 → okF a.length (endS y) p = true → tailM a at_ p (y :: q) = segL a at_ y.at_ ++ y.in_ ++ tailM a (endS y) p q →
          fitsL (O ++ tailA a at_ p) ((y :: q).map (shiftBy g p)) = true ∧ okF (O ++ tailA a at_ p).length (at_ + g - 1) ((y :: q).map (shiftBy g p)) = true ∧ tailA (O ++ tailA a at_ p) (at_ + g) ((y :: q).map (shiftBy g p)) = tailM a at_ p (y :: q) := by
        intro hz hp' hM
        have hX : tailA a at_ p = segL a at_ (endS y) ++ tailA a (endS y) p := tailA_from hp' h0 (by omega) (by omega) y3
        have hsl : (segL a at_ (endS y)).length = (endS y - at_).toNat := segL_length h0 (by omega) y3
        have hX2 : O ++ tailA a at_ p = (O ++ segL a at_ (endS y)) ++ tailA a (endS y) p := by rw [hX, List.append_assoc]
        have ih1 := ih p q (O ++ segL a at_ (endS y)) (endS y) g (endS y) (endS y) (by simp only [List.length_cons] at h; omega) hp' y4 (by omega) (by omega) (by omega) y3 (by rw [List.length_append, hsl]; omega)
          (fun x hx z hz => hno x hx z (List.mem_cons_of_mem _ hz)) hfy.2
        rw [← hX2] at ih1
        have hXl : (O ++ tailA a at_ p).length = O.length + (endS y - at_).toNat + (tailA a (endS y) p).length := by rw [hX2, List.length_append, List.length_append, hsl]
        -- stretches of X up to y's end are the text's
        have hseg : ∀ i j : Int, at_ ≤ i → i ≤ j → j ≤ endS y → segL (O ++ tailA a at_ p) (i + g) (j + g) = segL a i j := by
          intro i j hi hij hj
          rw [segL_right (by omega) (by omega), hX]
          have e1 : i + g - (O.length : Int) = i - at_ := by omega
          have e2 : j + g - (O.length : Int) = j - at_ := by omega
          rw [e1, e2]
          unfold segL
          rw [List.take_append_of_le_length (by rw [List.length_drop, List.length_take]; omega), List.take_drop, List.take_take, List.drop_drop]
          rw [show min (at_.toNat + (j - at_).toNat) (endS y).toNat = j.toNat by omega, show at_.toNat + (i - at_).toNat = i.toNat by omega]
        have hend : endS (shiftBy g p y) = endS y + g := by
          unfold shiftBy endS
          simp only [hz]
          omega
        have hat : (shiftBy g p y).at_ = y.at_ + g := by unfold shiftBy; simp only [hz]; omega
        refine ⟨?_, ?_, ?_⟩
        · unfold fitsL at ih1 ⊢
          rw [List.map_cons, List.all_cons, Bool.and_eq_true, decide_eq_true_eq]
          refine ⟨?_, ih1.1⟩
          rw [hend, hat, hseg _ _ (by omega) y2 (Int.le_refl _)]
          exact hfy.1
        · rw [List.map_cons, okF, Bool.and_eq_true]
          refine ⟨?_, ?_⟩
          · simp only [okF, stF, Bool.and_eq_true, decide_eq_true_eq] at hq ⊢
            refine ⟨⟨hq.1.1.1, by omega⟩, ?_⟩
            have : (shiftBy g p y).at_ + ((shiftBy g p y).out.length : Int) = endS y + g := hend
            rw [this, hXl]
            push_cast
            omega
          · rw [show (shiftBy g p y).at_ + ((shiftBy g p y).out.length : Int) = endS y + g from hend]
            -- what comes next stands behind y's end
            cases hqq : q with
            | nil => rfl
            | cons z q' =>
              rw [hqq] at ih1 y4
              obtain ⟨z1, z2, z3, z4⟩ := okF_at y4
              have h2 := ih1.2.1
              rw [List.map_cons] at h2 ⊢
              simp only [okF, stF, Bool.and_eq_true, decide_eq_true_eq] at h2 ⊢
              refine ⟨⟨⟨h2.1.1.1, ?_⟩, h2.1.2⟩, h2.2⟩
              have := ahead_up hp' z1
              unfold shiftBy
              simp only
              omega
        · rw [List.map_cons, tailA, hat, hend, ih1.2.2, hM, hseg _ _ (Int.le_refl _) (by omega) (by omega)]
          rfl
      cases p with
      | nil => exact first rfl rfl (by cases q <;> simp [tailM, tailA])
      | cons s p =>
        obtain ⟨s1, s2, s3, s4⟩ := okF_at hp
        by_cases hs : endS s < y.at_
        · -- s comes first
          have hahead : ∀ z ∈ y :: q, shiftBy g (s :: p) z = shiftBy (g + grow1 s) p z := by
            intro z hz
            have hyz : y.at_ ≤ z.at_ := by
              rcases List.mem_cons.1 hz with rfl | hz
              · exact Int.le_refl _
              · have := okF_all y4 z hz; omega
            unfold shiftBy
            rw [aheadL, if_pos (by omega)]
            congr 1
            omega
          have hmap : (y :: q).map (shiftBy g (s :: p)) = (y :: q).map (shiftBy (g + grow1 s) p) := List.map_congr_left hahead
          have hsl : (segL a at_ s.at_).length = (s.at_ - at_).toNat := segL_length h0 (by omega) (by omega)
          have hX2 : O ++ tailA a at_ (s :: p) = (O ++ (segL a at_ s.at_ ++ s.in_)) ++ tailA a (endS s) p := by simp [tailA, List.append_assoc]
          have hg : endS s + (g + grow1 s) = s.at_ + g + s.in_.length := by unfold endS grow1; omega
          have ih1 := ih p (y :: q) (O ++ (segL a at_ s.at_ ++ s.in_)) (endS s) (g + grow1 s) (endS s) (endS s) (by simp only [List.length_cons] at h ⊢; omega) s4 (by
              simp only [okF, stF, Bool.and_eq_true, decide_eq_true_eq] at hq ⊢
              exact ⟨⟨⟨hq.1.1.1, hs⟩, hq.1.2⟩, hq.2⟩) (by omega) (by omega) (by omega) s3 (by rw [List.length_append, List.length_append, hsl, hg]; omega)
            (fun x hx z hz => hno x (List.mem_cons_of_mem _ hx) z hz) hfit
          rw [← hX2, ← hmap] at ih1
          refine ⟨ih1.1, okF_less ih1.2.1 (by rw [hg]; omega), ?_⟩
          rw [tailM, if_pos hs, ← ih1.2.2, hg]
          have hpre : segL (O ++ tailA a at_ (s :: p)) (at_ + g) (s.at_ + g + s.in_.length) = segL a at_ s.at_ ++ s.in_ := by
            rw [segL_right (by omega) (by omega), show at_ + g - (O.length : Int) = 0 by omega]
            have e : tailA a at_ (s :: p) = (segL a at_ s.at_ ++ s.in_) ++ tailA a (endS s) p := by simp [tailA, List.append_assoc]
            rw [e, segL_left (by omega) (by rw [List.length_append, hsl]; omega), List.take_of_length_le (by rw [List.length_append, hsl]; omega)]
          have h2 := ih1.2.1
          rw [List.map_cons] at h2 ⊢
          obtain ⟨w1, w2, w3, w4⟩ := okF_at h2
          generalize O ++ tailA a at_ (s :: p) = X at hpre ⊢
          rw [tailA, tailA, segL_app (by omega) (show at_ + g ≤ s.at_ + g + s.in_.length by omega) (show s.at_ + g + s.in_.length ≤ (shiftBy g (s :: p) y).at_ by omega), hpre]
          simp only [List.append_assoc]
        · have hys : endS y < s.at_ := (hno s (List.mem_cons_self ..) y (List.mem_cons_self ..)).resolve_left hs
          have hok : okF a.length (endS y) (s :: p) = true := by
            simp only [okF, stF, Bool.and_eq_true, decide_eq_true_eq] at hp ⊢
            exact ⟨⟨⟨hp.1.1.1, hys⟩, hp.1.2⟩, hp.2⟩
          exact first (ahead_none hok y2) hok (by rw [tailM, if_neg hs])
theorem behL_shift (p q : List Sb) : behL p q = q.map (shiftBy 0 p) := by
  rw [behL_eq]
  refine List.map_congr_left (fun y _ => ?_)
  simp [shiftBy]
theorem sumO_beh (p : List Sb) : ∀ q : List Sb, sumO (q.map (shiftBy 0 p)) = sumO q
  | [] => rfl
  | y :: q => by rw [List.map_cons, sumO, sumO, sumO_beh p q]; rfl
theorem sumI_beh (p : List Sb) : ∀ q : List Sb, sumI (q.map (shiftBy 0 p)) = sumI q
  | [] => rfl
  | y :: q => by rw [List.map_cons, sumI, sumI, sumI_beh p q]; rfl
theorem apE_ok {l : List Sb} {a : List Ln} (h : apE l a = 0) : chk l a.length = 0 ∧ fitsL a l = true ∧ apR l a = tailA a 0 l := by
  have h0 : chk l a.length = 0 := by
    unfold apE at h
    split at h
    · exact h
    · rename_i hh; exact Classical.not_not.1 hh
  refine ⟨h0, ?_, by unfold apR; rw [if_neg (by rw [h]; decide)]⟩
  unfold apE at h
  rw [if_neg (by rw [h0]; decide)] at h
  split at h
  · assumption
  · cases h
theorem meets_one {a : List Ln} {p q : List Sb} (hp : apE p a = 0) (hq : apE q a = 0) (ht : touchL p q = false) (hx : (apR p a).length ≤ 300) : apE (behL p q) (apR p a) = 0 ∧ apR (behL p q) (apR p a) = tailM a 0 p q := by
  obtain ⟨p1, p2, p3⟩ := apE_ok hp
  obtain ⟨q1, q2, q3⟩ := apE_ok hq
  obtain ⟨_, _, p4⟩ := chk_ok p1
  obtain ⟨⟨c1, c2, c3⟩, _, q4⟩ := chk_ok q1
  obtain ⟨m1, m2, m3⟩ := meets_main (p.length + q.length) p q [] 0 0 (-1) (-1) (Nat.le_refl _) p4 q4 (by omega) (by omega) (by omega) (by omega) rfl (fun x hx y hy => not_touch ht hx hy) q2
  rw [List.nil_append, ← behL_shift] at m1 m2 m3
  rw [p3] at hx ⊢
  have hc : chk (behL p q) (tailA a 0 p).length = 0 := by
    unfold chk
    rw [if_neg, if_neg (by omega), if_pos (show okF ((tailA a 0 p).length : Int) (-1) (behL p q) = true from m2)]
    rw [behL_shift, sumO_beh, sumI_beh, List.length_map]
    omega
  have hE : apE (behL p q) (tailA a 0 p) = 0 := by unfold apE; rw [if_neg (by rw [hc]; decide), m1]; rfl
  refine ⟨hE, ?_⟩
  unfold apR
  rw [if_neg (by rw [hE]; decide)]
  exact m3
theorem meets_law {a : List Ln} {p q : List Sb} (hp : apE p a = 0) (hq : apE q a = 0) (hE : behE p q = 0) (hx : (apR p a).length ≤ 300) (hy : (apR q a).length ≤ 300) :
    apE (behR p q) (apR p a) = 0 ∧ apE (behR q p) (apR q a) = 0 ∧ apR (behR q p) (apR q a) = apR (behR p q) (apR p a) := by
  have p1 := (apE_ok hp).1
  have q1 := (apE_ok hq).1
  have e1 := behE_ok p1 q1
  have ht : touchL p q = false := by
    cases h : touchL p q
    · rfl
    · rw [h] at e1; rw [e1] at hE; cases hE
  have e2 : behE q p = 0 := by rw [behE_ok q1 p1, touchL_comm, ht]; rfl
  have r1 : behR p q = behL p q := by unfold behR; rw [if_neg (by rw [hE]; decide)]
  have r2 : behR q p = behL q p := by unfold behR; rw [if_neg (by rw [e2]; decide)]
  rw [r1, r2]
  obtain ⟨a1, a2⟩ := meets_one hp hq ht hx
  obtain ⟨b1, b2⟩ := meets_one hq hp (by rw [touchL_comm]; exact ht) hy
  refine ⟨a1, b1, ?_⟩
  rw [a2, b2]
  exact tailM_comm (q.length + p.length) 0 q p (Nat.le_refl _) (fun x hx y hy => (not_touch ht hy hx).symm)
end Go.Proofs.Ytjjgnopebokfoaa
