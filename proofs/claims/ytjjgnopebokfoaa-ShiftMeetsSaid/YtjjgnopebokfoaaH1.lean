/- Back of Behind: both as they were. -/
import Derived.Test.YtjjgnopebokfoaaF12
namespace Go.Proofs.Ytjjgnopebokfoaa
open Go.PL
set_option linter.unusedSimpArgs false
set_option linter.unusedVariables false
/-! ### Back of Behind -/
def invG (g : Int) : List Sb → List Sb
  | [] => []
  | s :: l => ⟨s.at_ + g, s.in_, s.out⟩ :: invG (g + grow1 s) l
theorem okF_cons {n last : Int} {s : Sb} {l : List Sb} (h : okF n last (s :: l) = true) : last < s.at_ ∧ okF n (endS s) l = true := by
  simp only [okF, stF, Bool.and_eq_true, decide_eq_true_eq] at h
  exact ⟨h.1.1.2, h.2⟩
/-- Nothing ahead where all stand behind. -/
theorem ahead_none {n a : Int} : ∀ {last : Int} {l : List Sb}, okF n last l = true → a ≤ last → aheadL a l = 0
  | _, [], _, _ => rfl
  | last, s :: l, h, ha => by
    obtain ⟨h1, h2⟩ := okF_cons h
    have he : s.at_ ≤ endS s := by unfold endS; omega
    rw [aheadL, if_neg (by omega), ahead_none h2 (by omega)]
    rfl
theorem ahead_up {n a : Int} : ∀ {last : Int} {l : List Sb}, okF n last l = true → last < a → last < a + aheadL a l
  | _, [], _, ha => by simp [aheadL, ha]
  | last, s :: l, h, ha => by
    obtain ⟨h1, h2⟩ := okF_cons h
    rw [aheadL]
    by_cases hs : endS s < a
    · rw [if_pos hs]
      have := ahead_up h2 hs
      unfold grow1
      unfold endS at this
      omega
    · rw [if_neg hs, ahead_none h2 (by omega)]
      omega
theorem inv_after {n : Int} : ∀ {e g : Int} {l : List Sb}, okF n e l = true → ∀ x ∈ invG g l, e + g < x.at_
  | _, _, [], _, x, hx => by cases hx
  | e, g, s :: l, h, x, hx => by
    obtain ⟨h1, h2⟩ := okF_cons h
    rcases List.mem_cons.1 hx with rfl | hx
    · simp only; omega
    · have := inv_after h2 x hx
      unfold endS grow1 at this
      omega
theorem ahead_zero {a : Int} : ∀ {l : List Sb}, (∀ x ∈ l, a ≤ x.at_) → aheadL a l = 0
  | [], _ => rfl
  | s :: l, h => by
    have h1 := h s (List.mem_cons_self ..)
    have he : s.at_ ≤ endS s := by unfold endS; omega
    rw [aheadL, if_neg (by omega), ahead_zero (fun x hx => h x (List.mem_cons_of_mem _ hx))]
    rfl
theorem back_one {n : Int} (y : Sb) : ∀ {last g : Int} {l : List Sb}, okF n last l = true → (∀ x ∈ l, endS x < y.at_ ∨ endS y < x.at_) →
    aheadL (y.at_ + g + aheadL y.at_ l) (invG g l) = - aheadL y.at_ l ∧ ∀ x ∈ invG g l, endS x < y.at_ + g + aheadL y.at_ l ∨ endS y + g + aheadL y.at_ l < x.at_
  | _, _, [], _, _ => ⟨rfl, fun x hx => by cases hx⟩
  | last, g, s :: l, h, hn => by
    obtain ⟨h1, h2⟩ := okF_cons h
    have hy : y.at_ ≤ endS y := by unfold endS; omega
    by_cases hs : endS s < y.at_
    · have ih := back_one y (g := g + grow1 s) h2 (fun x hx => hn x (List.mem_cons_of_mem _ hx))
      have e : y.at_ + g + aheadL y.at_ (s :: l) = y.at_ + (g + grow1 s) + aheadL y.at_ l := by rw [aheadL, if_pos hs]; omega
      have e2 : endS y + g + aheadL y.at_ (s :: l) = endS y + (g + grow1 s) + aheadL y.at_ l := by rw [aheadL, if_pos hs]; omega
      have hup := ahead_up h2 hs
      have hend : endS (⟨s.at_ + g, s.in_, s.out⟩ : Sb) < y.at_ + (g + grow1 s) + aheadL y.at_ l := by
        unfold endS grow1 at *
        simp only
        omega
      refine ⟨?_, fun x hx => ?_⟩
      · rw [e, invG, aheadL, if_pos hend, ih.1]
        rw [aheadL, if_pos hs]
        unfold grow1
        simp only
        omega
      · rw [e, e2]
        rcases List.mem_cons.1 hx with rfl | hx
        · exact .inl hend
        · exact ih.2 x hx
    · have hs2 : endS y < s.at_ := (hn s (List.mem_cons_self ..)).resolve_left hs
      have hse : s.at_ ≤ endS s := by unfold endS; omega
      have e0 : aheadL y.at_ (s :: l) = 0 := by
        rw [aheadL, if_neg hs, ahead_none h2 (by omega)]
        rfl
      have hok : okF n (endS y) (s :: l) = true := by
        simp only [okF, stF, Bool.and_eq_true, decide_eq_true_eq] at h ⊢
        exact ⟨⟨⟨h.1.1.1, hs2⟩, h.1.2⟩, h.2⟩
      have haft := inv_after (g := g) hok
      rw [e0]
      refine ⟨ahead_zero (fun x hx => by have := haft x hx; omega), fun x hx => .inr (by have := haft x hx; omega)⟩
theorem invN_eq : ∀ (l : List Sb) (g : Int), ((List.range l.length).map fun (i : Nat) => (⟨(l.getD i default).at_ + (g + growL (l.take i)), (l.getD i default).in_, (l.getD i default).out⟩ : Sb)) = invG g l
  | [], g => rfl
  | s :: l, g => by
    rw [List.length_cons, List.range_succ_eq_map, List.map_cons, List.map_map, invG, ← invN_eq l (g + grow1 s)]
    refine List.cons_eq_cons.2 ⟨by simp [growL], ?_⟩
    refine List.map_congr_left (fun i _ => ?_)
    simp [growL, Function.comp, Int.add_assoc]
theorem invL_eq (l : List Sb) : invL l = invG 0 l := by
  rw [← invN_eq l 0]
  simp [invL, invN]
theorem behL_eq (p q : List Sb) : behL p q = q.map fun y => ⟨y.at_ + aheadL y.at_ p, y.out, y.in_⟩ := by
  unfold behL behN movN
  apply List.ext_getElem
  · simp
  · intro i h1 h2
    simp at h1
    simp [List.getD, h1]
theorem okF_mono {n m : Int} (h : n ≤ m) : ∀ {last : Int} {l : List Sb}, okF n last l = true → okF m last l = true
  | _, [], _ => rfl
  | last, s :: l, hh => by
    simp only [okF, stF, Bool.and_eq_true, decide_eq_true_eq] at hh ⊢
    exact ⟨⟨hh.1.1, by omega⟩, okF_mono h hh.2⟩
theorem chk_zero {l : List Sb} {n : Int} (h : chk l n = 0) : ¬ (400 < l.length ∨ 400 < sumO l ∨ 400 < sumI l) ∧ (0 ≤ n ∧ n ≤ 400) ∧ okF n (-1) l = true := by
  unfold chk at h
  split at h
  · cases h
  · rename_i h1
    split at h
    · cases h
    · split at h
      · exact ⟨h1, by omega, by assumption⟩
      · cases h
theorem chk_400 {l : List Sb} {n : Int} (h : chk l n = 0) : chk l 400 = 0 := by
  obtain ⟨h1, h2, h3⟩ := chk_zero h
  unfold chk
  rw [if_neg h1, if_neg (by omega), if_pos (okF_mono h2.2 h3)]
theorem touch1_comm (x y : Sb) : touch1 x y = touch1 y x := by unfold touch1; rw [Bool.and_comm]
theorem touchL_iff {p q : List Sb} : touchL p q = true ↔ ∃ x ∈ p, ∃ y ∈ q, touch1 x y = true := by
  unfold touchL
  rw [List.any_eq_true]
  refine exists_congr (fun x => and_congr_right (fun _ => ?_))
  rw [List.any_eq_true]
theorem touchL_comm (p q : List Sb) : touchL p q = touchL q p := by
  rw [Bool.eq_iff_iff, touchL_iff, touchL_iff]
  constructor
  · rintro ⟨x, hx, y, hy, h⟩
    exact ⟨y, hy, x, hx, by rw [touch1_comm]; exact h⟩
  · rintro ⟨x, hx, y, hy, h⟩
    exact ⟨y, hy, x, hx, by rw [touch1_comm]; exact h⟩
theorem touch1_false {x y : Sb} (h : touch1 x y = false) : endS x < y.at_ ∨ endS y < x.at_ := by
  unfold touch1 at h
  simp only [Bool.and_eq_false_iff, decide_eq_false_iff_not] at h
  omega
theorem not_touch {p q : List Sb} (h : touchL p q = false) {x y : Sb} (hx : x ∈ p) (hy : y ∈ q) : endS x < y.at_ ∨ endS y < x.at_ := by
  apply touch1_false
  rw [← Bool.not_eq_true] at h ⊢
  exact fun ht => h (touchL_iff.2 ⟨x, hx, y, hy, ht⟩)
theorem back_touch {n : Int} {p q : List Sb} (hp : okF n (-1) p = true) (h : touchL p q = false) : touchL (invL p) (behL p q) = false := by
  rw [← Bool.not_eq_true]
  intro ht
  obtain ⟨x, hx, y', hy', ht⟩ := touchL_iff.1 ht
  rw [behL_eq, List.mem_map] at hy'
  obtain ⟨y, hy, rfl⟩ := hy'
  rw [invL_eq] at hx
  have := (back_one y (g := 0) hp (fun x hx => not_touch h hx hy)).2 x hx
  unfold touch1 at ht
  simp only [Bool.and_eq_true, decide_eq_true_eq] at ht
  unfold endS at *
  simp only at ht
  omega
theorem back_beh {n : Int} {p q : List Sb} (hp : okF n (-1) p = true) (h : touchL p q = false) : behL (invL p) (behL p q) = q := by
  rw [behL_eq (invL p), behL_eq p, List.map_map]
  have : ∀ y ∈ q, ((fun y : Sb => (⟨y.at_ + aheadL y.at_ (invL p), y.out, y.in_⟩ : Sb)) ∘ fun y : Sb => (⟨y.at_ + aheadL y.at_ p, y.out, y.in_⟩ : Sb)) y = y := by
    intro y hy
    have := (back_one y (g := 0) hp (fun x hx => not_touch h hx hy)).1
    simp only [Function.comp, Int.add_zero] at this ⊢
    rw [invL_eq, this]
    cases y
    simp
    omega
  rw [List.map_congr_left this]
  simp
theorem behE_ok {p q : List Sb} {n : Int} (hp : chk p n = 0) (hq : chk q n = 0) : behE p q = if touchL p q then 10 else 0 := by
  unfold behE bothE
  rw [chk_400 hp, chk_400 hq]
  simp
theorem back_law {p q : List Sb} {n : Int} (hp : chk p n = 0) (hq : chk q n = 0) (hE : behE p q = 0) (hR : chk (behR p q) 400 = 0) : bakE p (behR p q) = 0 ∧ bakF p (behR p q) = q ∧ bakS p (behR p q) = behR q p := by
  have e1 := behE_ok hp hq
  have ht : touchL p q = false := by
    cases h : touchL p q
    · rfl
    · rw [h] at e1; rw [e1] at hE; cases hE
  have e2 : behE q p = 0 := by rw [behE_ok hq hp, touchL_comm, ht]; rfl
  have hok := (chk_zero hp).2.2
  have r1 : behR p q = behL p q := by unfold behR; rw [if_neg (by rw [hE]; decide)]
  have r2 : behR q p = behL q p := by unfold behR; rw [if_neg (by rw [e2]; decide)]
  rw [r1] at hR ⊢
  have hb : bothE p (behL p q) = 0 := by unfold bothE; rw [chk_400 hp, hR]; rfl
  have hE2 : bakE p (behL p q) = 0 := by
    unfold bakE
    rw [hb, back_touch hok ht]
    rfl
  refine ⟨hE2, ?_, ?_⟩
  · unfold bakF
    rw [if_neg (by rw [hE2]; decide), back_beh hok ht]
  · unfold bakS
    rw [if_neg (by rw [hE2]; decide), back_beh hok ht, r2]
end Go.Proofs.Ytjjgnopebokfoaa
