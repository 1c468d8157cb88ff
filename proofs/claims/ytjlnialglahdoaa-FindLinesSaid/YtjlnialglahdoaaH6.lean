/- The plain law: what the places compute is matching. -/
import Derived.Test.YtjlnialglahdoaaH5
namespace Go.Proofs.Ytjlnialglahdoaa
open Go.PL
set_option linter.unusedSimpArgs false
set_option linter.unusedVariables false
/-- Any bytes, and then what f says. -/
def starM (f : List UInt8 → Bool) : List UInt8 → Bool
  | [] => f []
  | c :: s => f (c :: s) || starM f s
def oneM (g : Nat → Bool) (f : List UInt8 → Bool) : List UInt8 → Bool
  | [] => false
  | c :: s => g c.toNat && f s
/-- Does a text fit parts? -/
def mt : List At → List UInt8 → Bool
  | [] => fun s => s.isEmpty
  | a :: l => if a.any then starM (mt l) else oneM a.set (mt l)
theorem mt_any {a : At} {l : List At} (h : a.any = true) : mt (a :: l) = starM (mt l) := by rw [mt, if_pos h]
theorem mt_one {a : At} {l : List At} (h : a.any = false) : mt (a :: l) = oneM a.set (mt l) := by rw [mt, if_neg (by rw [h]; decide)]
theorem star_of {f : List UInt8 → Bool} {s : List UInt8} (h : f s = true) : starM f s = true := by
  cases s with
  | nil => exact h
  | cons c s => rw [starM, h, Bool.true_or]
theorem starM_iff (f : List UInt8 → Bool) (s : List UInt8) : starM f s = true ↔ ∃ n, n ≤ s.length ∧ f (s.drop n) = true := by
  induction s with
  | nil => exact ⟨fun h => ⟨0, Nat.le_refl _, h⟩, fun ⟨n, h1, h2⟩ => by simpa [starM] using h2⟩
  | cons c s ih =>
    rw [starM, Bool.or_eq_true, ih]
    constructor
    · rintro (h | ⟨n, h1, h2⟩)
      · exact ⟨0, Nat.zero_le _, h⟩
      · exact ⟨n + 1, by simp; omega, h2⟩
    · rintro ⟨n, h1, h2⟩
      cases n with
      | zero => exact .inl h2
      | succ n => exact .inr ⟨n, by simp at h1; omega, h2⟩
def acc (l : List At) (v : List Bool) (s : List UInt8) : Prop := ∃ i, i ≤ l.length ∧ v.getD i default = true ∧ mt (l.drop i) s = true
def closedV (l : List At) (v : List Bool) : Prop := ∀ i, i < l.length → v.getD i default = true → (l.getD i default).any = true → v.getD (i + 1) default = true
theorem getD_set' (v : List Bool) (k j : Nat) (b : Bool) (hk : k < v.length) : (v.set k b).getD j default = if k = j then b else v.getD j default := by
  simp only [List.getD_eq_getElem?_getD, List.getElem?_set]
  by_cases h : k = j
  · subst h; simp [hk]
  · simp [h]
theorem drop_cons {l : List At} {i : Nat} (h : i < l.length) : l.drop i = l.getD i default :: l.drop (i + 1) := drop_getD h
theorem mt_skip {l : List At} {i : Nat} {s : List UInt8} (h : i < l.length) (ha : (l.getD i default).any = true) (hm : mt (l.drop (i + 1)) s = true) : mt (l.drop i) s = true := by
  rw [drop_cons h, mt_any ha]
  exact star_of hm
/-- What is true behind opening was true, or is reached over parts that may stand for nothing. -/
theorem opA_true (l : List At) (v : List Bool) (hv : v.length = l.length + 1) : ∀ k, k ≤ l.length →
    (∀ j, v.getD j default = true → (opA l v k).getD j default = true) ∧
    (∀ i, i < k → (opA l v k).getD i default = true → (l.getD i default).any = true → (opA l v k).getD (i + 1) default = true) ∧
    (∀ j s, j ≤ l.length → (opA l v k).getD j default = true → mt (l.drop j) s = true → acc l v s)
  | 0, _ => ⟨fun _ h => h, fun i h => absurd h (Nat.not_lt_zero _), fun j s h1 h2 h3 => ⟨j, h1, h2, h3⟩⟩
  | k + 1, hk => by
    obtain ⟨i1, i2, i3⟩ := opA_true l v hv k (by omega)
    have hlen := opA_len l v k
    have hs : opA l v (k + 1) = if (opA l v k).getD k default && (l.getD k default).any then (opA l v k).set (k + 1) true else opA l v k := rfl
    generalize opA l v k = w at *
    rw [hs]
    by_cases hc : (w.getD k default && (l.getD k default).any) = true
    · rw [if_pos hc]
      rw [Bool.and_eq_true] at hc
      have hg := fun j => getD_set' w (k + 1) j true (by omega)
      refine ⟨fun j hj => ?_, fun i hi h1 h2 => ?_, fun j s hj h1 h2 => ?_⟩
      · rw [hg]; split
        · rfl
        · exact i1 j hj
      · rw [hg] at h1 ⊢
        by_cases e : i = k
        · subst e; rw [if_pos rfl]
        · rw [if_neg (by omega)] at h1
          rw [if_neg (by omega)]
          exact i2 i (by omega) h1 h2
      · rw [hg] at h1
        by_cases e : k + 1 = j
        · subst e
          exact i3 k s (by omega) hc.1 (mt_skip (by omega) hc.2 h2)
        · rw [if_neg e] at h1
          exact i3 j s hj h1 h2
    · rw [if_neg hc]
      refine ⟨i1, fun i hi h1 h2 => ?_, i3⟩
      by_cases e : i = k
      · subst e
        rw [h1, h2] at hc
        exact absurd rfl hc
      · exact i2 i (by omega) h1 h2
theorem open_closed (l : List At) (v : List Bool) (hv : v.length = l.length + 1) : closedV l (opA l v l.length) :=
  fun i hi h1 h2 => (opA_true l v hv l.length (Nat.le_refl _)).2.1 i hi h1 h2
theorem open_acc (l : List At) (v : List Bool) (hv : v.length = l.length + 1) (s : List UInt8) : acc l (opA l v l.length) s ↔ acc l v s := by
  obtain ⟨h1, _, h3⟩ := opA_true l v hv l.length (Nat.le_refl _)
  constructor
  · rintro ⟨i, hi, q1, q2⟩
    exact h3 i s hi q1 q2
  · rintro ⟨i, hi, q1, q2⟩
    exact ⟨i, hi, h1 i q1, q2⟩
theorem stA_true (l : List At) (v : List Bool) (c : Nat) (hv : v.length = l.length + 1) : ∀ k, k ≤ l.length →
    (∀ j, (stA l v c k).getD j default = true → (∃ i, i < k ∧ v.getD i default = true ∧ ((l.getD i default).any = true ∧ j = i ∨ (l.getD i default).any = false ∧ (l.getD i default).set c = true ∧ j = i + 1))) ∧
    (∀ i, i < k → v.getD i default = true → (l.getD i default).any = true → (stA l v c k).getD i default = true) ∧
    (∀ i, i < k → v.getD i default = true → (l.getD i default).any = false → (l.getD i default).set c = true → (stA l v c k).getD (i + 1) default = true)
  | 0, _ => ⟨fun j h => by
      exfalso
      unfold stA at h
      rw [List.getD_eq_getElem?_getD, List.getElem?_replicate] at h
      split at h <;> simp at h, fun i h => absurd h (Nat.not_lt_zero _), fun i h => absurd h (Nat.not_lt_zero _)⟩
  | k + 1, hk => by
    obtain ⟨i1, i2, i3⟩ := stA_true l v c hv k (by omega)
    have hlen := stA_len l v c k
    have hs : stA l v c (k + 1) = if v.getD k default = false then stA l v c k else if (l.getD k default).any then (stA l v c k).set k true else if (l.getD k default).set c then (stA l v c k).set (k + 1) true else stA l v c k := rfl
    generalize stA l v c k = w at *
    rw [hs]
    have up : ∀ j, w.getD j default = true → (∃ i, i < k + 1 ∧ v.getD i default = true ∧ ((l.getD i default).any = true ∧ j = i ∨ (l.getD i default).any = false ∧ (l.getD i default).set c = true ∧ j = i + 1)) := fun j h => by
      obtain ⟨i, h1, h2⟩ := i1 j h
      exact ⟨i, by omega, h2⟩
    cases hv1 : v.getD k default with
    | false =>
      rw [if_pos rfl]
      refine ⟨up, fun i hi h1 h2 => ?_, fun i hi h1 h2 h3 => ?_⟩
      · by_cases e : i = k
        · subst e; rw [hv1] at h1; cases h1
        · exact i2 i (by omega) h1 h2
      · by_cases e : i = k
        · subst e; rw [hv1] at h1; cases h1
        · exact i3 i (by omega) h1 h2 h3
    | true =>
      rw [if_neg (by decide)]
      cases ha : (l.getD k default).any with
      | true =>
        rw [if_pos rfl]
        have hg := fun j => getD_set' w k j true (by omega)
        refine ⟨fun j hj => ?_, fun i hi h1 h2 => ?_, fun i hi h1 h2 h3 => ?_⟩
        · rw [hg] at hj
          by_cases e : k = j
          · subst e; exact ⟨k, by omega, hv1, .inl ⟨ha, rfl⟩⟩
          · rw [if_neg e] at hj; exact up j hj
        · rw [hg]
          by_cases e : k = i
          · rw [if_pos e]
          · rw [if_neg e]; exact i2 i (by omega) h1 h2
        · rw [hg]
          split
          · rfl
          · by_cases e : i = k
            · subst e; rw [ha] at h2; cases h2
            · exact i3 i (by omega) h1 h2 h3
      | false =>
        rw [if_neg (by decide)]
        cases hb : (l.getD k default).set c with
        | true =>
          rw [if_pos rfl]
          have hg := fun j => getD_set' w (k + 1) j true (by omega)
          refine ⟨fun j hj => ?_, fun i hi h1 h2 => ?_, fun i hi h1 h2 h3 => ?_⟩
          · rw [hg] at hj
            by_cases e : k + 1 = j
            · subst e; exact ⟨k, by omega, hv1, .inr ⟨ha, hb, rfl⟩⟩
            · rw [if_neg e] at hj; exact up j hj
          · rw [hg]
            split
            · rfl
            · by_cases e : i = k
              · subst e; rw [ha] at h2; cases h2
              · exact i2 i (by omega) h1 h2
          · rw [hg]
            by_cases e : i = k
            · subst e; rw [if_pos rfl]
            · rw [if_neg (by omega)]; exact i3 i (by omega) h1 h2 h3
        | false =>
          rw [if_neg (by decide)]
          refine ⟨up, fun i hi h1 h2 => ?_, fun i hi h1 h2 h3 => ?_⟩
          · by_cases e : i = k
            · subst e; rw [ha] at h2; cases h2
            · exact i2 i (by omega) h1 h2
          · by_cases e : i = k
            · subst e; rw [hb] at h3; cases h3
            · exact i3 i (by omega) h1 h2 h3
theorem step_acc (l : List At) (v : List Bool) (c : UInt8) (hv : v.length = l.length + 1) (hcl : closedV l v) (s : List UInt8) : acc l (stepF l v c.toNat) s ↔ acc l v (c :: s) := by
  unfold stepF
  rw [open_acc l _ (by rw [stA_len]; exact hv)]
  obtain ⟨h1, h2, h3⟩ := stA_true l v c.toNat hv l.length (Nat.le_refl _)
  constructor
  · rintro ⟨j, hj, q1, q2⟩
    obtain ⟨i, hi, r1, ⟨r2, rfl⟩ | ⟨r2, r3, rfl⟩⟩ := h1 j q1
    · refine ⟨j, hj, r1, ?_⟩
      rw [drop_cons hi, mt_any r2] at q2 ⊢
      rw [starM, q2, Bool.or_true]
    · refine ⟨i, by omega, r1, ?_⟩
      rw [drop_cons hi, mt_one r2]
      show (_ && _) = true
      rw [r3, q2]
      rfl
  · rintro ⟨i, hi, q1, q2⟩
    generalize hd : l.length - i = d
    induction d generalizing i with
    | zero =>
      have : i = l.length := by omega
      subst this
      rw [List.drop_length] at q2
      cases q2
    | succ d ih =>
      have hlt : i < l.length := by omega
      rw [drop_cons hlt] at q2
      cases ha : (l.getD i default).any with
      | true =>
        rw [mt_any ha, starM, Bool.or_eq_true] at q2
        rcases q2 with q2 | q2
        · exact ih (i + 1) hlt (hcl i hlt q1 ha) q2 (by omega)
        · refine ⟨i, hi, h2 i hlt q1 ha, ?_⟩
          rw [drop_cons hlt, mt_any ha]
          exact q2
      | false =>
        rw [mt_one ha] at q2
        have q3 : ((l.getD i default).set c.toNat && mt (l.drop (i + 1)) s) = true := q2
        rw [Bool.and_eq_true] at q3
        exact ⟨i + 1, hlt, h3 i hlt q1 ha q3.1, q3.2⟩
theorem step_closed (l : List At) (v : List Bool) (c : Nat) (hv : v.length = l.length + 1) : closedV l (stepF l v c) := by
  unfold stepF
  exact open_closed l _ (by rw [stA_len]; exact hv)
theorem acc_nil (l : List At) (v : List Bool) (hcl : closedV l v) : acc l v [] ↔ v.getD l.length default = true := by
  constructor
  · rintro ⟨i, hi, q1, q2⟩
    generalize hd : l.length - i = d
    induction d generalizing i with
    | zero =>
      have : i = l.length := by omega
      subst this
      exact q1
    | succ d ih =>
      have hlt : i < l.length := by omega
      rw [drop_cons hlt] at q2
      cases ha : (l.getD i default).any with
      | true =>
        rw [mt_any ha] at q2
        exact ih (i + 1) hlt (hcl i hlt q1 ha) q2 (by omega)
      | false =>
        rw [mt_one ha] at q2
        cases q2
  · intro h
    exact ⟨l.length, Nat.le_refl _, h, by rw [List.drop_length]; rfl⟩
theorem start_acc (l : List At) (s : List UInt8) : acc l (startF l) s ↔ mt l s = true := by
  unfold startF
  rw [open_acc l _ (by rw [List.length_set, List.length_replicate])]
  have hg := fun j => getD_set' (List.replicate (l.length + 1) false) 0 j true (by rw [List.length_replicate]; omega)
  constructor
  · rintro ⟨i, hi, q1, q2⟩
    rw [hg] at q1
    by_cases e : 0 = i
    · subst e; exact q2
    · rw [if_neg e, List.getD_eq_getElem?_getD, List.getElem?_replicate] at q1
      split at q1 <;> simp at q1
  · intro h
    exact ⟨0, Nat.zero_le _, by rw [hg, if_pos rfl], h⟩
theorem start_closed (l : List At) : closedV l (startF l) := open_closed l _ (by rw [List.length_set, List.length_replicate])
theorem run_acc (l : List At) : ∀ (s : List UInt8) (v : List Bool), v.length = l.length + 1 → closedV l v → ((runF l v s).getD l.length default = true ↔ acc l v s)
  | [], v, hv, hcl => (acc_nil l v hcl).symm
  | c :: s, v, hv, hcl => by
    have h := run_acc l s (stepF l v c.toNat) (by rw [stepF_len]; exact hv) (step_closed l v c.toNat hv)
    rw [step_acc l v c hv hcl] at h
    exact h
theorem fit_mt (l : List At) (s : List UInt8) : fitF l s = mt l s := by
  rw [Bool.eq_iff_iff]
  unfold fitF
  rw [run_acc l s _ (startF_len l) (start_closed l), start_acc]
/-- The shortest stretch from the beginning: the first length that fits. -/
theorem sh_acc (l : List At) : ∀ (s : List UInt8) (v : List Bool) (i : Int), v.length = l.length + 1 → closedV l v → 0 ≤ i →
    (∃ n : Nat, n ≤ s.length ∧ shN l s v i = i + n ∧ acc l v (s.take n) ∧ ∀ m, m < n → ¬ acc l v (s.take m)) ∨ (shN l s v i = -1 ∧ ∀ m, m ≤ s.length → ¬ acc l v (s.take m))
  | [], v, i, hv, hcl, h0 => by
    unfold shN
    cases h : v.getD l.length default with
    | true => exact .inl ⟨0, Nat.le_refl _, by simp, (acc_nil l v hcl).2 h, fun m hm => absurd hm (Nat.not_lt_zero _)⟩
    | false =>
      refine .inr ⟨rfl, fun m hm ha => ?_⟩
      rw [List.take_nil, acc_nil l v hcl, h] at ha
      cases ha
  | c :: s, v, i, hv, hcl, h0 => by
    unfold shN
    cases h : v.getD l.length default with
    | true => exact .inl ⟨0, Nat.zero_le _, by simp, (acc_nil l v hcl).2 h, fun m hm => absurd hm (Nat.not_lt_zero _)⟩
    | false =>
      have hz : ¬ acc l v [] := fun ha => by rw [acc_nil l v hcl, h] at ha; cases ha
      rw [if_neg (by decide)]
      rcases sh_acc l s (stepF l v c.toNat) (i + 1) (by rw [stepF_len]; exact hv) (step_closed l v c.toNat hv) (by omega) with ⟨n, q1, q2, q3, q4⟩ | ⟨q1, q2⟩
      · refine .inl ⟨n + 1, by simp; omega, by rw [q2]; push_cast; omega, (step_acc l v c hv hcl _).1 q3, fun m hm ha => ?_⟩
        cases m with
        | zero => exact hz ha
        | succ m => exact q4 m (by omega) ((step_acc l v c hv hcl _).2 ha)
      · refine .inr ⟨q1, fun m hm ha => ?_⟩
        cases m with
        | zero => exact hz ha
        | succ m => exact q2 m (by simp at hm; omega) ((step_acc l v c hv hcl _).2 ha)
theorem sh_mt (l : List At) (s : List UInt8) :
    (∃ n : Nat, n ≤ s.length ∧ shF l s = n ∧ mt l (s.take n) = true ∧ ∀ m, m < n → mt l (s.take m) = false) ∨ (shF l s = -1 ∧ ∀ m, m ≤ s.length → mt l (s.take m) = false) := by
  rcases sh_acc l s (startF l) 0 (startF_len l) (start_closed l) (Int.le_refl _) with ⟨n, q1, q2, q3, q4⟩ | ⟨q1, q2⟩
  · exact .inl ⟨n, q1, by unfold shF; rw [q2]; omega, (start_acc l _).1 q3, fun m hm => by
      cases h : mt l (s.take m)
      · rfl
      · exact absurd ((start_acc l _).2 h) (q4 m hm)⟩
  · exact .inr ⟨q1, fun m hm => by
      cases h : mt l (s.take m)
      · rfl
      · exact absurd ((start_acc l _).2 h) (q2 m hm)⟩
/-- The first stretch that fits. -/
theorem sp_mt (l : List At) : ∀ (s : List UInt8) (i : Int),
    (∃ k n : Nat, k ≤ s.length ∧ n ≤ s.length - k ∧ spN l s i = (i + k, (n : Int), true) ∧ mt l ((s.drop k).take n) = true ∧ (∀ m, m < n → mt l ((s.drop k).take m) = false) ∧ ∀ j, j < k → ∀ m, m ≤ s.length - j → mt l ((s.drop j).take m) = false) ∨
    (spN l s i = (0, 0, false) ∧ ∀ j, j ≤ s.length → ∀ m, m ≤ s.length - j → mt l ((s.drop j).take m) = false)
  | [], i => by
    unfold spN
    rcases sh_mt l [] with ⟨n, q1, q2, q3, q4⟩ | ⟨q1, q2⟩
    · rw [q2, if_pos (by omega)]
      exact .inl ⟨0, n, Nat.le_refl _, by simpa using q1, by simp, q3, q4, fun j hj => absurd hj (Nat.not_lt_zero _)⟩
    · rw [q1, if_neg (by omega)]
      refine .inr ⟨rfl, fun j hj m hm => ?_⟩
      have : j = 0 := by simpa using hj
      subst this
      exact q2 m (by simpa using hm)
  | c :: s, i => by
    unfold spN
    rcases sh_mt l (c :: s) with ⟨n, q1, q2, q3, q4⟩ | ⟨q1, q2⟩
    · rw [q2, if_pos (by omega)]
      exact .inl ⟨0, n, Nat.zero_le _, by simpa using q1, by simp, q3, q4, fun j hj => absurd hj (Nat.not_lt_zero _)⟩
    · rw [q1, if_neg (by omega)]
      rcases sp_mt l s (i + 1) with ⟨k, n, r1, r2, r3, r4, r5, r6⟩ | ⟨r1, r2⟩
      · refine .inl ⟨k + 1, n, by simp; omega, by simp; omega, by rw [r3]; push_cast; congr 1; omega, r4, r5, fun j hj m hm => ?_⟩
        cases j with
        | zero => exact q2 m (by simpa using hm)
        | succ j => exact r6 j (by omega) m (by simp at hm; omega)
      · refine .inr ⟨r1, fun j hj m hm => ?_⟩
        cases j with
        | zero => exact q2 m (by simpa using hm)
        | succ j => exact r2 j (by simp at hj; omega) m (by simp at hm; omega)
theorem sp_is (l : List At) (s : List UInt8) (i : Int) : (spN l s i).2.2 = true ↔ ∃ k n, k ≤ s.length ∧ n ≤ s.length - k ∧ mt l ((s.drop k).take n) = true := by
  rcases sp_mt l s i with ⟨k, n, r1, r2, r3, r4, r5, r6⟩ | ⟨r1, r2⟩
  · rw [r3]
    exact ⟨fun _ => ⟨k, n, r1, r2, r4⟩, fun _ => rfl⟩
  · rw [r1]
    refine ⟨fun h => (by cases h), fun ⟨k, n, q1, q2, q3⟩ => ?_⟩
    rw [r2 k q1 n q2] at q3
    cases q3
/-! ### Patterns behind each other -/
theorem mt_app : ∀ (l l' : List At) (s t : List UInt8), mt l s = true → mt l' t = true → mt (l ++ l') (s ++ t) = true
  | [], l', s, t, h1, h2 => by
    have : s = [] := by simpa [mt] using h1
    subst this
    exact h2
  | a :: l, l', s, t, h1, h2 => by
    rw [List.cons_append]
    cases ha : a.any with
    | true =>
      rw [mt_any ha] at h1 ⊢
      obtain ⟨n, hn, h1⟩ := (starM_iff _ _).1 h1
      refine (starM_iff _ _).2 ⟨n, by rw [List.length_append]; omega, ?_⟩
      rw [List.drop_append_of_le_length hn]
      exact mt_app l l' _ t h1 h2
    | false =>
      rw [mt_one ha] at h1 ⊢
      cases s with
      | nil => cases h1
      | cons c s =>
        have h3 : (a.set c.toNat && mt l s) = true := h1
        rw [Bool.and_eq_true] at h3
        show (a.set c.toNat && mt (l ++ l') (s ++ t)) = true
        rw [h3.1, mt_app l l' s t h3.2 h2]
        rfl
theorem mt_app_inv : ∀ (l l' : List At) (s : List UInt8), mt (l ++ l') s = true → ∃ n, n ≤ s.length ∧ mt l (s.take n) = true ∧ mt l' (s.drop n) = true
  | [], l', s, h => ⟨0, Nat.zero_le _, rfl, h⟩
  | a :: l, l', s, h => by
    rw [List.cons_append] at h
    cases ha : a.any with
    | true =>
      rw [mt_any ha] at h ⊢
      obtain ⟨n, hn, h⟩ := (starM_iff _ _).1 h
      obtain ⟨m, h1, h2, h3⟩ := mt_app_inv l l' _ h
      rw [List.length_drop] at h1
      refine ⟨n + m, by omega, (starM_iff _ _).2 ⟨n, by rw [List.length_take]; omega, ?_⟩, by rw [List.drop_drop] at h3; exact h3⟩
      rw [List.drop_take, show n + m - n = m by omega]
      exact h2
    | false =>
      rw [mt_one ha] at h ⊢
      cases s with
      | nil => cases h
      | cons c s =>
        have h3 : (a.set c.toNat && mt (l ++ l') s) = true := h
        rw [Bool.and_eq_true] at h3
        obtain ⟨m, h1, h2, h4⟩ := mt_app_inv l l' s h3.2
        refine ⟨m + 1, by simp; omega, ?_, h4⟩
        show (a.set c.toNat && mt l (s.take m)) = true
        rw [h3.1, h2]
        rfl
theorem mt_star (s : List UInt8) : mt [atP ptAny] s = true := by
  rw [mt_any rfl]
  exact (starM_iff _ _).2 ⟨s.length, Nat.le_refl _, by rw [List.drop_length]; rfl⟩
/-- Any bytes, parts, any bytes: a stretch fits. -/
theorem mt_in (l : List At) (s : List UInt8) : mt (atP ptAny :: (l ++ [atP ptAny])) s = true ↔ ∃ k n, k ≤ s.length ∧ n ≤ s.length - k ∧ mt l ((s.drop k).take n) = true := by
  rw [mt_any rfl, starM_iff]
  constructor
  · rintro ⟨k, hk, h⟩
    obtain ⟨n, h1, h2, h3⟩ := mt_app_inv _ _ _ h
    rw [List.length_drop] at h1
    exact ⟨k, n, hk, h1, h2⟩
  · rintro ⟨k, n, hk, hn, h⟩
    refine ⟨k, hk, ?_⟩
    have := mt_app l [atP ptAny] ((s.drop k).take n) ((s.drop k).drop n) h (mt_star _)
    rwa [List.take_append_drop] at this
end Go.Proofs.Ytjlnialglahdoaa
