/- Plain laws: what stays, and how many items there are. -/
import Derived.Test.YtanopjcfackblaaE9
namespace Go.Proofs.Ytanopjcfackblaa
open Go.PL
set_option maxRecDepth 100000
set_option linter.unusedSimpArgs false
set_option linter.unusedVariables false
/-! ### How many lines of the view are made -/
theorem filt_lt {b : Int} : ∀ {q : List Int} {c : Int}, riF b c q = true → ∀ k : Int, (q.filter fun x => decide (x < k + 1)).length = (q.filter fun x => decide (x < k)).length + (if q.contains k then 1 else 0)
  | [], _, _, k => by simp
  | x :: q, c, h, k => by
    simp only [riF, Bool.and_eq_true, decide_eq_true_eq] at h
    have ih := filt_lt h.2 k
    have hm := riF_mem h.2
    rcases Int.lt_trichotomy x k with hx | hx | hx
    · have hne : (x :: q).contains k = q.contains k := by rw [List.contains_cons]; simp; omega
      rw [hne, List.filter_cons, List.filter_cons, if_pos (by simp; omega), if_pos (by simp; omega), List.length_cons, List.length_cons, ih]
      omega
    · subst hx
      have e1 : (q.filter fun y => decide (y < x + 1)) = [] := List.filter_eq_nil_iff.2 fun y hy => by have := hm y hy; simp; omega
      have e2 : (q.filter fun y => decide (y < x)) = [] := List.filter_eq_nil_iff.2 fun y hy => by have := hm y hy; simp; omega
      rw [List.filter_cons, List.filter_cons, if_pos (by simp; omega), if_neg (by simp), e1, e2]
      simp
    · have e1 : (q.filter fun y => decide (y < k + 1)) = [] := List.filter_eq_nil_iff.2 fun y hy => by have := hm y hy; simp; omega
      have e2 : (q.filter fun y => decide (y < k)) = [] := List.filter_eq_nil_iff.2 fun y hy => by have := hm y hy; simp; omega
      have e3 : (x :: q).contains k = false := by
        rw [← Bool.not_eq_true, List.contains_iff_mem]
        intro hk
        rcases List.mem_cons.1 hk with rfl | hk
        · omega
        · have := hm k hk; omega
      rw [List.filter_cons, List.filter_cons, if_neg (by simp; omega), if_neg (by simp; omega), e1, e2, e3]
      simp
theorem gone_kept {m : List Md} {b : Int} (h : riF b (-1) (keptF m) = true) : ∀ k : Nat, goneF m k + ((keptF m).filter fun x => decide (x < (k : Int))).length = k
  | 0 => by
    have e : ((keptF m).filter fun x => decide (x < ((0 : Nat) : Int))) = [] := List.filter_eq_nil_iff.2 fun y hy => by have := riF_mem h y hy; simp; omega
    rw [e]
    rfl
  | k + 1 => by
    have ih := gone_kept h k
    have hf := filt_lt h k
    rw [kept_made] at hf
    rw [goneF_succ, show ((k + 1 : Nat) : Int) = (k : Int) + 1 by omega, hf]
    cases madeB m k <;> simp <;> omega
theorem gone_all {m : List Md} {L : Nat} (h : riF L (-1) (keptF m) = true) : goneF m L + (keptF m).length = L := by
  have := gone_kept h L
  rwa [List.filter_eq_self.2 fun y hy => by have := riF_mem h y hy; simp; omega] at this
/-! ### Stretches between lines of the view -/
/-- The place of the k-th line of the view; behind the last one, the end. -/
def pa (p : List Int) (L k : Nat) : Nat := if k < p.length then (p.getD k default).toNat else L
def lo (p : List Int) : Nat → Nat
  | 0 => 0
  | k + 1 => (p.getD k default).toNat + 1
theorem lo_succ (p : List Int) (k : Nat) : lo p (k + 1) = (p.getD k default).toNat + 1 := rfl
theorem pa_le {p : List Int} {L k : Nat} (h : riF L (-1) p = true) : pa p L k ≤ L := by
  unfold pa
  split
  · rename_i hk
    have := riF_getD h hk
    omega
  · exact Nat.le_refl _
theorem lo_le {p : List Int} {L : Nat} (h : riF L (-1) p = true) : ∀ {k : Nat}, k ≤ p.length → lo p k ≤ pa p L k
  | 0, _ => Nat.zero_le _
  | k + 1, hk => by
    have h1 := riF_getD h (k := k) (by omega)
    rw [lo_succ]
    unfold pa
    split
    · rename_i hk1
      have := riF_lt h k (k + 1) (by omega) hk1
      omega
    · omega
theorem gap_out {p : List Int} {L k j : Nat} (h : riF L (-1) p = true) (hk : k ≤ p.length) (h1 : lo p k ≤ j) (h2 : j < pa p L k) : p.contains (j : Int) = false := by
  rw [← Bool.not_eq_true]
  intro hc
  obtain ⟨q, hq, e⟩ := contains_ex hc
  rcases Nat.lt_or_ge q k with hqk | hqk
  · cases k with
    | zero => omega
    | succ k =>
      rw [lo_succ] at h1
      have hb := riF_getD h (k := k) (by omega)
      rcases Nat.lt_or_ge q k with hqk2 | hqk2
      · have := riF_lt h q k hqk2 (by omega)
        omega
      · have : q = k := by omega
        subst this
        omega
  · unfold pa at h2
    rw [if_pos (by omega)] at h2
    rcases Nat.lt_or_ge k q with hkq | hkq
    · have := riF_lt h k q hkq hq
      omega
    · have : q = k := by omega
      subst this
      omega
theorem gap_seg {l : List It} {p : List Int} {m : List Md} {k : Nat} (h : riF l.length (-1) p = true) (hk : k ≤ p.length) : seg (kxF l p m) (lo p k) (pa p l.length k) = (l.take (pa p l.length k)).drop (lo p k) := by
  rw [← seg_all l (pa_le h)]
  refine seg_congr fun j h1 h2 => ?_
  unfold kxF
  rw [if_pos (keepK_out (gap_out h hk h1 h2))]
theorem kx_view {l : List It} {p : List Int} {m : List Md} {k : Nat} (h : riF l.length (-1) p = true) (hk : k < p.length) : kxF l p m (p.getD k default).toNat = if madeB m k then [l.getD (p.getD k default).toNat default] else [] := by
  unfold kxF
  have hb := riF_getD h hk
  rw [keepK_view h hk (j := (p.getD k default).toNat) (by omega)]
theorem seg_len {l : List It} {p : List Int} {m : List Md} (h : riF l.length (-1) p = true) : ∀ {k : Nat}, k ≤ p.length → (seg (kxF l p m) 0 (pa p l.length k)).length + goneF m k = pa p l.length k
  | 0, hk => by
    have := gap_seg (m := m) h hk
    unfold lo at this
    rw [this, List.length_drop, List.length_take]
    have := pa_le (k := 0) h
    simp [goneF]
    omega
  | k + 1, hk => by
    have ih := seg_len (m := m) h (k := k) (by omega)
    have hpk : pa p l.length k = (p.getD k default).toNat := by unfold pa; rw [if_pos (by omega)]
    have hlo := lo_le h hk
    have hg := gap_seg (m := m) h hk
    have hv := kx_view (m := m) h (k := k) (by omega)
    have hpl := pa_le (k := k + 1) h
    have hs := goneF_succ m k
    rw [lo_succ] at hlo hg
    rw [hpk] at ih
    generalize (p.getD k default).toNat = a at *
    rw [seg_split (kxF l p m) (Nat.zero_le (a + 1)) hlo, seg_succ _ (Nat.zero_le a), hg, hv, List.length_append, List.length_append, List.length_drop, List.length_take, hs]
    split <;> simp <;> omega
theorem G_len {l : List It} {p : List Int} {s : Lb} {m0 : List Md} : ∀ {m : List Md} {i : Nat} {n : Int}, inO p l.length m i → i ≤ l.length → (G l p s m0 m i n).length = (seg (kxF l p m0) i l.length).length + newC m
  | [], i, n, _, _ => by simp [G, newC]
  | x :: m, i, n, h, hi => by
    unfold inO at h
    simp only [G]
    cases hx : x.o with
    | true =>
      rw [if_pos hx] at h
      obtain ⟨g1, g2, g3, g4, g5, g6⟩ := h
      have hn : newC (x :: m) = newC m := by simp [newC, List.filter_cons, hx]
      rw [if_pos rfl, List.length_append, G_len g6 (by omega), hn, seg_split (kxF l p m0) (show i ≤ (oldP p x).toNat + 1 by omega) g3, List.length_append]
      omega
    | false =>
      rw [if_neg (by rw [hx]; decide)] at h
      have hn : newC (x :: m) = newC m + 1 := by simp [newC, List.filter_cons, hx]
      rw [if_neg (by decide), List.length_cons, G_len h hi, hn]
      omega
theorem liftN_length {l : List It} {p : List Int} {s : Lb} {m : List Md} {n : Int} (h : chkF l p s m = 0) : ((liftN l p s m n l.length).length : Int) = l.length - p.length + m.length := by
  obtain ⟨h1, h2, h3, h4⟩ := chkF_zero h
  have e1 := seg_len (m := m) h1 (Nat.le_refl p.length)
  have e2 := gone_all h2
  have e3 := newC_kept m
  rw [show pa p l.length p.length = l.length by unfold pa; rw [if_neg (by omega)]] at e1
  rw [liftN_G h1 h2, G_len (inO_of h1 m (-1) 0 h2 (.inl ⟨rfl, rfl⟩)) (Nat.zero_le _)]
  omega
/-! ### Items that are none of the view -/
def nvF (l : List It) (p : List Int) (k : Nat) : List It := if p.contains (k : Int) then [] else [l.getD k default]
theorem seg_sub {f g : Nat → List It} {i : Nat} : ∀ {j : Nat}, (∀ k, i ≤ k → k < j → (f k).Sublist (g k)) → (seg f i j).Sublist (seg g i j)
  | 0, _ => by rw [seg_nil f (Nat.zero_le _)]; exact List.nil_sublist _
  | j + 1, h => by
    by_cases hi : i ≤ j
    · rw [seg_succ f hi, seg_succ g hi]
      exact (seg_sub fun k h1 h2 => h k h1 (by omega)).append (h j hi (by omega))
    · rw [seg_nil f (by omega)]; exact List.nil_sublist _
theorem nv_sub {l : List It} {p : List Int} {m : List Md} (k : Nat) : (nvF l p k).Sublist (kxF l p m k) := by
  unfold nvF
  split
  · exact List.nil_sublist _
  · rename_i h
    unfold kxF
    rw [if_pos (keepK_out (by simpa using h))]
    exact List.Sublist.refl _
theorem G_sub {l : List It} {p : List Int} {s : Lb} {m0 : List Md} : ∀ {m : List Md} {i : Nat} {n : Int}, inO p l.length m i → i ≤ l.length → (seg (nvF l p) i l.length).Sublist (G l p s m0 m i n)
  | [], i, n, _, _ => by
    simp only [G]
    exact seg_sub fun k _ _ => nv_sub k
  | x :: m, i, n, h, hi => by
    unfold inO at h
    simp only [G]
    by_cases hx : x.o = true
    · rw [if_pos hx] at h
      rw [if_pos hx]
      obtain ⟨g1, g2, g3, g4, g5, g6⟩ := h
      rw [seg_split (nvF l p) (show i ≤ (oldP p x).toNat + 1 by omega) g3]
      exact (seg_sub fun k _ _ => nv_sub k).append (G_sub g6 (by omega))
    · rw [if_neg hx] at h
      rw [if_neg hx]
      exact (G_sub h hi).cons _
theorem stays {l : List It} {p : List Int} {s : Lb} {m : List Md} {n : Int} (h : chkF l p s m = 0) : (seg (nvF l p) 0 l.length).Sublist (liftN l p s m n l.length) := by
  obtain ⟨h1, h2, h3, h4⟩ := chkF_zero h
  rw [liftN_G h1 h2]
  exact G_sub (inO_of h1 m (-1) 0 h2 (.inl ⟨rfl, rfl⟩)) (Nat.zero_le _)
theorem sub_step {a b : It} {ys W : List It} (h : (a :: ys).Sublist (b :: W)) : (a ≠ b → (a :: ys).Sublist W) ∧ ys.Sublist W := by
  cases h with
  | cons _ h => exact ⟨fun _ => h, (List.sublist_cons_self _ _).trans h⟩
  | cons_cons _ h => exact ⟨fun hn => absurd rfl hn, h⟩
/-! ### All of it made, and nothing new -/
def smM (k : Nat) : List Md := (List.range k).map fun i : Nat => ⟨true, i, ⟨[], false⟩⟩
theorem smM_length (k : Nat) : (smM k).length = k := by simp [smM]
theorem smM_succ (k : Nat) : smM (k + 1) = smM k ++ [⟨true, k, ⟨[], false⟩⟩] := by simp [smM, List.range_succ]
theorem smM_old {k : Nat} : ∀ x ∈ smM k, x.o = true := by
  intro x hx
  obtain ⟨i, _, rfl⟩ := List.mem_map.1 hx
  rfl
theorem smM_kept (k : Nat) : (keptF (smM k)).length = k := by
  unfold keptF
  rw [List.filter_eq_self.2 fun x hx => smM_old x hx]
  simp [smM]
theorem bhF_old {p : List Int} {s : Lb} : ∀ {m : List Md} {a n : Int}, (∀ x ∈ m, x.o = true) → bhF p s m a [] n = []
  | [], _, _, _ => rfl
  | x :: m, a, n, h => by
    simp only [bhF]
    rw [if_pos (h x (List.mem_cons_self ..)), bhF_old fun y hy => h y (List.mem_cons_of_mem _ hy)]
    rfl
theorem same_all {l : List It} {p : List Int} {s : Lb} {n : Int} (h1 : riF l.length (-1) p = true) : liftN l p s (smM p.length) n l.length = l := by
  unfold liftN
  rw [bhF_old smM_old, seg_range]
  have e : seg (fun j => kxF l p (smM p.length) j ++ nzF [] j) 0 l.length = seg (fun k => [l.getD k default]) 0 l.length := seg_congr fun k _ hk => by
    have hkk : keepK p (smM p.length) k = true := by
      cases hc : p.contains (k : Int) with
      | false => exact keepK_out hc
      | true =>
        obtain ⟨q, hq, e⟩ := contains_ex hc
        rw [keepK_view h1 hq e]
        exact List.any_eq_true.2 ⟨⟨true, q, ⟨[], false⟩⟩, List.mem_map.2 ⟨q, List.mem_range.2 hq, rfl⟩, by simp⟩
    unfold kxF
    rw [if_pos hkk]
    rfl
  rw [e, seg_all l (Nat.le_refl _), List.take_length, List.drop_zero]
  rfl
end Go.Proofs.Ytanopjcfackblaa
