/- Plain laws: what one sees behind it; how many items there are. -/
import Derived.Test.YtanopjcfackblaaE8
namespace Go.Proofs.Ytanopjcfackblaa
open Go.PL
set_option maxRecDepth 100000
set_option linter.unusedSimpArgs false
set_option linter.unusedVariables false
theorem cut_vis (l : List It) (o : Lb) : ∀ k, k ≤ l.length → cutF (l.take k) o = (visK l o k).map fun i => l.getD i default
  | 0, _ => rfl
  | k + 1, h => by
    rw [cutF_succ l o (by omega), visK_succ, cut_vis l o k (by omega), List.map_append]
    congr 1
    split <;> rfl
theorem vis_cut (l : List It) (o : Lb) : (visK l o l.length).map (fun i => l.getD i default) = cutF l o := by
  rw [← cut_vis l o l.length (Nat.le_refl _), List.take_length]
theorem vis_lt {l : List It} {o : Lb} {i : Nat} (h : i ∈ visK l o l.length) : i < l.length := by
  unfold visK at h
  exact List.mem_range.1 (List.mem_filter.1 h).1
theorem ofAt_view (l : List It) (s : Lb) : ∀ j, j < l.length → (ofAt l s).contains (j : Int) = belowF (l.getD j default).l s := by
  intro j hj
  rw [Bool.eq_iff_iff, List.contains_iff_mem]
  unfold ofAt atF visK
  simp only [List.mem_map, List.mem_filter, List.mem_range]
  constructor
  · rintro ⟨i, ⟨_, h⟩, e⟩
    have : i = j := by omega
    subst this
    exact h
  · intro h
    exact ⟨j, ⟨hj, h⟩, rfl⟩
theorem ofAt_length (l : List It) (s : Lb) : (ofAt l s).length = (cutF l s).length := by
  rw [← vis_cut]
  simp [ofAt, atF]
theorem ofLn_length (l : List It) (s : Lb) (h : List UInt8) : (ofLn l s h).length = (ofAt l s).length := by simp [ofLn, ofAt, atF]
/-- What stands at a place of a view. -/
theorem view_at {l : List It} {s : Lb} {h : List UInt8} {k : Nat} (hk : k < (ofAt l s).length) : 0 ≤ (ofAt l s).getD k default ∧ (ofAt l s).getD k default < l.length ∧ l.getD ((ofAt l s).getD k default).toNat default = (cutF l s).getD k default ∧
    ((ofLn l s h).getD k default).t = if ((cutF l s).getD k default).a then h else ((cutF l s).getD k default).x.t := by
  have hk' : k < (visK l s l.length).length := by simpa [ofAt, atF] using hk
  have e1 : (ofAt l s).getD k default = ((visK l s l.length).getD k default : Nat) := by simp [ofAt, atF, List.getD, hk']
  have e2 : (cutF l s).getD k default = l.getD ((visK l s l.length).getD k default) default := by
    rw [← vis_cut]
    simp [List.getD, hk']
  have e3 : (ofLn l s h).getD k default = lnV l h (lastF (visK l s l.length)) ((visK l s l.length).getD k default) := by simp [ofLn, List.getD, hk']
  have hlt := vis_lt (getD_mem hk')
  rw [e1, e2, e3]
  exact ⟨by omega, by omega, by rw [Int.toNat_natCast], rfl⟩
def newC (m : List Md) : Nat := (m.filter fun x => !x.o).length
theorem newC_succ (m : List Md) {k : Nat} (h : k < m.length) : newC (m.take (k + 1)) = newC (m.take k) + (if (m.getD k default).o then 0 else 1) := by
  unfold newC
  rw [take_succ_getD h, List.filter_append, List.length_append]
  congr 1
  generalize m.getD k default = x
  cases hx : x.o <;> simp [List.filter, hx]
theorem newC_kept : ∀ (m : List Md), newC m + (keptF m).length = m.length
  | [] => rfl
  | x :: m => by
    have := newC_kept m
    rw [keptF_cons, List.length_append, List.length_cons]
    unfold newC at this ⊢
    rw [List.filter_cons]
    cases hx : x.o <;> simp <;> omega
theorem mkF_length (l : List It) (p : List Int) (s : Lb) : ∀ (m : List Md) (n : Int), (mkF l p s m n).length = m.length
  | [], _ => rfl
  | x :: m, n => by
    simp only [mkF]
    split <;> simp [mkF_length l p s m]
theorem mkF_get (l : List It) (p : List Int) (s : Lb) : ∀ (m : List Md) (n : Int) (k : Nat), k < m.length → (mkF l p s m n).getD k default = if (m.getD k default).o then l.getD (oldP p (m.getD k default)).toNat default else newIt s (m.getD k default) (n + newC (m.take k))
  | [], n, k, h => by simp at h
  | x :: m, n, 0, h => by
    simp only [mkF, List.getD_cons_zero, List.take_zero]
    split <;> simp [newC]
  | x :: m, n, k + 1, h => by
    have ih := fun n => mkF_get l p s m n k (by simpa using h)
    simp only [mkF, List.getD_cons_succ, List.take_succ_cons]
    cases hx : x.o
    · rw [if_neg (by decide), List.getD_cons_succ, ih]
      have : newC (x :: m.take k) = newC (m.take k) + 1 := by simp [newC, List.filter_cons, hx]
      rw [this]
      split
      · rfl
      · congr 1; push_cast; omega
    · rw [if_pos rfl, List.getD_cons_succ, ih]
      have : newC (x :: m.take k) = newC (m.take k) := by simp [newC, List.filter_cons, hx]
      rw [this]
/-- THE VIEW HAS THEN WHAT WAS MADE. -/
theorem shows {l : List It} {s : Lb} {m : List Md} {n : Int} (h : chkF l (ofAt l s) s m = 0) : cutF (liftN l (ofAt l s) s m n l.length) s = mkF l (ofAt l s) s m n := by
  obtain ⟨h1, h2, h3, h4⟩ := chkF_zero h
  have hO := inO_of h1 m (-1) 0 h2 (.inl ⟨rfl, rfl⟩)
  rw [liftN_G h1 h2]
  exact G_mk h1 (ofAt_view l s) hO (Nat.zero_le _) (leftO_all h1 hO) (fun x hx => hx)
theorem shows_at {l : List It} {s : Lb} {m : List Md} {n : Int} {h : List UInt8} (hc : chkF l (ofAt l s) s m = 0) {W : List It} (hW : W = liftN l (ofAt l s) s m n l.length) :
    (ofAt W s).length = m.length ∧ (ofLn W s h).length = m.length ∧ (ofLn l s h).length = (ofAt l s).length ∧ (W = [] → m = []) ∧
    ∀ k, k < m.length → (0 ≤ (ofAt W s).getD k default ∧ (ofAt W s).getD k default < W.length) ∧
      ((m.getD k default).o = true → 0 ≤ (m.getD k default).i ∧ (m.getD k default).i < (ofAt l s).length ∧ 0 ≤ (ofAt l s).getD (m.getD k default).i.toNat default ∧ (ofAt l s).getD (m.getD k default).i.toNat default < l.length ∧
        W.getD ((ofAt W s).getD k default).toNat default = l.getD ((ofAt l s).getD (m.getD k default).i.toNat default).toNat default ∧ ((ofLn W s h).getD k default).t = ((ofLn l s h).getD (m.getD k default).i.toNat default).t) ∧
      ((m.getD k default).o = false → W.getD ((ofAt W s).getD k default).toNat default = newIt s (m.getD k default) (n + newC (m.take k)) ∧ ((ofLn W s h).getD k default).t = (m.getD k default).x.t) := by
  have hs := shows (n := n) hc
  rw [← hW] at hs
  have hl : (ofAt W s).length = m.length := by rw [ofAt_length, hs, mkF_length]
  refine ⟨hl, by rw [ofLn_length, hl], ofLn_length l s h, fun e => ?_, fun k hk => ?_⟩
  · subst e
    have : m.length = 0 := by rw [← hl]; rfl
    exact List.eq_nil_of_length_eq_zero this
  · obtain ⟨v1, v2, v3, v4⟩ := view_at (l := W) (s := s) (h := h) (k := k) (by omega)
    rw [hs, mkF_get _ _ _ _ _ _ hk] at v3 v4
    refine ⟨⟨v1, v2⟩, fun ho => ?_, fun ho => ?_⟩
    · obtain ⟨h1, h2, _, _⟩ := chkF_zero hc
      have hO := inO_ge (inO_of h1 m (-1) 0 h2 (.inl ⟨rfl, rfl⟩)) _ (getD_mem hk) ho
      rw [if_pos ho] at v3 v4
      generalize m.getD k default = x at *
      obtain ⟨u1, u2, u3, u4⟩ := view_at (l := l) (s := s) (h := h) (k := x.i.toNat) (by omega)
      refine ⟨hO.2.2.1, hO.2.2.2, u1, u2, v3, ?_⟩
      rw [v4, u4, ← u3]
      rfl
    · rw [if_neg (show ¬ (m.getD k default).o = true by rw [ho]; decide)] at v3 v4
      exact ⟨v3, by rw [v4]; rfl⟩
end Go.Proofs.Ytanopjcfackblaa
