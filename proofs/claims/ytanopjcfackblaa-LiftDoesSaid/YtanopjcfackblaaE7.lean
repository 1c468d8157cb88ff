/- Plain laws of what was done to a view, done to all items. -/
import Derived.Test.YtanopjcfackblaaE6
namespace Go.Proofs.Ytanopjcfackblaa
open Go.PL
set_option maxRecDepth 100000
set_option linter.unusedSimpArgs false
set_option linter.unusedVariables false
/-! ### Stretches -/
def segN (f : Nat → List It) : Nat → Nat → List It
  | _, 0 => []
  | i, c + 1 => f i ++ segN f (i + 1) c
def seg (f : Nat → List It) (i j : Nat) : List It := segN f i (j - i)
theorem segN_add (f : Nat → List It) : ∀ (a i b : Nat), segN f i (a + b) = segN f i a ++ segN f (i + a) b
  | 0, i, b => by simp [segN]
  | a + 1, i, b => by
    rw [show a + 1 + b = (a + b) + 1 by omega]
    simp only [segN]
    rw [segN_add f a (i + 1) b, show i + (a + 1) = i + 1 + a by omega, List.append_assoc]
theorem seg_split (f : Nat → List It) {i b j : Nat} (h1 : i ≤ b) (h2 : b ≤ j) : seg f i j = seg f i b ++ seg f b j := by
  unfold seg
  rw [show j - i = (b - i) + (j - b) by omega, segN_add, show i + (b - i) = b by omega]
theorem seg_nil (f : Nat → List It) {i j : Nat} (h : j ≤ i) : seg f i j = [] := by
  unfold seg
  rw [show j - i = 0 by omega]
  rfl
theorem seg_one (f : Nat → List It) (i : Nat) : seg f i (i + 1) = f i := by
  unfold seg
  rw [show i + 1 - i = 0 + 1 by omega]
  simp [segN]
theorem seg_succ (f : Nat → List It) {i j : Nat} (h : i ≤ j) : seg f i (j + 1) = seg f i j ++ f j := by
  rw [seg_split f h (Nat.le_succ j), seg_one]
theorem seg_congr {f g : Nat → List It} {i : Nat} : ∀ {j : Nat}, (∀ k, i ≤ k → k < j → f k = g k) → seg f i j = seg g i j
  | 0, _ => by rw [seg_nil f (Nat.zero_le _), seg_nil g (Nat.zero_le _)]
  | j + 1, h => by
    by_cases hi : i ≤ j
    · rw [seg_succ f hi, seg_succ g hi, h j hi (by omega), seg_congr fun k h1 h2 => h k h1 (by omega)]
    · rw [seg_nil f (by omega), seg_nil g (by omega)]
theorem seg_range (f : Nat → List It) : ∀ k, (List.range k).flatMap f = seg f 0 k
  | 0 => by rw [seg_nil f (Nat.le_refl _)]; rfl
  | k + 1 => by rw [List.range_succ, List.flatMap_append, seg_range f k, seg_succ f (Nat.zero_le k)]; simp
theorem seg_filter (f : Nat → List It) (b : It → Bool) {i : Nat} : ∀ {j : Nat}, (seg f i j).filter b = seg (fun k => (f k).filter b) i j
  | 0 => by rw [seg_nil f (Nat.zero_le _), seg_nil _ (Nat.zero_le _)]; rfl
  | j + 1 => by
    by_cases hi : i ≤ j
    · rw [seg_succ f hi, seg_succ _ hi, List.filter_append, seg_filter f b]
    · rw [seg_nil f (by omega), seg_nil _ (by omega)]; rfl
theorem seg_empty {i j : Nat} : seg (fun _ => []) i j = [] := by
  unfold seg
  generalize j - i = c
  induction c generalizing i with
  | zero => rfl
  | succ c ih => simp [segN, ih]
/-- All items of a stretch. -/
theorem seg_all (l : List It) {i : Nat} : ∀ {j : Nat}, j ≤ l.length → seg (fun k => [l.getD k default]) i j = (l.take j).drop i
  | 0, _ => by rw [seg_nil _ (Nat.zero_le _)]; simp
  | j + 1, h => by
    by_cases hi : i ≤ j
    · rw [seg_succ _ hi, seg_all l (by omega), take_succ_getD (by omega), List.drop_append_of_le_length (by rw [List.length_take]; omega)]
    · rw [seg_nil _ (by omega), List.drop_eq_nil_of_le (by rw [List.length_take]; omega)]
/-! ### New items, by their places -/
theorem nz_none {B : List (Int × List It)} {j : Int} (h : ∀ g ∈ B, g.1 ≠ j) : nzF B j = [] := by
  unfold nzF gFind
  rw [List.find?_eq_none.2]
  intro g hg
  have := h g hg
  simp
  exact fun e => this e.symm
theorem nz_clo_self {a : Int} {cur : List It} {B : List (Int × List It)} (h : ∀ g ∈ B, g.1 ≠ a) : nzF (clo a cur ++ B) a = cur := by
  cases cur with
  | nil => exact nz_none h
  | cons c cur => simp [nzF, gFind, clo]
theorem nz_clo_ne {a j : Int} {cur : List It} {B : List (Int × List It)} (h : j ≠ a) : nzF (clo a cur ++ B) j = nzF B j := by
  cases cur with
  | nil => rfl
  | cons c cur => simp [nzF, gFind, clo, h]
/-- Old lines come in order, from a place on. -/
def inO (p : List Int) (L : Nat) : List Md → Nat → Prop
  | [], _ => True
  | x :: m, i => if x.o then (i ≤ (oldP p x).toNat ∧ 0 ≤ oldP p x ∧ (oldP p x).toNat < L ∧ 0 ≤ x.i ∧ x.i < p.length ∧ inO p L m ((oldP p x).toNat + 1)) else inO p L m i
theorem inO_of {p : List Int} {L : Nat} (h1 : riF L (-1) p = true) : ∀ (m : List Md) (q : Int) (i : Nat), riF p.length q (keptF m) = true → ((q = -1 ∧ i = 0) ∨ (0 ≤ q ∧ q < p.length ∧ i = (p.getD q.toNat default).toNat + 1)) → inO p L m i
  | [], _, _, _, _ => trivial
  | x :: m, q, i, h, hq => by
    unfold inO
    rw [keptF_cons] at h
    by_cases hx : x.o = true
    · rw [if_pos hx, List.cons_append, List.nil_append] at h
      rw [if_pos hx]
      simp only [riF, Bool.and_eq_true, decide_eq_true_eq] at h
      have hxi : 0 ≤ x.i ∧ x.i < p.length := by omega
      have hb := riF_getD h1 (k := x.i.toNat) (by omega)
      refine ⟨?_, hb.1, by unfold oldP; omega, hxi.1, hxi.2, inO_of h1 m x.i _ h.2 (.inr ⟨hxi.1, hxi.2, rfl⟩)⟩
      rcases hq with ⟨rfl, rfl⟩ | ⟨g1, g2, rfl⟩
      · omega
      · have := riF_lt h1 q.toNat x.i.toNat (by omega) (by omega)
        have hb2 := riF_getD h1 (k := q.toNat) (by omega)
        unfold oldP
        omega
    · rw [if_neg hx, List.nil_append] at h
      rw [if_neg hx]
      exact inO_of h1 m q i h hq
theorem inO_ge {p : List Int} {L : Nat} : ∀ {m : List Md} {i : Nat}, inO p L m i → ∀ x ∈ m, x.o = true → (i : Int) ≤ oldP p x ∧ oldP p x < L ∧ 0 ≤ x.i ∧ x.i < p.length
  | [], _, _, x, hx, _ => by cases hx
  | y :: m, i, h, x, hx, ho => by
    unfold inO at h
    rcases List.mem_cons.1 hx with rfl | hx
    · rw [if_pos ho] at h
      omega
    · by_cases hy : y.o = true
      · rw [if_pos hy] at h
        have := inO_ge h.2.2.2.2.2 x hx ho
        omega
      · rw [if_neg hy] at h
        exact inO_ge h x hx ho
theorem bhF_keys {p : List Int} {L : Nat} {s : Lb} : ∀ {m : List Md} {i : Nat} {a : Int} {cur : List It} {n : Int}, inO p L m i → a < i → ∀ g ∈ bhF p s m a cur n, a ≤ g.1
  | [], i, a, cur, n, _, _, g, hg => by
    cases cur with
    | nil => simp [bhF, clo] at hg
    | cons c cur => simp only [bhF, clo, List.mem_singleton] at hg; subst hg; exact Int.le_refl _
  | x :: m, i, a, cur, n, h, ha, g, hg => by
    unfold inO at h
    simp only [bhF] at hg
    by_cases hx : x.o = true
    · rw [if_pos hx] at h hg
      rcases List.mem_append.1 hg with hg | hg
      · cases cur with
        | nil => simp [clo] at hg
        | cons c cur => simp only [clo, List.mem_singleton] at hg; subst hg; exact Int.le_refl _
      · have := bhF_keys h.2.2.2.2.2 (by omega) g hg
        omega
    · rw [if_neg hx] at h hg
      exact bhF_keys h ha g hg
/-- What comes of it, line by line. -/
def G (l : List It) (p : List Int) (s : Lb) (m0 : List Md) : List Md → Nat → Int → List It
  | [], i, _ => seg (kxF l p m0) i l.length
  | x :: m, i, n => if x.o then seg (kxF l p m0) i ((oldP p x).toNat + 1) ++ G l p s m0 m ((oldP p x).toNat + 1) n else newIt s x n :: G l p s m0 m i (n + 1)
theorem G_of {l : List It} {p : List Int} {s : Lb} {m0 : List Md} : ∀ {m : List Md} {i : Nat} {a : Int} {cur : List It} {n : Int}, inO p l.length m i → a < i → i ≤ l.length →
    nzF (bhF p s m a cur n) a ++ seg (fun j => kxF l p m0 j ++ nzF (bhF p s m a cur n) j) i l.length = cur ++ G l p s m0 m i n
  | [], i, a, cur, n, h, ha, hi => by
    simp only [bhF, G]
    have e : clo a cur = clo a cur ++ [] := (List.append_nil _).symm
    rw [e, nz_clo_self (by simp)]
    congr 1
    refine seg_congr fun k h1 h2 => ?_
    rw [nz_clo_ne (by omega), nz_none (by simp), List.append_nil]
  | x :: m, i, a, cur, n, h, ha, hi => by
    unfold inO at h
    simp only [bhF, G]
    by_cases hx : x.o = true
    · rw [if_pos hx] at h
      rw [if_pos hx, if_pos hx]
      obtain ⟨h1, h2, h3, _, _, h6⟩ := h
      generalize hP : (oldP p x).toNat = P at *
      have hP' : oldP p x = P := by omega
      rw [hP']
      have hk := bhF_keys (s := s) (a := (P : Int)) (cur := []) (n := n) h6 (by omega)
      rw [nz_clo_self (fun g hg => by have := hk g hg; omega)]
      congr 1
      have ih := G_of (l := l) (s := s) (m0 := m0) (a := (P : Int)) (cur := []) (n := n) h6 (by omega) (by omega)
      rw [List.nil_append] at ih
      have hne : seg (fun j => kxF l p m0 j ++ nzF (clo a cur ++ bhF p s m P [] n) j) i l.length = seg (fun j => kxF l p m0 j ++ nzF (bhF p s m P [] n) j) i l.length :=
        seg_congr fun k g1 g2 => by rw [nz_clo_ne (by omega)]
      rw [hne, seg_split _ h1 (Nat.le_of_lt h3), seg_split _ (Nat.le_succ P) h3, seg_one]
      have e1 : seg (fun j => kxF l p m0 j ++ nzF (bhF p s m P [] n) j) i P = seg (kxF l p m0) i P := seg_congr fun k g1 g2 => by
        rw [nz_none (fun g hg => by have := hk g hg; omega), List.append_nil]
      rw [e1, seg_succ _ h1, ← ih]
      simp only [List.append_assoc]
    · rw [if_neg hx] at h
      rw [if_neg hx, if_neg hx, G_of h ha hi]
      simp
theorem liftN_G {l : List It} {p : List Int} {s : Lb} {m : List Md} {n : Int} (h1 : riF l.length (-1) p = true) (h2 : riF p.length (-1) (keptF m) = true) : liftN l p s m n l.length = G l p s m m 0 n := by
  unfold liftN
  rw [seg_range, G_of (inO_of h1 m (-1) 0 h2 (.inl ⟨rfl, rfl⟩)) (by omega) (Nat.zero_le _), List.nil_append]
/-! ### Which items stay -/
theorem idx_of {p : List Int} {b : Int} (h : riF b (-1) p = true) {k : Nat} (hk : k < p.length) : p.contains (p.getD k default) = true ∧ idxI p (p.getD k default) = k := by
  have := idxI_some (l := p) (v := p.getD k default) hk (fun j hj => by have := riF_lt h j k hj hk; omega) rfl
  exact ⟨this.2, this.1⟩
theorem contains_ex {p : List Int} {v : Int} (h : p.contains v = true) : ∃ k, k < p.length ∧ p.getD k default = v := by
  rw [List.contains_iff_mem] at h
  obtain ⟨k, hk, e⟩ := List.getElem_of_mem h
  exact ⟨k, hk, by simp [List.getD, hk, e]⟩
theorem keepK_view {p : List Int} {b : Int} {m : List Md} (h : riF b (-1) p = true) {k : Nat} (hk : k < p.length) {j : Nat} (hj : p.getD k default = j) : keepK p m j = madeB m k := by
  obtain ⟨e1, e2⟩ := idx_of h hk
  unfold keepK
  rw [← hj, e1, e2]
  rfl
theorem keepK_out {p : List Int} {m : List Md} {j : Nat} (h : p.contains (j : Int) = false) : keepK p m j = true := by
  unfold keepK
  rw [h]
  rfl
theorem made_old {p : List Int} {b : Int} {m : List Md} (h : riF b (-1) p = true) {x : Md} (hx : x ∈ m) (ho : x.o = true) (h0 : 0 ≤ x.i) (h1 : x.i < p.length) {j : Nat} (hj : oldP p x = j) : p.contains (j : Int) = true ∧ keepK p m j = true := by
  have hk : x.i.toNat < p.length := by omega
  refine ⟨by rw [← hj]; exact (idx_of h hk).1, ?_⟩
  rw [keepK_view h hk hj]
  exact List.any_eq_true.2 ⟨x, hx, by rw [ho]; simp; omega⟩
/-- Lines of the view that stay, from a place on, are made by what is left. -/
def leftO (p : List Int) (L : Nat) (m0 m : List Md) (i : Nat) : Prop := ∀ j, i ≤ j → j < L → p.contains (j : Int) = true → keepK p m0 j = true → ∃ x ∈ m, x.o = true ∧ oldP p x = j
theorem leftO_all {p : List Int} {L : Nat} {m : List Md} (h : riF L (-1) p = true) (hm : inO p L m 0) : leftO p L m m 0 := by
  intro j _ hj hc hk
  obtain ⟨k, hkl, hkj⟩ := contains_ex hc
  rw [keepK_view h hkl hkj] at hk
  unfold madeB at hk
  obtain ⟨x, hx, hxo⟩ := List.any_eq_true.1 hk
  rw [Bool.and_eq_true, beq_iff_eq] at hxo
  refine ⟨x, hx, hxo.1, ?_⟩
  unfold oldP
  rw [hxo.2]
  simpa using hkj
/-- What is made of a view, as items. -/
def mkF (l : List It) (p : List Int) (s : Lb) : List Md → Int → List It
  | [], _ => []
  | x :: m, n => if x.o then l.getD (oldP p x).toNat default :: mkF l p s m n else newIt s x n :: mkF l p s m (n + 1)
theorem G_mk {l : List It} {p : List Int} {s : Lb} {m0 : List Md} (h1 : riF l.length (-1) p = true) (hv : ∀ j, j < l.length → p.contains (j : Int) = belowF (l.getD j default).l s) :
    ∀ {m : List Md} {i : Nat} {n : Int}, inO p l.length m i → i ≤ l.length → leftO p l.length m0 m i → (∀ x ∈ m, x ∈ m0) → (G l p s m0 m i n).filter (fun x => belowF x.l s) = mkF l p s m n
  | [], i, n, h, hi, hl, hm => by
    simp only [G, mkF]
    rw [seg_filter, seg_congr (g := fun _ => []) fun k g1 g2 => ?_, seg_empty]
    unfold kxF
    split
    · rename_i hk
      cases hc : p.contains (k : Int) with
      | true =>
        obtain ⟨x, hx, _⟩ := hl k g1 g2 hc hk
        cases hx
      | false =>
        rw [hv k g2] at hc
        simp only [List.filter, hc]
    · rfl
  | x :: m, i, n, h, hi, hl, hm => by
    unfold inO at h
    simp only [G, mkF]
    by_cases hx : x.o = true
    · rw [if_pos hx] at h
      rw [if_pos hx, if_pos hx]
      obtain ⟨g1, g2, g3, g4, g5, g6⟩ := h
      generalize hP : (oldP p x).toNat = P at *
      have hP' : oldP p x = P := by omega
      obtain ⟨c1, c2⟩ := made_old (m := m0) h1 (hm x (List.mem_cons_self ..)) hx g4 g5 hP'
      have hl' : leftO p l.length m0 m (P + 1) := fun j q1 q2 q3 q4 => by
        obtain ⟨y, hy, ho, hj⟩ := hl j (by omega) q2 q3 q4
        rcases List.mem_cons.1 hy with rfl | hy
        · omega
        · exact ⟨y, hy, ho, hj⟩
      rw [List.filter_append, G_mk h1 hv g6 (by omega) hl' (fun y hy => hm y (List.mem_cons_of_mem _ hy)), seg_succ _ g1, List.filter_append, seg_filter, seg_congr (g := fun _ => []) fun k q1 q2 => ?_, seg_empty, List.nil_append]
      · unfold kxF
        rw [if_pos c2]
        have : belowF (l.getD P default).l s = true := by rw [← hv P g3]; exact c1
        simp only [List.filter, this]
        rfl
      · unfold kxF
        split
        · rename_i hk
          cases hc : p.contains (k : Int) with
          | true =>
            obtain ⟨y, hy, ho, hj⟩ := hl k q1 (by omega) hc hk
            rcases List.mem_cons.1 hy with rfl | hy
            · omega
            · have := inO_ge g6 y hy ho
              omega
          | false =>
            rw [hv k (by omega)] at hc
            simp only [List.filter, hc]
        · rfl
    · rw [if_neg hx] at h
      rw [if_neg hx, if_neg hx]
      have hb : belowF (newIt s x n).l s = true := belowF_refl s
      have hl' : leftO p l.length m0 m i := fun j q1 q2 q3 q4 => by
        obtain ⟨y, hy, ho, hj⟩ := hl j q1 q2 q3 q4
        rcases List.mem_cons.1 hy with rfl | hy
        · exact absurd ho hx
        · exact ⟨y, hy, ho, hj⟩
      rw [List.filter_cons, if_pos hb, G_mk h1 hv h hi hl' (fun y hy => hm y (List.mem_cons_of_mem _ hy))]
/-- Who does not read the label sees what was there. -/
theorem G_blind {l : List It} {p : List Int} {s o : Lb} {m0 : List Md} (h1 : riF l.length (-1) p = true) (hb : ∀ i, i < p.length → badV l p s m0 i = false) (ho : belowF s o = false) :
    ∀ {m : List Md} {i : Nat} {n : Int}, inO p l.length m i → i ≤ l.length → (G l p s m0 m i n).filter (fun x => belowF x.l o) = seg (fun k => [l.getD k default].filter fun x => belowF x.l o) i l.length := by
  have key : ∀ k, k < l.length → (kxF l p m0 k).filter (fun x => belowF x.l o) = [l.getD k default].filter fun x => belowF x.l o := fun k hk => by
    unfold kxF
    split
    · rfl
    · rename_i hn
      cases hc : p.contains (k : Int) with
      | false => exact absurd (keepK_out hc) hn
      | true =>
        obtain ⟨q, hq, e⟩ := contains_ex hc
        rw [keepK_view h1 hq e] at hn
        have := hb q hq
        unfold badV at this
        rw [show atV l p q = l.getD k default by unfold atV; rw [e]; rfl, show madeB m0 q = false by simpa using hn] at this
        simp only [Bool.not_false, Bool.and_true, Bool.or_eq_false_iff] at this
        have e2 := lbNe_false this.2
        simp only [List.filter]
        rw [e2, ho]
  intro m
  induction m with
  | nil =>
    intro i n h hi
    simp only [G]
    rw [seg_filter]
    exact seg_congr fun k g1 g2 => key k g2
  | cons x m ih =>
    intro i n h hi
    unfold inO at h
    simp only [G]
    by_cases hx : x.o = true
    · rw [if_pos hx] at h
      rw [if_pos hx]
      obtain ⟨g1, g2, g3, g4, g5, g6⟩ := h
      rw [List.filter_append, ih g6 (by omega), seg_filter, seg_congr (fun k q1 q2 => key k (by omega)), ← seg_split _ (by omega) (by omega)]
    · rw [if_neg hx] at h
      rw [if_neg hx, List.filter_cons, if_neg (by show ¬ belowF s o = true; rw [ho]; decide), ih h hi]
end Go.Proofs.Ytanopjcfackblaa
