/- Plain laws of matches: right pairs rise; two matches one behind the other are a match; it may be grouped anyhow. -/
import Derived.Test.YtlpoajojkkfhhaaF13
namespace Go.Proofs.Ytlpoajojkkfhhaa
open Go.PL
set_option maxRecDepth 100000
set_option linter.unusedSimpArgs false
set_option linter.unusedVariables false
def upP (a b : Int × Int) : Prop := a.1 < b.1 ∧ a.2 < b.2
theorem right_iff (p : List (Int × Int)) (n m : Int) : rRight p n m = true ↔ (∀ x ∈ p, 0 ≤ x.1 ∧ x.1 < n ∧ 0 ≤ x.2 ∧ x.2 < m) ∧ p.Pairwise upP := by
  constructor
  · intro h
    have hr := of_decide_eq_true h
    refine ⟨fun x hx => ?_, List.pairwise_iff_getElem.2 (fun i j hi hj hij => ?_)⟩
    · obtain ⟨k, hk, rfl⟩ := List.getElem_of_mem hx
      have := (hr k hk).1
      simpa [List.getD, hk] using this
    · have := lt_of_right h j i hij hj
      simpa [upP, List.getD, hi, hj] using this
  · rintro ⟨h1, h2⟩
    refine decide_eq_true (fun k hk => ⟨?_, fun h0 => ?_⟩)
    · have := h1 p[k] (List.getElem_mem hk)
      simpa [List.getD, hk] using this
    · have := List.pairwise_iff_getElem.1 h2 (k - 1) k (by omega) hk (by omega)
      simpa [upP, List.getD, hk, show k - 1 < p.length by omega] using this
theorem mem_toI {p : List (Int × Int)} (hp : p.Pairwise upP) (i k : Int) : toI p i = some k ↔ (i, k) ∈ p := by
  induction p with
  | nil => simp [toI]
  | cons x l ih =>
    have hx := List.pairwise_cons.1 hp
    have ih := ih hx.2
    unfold toI at ih ⊢
    rw [List.find?_cons]
    by_cases h : x.1 = i
    · have hb : (x.1 == i) = true := by simpa using h
      rw [hb]
      simp only [Option.map_some, Option.some.injEq, List.mem_cons]
      constructor
      · rintro rfl; exact .inl (by rw [← h])
      · rintro (e | e)
        · rw [← e]
        · have := (hx.1 _ e).1
          simp only at this
          omega
    · have hb : (x.1 == i) = false := by simpa using h
      rw [hb, ih, List.mem_cons]
      constructor
      · exact .inr
      · rintro (e | e)
        · exact absurd (by rw [← e]) h
        · exact e
theorem mem_comp {p q : List (Int × Int)} (hq : q.Pairwise upP) (x : Int × Int) : x ∈ compL p q ↔ ∃ k, (x.1, k) ∈ p ∧ (k, x.2) ∈ q := by
  unfold compL
  rw [List.mem_filterMap]
  constructor
  · rintro ⟨a, ha, h⟩
    unfold compF at h
    obtain ⟨k, hk, rfl⟩ := Option.map_eq_some_iff.1 h
    exact ⟨a.2, ha, (mem_toI hq _ _).1 hk⟩
  · rintro ⟨k, h1, h2⟩
    refine ⟨(x.1, k), h1, ?_⟩
    unfold compF
    rw [(mem_toI hq k x.2).2 h2]
    rfl
theorem up_mem {q : List (Int × Int)} (hq : q.Pairwise upP) {a b c d : Int} (h1 : (a, b) ∈ q) (h2 : (c, d) ∈ q) : (a < c ↔ b < d) := by
  obtain ⟨i, hi, e1⟩ := List.getElem_of_mem h1
  obtain ⟨j, hj, e2⟩ := List.getElem_of_mem h2
  have h := List.pairwise_iff_getElem.1 hq
  rcases Nat.lt_trichotomy i j with hij | hij | hij
  · have := h i j hi hj hij
    rw [e1, e2] at this
    unfold upP at this
    simp only at this
    omega
  · subst hij
    rw [e1] at e2
    injection e2 with e2 e3
    omega
  · have := h j i hj hi hij
    rw [e1, e2] at this
    unfold upP at this
    simp only at this
    omega
theorem comp_up {p q : List (Int × Int)} (hp : p.Pairwise upP) (hq : q.Pairwise upP) : (compL p q).Pairwise upP := by
  unfold compL
  rw [List.pairwise_filterMap]
  refine hp.imp ?_
  intro a b hab c hc d hd
  unfold compF at hc hd
  obtain ⟨k, hk, rfl⟩ := Option.map_eq_some_iff.1 hc
  obtain ⟨l, hl, rfl⟩ := Option.map_eq_some_iff.1 hd
  exact ⟨hab.1, (up_mem hq ((mem_toI hq _ _).1 hk) ((mem_toI hq _ _).1 hl)).1 hab.2⟩
theorem comp_right {p q : List (Int × Int)} {a b c : Int} (hp : rRight p a b = true) (hq : rRight q b c = true) : rRight (compL p q) a c = true := by
  rw [right_iff] at hp hq ⊢
  refine ⟨fun x hx => ?_, comp_up hp.2 hq.2⟩
  obtain ⟨k, h1, h2⟩ := (mem_comp hq.2 x).1 hx
  have := hp.1 _ h1
  have := hq.1 _ h2
  simp only at *
  omega
theorem up_ext : ∀ {l l' : List (Int × Int)}, l.Pairwise upP → l'.Pairwise upP → (∀ x, x ∈ l ↔ x ∈ l') → l = l'
  | [], [], _, _, _ => rfl
  | [], y :: l', _, _, h => by have := (h y).2 (List.mem_cons_self ..); cases this
  | x :: l, [], _, _, h => by have := (h x).1 (List.mem_cons_self ..); cases this
  | x :: l, y :: l', hl, hl', h => by
    have h1 := List.pairwise_cons.1 hl
    have h2 := List.pairwise_cons.1 hl'
    have hxy : x = y := by
      rcases List.mem_cons.1 ((h x).1 (List.mem_cons_self ..)) with e | e
      · exact e
      · rcases List.mem_cons.1 ((h y).2 (List.mem_cons_self ..)) with e' | e'
        · exact e'.symm
        · have a1 := h2.1 x e
          have a2 := h1.1 y e'
          unfold upP at a1 a2
          omega
    subst hxy
    congr 1
    refine up_ext h1.2 h2.2 (fun z => ?_)
    constructor
    · intro hz
      rcases List.mem_cons.1 ((h z).1 (List.mem_cons_of_mem _ hz)) with e | e
      · subst e
        have := h1.1 z hz
        unfold upP at this
        omega
      · exact e
    · intro hz
      rcases List.mem_cons.1 ((h z).2 (List.mem_cons_of_mem _ hz)) with e | e
      · subst e
        have := h2.1 z hz
        unfold upP at this
        omega
      · exact e
theorem comp_assoc {p q r : List (Int × Int)} (hp : p.Pairwise upP) (hq : q.Pairwise upP) (hr : r.Pairwise upP) : compL (compL p q) r = compL p (compL q r) := by
  refine up_ext (comp_up (comp_up hp hq) hr) (comp_up hp (comp_up hq hr)) (fun x => ?_)
  rw [mem_comp hr, mem_comp (comp_up hq hr)]
  constructor
  · rintro ⟨k, h1, h2⟩
    obtain ⟨l, h3, h4⟩ := (mem_comp hq _).1 h1
    exact ⟨l, h3, (mem_comp hr _).2 ⟨k, h4, h2⟩⟩
  · rintro ⟨k, h1, h2⟩
    obtain ⟨l, h3, h4⟩ := (mem_comp hr _).1 h2
    exact ⟨l, (mem_comp hq _).2 ⟨k, h1, h3⟩, h4⟩
theorem up_swap {p : List (Int × Int)} (hp : p.Pairwise upP) : (p.map Prod.swap).Pairwise upP := by
  rw [List.pairwise_map]
  exact hp.imp (fun h => ⟨h.2, h.1⟩)
theorem mem_swap {p : List (Int × Int)} {a b : Int} : (a, b) ∈ p.map Prod.swap ↔ (b, a) ∈ p := by
  rw [List.mem_map]
  constructor
  · rintro ⟨⟨x, y⟩, h, e⟩
    simp only [Prod.swap, Prod.mk.injEq] at e
    obtain ⟨rfl, rfl⟩ := e
    exact h
  · intro h
    exact ⟨(b, a), h, rfl⟩
theorem comp_swap {p q : List (Int × Int)} (hp : p.Pairwise upP) (hq : q.Pairwise upP) : (compL p q).map Prod.swap = compL (q.map Prod.swap) (p.map Prod.swap) := by
  refine up_ext (up_swap (comp_up hp hq)) (comp_up (up_swap hq) (up_swap hp)) (fun x => ?_)
  obtain ⟨a, b⟩ := x
  rw [mem_swap, mem_comp hq, mem_comp (up_swap hp)]
  constructor
  · rintro ⟨k, h1, h2⟩
    exact ⟨k, mem_swap.2 h2, mem_swap.2 h1⟩
  · rintro ⟨k, h1, h2⟩
    exact ⟨k, mem_swap.1 h2, mem_swap.1 h1⟩
end Go.Proofs.Ytlpoajojkkfhhaa
