/- A ROW WHOSE VALUE IS KNOWN TO THE LETTER: it may lie within another row, and yet grow. -/
import Derived.Test.YtmocgjimlhgejaaKB22
namespace Go.PL
set_option linter.unusedSimpArgs false
set_option linter.unusedVariables false
section
variable {P : Program} {N m : Nat} {r : Option Nat}
/-- What is known may be changed at the end. -/
theorem PWp.post {c : Code} {Q : Exit → St → Prop} {st : St} (h : PWpF r P N m c (fun e st' => ∃ st2, Gh m st' st2 ∧ Q e st2) st) : PWpF r P N m c Q st := by
  intro κ a hr hm
  refine wpIn_mono (h κ a hr hm) ?_
  rintro e a' w' ⟨κ', st', rfl, h', he, hk, st2, hg, hQ⟩
  obtain ⟨κ2, hw, h2, he2, hk2⟩ := hg κ' N a' h' hk.n
  exact ⟨κ2, st2, hw, h2, he.trans he2, hk.trans hk2, hQ⟩
/-- From here on a row's value is known to the letter. -/
theorem PWp.lrow {c : Code} {Q : Exit → St → Prop} {st : St} (i k : Nat) {e : TypeId} {sz : Nat} {xs : List IV} (hi : st.get i = .acc k sz xs) (hk : look? st.obj k = some (.row e sz))
    (h : ∀ v : Value, v.oneCell' = true → PWpF r P N m c Q ⟨(i, .iv (.lit v)) :: st.env, putAt st.obj k (.lrow e sz v xs), st.nx⟩) : PWpF r P N m c Q st := by
  intro κ a hr hm
  have hv := hr.env i
  rw [hi] at hv
  obtain ⟨h1, h2⟩ := hr.row2lr hk hv
  refine h _ h2 κ a ⟨h1.o, fun j => ?_, h1.size, h1.nodef, h1.nx⟩ hm
  have := h1.env j
  simp only [St.get, look] at this ⊢
  cases hb : j == i
  · exact this
  · have e : j = i := by simpa using hb
    subst e
    exact .iv _ _ (.lit _)
/-- The last element of a row holds such a row: it is seen as what it holds. -/
theorem Gh.unl {st : St} (k j : Nat) {e : TypeId} {sz : Nat} {v : Value} {xs : List IV} {e' : TypeId} {sz' : Nat} {ys : List IV} {x : IV} (hk : look? st.obj k = some (.lrow e sz v xs)) (hj : look? st.obj j = some (.mrow e' sz' (ys ++ [.agg [x, .lit v]]))) :
    Gh m st ⟨st.env, putAt st.obj j (.mrow e' sz' (ys ++ [.agg [x, .sl sz xs]])), st.nx⟩ := by
  intro κ N a h hm
  refine ⟨κ, rfl, h.asOb hj ?_, Ext.refl κ, Keep.refl m κ hm⟩
  obtain ⟨_, A, c, us, e1, e2, e3, e4, e5, e6⟩ := h.o.obs _ _ hj
  obtain ⟨_, _, hi, _⟩ := h.o.obs _ _ hk
  refine ⟨A, c, us, by simpa using e1, by simpa using e2, ?_, e4, ?_, ?_⟩
  · intro y hy
    rcases List.mem_append.1 hy with hy | hy
    · exact e3 y (List.mem_append_left _ hy)
    · simp only [List.mem_singleton] at hy
      subst hy
      exact e3 (.agg [x, .lit v]) (List.mem_append_right _ (List.mem_singleton_self _))
  · intro i y u hy hu
    have h5 := e5 i
    simp only [List.flatMap_append, List.flatMap_cons, List.flatMap_nil, List.append_nil, IV.cells] at hy h5
    by_cases hi' : i < (ys.flatMap IV.cells).length
    · rw [List.getElem?_append_left hi'] at hy h5
      exact h5 y u hy hu
    · rw [List.getElem?_append_right (by omega)] at hy h5
      match hq : i - (ys.flatMap IV.cells).length, hy, h5 with
      | 0, hy, h5 => exact h5 y u hy hu
      | 1, hy, h5 =>
        simp only [List.getElem?_cons_succ, List.getElem?_cons_zero, Option.some.injEq] at hy
        subst hy
        have := h5 _ u rfl hu
        cases this
        exact hi
      | n + 2, hy, h5 => simp at hy
  · rcases e6 with ⟨_, h0, _⟩ | ⟨b, cur, rfl, h2, h3, h4, h6, h7, h8⟩
    · simp at h0
    · exact .inr ⟨b, cur, rfl, h2, by simpa using h3, h4, h6, by simpa using h7, h8⟩
mutual
theorem IV.leq_refl : ∀ x : IV, IV.leq x x
  | .any => by simp [IV.leq]
  | .lit v => by simp [IV.leq]
  | .agg cs => by simp only [IV.leq]; exact IV.leqL_refl cs
  | .sl sz xs => by simp only [IV.leq]; exact .inr ⟨trivial, IV.leqL_refl xs⟩
theorem IV.leqL_refl : ∀ l : List IV, IV.leqL l l
  | [] => by simp [IV.leqL]
  | x :: l => by simp only [IV.leqL]; exact ⟨IV.leq_refl x, IV.leqL_refl l⟩
end
/-- A row that may be written, its slices of nothing seen at another depth. -/
theorem Gh.mleq {st : St} (j : Nat) {e : TypeId} {sz : Nat} {xs xs' : List IV} (hj : look? st.obj j = some (.mrow e sz xs)) (hle : IV.leqL xs xs') : Gh m st ⟨st.env, putAt st.obj j (.mrow e sz xs'), st.nx⟩ := by
  intro κ N a h hm
  refine ⟨κ, rfl, h.asOb hj ?_, Ext.refl κ, Keep.refl m κ hm⟩
  obtain ⟨_, A, c, us, e1, e2, e3, e4, e5, e6⟩ := h.o.obs _ _ hj
  obtain ⟨q1, q2⟩ := IV.leqL_get _ _ hle
  obtain ⟨f1, f2⟩ := IV.leqL_get _ _ (IV.leqL_flat _ _ hle)
  refine ⟨A, c, us, by rw [q1]; exact e1, by rw [q1]; exact e2, fun y hy => ?_, e4, fun i y u hy hu => ?_, ?_⟩
  · obtain ⟨i, hi, rfl⟩ := List.getElem_of_mem hy
    have hi' : i < xs.length := by omega
    have := (IV.leqL_get _ _ (IV.leq_cells (q2 i _ _ (List.getElem?_eq_getElem hi') (List.getElem?_eq_getElem hi)))).1
    rw [this]
    exact e3 _ (List.getElem_mem hi')
  · have hi : i < (xs.flatMap IV.cells).length := by have := (List.getElem?_eq_some_iff.1 hy).1; omega
    have hx := List.getElem?_eq_getElem hi
    exact (e5 i _ u hx hu).leq (f2 i _ _ hx hy)
  · rcases e6 with ⟨h1, h2, h3⟩ | ⟨b, cur, h1, h2, h3, h4, h5, h6, h7⟩
    · exact .inl ⟨h1, List.eq_nil_of_length_eq_zero (by rw [q1, h2]; rfl), h3⟩
    · exact .inr ⟨b, cur, h1, h2, by rw [q1]; exact h3, h4, h5, by rw [q1]; exact h6, h7⟩
theorem Gh.mleqLast {st : St} (j : Nat) {e : TypeId} {sz : Nat} {L : List IV} {x : IV} (y : IV) (hj : look? st.obj j = some (.mrow e sz (L ++ [x]))) (hle : IV.leq x y) : Gh m st ⟨st.env, putAt st.obj j (.mrow e sz (L ++ [y])), st.nx⟩ :=
  Gh.mleq j hj (IV.leqL_app (IV.leqL_refl L) (by simp only [IV.leqL]; exact ⟨hle, trivial⟩))
end
end Go.PL
