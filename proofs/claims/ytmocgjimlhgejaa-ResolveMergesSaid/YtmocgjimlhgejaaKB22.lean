/- ROWS OF KNOWN BLOCKS BEGIN AND END: a table of two dimensions that is written. -/
import Derived.Test.YtmocgjimlhgejaaKB21
namespace Go.PL
open Go.RowKit (Below)
set_option linter.unusedSimpArgs false
set_option linter.unusedVariables false
section
variable {P : Program} {N m : Nat}
/-- No rows of known blocks yet. -/
theorem Gh.pins0 {st : St} (e : TypeId) : Gh m st (st.new (.pins e [])) := by
  intro κ N a h hm
  obtain ⟨h1, h2, h3⟩ := h.ghost (o := .pins e []) (tv := .tuple ⟨[.bool true]⟩) (fun b hb => hb) ⟨updF_same _ _ _, trivial, fun b xs hx => by cases hx⟩
  exact ⟨⟨κ.w, κ.prot, κ.F, updF κ.tk κ.n (.tuple ⟨[.bool true]⟩), κ.n + 1⟩, rfl, h1, h2, h3 m hm⟩
/-- What a table reads as, once it is written no more. -/
def unpinL (rs : List (Nat × List IV)) : List IV → List IV → Prop
  | [], [] => True
  | x :: l, y :: l' => (∃ b xs, (b, xs) ∈ rs ∧ x = .lit (.slice (some ⟨b, 0, none⟩) xs.length xs.length) ∧ y = .sl 1 xs ∧ ∀ z ∈ xs, z.cells = [z]) ∧ unpinL rs l l'
  | _, _ => False
theorem unpinL_get {rs : List (Nat × List IV)} : ∀ (L L' : List IV), unpinL rs L L' → L'.length = L.length ∧ ∀ (j : Nat) (y : IV), L'[j]? = some y → ∃ x b xs, L[j]? = some x ∧ (b, xs) ∈ rs ∧ x = .lit (.slice (some ⟨b, 0, none⟩) xs.length xs.length) ∧ y = .sl 1 xs ∧ ∀ z ∈ xs, z.cells = [z]
  | [], [], _ => ⟨rfl, by simp⟩
  | [], _ :: _, h => h.elim
  | _ :: _, [], h => h.elim
  | x :: l, y :: l', h => by
    obtain ⟨h1, h2⟩ := unpinL_get l l' h.2
    refine ⟨by simp [h1], fun j z hz => ?_⟩
    cases j with
    | zero =>
      simp at hz
      subst hz
      obtain ⟨b, xs, q1, q2, q3, q4⟩ := h.1
      exact ⟨x, b, xs, rfl, q1, q2, q3, q4⟩
    | succ j =>
      obtain ⟨x', b, xs, q0, q⟩ := h2 j z (by simpa using hz)
      exact ⟨x', b, xs, by simpa using q0, q⟩
theorem Gh.unpin {st : St} (i K : Nat) {e : TypeId} {rs : List (Nat × List IV)} {L L' : List IV} (hK : look? st.obj K = some (.pins e rs)) (hi : (st.get i).im = .sl 1 L) (hL : unpinL rs L L') : Gh m st ⟨(i, .iv (.sl 1 L')) :: st.env, rmAt st.obj K, st.nx⟩ := by
  intro κ N a h hm
  obtain ⟨hlen, hget⟩ := unpinL_get L L' hL
  obtain ⟨hKn, hKt, hKd, hKr⟩ := h.o.obs K _ hK
  let pr : Addr → Prop := fun x => ∃ b xs, (b, xs) ∈ rs ∧ ∃ j, j < xs.length ∧ x = ⟨b, j, none⟩
  let κ' : Kx := ⟨κ.w, fun x => κ.prot x ∨ pr x, κ.F, κ.tk, κ.n⟩
  have hpc : ∀ x, pr x → (κ.w.cell? x).isSome = true ∧ ¬ κ.F x.block ∧ Own (κ.tk K) x.block := by
    rintro x ⟨b, xs, hx, j, hj, rfl⟩
    obtain ⟨us, g1, g2, g3, g4, g5, g6⟩ := hKr b xs hx
    refine ⟨?_, g5, by rw [hKt]; exact (own_pins rs b).2 ⟨xs, hx⟩⟩
    rw [cell_of_row κ.w b j _ _ _ g1]
    have : us[j]? = some (us[j]'(by omega)) := List.getElem?_eq_getElem (by omega)
    simp [this]
  have he : Ext κ κ' := ⟨rfl, rfl, rfl, Nat.le_refl _, ⟨fun _ h => h, rfl⟩, fun _ _ => rfl, fun _ h => ⟨.inl h, rfl⟩, fun x hx => hx.imp id (fun hp => (hpc x hp).2.1)⟩
  have hmono : ∀ {t v}, TVR κ t v → TVR κ' t v := fun h => h.mono he (Nat.le_refl _) (fun _ _ => rfl)
  have hv := (h.env i).im
  rw [hi] at hv
  have hnew : IVR κ'.w κ'.prot (.sl 1 L') (a.tmps.getD i undef) := by
    generalize a.tmps.getD i undef = v at hv
    cases hv with
    | sl A _ _ c us hc hl hsz h1 hA ha hh hN =>
      have hcl : ∀ x ∈ L, x.cells = [x] := by
        intro x hx
        obtain ⟨j, hj, rfl⟩ := List.getElem_of_mem hx
        obtain ⟨x', b, xs, q0, _, q2, _⟩ := hget j _ (List.getElem?_eq_getElem (by omega))
        rw [List.getElem?_eq_getElem hj] at q0
        simp only [Option.some.injEq] at q0
        rw [q0, q2]
        rfl
      have hcl' : ∀ x ∈ L', x.cells = [x] := by
        intro x hx
        obtain ⟨j, hj, rfl⟩ := List.getElem_of_mem hx
        obtain ⟨x', b, xs, _, _, _, q3, _⟩ := hget j _ (List.getElem?_eq_getElem hj)
        rw [q3]
        rfl
      rw [← hlen]
      refine .sl A 1 L' c us (by omega) (by omega) (fun x hx => by rw [hcl' x hx]; rfl) h1 (by rw [hlen]; exact hA) (fun ad e' j u hu => ⟨(ha ad e' j u hu).1, .inl (ha ad e' j u hu).2⟩) (fun j y u hy hu => ?_) hN
      rw [flat_ones _ hcl'] at hy
      obtain ⟨x, b, xs, q0, q1, q2, q3, q4⟩ := hget j y hy
      have hux := hh j x u (by rw [flat_ones _ hcl]; exact q0) hu
      rw [q2] at hux
      cases hux
      rw [q3]
      obtain ⟨vs, g1, g2, g3, g4, g5, g6⟩ := hKr b xs q1
      refine .sl (some ⟨b, 0, none⟩) 1 xs xs.length vs (Nat.le_refl _) (by omega) (fun z hz => by rw [q4 z hz]; rfl) g4 (fun _ => ⟨_, rfl⟩) (fun ad e' k w hw => ?_) (fun k z w hz hw => ?_) (fun e' => by cases e')
      · injection e' with e'
        subst e'
        have hk : k < vs.length := (List.getElem?_eq_some_iff.1 hw).1
        rw [add_mk, Nat.zero_add]
        refine ⟨?_, .inr ⟨b, xs, q1, k, by omega, rfl⟩⟩
        show κ.w.cell? _ = _
        rw [cell_of_row κ.w b k _ _ _ g1]
        simpa using hw
      · rw [flat_ones _ q4] at hz
        exact he.iv (g3 k z w hz hw)
  refine ⟨κ', rfl, ⟨⟨fun j o hj => ?_, fun j o1 j' o2 hj hj' => ?_, keysNd_rmAt _ _ h.o.nd, fun x hx => ?_, h.o.fr⟩, fun j => ?_, h.size, dfx he h.nodef, h.nx⟩, he, ⟨hm, fun _ _ _ => rfl⟩⟩
  · rw [look?_rmAt _ _ _ h.o.nd] at hj
    split at hj
    · simp at hj
    · rename_i hne
      obtain ⟨q1, q2⟩ := h.o.obs j o hj
      refine ⟨q1, q2.keep he (fun _ h => h) (Nat.le_refl _) (fun _ _ => rfl) q1 (fun _ _ => rfl) (fun x hx => ?_)⟩
      rcases hx with hx | hx
      · exact .inl hx
      · refine .inr fun b hb e' => ?_
        subst e'
        exact h.o.dis K _ j o hK hj (fun e => hne e.symm) _ (hpc x hx).2.2 hb
  · rw [look?_rmAt _ _ _ h.o.nd] at hj hj'
    split at hj
    · simp at hj
    · split at hj'
      · simp at hj'
      · exact h.o.dis j o1 j' o2 hj hj'
  · rcases hx with hx | hx
    · exact h.o.prot x hx
    · exact (hpc x hx).1
  · simp only [St.get, look_eq, look?]
    cases hb : j == i
    · have := h.env j
      simp only [St.get, look_eq] at this
      rw [cond_false]
      exact hmono this
    · have e : j = i := by simpa using hb
      subst e
      exact .iv _ _ hnew
end
end Go.PL
