/- A VARIABLE THAT IS WRITTEN NO MORE: it becomes a value's place. -/
import Derived.Test.YtmocgjimlhgejaaKB18
namespace Go.PL
open Go.RowKit (Below)
set_option linter.unusedSimpArgs false
set_option linter.unusedVariables false
def fzbT1 (k : Nat) (xs : List IV) : TV → TV
  | .bptr j off => bif j == k then .rptr (xs.drop off) else .bptr j off
  | .wh b (.bptr j off) => bif j == k then .wh b (.rptr (xs.drop off)) else .wh b (.bptr j off)
  | t => t
def fzbC (k : Nat) (xs : List IV) : List TV → List TV
  | [] => []
  | t :: l => fzbT1 k xs t :: fzbC k xs l
def fzbT (k : Nat) (xs : List IV) : TV → TV
  | .clo f l => .clo f (fzbC k xs l)
  | t => fzbT1 k xs t
def fzbE (k : Nat) (xs : List IV) : List (Nat × TV) → List (Nat × TV)
  | [] => []
  | (i, t) :: l => (i, fzbT k xs t) :: fzbE k xs l
theorem fzbC_get (k : Nat) (xs : List IV) (l : List TV) (j : Nat) : (fzbC k xs l)[j]? = (l[j]?).map (fzbT1 k xs) := by
  induction l generalizing j with
  | nil => simp [fzbC]
  | cons t l ih => cases j <;> simp [fzbC, ih]
theorem fzbC_length (k : Nat) (xs : List IV) (l : List TV) : (fzbC k xs l).length = l.length := by
  induction l with
  | nil => rfl
  | cons t l ih => simp [fzbC, ih]
theorem look?_fzbE (k : Nat) (xs : List IV) : ∀ (l : List (Nat × TV)) (i : Nat), look? (fzbE k xs l) i = (look? l i).map (fzbT k xs)
  | [], i => rfl
  | (j, t) :: l, i => by
    simp only [fzbE, look?]
    cases h : i == j <;> simp [look?_fzbE k xs l i]
section
variable {P : Program} {N m : Nat}
theorem Gh.freezeB {st : St} (k : Nat) (xs : List IV) {ty : TypeId} (hk : look? st.obj k = some (.box ty (xs.map .iv))) : Gh m st ⟨fzbE k xs st.env, rmAt st.obj k, st.nx⟩ := by
  intro κ N a h hm
  obtain ⟨hkn, b, us, htk, hh, hul, hcs, h1, hF, hP⟩ := h.o.obs k _ hk
  rw [List.length_map] at hul
  let pr : Addr → Prop := fun x => ∃ j, j < us.length ∧ x = ⟨b, j, none⟩
  let κ' : Kx := ⟨κ.w, fun x => κ.prot x ∨ pr x, κ.F, κ.tk, κ.n⟩
  have hcell : ∀ (j : Nat) (u : Value), us[j]? = some u → κ.w.cell? ⟨b, j, none⟩ = some u := by
    intro j u hu
    rw [cell_of_row κ.w b j _ _ _ hh]
    simpa using hu
  have he : Ext κ κ' := by
    refine ⟨rfl, rfl, rfl, Nat.le_refl _, ⟨fun _ h => h, rfl⟩, fun _ _ => rfl, fun _ h => ⟨.inl h, rfl⟩, fun x hx => ?_⟩
    rcases hx with hx | ⟨j, hj, rfl⟩
    · exact .inl hx
    · exact .inr hF
  have hiv : ∀ (j : Nat) (x : IV) (u : Value), xs[j]? = some x → us[j]? = some u → IVR κ'.w κ'.prot x u := by
    intro j x u hx hu
    have := hcs j (.iv x) u (by rw [List.getElem?_map, hx]; rfl) hu
    cases this with
    | iv _ _ hi => exact he.iv hi
  have hrp : ∀ off v, TVR κ (.bptr k off) v → TVR κ' (.rptr (xs.drop off)) v := by
    intro off v hv
    cases hv with
    | bptr _ _ b' hk' hb' =>
      rw [htk] at hb'
      injection hb' with hb'; injection hb' with hb'; injection hb' with hb'
      subst hb'
      refine .rptr (xs.drop off) ⟨b, off, none⟩ (us.drop off) (by simp [hul]) (fun u hu => h1 u (List.mem_of_mem_drop hu)) (fun j u hu => ?_) (fun j c u hc hu => ?_)
      · rw [List.getElem?_drop] at hu
        rw [add_mk]
        exact ⟨hcell _ u hu, .inr ⟨off + j, (List.getElem?_eq_some_iff.1 hu).1, rfl⟩⟩
      · rw [List.getElem?_drop] at hc hu
        exact hiv _ c u hc hu
  have hmono : ∀ {t v}, TVR κ t v → TVR κ' t v := fun h => h.mono he (Nat.le_refl _) (fun _ _ => rfl)
  have hT1 : ∀ t v, TVR κ t v → TVR κ' (fzbT1 k xs t) v := by
    intro t v ht
    unfold fzbT1
    split
    · rename_i j off
      cases hj : j == k
      · exact hmono ht
      · have e : j = k := by simpa using hj
        subst e
        exact hrp _ _ ht
    · rename_i b j off
      cases hj : j == k
      · exact hmono ht
      · have e : j = k := by simpa using hj
        subst e
        cases ht with
        | wh _ _ _ h1 h2 => exact .wh b _ v (fun hb => hrp _ _ (h1 hb)) h2
    · exact hmono ht
  have hT : ∀ t v, TVR κ t v → TVR κ' (fzbT k xs t) v := by
    intro t v ht
    unfold fzbT
    split
    · rename_i f l
      cases ht with
      | clo _ _ us hl h =>
        refine .clo f _ us (by rw [fzbC_length]; exact hl) (fun j c u hc hu => ?_)
        rw [fzbC_get] at hc
        obtain ⟨c0, hc0, rfl⟩ := Option.map_eq_some_iff.1 hc
        exact hT1 _ _ (h j c0 u hc0 hu)
    · exact hT1 _ _ ht
  refine ⟨κ', rfl, ⟨⟨fun k1 o hk1 => ?_, fun k1 o1 k2 o2 hk1 hk2 => ?_, keysNd_rmAt _ _ h.o.nd, fun x hx => ?_, h.o.fr⟩, fun i => ?_, h.size, dfx he h.nodef, h.nx⟩, he, ⟨hm, fun _ _ _ => rfl⟩⟩
  · rw [look?_rmAt _ _ _ h.o.nd] at hk1
    split at hk1
    · simp at hk1
    · rename_i hne
      obtain ⟨q1, q2⟩ := h.o.obs k1 o hk1
      refine ⟨q1, q2.keep he (fun _ h => h) (Nat.le_refl _) (fun _ _ => rfl) q1 (fun _ _ => rfl) (fun x hx => ?_)⟩
      rcases hx with hx | ⟨j, hj, rfl⟩
      · exact .inl hx
      · refine .inr fun b' hb' e => ?_
        have e : b = b' := e
        subst e
        exact h.o.dis k _ k1 o hk hk1 (fun e => hne e.symm) b (by rw [htk]; rfl) hb'
  · rw [look?_rmAt _ _ _ h.o.nd] at hk1 hk2
    split at hk1
    · simp at hk1
    · split at hk2
      · simp at hk2
      · exact h.o.dis k1 o1 k2 o2 hk1 hk2
  · rcases hx with hx | ⟨j, hj, rfl⟩
    · exact h.o.prot x hx
    · show (κ.w.cell? _).isSome = true
      rw [hcell j _ (List.getElem?_eq_getElem hj)]; rfl
  · have := h.env i
    simp only [St.get, look_eq] at this ⊢
    rw [look?_fzbE]
    cases hq : look? st.env i with
    | none => exact .any _
    | some t => rw [hq] at this; exact hT _ _ this
end
attribute [push_cast] fzbT1 fzbC fzbT fzbE
end Go.PL
