/- ARGUMENTS OPENED, WHERE SOMETHING IS KNOWN OF THEIR READING. -/
import Derived.Test.YtmocgjimlhgejaaKBC
import Derived.SizedLaws
namespace Go.PL
open Go.ChangeShapes Go.WideShapes Go.ChangeAt Go.RowKit
set_option linter.unusedSimpArgs false
set_option linter.unusedVariables false
section
variable {P : Program} {H : Type} {enc : TypeId × Value → H}
/-- What is read at a type is one of these values, if the reading has a property. -/
def OpensG (P : Program) (G : (H : Type) → TypeId → DataW H → Prop) (t : TypeId) (X : IV → Prop) : Prop := ∀ (H : Type) (enc : TypeId × Value → H) (W : World) (base : Nat) (sp : Nat → Bool) (held : Bool) (fuel : Nat) (cs : List Value) (y : DataW H × List MemPlace),
  DataW.trod enc P W base sp held fuel t cs = some y → G H t y.1 → ∃ x, X x ∧ CR W (has W) x.cells cs
theorem Opens.toG {G : (H : Type) → TypeId → DataW H → Prop} {t : TypeId} {X : IV → Prop} (h : Opens P t X) : OpensG P G t X := fun H enc W base sp held fuel cs y hh _ => h H enc W base sp held fuel cs y hh
theorem OpensG.mono {G : (H : Type) → TypeId → DataW H → Prop} {t : TypeId} {X Y : IV → Prop} (h : OpensG P G t X) (hXY : ∀ x, X x → Y x) : OpensG P G t Y := by
  intro H enc W base sp held fuel cs y hh hg
  obtain ⟨x, hx, hc⟩ := h H enc W base sp held fuel cs y hh hg
  exact ⟨x, hXY x hx, hc⟩
theorem OpensG.slice {G : (H : Type) → TypeId → DataW H → Prop} {t e : TypeId} {sz : Nat} {X : IV → Prop} (B : Nat) (hG : ∀ (H : Type) (l r : List (DataW H)), G H t (.slice l r) → (∀ d ∈ l, G H e d) ∧ l.length ≤ B) (ht : P.underlying t = some (.slice e)) (hc : P.cellsOf e = sz) (he : OpensG P G e X) : OpensG P G t (fun x => ∃ xs : List IV, (∀ y ∈ xs, X y) ∧ xs.length ≤ B ∧ x = .sl sz xs) := by
  intro H enc W base sp held fuel cs y h hgy
  rcases Go.Deep.open_slice ht h with ⟨rfl, rfl⟩ | ⟨a, len, cap, m, n, D, Pl, rfl, hb, hlc, hcm, hm, rfl, hel⟩
  · refine ⟨.sl sz [], ⟨[], by simp, by simp, rfl⟩, rfl, by simp [Value.oneCell'], fun j c u hc' hu => ?_⟩
    match j with
    | 0 =>
      simp [IV.cells] at hc' hu
      subst hc'; subst hu
      exact .sl none sz [] 0 [] (Nat.le_refl _) (by simp) (by simp) (by simp) (by simp) (by simp) (by simp) (fun _ => rfl)
    | j + 1 => simp at hu
  · have hlm : len ≤ m := by rw [hm]; split <;> omega
    obtain ⟨hg1, hg2⟩ := hG H _ _ hgy
    rw [List.length_map, List.length_range] at hg2
    have key : ∀ k, k ≤ len → ∃ (xs : List IV) (us : List Value), xs.length = k ∧ (∀ y ∈ xs, X y) ∧ us.length = k * sz ∧ (∀ x ∈ xs, x.cells.length = sz) ∧ (∀ u ∈ us, u.oneCell' = true) ∧ (∀ (j : Nat) (u : Value), us[j]? = some u → W.cell? (a.add j) = some u) ∧
        (∀ (j : Nat) (x : IV) (u : Value), (xs.flatMap IV.cells)[j]? = some x → us[j]? = some u → IVR W (has W) x u) := by
      intro k
      induction k with
      | zero => intro _; exact ⟨[], [], rfl, by simp, by simp, by simp, by simp, by simp, by simp⟩
      | succ k ih =>
        intro hk
        obtain ⟨xs, us, h1, h2, h3, h4, h5, h6, h7⟩ := ih (by omega)
        obtain ⟨cs', hcs, htr⟩ := hel k (by omega)
        obtain ⟨x, hX, hx⟩ := he H enc W base sp held n cs' _ htr (hg1 _ (List.mem_map.2 ⟨k, List.mem_range.2 (by omega), rfl⟩))
        obtain ⟨_, hl', hcell⟩ := World.cells?_some hcs
        rw [hc] at hl' hcell
        have hxl : x.cells.length = sz := by have := hx.1; omega
        have hfl : (xs.flatMap IV.cells).length = us.length := by rw [flat_length xs h4, h1, h3]
        refine ⟨xs ++ [x], us ++ cs', by simp [h1], fun y hy => ?_, by rw [List.length_append, h3, Nat.succ_mul]; omega, fun y hy => ?_, fun u hu => ?_, fun j u hu => ?_, fun j z u hz hu => ?_⟩
        · rcases List.mem_append.1 hy with hy | hy
          · exact h2 y hy
          · simp at hy; subst hy; exact hX
        · rcases List.mem_append.1 hy with hy | hy
          · exact h4 y hy
          · simp at hy; subst hy; exact hxl
        · rcases List.mem_append.1 hu with hu | hu
          · exact h5 u hu
          · exact hx.2.1 u hu
        · by_cases hj : j < us.length
          · rw [List.getElem?_append_left hj] at hu; exact h6 j u hu
          · rw [List.getElem?_append_right (by omega)] at hu
            have hlt : j - us.length < sz := by have := (List.getElem?_eq_some_iff.1 hu).1; omega
            have := hcell (j - us.length) hlt
            rw [hu] at this
            rw [add_add_] at this
            rw [← this]
            congr 2
            omega
        · rw [List.flatMap_append] at hz
          by_cases hj : j < us.length
          · rw [List.getElem?_append_left (by omega)] at hz
            rw [List.getElem?_append_left hj] at hu
            exact h7 j z u hz hu
          · rw [List.getElem?_append_right (by omega)] at hz
            rw [List.getElem?_append_right (by omega)] at hu
            rw [hfl] at hz
            exact hx.2.2 _ z u (by simpa using hz) hu
    obtain ⟨xs, us, h1, h2, h3, h4, h5, h6, h7⟩ := key len (Nat.le_refl _)
    refine ⟨.sl sz xs, ⟨xs, h2, by omega, rfl⟩, rfl, by simp [Value.oneCell'], fun j c u hc' hu => ?_⟩
    match j with
    | 0 =>
      simp [IV.cells] at hc' hu
      subst hc'; subst hu
      subst h1
      exact .sl (some a) sz xs cap us hlc h3 h4 h5 (fun _ => ⟨_, rfl⟩) (fun ad e j u hu => by injection e with e; subst e; exact ⟨h6 j u hu, by unfold has; rw [h6 j u hu]; rfl⟩) h7 (fun e => by cases e)
    | j + 1 => simp at hu

def OpensAllG (P : Program) (G : (H : Type) → TypeId → DataW H → Prop) : List TypeId → List (IV → Prop) → Prop
  | [], [] => True
  | t :: ts, X :: Xs => OpensG P G t X ∧ OpensAllG P G ts Xs
  | _, _ => False
theorem struct_cellsG {G : (H : Type) → TypeId → DataW H → Prop} {W : World} {base : Nat} {sp : Nat → Bool} {held : Bool} {m : Nat} : ∀ (fs : List Field) (Xs : List (IV → Prop)) (pre cs : List Value), OpensAllG P G (fs.map (·.type)) Xs → laidFs P pre.length fs (pre.length + cs.length) = true →
    (∀ f ∈ fs, ∃ y, DataW.trod enc P W base sp held m f.type (((pre ++ cs).drop f.offset).take (P.cellsOf f.type)) = some y ∧ G H f.type y.1) → ∃ xs, All2 Xs xs ∧ CR W (has W) (xs.flatMap IV.cells) cs
  | [], [], pre, cs, _, hl, _ => by
    have : cs = [] := by
      simp only [laidFs, beq_iff_eq] at hl
      exact List.eq_nil_of_length_eq_zero (by omega)
    subst this
    exact ⟨[], trivial, rfl, by simp, by simp⟩
  | [], _ :: _, _, _, h, _, _ => h.elim
  | _ :: _, [], _, _, h, _, _ => h.elim
  | f :: fs, X :: Xs, pre, cs, ho, hl, ht => by
    simp only [laidFs, Bool.and_eq_true, beq_iff_eq] at hl
    obtain ⟨hoff, hl⟩ := hl
    obtain ⟨y, hy, hgy⟩ := ht f (List.mem_cons_self ..)
    obtain ⟨x, hX, hx⟩ := ho.1 _ _ _ _ _ _ _ _ _ hy hgy
    rw [hoff, List.drop_left'] at hx
    · have hxl := hx.1
      have hle : P.cellsOf f.type ≤ cs.length := by
        have key : ∀ (fs : List Field) (off n : Nat), laidFs P off fs n = true → off ≤ n := by
          intro fs
          induction fs with
          | nil => intro off n h; simp only [laidFs, beq_iff_eq] at h; omega
          | cons g gs ih => intro off n h; simp only [laidFs, Bool.and_eq_true] at h; have := ih _ _ h.2; omega
        have := key _ _ _ hl
        omega
      obtain ⟨xs, h1, h2⟩ := struct_cellsG fs Xs (pre ++ cs.take (P.cellsOf f.type)) (cs.drop (P.cellsOf f.type)) ho.2 (by
        rw [List.length_append, List.length_take, List.length_drop, Nat.min_eq_left hle]
        rw [show pre.length + P.cellsOf f.type + (cs.length - P.cellsOf f.type) = pre.length + cs.length by omega]
        exact hl) (fun g hg => by
        rw [List.append_assoc, List.take_append_drop]
        exact ht g (List.mem_cons_of_mem _ hg))
      refine ⟨x :: xs, ⟨hX, h1⟩, ?_⟩
      have := CR.app hx h2
      rw [List.take_append_drop] at this
      exact this
    · rfl
theorem OpensG.struct {G : (H : Type) → TypeId → DataW H → Prop} {t : TypeId} {fs : Array Field} {Xs : List (IV → Prop)} (ht : P.underlying t = some (.struct fs)) (hl : laidFs P 0 fs.toList (P.cellsOf t) = true) (hG : ∀ (H : Type) (l : List (DataW H)), G H t (.agg l) → ∀ (i : Nat) (f : Field) (d : DataW H), fs.toList[i]? = some f → l[i]? = some d → G H f.type d) (hX : OpensAllG P G (fs.toList.map (·.type)) Xs) :
    OpensG P G t (fun x => ∃ xs : List IV, All2 Xs xs ∧ x = .agg (xs.flatMap IV.cells)) := by
  intro H enc W base sp held fuel cs y h hgy
  obtain ⟨ys, m, rfl, rfl, hlen, hn, hel⟩ := DataW.trod_struct ht h
  obtain ⟨xs, h1, h2⟩ := struct_cellsG (enc := enc) (W := W) (base := base) (sp := sp) (held := held) (m := m) fs.toList Xs [] cs hX (by simpa [hlen] using hl) (fun f hf => by
    obtain ⟨i, hi⟩ := List.getElem?_of_mem hf
    have h3 := hel i f (by simpa using hi)
    have hlt : i < fs.size := by have := (List.getElem?_eq_some_iff.1 hi).1; simpa using this
    rw [List.getElem?_eq_getElem (by omega)] at h3
    have hy : (ys.map (·.1))[i]? = some (ys[i]'(by omega)).1 := by rw [List.getElem?_map, List.getElem?_eq_getElem (by omega)]; rfl
    exact ⟨_, by simpa using h3, hG H _ hgy i f _ hi hy⟩)
  exact ⟨_, ⟨xs, h1, rfl⟩, h2⟩

/-- An argument of a type of one cell. -/
theorem OpensG.arg {G : (H : Type) → TypeId → DataW H → Prop} {t : TypeId} {X : IV → Prop} (h : OpensG P G t X) {desc : TypeDesc} (ht : P.underlying t = some desc) (hg : isAggD desc = false) {W : World} {r : Reach} {b0 : Nat} {base : Nat} {sp : Nat → Bool} {held : Bool} {v : Value} {d : DataW H} {ps : List MemPlace}
    (hval : Value.okWide P W r b0 t v) (hd : DataW.Trod enc P W base sp held t v d ps) (hgd : G H t d) (hX : ∀ x, X x → x.cells = [x]) : ∃ x, X x ∧ IVR W (has W) x v := by
  obtain ⟨fuel, hf⟩ := hd
  obtain ⟨x, hx, hl, h1, hr⟩ := h H enc W base sp held fuel _ _ hf hgd
  rw [hX x hx] at hl hr
  have hv : v.cells = #[v] := by
    cases v with
    | agg cs =>
      exfalso
      unfold Value.okWide at hval
      rw [ht] at hval
      cases desc <;> simp [isAggD] at hg <;> simp [Cell.okWide, ht, Cell.ok] at hval
    | _ => rfl
  refine ⟨x, hx, hr 0 x v rfl (by rw [hv]; rfl)⟩
/-- An argument in one piece. -/
theorem OpensG.argA {G : (H : Type) → TypeId → DataW H → Prop} {t : TypeId} {X : IV → Prop} (h : OpensG P G t X) {desc : TypeDesc} (ht : P.underlying t = some desc) (hg : isAggD desc = true) {W : World} {r : Reach} {b0 : Nat} {base : Nat} {sp : Nat → Bool} {held : Bool} {v : Value} {d : DataW H} {ps : List MemPlace}
    (hval : Value.okWide P W r b0 t v) (hd : DataW.Trod enc P W base sp held t v d ps) (hgd : G H t d) (hX : ∀ x, X x → ∃ cs, x = .agg cs) : ∃ x, X x ∧ IVR W (has W) x v := by
  obtain ⟨fuel, hf⟩ := hd
  obtain ⟨x, hx, hl, h1, hr⟩ := h H enc W base sp held fuel _ _ hf hgd
  obtain ⟨cs, rfl⟩ := hX x hx
  have hv : ∃ us, v = .agg us := by
    unfold Value.okWide at hval
    rw [ht] at hval
    cases desc <;> simp [isAggD] at hg
    · obtain ⟨us, e, _⟩ := hval; exact ⟨us, e⟩
    · obtain ⟨us, e, _⟩ := hval; exact ⟨us, e⟩
  obtain ⟨us, rfl⟩ := hv
  refine ⟨_, hx, ?_⟩
  have := IVR.agg (w := W) (prot := has W) cs us.toList (by simpa [IV.cells, Value.cells] using hl) (by simpa [Value.cells] using h1) (by simpa [IV.cells, Value.cells] using hr)
  simpa using this
/-! ### The form's own reach -/
/-- No slice, string or map is longer than the form lets in. -/
def sized (P : Program) (H : Type) (t : TypeId) (d : DataW H) : Prop := ∀ w ∈ d.weights P t, w ≤ reachBytes
theorem weightsAll_mem {P : Program} {e : TypeId} : ∀ {l : List (DataW H)} {d : DataW H}, d ∈ l → ∀ w ∈ d.weights P e, w ∈ DataW.weightsAll P e l
  | [], d, h, w, hw => by cases h
  | x :: l, d, h, w, hw => by
    simp only [DataW.weightsAll, List.mem_append]
    rcases List.mem_cons.1 h with rfl | h
    · exact .inl hw
    · exact .inr (weightsAll_mem h w hw)
theorem sized_sl {P : Program} {t e : TypeId} (ht : P.underlying t = some (.slice e)) (B : Nat) (hB : reachBytes < (B + 1) * P.bytesOf e) : ∀ (H : Type) (l r : List (DataW H)), sized P H t (.slice l r) → (∀ d ∈ l, sized P H e d) ∧ l.length ≤ B := by
  intro H l r h
  refine ⟨fun d hd w hw => h w ?_, ?_⟩
  · simp only [DataW.weights, ht, List.mem_cons, List.mem_append]
    exact .inr (.inl (weightsAll_mem hd w hw))
  · have := h ((l.length + r.length) * P.bytesOf e) (by simp [DataW.weights, ht])
    rcases Nat.lt_or_ge B l.length with hlt | hge
    · have h2 : (B + 1) * P.bytesOf e ≤ (l.length + r.length) * P.bytesOf e := Nat.mul_le_mul_right _ (by omega)
      omega
    · exact hge
theorem sized_st {P : Program} {t : TypeId} {fs : Array Field} (ht : P.underlying t = some (.struct fs)) : ∀ (H : Type) (l : List (DataW H)), sized P H t (.agg l) → ∀ (i : Nat) (f : Field) (d : DataW H), fs.toList[i]? = some f → l[i]? = some d → sized P H f.type d := by
  intro H l h i f d hf hd w hw
  refine h w ?_
  simp only [DataW.weights, ht]
  exact DataW.weights_mem_each (j := i) (t := f.type) (by rw [List.getElem?_map, hf]; rfl) hd w hw
theorem sized_arg {P : Program} {ts : List TypeId} {ds : List (DataW H)} (h : (DataW.weightsEach P ts ds).all (· ≤ reachBytes) = true) {j : Nat} {t : TypeId} {d : DataW H} (ht : ts[j]? = some t) (hd : ds[j]? = some d) : sized P H t d := fun w hw => by
  simpa using List.all_eq_true.1 h w (DataW.weights_mem_each ht hd w hw)
end
end Go.PL
