/- ARGUMENTS OPENED, AND THE ROW CLOSED. -/
import Derived.Test.YtmocgjimlhgejaaKB13
import Derived.ProofKit
import Derived.OpenShut
import Derived.Carry
import Derived.Deep.Slices
namespace Go.PL
open Go.ChangeShapes Go.WideShapes Go.ChangeAt Go.RowKit
set_option linter.unusedSimpArgs false
set_option linter.unusedVariables false
section
variable {P : Program} {H : Type} {enc : TypeId × Value → H}

theorem Below.trodAll (hl : laidOutB P = true) {W W' : World} (hb : Below W.heap.size W W') : ∀ (ts : List TypeId) (vs : List Value) (ds : List (DataW H)) (ps : List MemPlace), (∀ t ∈ ts, P.readableRec t = true ∧ t < P.types.size) →
    DataW.TrodAll enc P W 0 (fun _ => true) true ts vs ds ps → (∀ x ∈ ps, x.block < W.heap.size) → DataW.TrodAll enc P W' 0 (fun b => decide (b < W.heap.size)) true ts vs ds ps
  | [], vs, ds, ps, _, h, _ => by
    obtain ⟨rfl, rfl, rfl⟩ := trodAll_nil h
    exact trodAll_mk0
  | t :: ts, vs, ds, ps, ht, h, hlt => by
    obtain ⟨v, vs', d, ds', p, q, rfl, rfl, rfl, h1, h2⟩ := trodAll_cons h
    obtain ⟨hr, hrow⟩ := ht t (List.mem_cons_self ..)
    exact trodAll_cons_mk (Below.trod hl hr hrow h1 hb (fun x hx => hlt x (List.mem_append_left _ hx)))
      (Below.trodAll hl hb ts vs' ds' q (fun t h => ht t (List.mem_cons_of_mem _ h)) h2 (fun x hx => hlt x (List.mem_append_right _ hx)))

/-- All cells that are there. -/
def has (W : World) : Addr → Prop := fun a => (W.cell? a).isSome = true
/-- What is read at a type is one of these values. -/
def Opens (P : Program) (t : TypeId) (X : IV → Prop) : Prop := ∀ (H : Type) (enc : TypeId × Value → H) (W : World) (base : Nat) (sp : Nat → Bool) (held : Bool) (fuel : Nat) (cs : List Value) (y : DataW H × List MemPlace),
  DataW.trod enc P W base sp held fuel t cs = some y → ∃ x, X x ∧ CR W (has W) x.cells cs
theorem Opens.int {t : TypeId} {k : IntKind} (ht : P.underlying t = some (.int k)) : Opens P t (fun x => ∃ n, (Lit.int k n).wf = true ∧ x = .lit (.int k n)) := by
  intro H enc W base sp held fuel cs y h
  obtain ⟨n, rfl, rfl, hw⟩ := DataW.trod_int ht h
  refine ⟨_, ⟨n, hw, rfl⟩, rfl, by simp [Value.oneCell'], fun j c u hc hu => ?_⟩
  match j with
  | 0 => simp [IV.cells] at hc hu; subst hc; subst hu; exact .lit _
  | j + 1 => simp at hu
theorem CR.flat {W : World} {prot : Addr → Prop} {n sz : Nat} : ∀ (xs : List IV) (cs : List Value), cs.length = xs.length * sz → (∀ i x, xs[i]? = some x → CR W prot x.cells ((cs.drop (i * sz)).take sz)) → CR W prot (xs.flatMap IV.cells) cs
  | [], cs, hl, h => by
    have : cs = [] := List.eq_nil_of_length_eq_zero (by simpa using hl)
    subst this
    exact ⟨rfl, by simp, by simp⟩
  | x :: xs, cs, hl, h => by
    have h0 := h 0 x rfl
    simp only [Nat.zero_mul, List.drop_zero] at h0
    have h1 := CR.flat (n := n) (sz := sz) xs (cs.drop sz) (by rw [List.length_drop, hl, List.length_cons, Nat.succ_mul]; omega) (fun i y hy => by
      have := h (i + 1) y (by simpa using hy)
      rwa [Nat.succ_mul, Nat.add_comm, ← List.drop_drop] at this)
    have := CR.app h0 h1
    rw [List.take_append_drop] at this
    simpa using this
theorem Opens.arr {t e : TypeId} {n : Nat} {X : IV → Prop} (ht : P.underlying t = some (.array n e)) (hc : P.cellsOf t = n * P.cellsOf e) (he : Opens P e X) : Opens P t (fun x => ∃ xs : List IV, xs.length = n ∧ (∀ y ∈ xs, X y) ∧ x = .agg (xs.flatMap IV.cells)) := by
  intro H enc W base sp held fuel cs y h
  obtain ⟨ys, m, rfl, rfl, hlen, hn, hel⟩ := DataW.trod_array ht h
  have key : ∀ k, k ≤ n → ∃ xs : List IV, xs.length = k ∧ (∀ y ∈ xs, X y) ∧ ∀ i x, xs[i]? = some x → CR W (has W) x.cells ((cs.drop (i * P.cellsOf e)).take (P.cellsOf e)) := by
    intro k
    induction k with
    | zero => intro _; exact ⟨[], rfl, by simp, by simp⟩
    | succ k ih =>
      intro hk
      obtain ⟨xs, h1, h2, h3⟩ := ih (by omega)
      have hk' := hel k (by omega)
      rw [List.getElem?_eq_getElem (by omega)] at hk'
      obtain ⟨x, hX, hx⟩ := he H enc W base sp held m _ _ hk'
      refine ⟨xs ++ [x], by simp [h1], fun y hy => ?_, fun i z hz => ?_⟩
      · rcases List.mem_append.1 hy with hy | hy
        · exact h2 y hy
        · simp at hy; subst hy; exact hX
      · by_cases hi : i < xs.length
        · rw [List.getElem?_append_left hi] at hz; exact h3 i z hz
        · have hik : i = k := by
            have := (List.getElem?_eq_some_iff.1 hz).1
            simp at this; omega
          subst hik
          rw [List.getElem?_append_right (by omega), h1] at hz
          simp at hz; subst hz; exact hx
  obtain ⟨xs, h1, h2, h3⟩ := key n (Nat.le_refl n)
  exact ⟨_, ⟨xs, h1, h2, rfl⟩, CR.flat (n := n) (sz := P.cellsOf e) xs cs (by rw [hlen, hc, h1]) h3⟩
theorem Opens.sliceB {t e : TypeId} {sz : Nat} {X : IV → Prop} (ht : P.underlying t = some (.slice e)) (hc : P.cellsOf e = sz) (he : Opens P e X) : Opens P t (fun x => ∃ xs : List IV, (∀ y ∈ xs, X y) ∧ xs.length ≤ 9223372036854775807 ∧ x = .sl sz xs) := by
  intro H enc W base sp held fuel cs y h
  rcases Go.Deep.open_slice ht h with ⟨rfl, rfl⟩ | ⟨a, len, cap, m, n, D, Pl, rfl, hb, hlc, hcm, hm, rfl, hel⟩
  · refine ⟨.sl sz [], ⟨[], by simp, by simp, rfl⟩, rfl, by simp [Value.oneCell'], fun j c u hc' hu => ?_⟩
    match j with
    | 0 =>
      simp [IV.cells] at hc' hu
      subst hc'; subst hu
      exact .sl none sz [] 0 [] (Nat.le_refl _) (by simp) (by simp) (by simp) (by simp) (by simp) (by simp) (fun _ => rfl)
    | j + 1 => simp at hu
  · have hlm : len ≤ m := by rw [hm]; split <;> omega
    have key : ∀ k, k ≤ len → ∃ (xs : List IV) (us : List Value), xs.length = k ∧ (∀ y ∈ xs, X y) ∧ us.length = k * sz ∧ (∀ x ∈ xs, x.cells.length = sz) ∧ (∀ u ∈ us, u.oneCell' = true) ∧ (∀ (j : Nat) (u : Value), us[j]? = some u → W.cell? (a.add j) = some u) ∧
        (∀ (j : Nat) (x : IV) (u : Value), (xs.flatMap IV.cells)[j]? = some x → us[j]? = some u → IVR W (has W) x u) := by
      intro k
      induction k with
      | zero => intro _; exact ⟨[], [], rfl, by simp, by simp, by simp, by simp, by simp, by simp⟩
      | succ k ih =>
        intro hk
        obtain ⟨xs, us, h1, h2, h3, h4, h5, h6, h7⟩ := ih (by omega)
        obtain ⟨cs', hcs, htr⟩ := hel k (by omega)
        obtain ⟨x, hX, hx⟩ := he H enc W base sp held n cs' _ htr
        obtain ⟨_, hl', hcell⟩ := World.cells?_some hcs
        rw [hc] at hl' hcell
        have hxl : x.cells.length = sz := by have := hx.1; omega
        have hfl : (xs.flatMap IV.cells).length = us.length := by rw [flat_length xs h4, h1, h3]
        refine ⟨xs ++ [x], us ++ cs', by simp [h1], fun y hy => ?_, by rw [List.length_append, h3, Nat.succ_mul]; omega, fun y hy => ?_, fun u hu => ?_, fun j u hu => ?_, fun j z u hz hu => ?_⟩
        · rcases List.mem_append.1 hy with hy | hy
          · exact h2 y hy
          · simp at hy; subst hy; exact hX
        · rcases List.mem_append.1 hy with hy | hy
          · exact h4 y hy
          · simp at hy; subst hy; exact hxl
        · rcases List.mem_append.1 hu with hu | hu
          · exact h5 u hu
          · exact hx.2.1 u hu
        · by_cases hj : j < us.length
          · rw [List.getElem?_append_left hj] at hu; exact h6 j u hu
          · rw [List.getElem?_append_right (by omega)] at hu
            have hlt : j - us.length < sz := by have := (List.getElem?_eq_some_iff.1 hu).1; omega
            have := hcell (j - us.length) hlt
            rw [hu] at this
            rw [add_add_] at this
            rw [← this]
            congr 2
            omega
        · rw [List.flatMap_append] at hz
          by_cases hj : j < us.length
          · rw [List.getElem?_append_left (by omega)] at hz
            rw [List.getElem?_append_left hj] at hu
            exact h7 j z u hz hu
          · rw [List.getElem?_append_right (by omega)] at hz
            rw [List.getElem?_append_right (by omega)] at hu
            rw [hfl] at hz
            exact hx.2.2 _ z u (by simpa using hz) hu
    obtain ⟨xs, us, h1, h2, h3, h4, h5, h6, h7⟩ := key len (Nat.le_refl _)
    refine ⟨.sl sz xs, ⟨xs, h2, by simp only [maxLen] at hcm; omega, rfl⟩, rfl, by simp [Value.oneCell'], fun j c u hc' hu => ?_⟩
    match j with
    | 0 =>
      simp [IV.cells] at hc' hu
      subst hc'; subst hu
      subst h1
      exact .sl (some a) sz xs cap us hlc h3 h4 h5 (fun _ => ⟨_, rfl⟩) (fun ad e j u hu => by injection e with e; subst e; exact ⟨h6 j u hu, by unfold has; rw [h6 j u hu]; rfl⟩) h7 (fun e => by cases e)
    | j + 1 => simp at hu

theorem Opens.mono {t : TypeId} {X Y : IV → Prop} (h : Opens P t X) (hXY : ∀ x, X x → Y x) : Opens P t Y := by
  intro H enc W base sp held fuel cs y hh
  obtain ⟨x, hx, hc⟩ := h H enc W base sp held fuel cs y hh
  exact ⟨x, hXY x hx, hc⟩
theorem Opens.slice {t e : TypeId} {sz : Nat} {X : IV → Prop} (ht : P.underlying t = some (.slice e)) (hc : P.cellsOf e = sz) (he : Opens P e X) : Opens P t (fun x => ∃ xs : List IV, (∀ y ∈ xs, X y) ∧ x = .sl sz xs) :=
  (Opens.sliceB ht hc he).mono (fun x ⟨xs, h1, _, h2⟩ => ⟨xs, h1, h2⟩)
theorem Opens.bool {t : TypeId} (ht : P.underlying t = some .bool) : Opens P t (fun x => ∃ b, x = .lit (.bool b)) := by
  intro H enc W base sp held fuel cs y h
  obtain ⟨b, rfl, rfl⟩ := DataW.trod_bool ht h
  refine ⟨_, ⟨b, rfl⟩, rfl, by simp [Value.oneCell'], fun j c u hc hu => ?_⟩
  match j with
  | 0 => simp [IV.cells] at hc hu; subst hc; subst hu; exact .lit _
  | j + 1 => simp at hu
theorem Opens.str {t : TypeId} (ht : P.underlying t = some .string) : Opens P t (fun x => ∃ s : ByteArray, s.size ≤ 9223372036854775807 ∧ x = .lit (.string s)) := by
  intro H enc W base sp held fuel cs y h
  obtain ⟨s, rfl, rfl, hs⟩ := DataW.trod_string ht h
  refine ⟨_, ⟨s, by simp only [maxLen] at hs; omega, rfl⟩, rfl, by simp [Value.oneCell'], fun j c u hc hu => ?_⟩
  match j with
  | 0 => simp [IV.cells] at hc hu; subst hc; subst hu; exact .lit _
  | j + 1 => simp at hu
def OpensAll (P : Program) : List TypeId → List (IV → Prop) → Prop
  | [], [] => True
  | t :: ts, X :: Xs => Opens P t X ∧ OpensAll P ts Xs
  | _, _ => False
def All2 : List (IV → Prop) → List IV → Prop
  | [], [] => True
  | X :: Xs, x :: xs => X x ∧ All2 Xs xs
  | _, _ => False
theorem All2.cons {X : IV → Prop} {Xs : List (IV → Prop)} {l : List IV} (h : All2 (X :: Xs) l) : ∃ x xs, l = x :: xs ∧ X x ∧ All2 Xs xs := by
  cases l with
  | nil => exact h.elim
  | cons x xs => exact ⟨x, xs, rfl, h.1, h.2⟩
theorem All2.nil {l : List IV} (h : All2 [] l) : l = [] := by
  cases l with
  | nil => rfl
  | cons x xs => exact h.elim
/-- Fields that lie one behind the other. -/
def laidFs (P : Program) : Nat → List Field → Nat → Bool
  | off, [], n => off == n
  | off, f :: fs, n => f.offset == off && laidFs P (off + P.cellsOf f.type) fs n
theorem struct_cells {W : World} {base : Nat} {sp : Nat → Bool} {held : Bool} {m : Nat} : ∀ (fs : List Field) (Xs : List (IV → Prop)) (pre cs : List Value), OpensAll P (fs.map (·.type)) Xs → laidFs P pre.length fs (pre.length + cs.length) = true →
    (∀ f ∈ fs, ∃ y, DataW.trod enc P W base sp held m f.type (((pre ++ cs).drop f.offset).take (P.cellsOf f.type)) = some y) → ∃ xs, All2 Xs xs ∧ CR W (has W) (xs.flatMap IV.cells) cs
  | [], [], pre, cs, _, hl, _ => by
    have : cs = [] := by
      simp only [laidFs, beq_iff_eq] at hl
      exact List.eq_nil_of_length_eq_zero (by omega)
    subst this
    exact ⟨[], trivial, rfl, by simp, by simp⟩
  | [], _ :: _, _, _, h, _, _ => h.elim
  | _ :: _, [], _, _, h, _, _ => h.elim
  | f :: fs, X :: Xs, pre, cs, ho, hl, ht => by
    simp only [laidFs, Bool.and_eq_true, beq_iff_eq] at hl
    obtain ⟨hoff, hl⟩ := hl
    obtain ⟨y, hy⟩ := ht f (List.mem_cons_self ..)
    obtain ⟨x, hX, hx⟩ := ho.1 _ _ _ _ _ _ _ _ _ hy
    rw [hoff, List.drop_left'] at hx
    · have hxl := hx.1
      have hle : P.cellsOf f.type ≤ cs.length := by
        have key : ∀ (fs : List Field) (off n : Nat), laidFs P off fs n = true → off ≤ n := by
          intro fs
          induction fs with
          | nil => intro off n h; simp only [laidFs, beq_iff_eq] at h; omega
          | cons g gs ih => intro off n h; simp only [laidFs, Bool.and_eq_true] at h; have := ih _ _ h.2; omega
        have := key _ _ _ hl
        omega
      obtain ⟨xs, h1, h2⟩ := struct_cells fs Xs (pre ++ cs.take (P.cellsOf f.type)) (cs.drop (P.cellsOf f.type)) ho.2 (by
        rw [List.length_append, List.length_take, List.length_drop, Nat.min_eq_left hle]
        rw [show pre.length + P.cellsOf f.type + (cs.length - P.cellsOf f.type) = pre.length + cs.length by omega]
        exact hl) (fun g hg => by
        rw [List.append_assoc, List.take_append_drop]
        exact ht g (List.mem_cons_of_mem _ hg))
      refine ⟨x :: xs, ⟨hX, h1⟩, ?_⟩
      have := CR.app hx h2
      rw [List.take_append_drop] at this
      exact this
    · rfl
theorem Opens.struct {t : TypeId} {fs : Array Field} {Xs : List (IV → Prop)} (ht : P.underlying t = some (.struct fs)) (hl : laidFs P 0 fs.toList (P.cellsOf t) = true) (hX : OpensAll P (fs.toList.map (·.type)) Xs) :
    Opens P t (fun x => ∃ xs : List IV, All2 Xs xs ∧ x = .agg (xs.flatMap IV.cells)) := by
  intro H enc W base sp held fuel cs y h
  obtain ⟨ys, m, rfl, rfl, hlen, hn, hel⟩ := DataW.trod_struct ht h
  obtain ⟨xs, h1, h2⟩ := struct_cells (enc := enc) (W := W) (base := base) (sp := sp) (held := held) (m := m) fs.toList Xs [] cs hX (by simpa [hlen] using hl) (fun f hf => by
    obtain ⟨i, hi⟩ := List.getElem?_of_mem hf
    have h3 := hel i f (by simpa using hi)
    have hlt : i < fs.size := by have := (List.getElem?_eq_some_iff.1 hi).1; simpa using this
    rw [List.getElem?_eq_getElem (by omega)] at h3
    exact ⟨_, by simpa using h3⟩)
  exact ⟨_, ⟨xs, h1, rfl⟩, h2⟩

/-- An argument of a type of one cell. -/
theorem Opens.arg {t : TypeId} {X : IV → Prop} (h : Opens P t X) {desc : TypeDesc} (ht : P.underlying t = some desc) (hg : isAggD desc = false) {W : World} {r : Reach} {b0 : Nat} {base : Nat} {sp : Nat → Bool} {held : Bool} {v : Value} {d : DataW H} {ps : List MemPlace}
    (hval : Value.okWide P W r b0 t v) (hd : DataW.Trod enc P W base sp held t v d ps) (hX : ∀ x, X x → x.cells = [x]) : ∃ x, X x ∧ IVR W (has W) x v := by
  obtain ⟨fuel, hf⟩ := hd
  obtain ⟨x, hx, hl, h1, hr⟩ := h H enc W base sp held fuel _ _ hf
  rw [hX x hx] at hl hr
  have hv : v.cells = #[v] := by
    cases v with
    | agg cs =>
      exfalso
      unfold Value.okWide at hval
      rw [ht] at hval
      cases desc <;> simp [isAggD] at hg <;> simp [Cell.okWide, ht, Cell.ok] at hval
    | _ => rfl
  refine ⟨x, hx, hr 0 x v rfl (by rw [hv]; rfl)⟩
/-- An argument in one piece. -/
theorem Opens.argA {t : TypeId} {X : IV → Prop} (h : Opens P t X) {desc : TypeDesc} (ht : P.underlying t = some desc) (hg : isAggD desc = true) {W : World} {r : Reach} {b0 : Nat} {base : Nat} {sp : Nat → Bool} {held : Bool} {v : Value} {d : DataW H} {ps : List MemPlace}
    (hval : Value.okWide P W r b0 t v) (hd : DataW.Trod enc P W base sp held t v d ps) (hX : ∀ x, X x → ∃ cs, x = .agg cs) : ∃ x, X x ∧ IVR W (has W) x v := by
  obtain ⟨fuel, hf⟩ := hd
  obtain ⟨x, hx, hl, h1, hr⟩ := h H enc W base sp held fuel _ _ hf
  obtain ⟨cs, rfl⟩ := hX x hx
  have hv : ∃ us, v = .agg us := by
    unfold Value.okWide at hval
    rw [ht] at hval
    cases desc <;> simp [isAggD] at hg
    · obtain ⟨us, e, _⟩ := hval; exact ⟨us, e⟩
    · obtain ⟨us, e, _⟩ := hval; exact ⟨us, e⟩
  obtain ⟨us, rfl⟩ := hv
  refine ⟨_, hx, ?_⟩
  have := IVR.agg (w := W) (prot := has W) cs us.toList (by simpa [IV.cells, Value.cells] using hl) (by simpa [Value.cells] using h1) (by simpa [IV.cells, Value.cells] using hr)
  simpa using this
/-- What the contract of a law says of a call from outside: it answers true, and nothing that was there has turned. -/
theorem law_calls {f : FuncId} {ts : List TV} {n' : Nat} {R : TV → List (Nat × Ob) → Prop} (hc : PC P f ts [] 0 n' R) {b : Bool} (hR : ∀ t o, R t o → t = .iv (.lit (.bool b))) {W : World} {vs : List Value} (hl : vs.length = ts.length)
    (h : ∀ (j : Nat) (t : TV) (v : Value), ts[j]? = some t → vs[j]? = some v → ∃ x, t = .iv x ∧ IVR W (has W) x v) : Calls P f vs.toArray W (fun e W' => e = .returned (.bool b) ∧ Below W.heap.size W W') := by
  let κ : Kx := ⟨W, has W, ⟨fun b => b < W.heap.size, (0, [])⟩, fun _ => undef, 0⟩
  have hO : RelO κ [] := ⟨fun k o hk => (by cases hk), fun k o k' o' hk => (by cases hk), trivial, fun a ha => ha, fun b hb => hb⟩
  refine Calls.mono (hc.2 κ vs hO rfl hl (fun j t v ht hv => by obtain ⟨x, rfl, hx⟩ := h j t v ht hv; exact .iv x v hx)) ?_
  rintro e W' ⟨κ', v, t, obs', rfl, rfl, _, _, _, he, _, _, ht, hr⟩
  rw [hR _ _ hr] at ht
  exact ⟨by rw [ivlit ht], ⟨he.os, he.tape, he.output, he.size, fun k hk => he.fr k hk⟩⟩
/-- A law's row, closed. -/
theorem law_post (hl : laidOutB P = true) {fn : Func} {s : ChangeSpec} {W W' : World} {args : Array Value} {ds gs : List (DataW H)} {p : List MemPlace} {tb : TypeId} (hvars : s.vars = []) (hres : fn.resultTypes = #[tb]) (htb : P.underlying tb = some .bool)
    (ht : ∀ t ∈ fn.params.toList, P.readableRec t = true ∧ t < P.types.size) (hW : DataW.Whole enc P fn.params.toList s.vars false W args.toList ds gs p) (hb : Below W.heap.size W W')
    (hfn : ∀ ds' : List (DataW H), ds'.length = fn.params.size → s.fn H ds' = { results := [.lit (.bool true)], args := ds' }) : s.post enc P fn false true false false W args (.bool true) W' := by
  have hW' := hW
  obtain ⟨pa, pv, hA, hV, rfl, hfz, hnd⟩ := hW
  rw [hvars] at hV
  obtain ⟨rfl, rfl⟩ := trodVars_none hV
  have hlt : ∀ x ∈ pa, x.block < W.heap.size := fun x hx => hW'.lt x (List.mem_append_left _ hx)
  have hlen : ds.length = fn.params.size := by
    have : ∀ (ts : List TypeId) (vs : List Value) (ds : List (DataW H)) (ps : List MemPlace), DataW.TrodAll enc P W 0 (fun _ => true) true ts vs ds ps → ds.length = ts.length := by
      intro ts
      induction ts with
      | nil => intro vs ds ps h; obtain ⟨_, rfl, _⟩ := trodAll_nil h; rfl
      | cons t ts ih => intro vs ds ps h; obtain ⟨v, vs', d, ds', p, q, _, rfl, _, _, h2⟩ := trodAll_cons h; simp [ih _ _ _ h2]
    have := this _ _ _ _ hA
    simpa using this
  have e1 : s.fn H (ds ++ []) = { results := [.lit (.bool true)], args := ds } := by rw [List.append_nil]; exact hfn ds hlen
  have e2 : fn.resultTypes.toList = [tb] := by rw [hres]
  have e3 : (Value.bool true).resultList fn.resultTypes.size = [.bool true] := by rw [hres]; rfl
  refine ⟨ds, [], pa ++ [], [], pa, [], hW', ?_, ?_, ?_, hb.frame _, fun h => by cases h⟩
  · rw [e1, e2, e3]
    exact trodAll_mk1 (shut_bool htb _)
  · rw [e1]
    exact Below.trodAll hl hb _ _ _ _ ht hA hlt
  · rw [e1, hvars]
    exact hV
end
end Go.PL
