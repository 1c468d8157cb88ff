/- QUIET OPERATIONS: what a pure state says that they yield, they yield, in this world and in every one that has grown out of it. -/
import Derived.Test.YtmocgjimlhgejaaKBE
import Derived.Laws.Cells
import Derived.Laws.Entries
import Derived.Laws.BytesString
import Derived.Laws.BytesArg
namespace Go.PL
open Go.RowKit (Below)
set_option linter.unusedSimpArgs false
set_option linter.unusedVariables false

def isAggD : TypeDesc → Bool
  | .struct _ | .array _ _ => true
  | _ => false
/-- What a kind says of a type. -/
def KOK (P : Program) : TypeDesc → TK → Prop
  | d, .bool => d = .bool
  | d, .int k => d = .int k
  | d, .str => d = .string
  | d, .slice e => d = .slice e
  | d, .map k v => d = .map k v
  | d, .arr n e => d = .array n e
  | d, .struct l => ∃ fs, d = .struct fs ∧ fs.size = l.length ∧ ∀ i, i < l.length → ∃ f, fs[i]? = some f ∧ f.offset = (offOf l i).1 ∧ (P.info? f.type).map (·.size) = some (offOf l i).2.1 ∧ f.type = (offOf l i).2.2
  | _, .other => True
def DOK (P : Program) (t : Nat) (d : TD) : Prop :=
  d.known = true → ∃ i desc z, P.info? t = some i ∧ P.underlying t = some desc ∧ i.size = d.size ∧ i.bytes = d.bytes ∧ d.agg = isAggD desc ∧ KOK P desc d.kind ∧
    i.zero = some z ∧ z.cells.toList = d.zero ∧ (∀ v ∈ d.zero, v.oneCell' = true) ∧ d.zero.length = d.size ∧ (d.plan ≠ [] → EqOK P t d.plan) ∧ (d.agg = false → d.zero = [z])
def TOK (P : Program) (τ : Nat → TD) : Prop := ∀ t, DOK P t (τ t)

section
variable {P : Program}
theorem run_loadVar_agg {t : TypeId} {i : TypeInfo} {desc : TypeDesc} (hu : P.underlying t = some desc) (hg : isAggD desc = true) (hi : P.info? t = some i) (ad : Addr) (us : List Value) (hl : us.length = i.size) {w : World}
    (h : ∀ (j : Nat) (u : Value), us[j]? = some u → w.cell? (ad.add j) = some u) : (loadVar t ad).run P w = .ok (.agg us.toArray) w := by
  have hc := run_loadCells_list (P := P) (w := w) ad us h
  rw [hl] at hc
  cases desc <;> simp [isAggD] at hg <;> simp [loadVar, isAgg, run_underlying hu, sizeOf, typeInfo, hi, hc]
theorem run_loadVar_one {t : TypeId} {desc : TypeDesc} (hu : P.underlying t = some desc) (hg : isAggD desc = false) (ad : Addr) (u : Value) {w : World}
    (h : w.cell? ad = some u) : (loadVar t ad).run P w = .ok u w := by
  cases desc <;> simp [isAggD] at hg <;> simp [loadVar, isAgg, run_underlying hu, load, Sem.run, h]
theorem add_zero_ (ad : Addr) : ad.add 0 = ad := rfl
theorem add_add_ (a : Addr) (i j : Nat) : (a.add i).add j = a.add (i + j) := by
  unfold Addr.add
  by_cases hi : i = 0 <;> by_cases hj : j = 0 <;> simp [hi, hj, Nat.add_assoc]
theorem add_mk (b i j : Nat) : (⟨b, i, none⟩ : Addr).add j = ⟨b, i + j, none⟩ := by
  unfold Addr.add; split <;> simp_all
theorem add_block (a : Addr) (i : Nat) : (a.add i).block = a.block := by
  unfold Addr.add; split <;> rfl
end

theorem flat_length {sz : Nat} : ∀ (xs : List IV), (∀ x ∈ xs, x.cells.length = sz) → (xs.flatMap IV.cells).length = xs.length * sz
  | [], _ => by simp
  | x :: xs, h => by
    rw [List.flatMap_cons, List.length_append, flat_length xs (fun y hy => h y (List.mem_cons_of_mem _ hy)), h x (List.mem_cons_self ..), List.length_cons, Nat.add_mul, Nat.one_mul, Nat.add_comm]
theorem flat_drop {sz : Nat} : ∀ (l : Nat) (xs : List IV), (∀ x ∈ xs, x.cells.length = sz) → (xs.drop l).flatMap IV.cells = (xs.flatMap IV.cells).drop (l * sz)
  | 0, xs, _ => by simp
  | l + 1, [], _ => by simp
  | l + 1, x :: xs, h => by
    have e : x.cells.length = sz := h x (List.mem_cons_self ..)
    have e2 : (l + 1) * sz = l * sz + sz := Nat.succ_mul l sz
    have h1 : x.cells.drop ((l + 1) * sz) = [] := List.drop_eq_nil_of_le (by rw [e, e2]; omega)
    rw [List.drop_succ_cons, flat_drop l xs (fun y hy => h y (List.mem_cons_of_mem _ hy)), List.flatMap_cons, List.drop_append, h1, List.nil_append, e, e2, Nat.add_sub_cancel]
theorem flat_take {sz : Nat} : ∀ (l : Nat) (xs : List IV), (∀ x ∈ xs, x.cells.length = sz) → (xs.take l).flatMap IV.cells = (xs.flatMap IV.cells).take (l * sz)
  | 0, xs, _ => by simp
  | l + 1, [], _ => by simp
  | l + 1, x :: xs, h => by
    have e : x.cells.length = sz := h x (List.mem_cons_self ..)
    have e2 : (l + 1) * sz = l * sz + sz := Nat.succ_mul l sz
    have h1 : x.cells.take ((l + 1) * sz) = x.cells := List.take_of_length_le (by rw [e, e2]; omega)
    rw [List.take_succ_cons, List.flatMap_cons, flat_take l xs (fun y hy => h y (List.mem_cons_of_mem _ hy)), List.flatMap_cons, List.take_append, h1, e, e2, Nat.add_sub_cancel]
theorem flat_get {sz : Nat} (xs : List IV) (h : ∀ x ∈ xs, x.cells.length = sz) {i j : Nat} (hi : i < xs.length) (hj : j < sz) : (xs.flatMap IV.cells)[i * sz + j]? = ((xs.getD i .any).cells)[j]? := by
  have h1 := flat_drop i xs h
  rw [← List.getElem?_drop, ← h1, List.drop_eq_getElem_cons hi, List.flatMap_cons, List.getElem?_append_left (by rw [h _ (List.getElem_mem hi)]; exact hj)]
  simp [List.getD, hi]

section
variable {P : Program} {κ : Kx}
theorem cell_of_isSome {w w' : World} (hb : Below w.heap.size w w') {a : Addr} {u : Value} (h : w.cell? a = some u) : w'.cell? a = some u := by
  have := World.block_lt_of_cell? w a h
  rw [hb.cell this]; exact h

theorem IVR.cells {w : World} {prot : Addr → Prop} {x : IV} {v : Value} (h : IVR w prot x v) : ∃ us, v.cells.toList = us := ⟨_, rfl⟩

/-- Cells in one piece of immutable memory. -/
theorem loadI_ok {t : TypeId} {d : TD} (hd : DOK P t d) (hk : d.known = true) {cs : List IV} {ad : Addr} {us : List Value} (off : Nat) (hl : us.length = cs.length) (h1 : ∀ u ∈ us, u.oneCell' = true)
    (h : ∀ (j : Nat) (c : IV) (u : Value), cs[j]? = some c → us[j]? = some u → IVR κ.w κ.prot c u) (hC : (partI d cs off).1) :
    ∃ u, (∀ w' : World, (∀ (j : Nat) (u : Value), us[j]? = some u → w'.cell? (ad.add j) = some u) → (loadVar t (ad.add off)).run P w' = .ok u w') ∧ TVR κ (partI d cs off).2 u := by
  obtain ⟨i, desc, z, hi, hu, hsz, _, hag, _⟩ := hd hk
  unfold partI at hC ⊢
  cases hg : d.agg
  · simp only [hg, cond_false] at hC ⊢
    have hj : us[off]? = some (us[off]'(by omega)) := List.getElem?_eq_getElem (by omega)
    have hc : cs[off]? = some (cs[off]'hC) := List.getElem?_eq_getElem hC
    refine ⟨us[off]'(by omega), fun w' hw => run_loadVar_one hu (by rw [← hag, hg]) _ _ (hw off _ hj), ?_⟩
    refine .iv _ _ ?_
    rw [List.getD_eq_getElem?_getD, hc]
    exact h off _ _ hc hj
  · simp only [hg, cond_true] at hC ⊢
    have hlen : ((us.drop off).take d.size).length = i.size := by rw [List.length_take, List.length_drop]; omega
    refine ⟨.agg ((us.drop off).take d.size).toArray, fun w' hw => run_loadVar_agg hu (by rw [← hag, hg]) hi _ _ hlen (fun j u hj => ?_), ?_⟩
    · rw [List.getElem?_take] at hj
      split at hj
      · rw [List.getElem?_drop] at hj; rw [add_add_]; exact hw _ _ hj
      · cases hj
    · refine .iv _ _ (.agg _ _ (by rw [List.length_take, List.length_take, List.length_drop, List.length_drop]; omega) (fun u hu => h1 u ?_) (fun j c u hc hu => ?_))
      · exact List.mem_of_mem_drop (List.mem_of_mem_take hu)
      · rw [List.getElem?_take] at hc hu
        split at hc
        · rw [if_pos (by assumption)] at hu
          rw [List.getElem?_drop] at hc hu
          exact h _ _ _ hc hu
        · cases hc

theorem imList_get (l : List TV) (j : Nat) : (imList l)[j]? = (l[j]?).map TV.im := by
  induction l generalizing j with
  | nil => simp [imList]
  | cons t l ih => cases j <;> simp [imList, ih]
theorem imList_length (l : List TV) : (imList l).length = l.length := by
  induction l with
  | nil => rfl
  | cons t l ih => simp [imList, ih]

theorem loadT_ok {t : TypeId} {d : TD} (hd : DOK P t d) (hk : d.known = true) {cs : List TV} {ad : Addr} {us : List Value} (off : Nat) (hl : us.length = cs.length) (h1 : ∀ u ∈ us, u.oneCell' = true)
    (h : ∀ (j : Nat) (c : TV) (u : Value), cs[j]? = some c → us[j]? = some u → TVR κ c u) (hC : (partT d cs off).1) :
    ∃ u, (∀ w' : World, (∀ (j : Nat) (u : Value), us[j]? = some u → w'.cell? (ad.add j) = some u) → (loadVar t (ad.add off)).run P w' = .ok u w') ∧ TVR κ (partT d cs off).2 u := by
  obtain ⟨i, desc, z, hi, hu, hsz, _, hag, _⟩ := hd hk
  unfold partT at hC ⊢
  cases hg : d.agg
  · simp only [hg, cond_false] at hC ⊢
    have hj : us[off]? = some (us[off]'(by omega)) := List.getElem?_eq_getElem (by omega)
    have hc : cs[off]? = some (cs[off]'hC) := List.getElem?_eq_getElem hC
    refine ⟨us[off]'(by omega), fun w' hw => run_loadVar_one hu (by rw [← hag, hg]) _ _ (hw off _ hj), ?_⟩
    rw [List.getD_eq_getElem?_getD, hc]
    exact h off _ _ hc hj
  · simp only [hg, cond_true] at hC ⊢
    have hlen : ((us.drop off).take d.size).length = i.size := by rw [List.length_take, List.length_drop]; omega
    refine ⟨.agg ((us.drop off).take d.size).toArray, fun w' hw => run_loadVar_agg hu (by rw [← hag, hg]) hi _ _ hlen (fun j u hj => ?_), ?_⟩
    · rw [List.getElem?_take] at hj
      split at hj
      · rw [List.getElem?_drop] at hj; rw [add_add_]; exact hw _ _ hj
      · cases hj
    · refine .iv _ _ (.agg _ _ (by rw [imList_length, List.length_take, List.length_take, List.length_drop, List.length_drop]; omega) (fun u hu => h1 u ?_) (fun j c u hc hu => ?_))
      · exact List.mem_of_mem_drop (List.mem_of_mem_take hu)
      · rw [imList_get, List.getElem?_take] at hc
        rw [List.getElem?_take] at hu
        split at hc
        · rw [if_pos (by assumption)] at hu
          rw [List.getElem?_drop] at hc hu
          cases hq : cs[off + j]? with
          | none => rw [hq] at hc; cases hc
          | some q =>
            rw [hq] at hc
            simp only [Option.map_some, Option.some.injEq] at hc
            subst hc
            exact (h _ _ _ hq hu).im
        · cases hc

theorem own_pins : ∀ (rs : List (Nat × List IV)) (b : Nat), ownsP (pinToks rs) b ↔ ∃ xs, (b, xs) ∈ rs
  | [], b => by simp [pinToks, ownsP]
  | (c, ys) :: l, b => by
    simp only [pinToks, ownsP, own_pins l b, List.mem_cons, Prod.mk.injEq]
    constructor
    · rintro (rfl | ⟨xs, h⟩)
      · exact ⟨ys, .inl ⟨rfl, rfl⟩⟩
      · exact ⟨xs, .inr h⟩
    · rintro ⟨xs, ⟨rfl, rfl⟩ | h⟩
      · exact .inl rfl
      · exact .inr ⟨xs, h⟩
theorem ObR.lt {k : Nat} {o : Ob} (h : ObR κ k o) {b : Nat} (hb : Own (κ.tk k) b) : b < κ.w.heap.size ∧ ¬ κ.F b := by
  cases o with
  | box ty cs =>
    obtain ⟨b', us, h1, h2, h3, h4, h5, h6, h7⟩ := h
    rw [h1] at hb
    injection hb with hb
    subst hb
    exact ⟨(Array.getElem?_eq_some_iff.1 h2).1, h6⟩
  | row e sz =>
    rcases h with h | ⟨b', n, c, cur, h1, h2, h3, h4, h5, h6, h7⟩
    · rw [h] at hb; cases hb
    · rw [h1] at hb
      injection hb with hb
      subst hb
      exact ⟨(Array.getElem?_eq_some_iff.1 h2).1, h6⟩
  | map kt vt es =>
    obtain ⟨b', ms, clock, h1, h2, h3, h4, h6, h7⟩ := h
    rw [h1] at hb
    injection hb with hb
    subst hb
    exact ⟨(Array.getElem?_eq_some_iff.1 h2).1, h6⟩
  | mrow e sz xs =>
    obtain ⟨A, c, us, h1, _, _, _, _, ⟨rfl, _⟩ | ⟨b', cur, rfl, h2, _, _, _, _, h6, h7⟩⟩ := h
    · rw [h1] at hb; cases hb
    · rw [h1] at hb
      injection hb with hb
      subst hb
      exact ⟨(Array.getElem?_eq_some_iff.1 h2).1, h6⟩
  | lp s ps as bd env =>
    obtain ⟨b', d, fn, tmps, h1, h2, h3, h6, h7⟩ := h
    rw [h1] at hb
    injection hb with hb
    subst hb
    exact ⟨(Array.getElem?_eq_some_iff.1 h2).1, h6⟩
  | lrow e sz v xs =>
    obtain ⟨_, _, h⟩ := h
    rcases h with h | ⟨b', n, c, cur, h1, h2, h3, h4, h5, h6, h7⟩
    · rw [h] at hb; cases hb
    · rw [h1] at hb
      injection hb with hb
      subst hb
      exact ⟨(Array.getElem?_eq_some_iff.1 h2).1, h6⟩
  | pins e rs =>
    obtain ⟨h1, _, h2⟩ := h
    rw [h1] at hb
    obtain ⟨xs, hx⟩ := (own_pins rs b).1 hb
    obtain ⟨us, g1, _, _, _, g2, _⟩ := h2 b xs hx
    exact ⟨(Array.getElem?_eq_some_iff.1 g1).1, g2⟩
/-- The blocks of some objects. -/
def obB (κ : Kx) (obj : List (Nat × Ob)) (b : Nat) : Prop := ∃ k o, look? obj k = some o ∧ Own (κ.tk k) b
/-- A world in which what is immutable, and some objects, lie as they lay. -/
def Sees (κ : Kx) (obj : List (Nat × Ob)) (w' : World) : Prop := (∀ a, κ.prot a → w'.cell? a = κ.w.cell? a) ∧ ∀ b, obB κ obj b → w'.heap[b]? = κ.w.heap[b]?
theorem Sees.below {obj : List (Nat × Ob)} (hO : RelO κ obj) {w' : World} (hb : Below κ.w.heap.size κ.w w') : Sees κ obj w' := by
  refine ⟨fun a ha => ?_, fun b ⟨k, o, hk, hbk⟩ => hb.block b ((hO.obs k o hk).2.lt hbk).1⟩
  obtain ⟨u, hu⟩ := Option.isSome_iff_exists.1 (hO.prot a ha)
  rw [hu]
  exact cell_of_isSome hb hu
theorem Sees.refl (κ : Kx) (obj : List (Nat × Ob)) : Sees κ obj κ.w := ⟨fun _ _ => rfl, fun _ _ => rfl⟩
theorem pinAt_mem : ∀ {rs : List (Nat × List IV)} {b : Nat} {xs : List IV}, pinAt rs b = some xs → (b, xs) ∈ rs
  | [], b, xs, h => by cases h
  | (c, ys) :: l, b, xs, h => by
    simp only [pinAt] at h
    cases hb : c == b
    · rw [hb] at h
      exact List.mem_cons_of_mem _ (pinAt_mem h)
    · rw [hb] at h
      have e : c = b := by simpa using hb
      subst e
      simp only [cond_true, Option.some.injEq] at h
      subst h
      exact List.mem_cons_self ..
theorem look?_tail {l : List (Nat × Ob)} {j : Nat} {q : Ob} (hn : look? l j = none) {k : Nat} {o : Ob} (h : look? l k = some o) : look? ((j, q) :: l) k = some o := by
  have hne : k ≠ j := fun e => by subst e; rw [hn] at h; cases h
  simp [look?, beq_eq_false_iff_ne.2 hne, h]
theorem pinLook_spec : ∀ {l : List (Nat × Ob)}, keysNd l → ∀ {b k : Nat} {e : TypeId} {rs : List (Nat × List IV)} {xs : List IV}, pinLook l b = some (k, e, rs, xs) → look? l k = some (.pins e rs) ∧ (b, xs) ∈ rs
  | [], _, b, k, e, rs, xs, h => by cases h
  | (j, o) :: l, hnd, b, k, e, rs, xs, h => by
    cases o with
    | pins e' rs' =>
      simp only [pinLook] at h
      cases hp : pinAt rs' b with
      | some ys =>
        rw [hp] at h
        simp only [Option.some.injEq, Prod.mk.injEq] at h
        obtain ⟨rfl, rfl, rfl, rfl⟩ := h
        exact ⟨by simp [look?], pinAt_mem hp⟩
      | none =>
        rw [hp] at h
        obtain ⟨h1, h2⟩ := pinLook_spec hnd.2 h
        exact ⟨look?_tail hnd.1 h1, h2⟩
    | _ =>
      simp only [pinLook] at h
      obtain ⟨h1, h2⟩ := pinLook_spec hnd.2 h
      exact ⟨look?_tail hnd.1 h1, h2⟩
theorem load_ok {st : St} (hO : RelO κ st.obj) {t : TypeId} {d : TD} (hd : DOK P t d) (hk : d.known = true) {x : TV} {v : Value} (hx : TVR κ x v) {C : Prop} {r : TV} (hq : loadQ st d x = some (C, r)) (hC : C) :
    ∃ u, (∀ w', Sees κ st.obj w' → (Instr.loadAt t v).run P w' = .ok u w') ∧ TVR κ r u := by
  cases hx with
  | rptr cs ad us hl h1 ha h =>
    simp only [loadQ, Option.some.injEq] at hq
    obtain ⟨u, hr, ht⟩ := loadI_ok (κ := κ) hd hk (ad := ad) 0 hl h1 h (by rw [hq]; exact hC)
    refine ⟨u, fun w' hb => ?_, by rw [hq] at ht; exact ht⟩
    have := hr w' (fun j u hu => by rw [hb.1 _ (ha j u hu).2]; exact (ha j u hu).1)
    rw [add_zero_] at this
    simp [Instr.loadAt, Instr.sureAddr, this]
  | bptr k off b hk' h =>
    simp only [loadQ] at hq
    cases hl : look? st.obj k with
    | none => rw [hl] at hq; cases hq
    | some o =>
      rw [hl] at hq
      cases o with
      | row e sz => cases hq
      | map _ _ _ => cases hq
      | mrow _ _ _ => cases hq
      | lp _ _ _ _ _ => cases hq
      | pins _ _ => cases hq
      | lrow _ _ _ _ => cases hq
      | box ty cs =>
        simp only [Option.some.injEq] at hq
        obtain ⟨_, b', us, hb', hh, hlen, hcs, h1, _⟩ := hO.obs k _ hl
        rw [h] at hb'
        simp only [Value.pointer.injEq, Option.some.injEq, Addr.mk.injEq, and_true] at hb'
        subst hb'
        obtain ⟨u, hr, ht⟩ := loadT_ok (κ := κ) hd hk (ad := ⟨b, 0, none⟩) off hlen h1 hcs (by rw [hq]; exact hC)
        refine ⟨u, fun w' hbl => ?_, by rw [hq] at ht; exact ht⟩
        have hcell : ∀ (j : Nat) (u : Value), us[j]? = some u → w'.cell? ((⟨b, 0, none⟩ : Addr).add j) = some u := by
          intro j u hu
          have hh' : w'.heap[b]? = some (.cells us.toArray ty (0, 0)) := by rw [hbl.2 b ⟨k, _, hl, by rw [h]; rfl⟩]; exact hh
          rw [add_mk, Nat.zero_add, cell_of_row w' b j _ _ _ hh']
          simpa using hu
        have := hr w' hcell
        rw [add_mk, Nat.zero_add] at this
        simp [Instr.loadAt, Instr.sureAddr, this]
  | eptr k sz i off b n c hk' h =>
    simp only [loadQ] at hq
    cases hl : look? st.obj k with
    | none => rw [hl] at hq; cases hq
    | some o =>
      rw [hl] at hq
      cases o with
      | row e sz => cases hq
      | map _ _ _ => cases hq
      | box _ _ => cases hq
      | lp _ _ _ _ _ => cases hq
      | pins _ _ => cases hq
      | lrow _ _ _ _ => cases hq
      | mrow e sz' xs =>
        simp only [Option.some.injEq] at hq
        obtain ⟨A, c', us, hA, hlen, hsz, h1, hcs, hm⟩ := hO.obs k _ hl |>.2
        rw [h] at hA
        simp only [Value.tuple.injEq, Array.mk.injEq, List.cons.injEq, Value.slice.injEq, and_true] at hA
        obtain ⟨rfl, rfl, rfl⟩ := hA
        obtain ⟨hA, _⟩ | ⟨b', cur, hA, hh, hn, hc, hcur, htake, _⟩ := hm
        · cases hA
        injection hA with hA
        injection hA with hA
        subst hA
        have hCC : (sz = sz' ∧ i < xs.length) ∧ (partI d (xs.getD i .any).cells off).1 := by
          have e : ((sz = sz' ∧ i < xs.length) ∧ (partI d (xs.getD i .any).cells off).1) = C := congrArg Prod.fst hq
          rw [e]; exact hC
        have hr2 : (partI d (xs.getD i .any).cells off).2 = r := congrArg Prod.snd hq
        obtain ⟨⟨rfl, hi⟩, hp⟩ := hCC
        have hx : xs.getD i .any = xs[i] := by simp [List.getD, hi]
        have hxl : (xs.getD i .any).cells.length = sz := by rw [hx]; exact hsz _ (List.getElem_mem hi)
        have hle : (i + 1) * sz ≤ xs.length * sz := Nat.mul_le_mul_right _ hi
        rw [Nat.succ_mul] at hle
        obtain ⟨u, hr, ht⟩ := loadI_ok (κ := κ) hd hk (ad := ⟨b, i * sz, none⟩) (cs := (xs.getD i .any).cells) (us := (us.drop (i * sz)).take sz) off (by rw [List.length_take, List.length_drop]; omega)
          (fun u hu => h1 u (List.mem_of_mem_drop (List.mem_of_mem_take hu)))
          (fun j c u hc hu => by
            rw [List.getElem?_take] at hu
            split at hu
            · rename_i hj
              rw [List.getElem?_drop] at hu
              refine hcs (i * sz + j) c u ?_ hu
              rw [flat_get xs hsz hi hj]
              exact hc
            · cases hu) hp
        refine ⟨u, fun w' hbl => ?_, by rw [hr2] at ht; exact ht⟩
        have hh' : w'.heap[b]? = some (.cells cur e (0, 0)) := by rw [hbl.2 b ⟨k, _, hl, by rw [h]; rfl⟩]; exact hh
        have hcell : ∀ (j : Nat) (u : Value), ((us.drop (i * sz)).take sz)[j]? = some u → w'.cell? ((⟨b, i * sz, none⟩ : Addr).add j) = some u := by
          intro j u hu
          rw [List.getElem?_take] at hu
          split at hu
          · rw [List.getElem?_drop, ← htake, List.getElem?_take] at hu
            split at hu
            · rw [add_mk, cell_of_row w' b _ _ _ _ hh']
              simpa using hu
            · cases hu
          · cases hu
        have := hr w' hcell
        rw [add_mk] at this
        simp [Instr.loadAt, Instr.sureAddr, this]
  | iv x v h =>
    unfold loadQ at hq
    split at hq
    · rename_i b off heq
      simp only [TV.iv.injEq] at heq
      subst heq
      cases h
      cases hl : pinLook st.obj b with
      | none => rw [hl] at hq; cases hq
      | some p =>
        obtain ⟨k, e, rs, xs⟩ := p
        rw [hl] at hq
        obtain ⟨g1, g2⟩ := pinLook_spec hO.nd hl
        obtain ⟨_, htk, hnd, hpr⟩ := hO.obs k _ g1
        obtain ⟨us, f1, f2, f3, f4, _⟩ := hpr b xs g2
        obtain ⟨i, desc, z, hi, hu, hsz, _, hag, _⟩ := hd hk
        cases hg : d.agg
        · simp only [pinLoad, hg, cond_false, Option.some.injEq, Prod.mk.injEq] at hq
          obtain ⟨rfl, rfl⟩ := hq
          have hj : us[off]? = some (us[off]'(by omega)) := List.getElem?_eq_getElem (by omega)
          have hxc : xs[off]? = some (xs[off]'hC) := List.getElem?_eq_getElem hC
          refine ⟨us[off]'(by omega), fun w' hs => ?_, .iv _ _ ?_⟩
          · have hh' : w'.heap[b]? = some (.cells us.toArray e (0, 0)) := by
              rw [hs.2 b ⟨k, _, g1, by rw [htk]; exact (own_pins rs b).2 ⟨xs, g2⟩⟩]; exact f1
            have hc : w'.cell? ⟨b, off, none⟩ = some (us[off]'(by omega)) := by
              rw [cell_of_row w' b off _ _ _ hh']
              simp
            have := run_loadVar_one (P := P) hu (by rw [← hag, hg]) ⟨b, off, none⟩ _ hc
            simp [Instr.loadAt, Instr.sureAddr, this]
          · rw [List.getD_eq_getElem?_getD, hxc]
            exact f3 off _ _ hxc hj
        · simp [pinLoad, hg] at hq
    all_goals first | cases hq | (rename_i heq; cases heq)
  | _ => simp [loadQ] at hq

theorem ivlit {v u : Value} (h : TVR κ (.iv (.lit v)) u) : u = v := by
  cases h with | iv x v h => cases h; rfl
theorem binOp_int {op : BinOp} {xt : TypeId} {k : IntKind} {a b : Int} {w : World} {r : Value}
    (h : (match cmpI op a b with | some c => some (Value.bool c) | none => (ariI k op a b).map fun c => Value.int k c) = some r) : (binOp op xt (.int k a) (.int k b)).run P w = .ok r w := by
  cases op <;> simp [cmpI, ariI] at h <;> subst h <;> simp [binOp, Op.intArith, Op.intCmp]
theorem eqGuard_lit {op : BinOp} {t : TypeId} {x y : Operand} {u v : Value} {w : World} (h : ∀ cs ds, ¬ (u = .agg cs ∧ v = .agg ds)) (h2 : ¬ (u = .nilIface ∧ v = .nilIface)) : (eqGuard op t x y u v).run P w = .ok () w := by
  cases u <;> cases v <;> first
    | exact absurd ⟨rfl, rfl⟩ h2
    | exact absurd ⟨rfl, rfl⟩ (h _ _)
    | (cases op <;> rfl)

theorem equal_bool {t : TypeId} (hu : P.underlying t = some .bool) (a b : Bool) (w : World) : (Op.equal t (.bool a) (.bool b)).run P w = .ok (a == b) w := by
  show (Op.equalIn (9999 + 1) t (.bool a) (.bool b)).run P w = _
  generalize 9999 = d
  simp [Op.equalIn, run_underlying hu]
theorem equal_nilnil {t e : TypeId} (hu : P.underlying t = some (.slice e)) (n c m k : Nat) (w : World) : (Op.equal t (.slice none n c) (.slice none m k)).run P w = .ok true w := by
  show (Op.equalIn (9999 + 1) t (.slice none n c) (.slice none m k)).run P w = _
  generalize 9999 = d
  simp [Op.equalIn, run_underlying hu]
theorem equal_somenil {t e : TypeId} (hu : P.underlying t = some (.slice e)) (ad : Addr) (n c m k : Nat) (w : World) : (Op.equal t (.slice (some ad) n c) (.slice none m k)).run P w = .ok false w := by
  show (Op.equalIn (9999 + 1) t (.slice (some ad) n c) (.slice none m k)).run P w = _
  generalize 9999 = d
  simp [Op.equalIn, run_underlying hu]

/-- Reading of a slot as a row. -/
theorem rows_ok {t : TV} {v : Value} (h : TVR κ t v) {sz : Nat} {xs : List IV} (hr : t.rows = some (sz, xs)) : IVR κ.w κ.prot (.sl sz xs) v := by
  cases h with
  | iv x v h =>
    cases x <;> simp [TV.rows] at hr
    obtain ⟨rfl, rfl⟩ := hr
    exact h
  | nilsl =>
    simp [TV.rows] at hr
    obtain ⟨rfl, rfl⟩ := hr
    exact TVR.im (t := .nilsl) .nilsl
  | nsl sz xs ad n c h => simp [TV.rows] at hr; obtain ⟨rfl, rfl⟩ := hr; exact h
  | acc k sz xs hk h => simp [TV.rows] at hr; obtain ⟨rfl, rfl⟩ := hr; exact h
  | _ => simp [TV.rows] at hr

theorem CRlit {w : World} {prot : Addr → Prop} {v u : Value} (h : IVR w prot (.lit v) u) : u = v := by cases h; rfl
theorem eqL_ok {w : World} {prot : Addr → Prop} : ∀ (p : List LK) (xs ys : List IV) (us vs : List Value) (C : Prop) (b : Bool), eqL p xs ys = some (C, b) → C → us.length = xs.length → vs.length = ys.length →
    (∀ (j : Nat) (c : IV) (u : Value), xs[j]? = some c → us[j]? = some u → IVR w prot c u) → (∀ (j : Nat) (c : IV) (u : Value), ys[j]? = some c → vs[j]? = some u → IVR w prot c u) → FitV p us vs b
  | p, xs, ys, us, vs, C, b, h, hC, hl, hl', hx, hy => by
    unfold eqL at h
    split at h
    · simp only [Option.some.injEq, Prod.mk.injEq] at h
      obtain ⟨rfl, rfl⟩ := h
      match us, vs, hl, hl' with
      | [], [], _, _ => exact .nil
    · rename_i p k a xs k' b' ys
      obtain ⟨⟨C1, b1⟩, h1, he⟩ := Option.map_eq_some_iff.1 h
      simp only [Prod.mk.injEq] at he
      obtain ⟨rfl, rfl⟩ := he
      match us, vs, hl, hl' with
      | u :: us, v :: vs, hl, hl' =>
        obtain rfl := CRlit (hx 0 _ _ rfl rfl)
        obtain rfl := CRlit (hy 0 _ _ rfl rfl)
        obtain ⟨rfl, hC⟩ := hC
        exact .int k a b' (eqL_ok p xs ys us vs C1 b1 h1 hC (by simpa using hl) (by simpa using hl') (fun j c u hc hu => hx (j + 1) c u (by simpa using hc) (by simpa using hu)) (fun j c u hc hu => hy (j + 1) c u (by simpa using hc) (by simpa using hu)))
    · rename_i p a xs b' ys
      obtain ⟨⟨C1, b1⟩, h1, he⟩ := Option.map_eq_some_iff.1 h
      simp only [Prod.mk.injEq] at he
      obtain ⟨rfl, rfl⟩ := he
      match us, vs, hl, hl' with
      | u :: us, v :: vs, hl, hl' =>
        obtain rfl := CRlit (hx 0 _ _ rfl rfl)
        obtain rfl := CRlit (hy 0 _ _ rfl rfl)
        exact .bool a b' (eqL_ok p xs ys us vs C1 b1 h1 hC (by simpa using hl) (by simpa using hl') (fun j c u hc hu => hx (j + 1) c u (by simpa using hc) (by simpa using hu)) (fun j c u hc hu => hy (j + 1) c u (by simpa using hc) (by simpa using hu)))
    · rename_i p a xs b' ys
      obtain ⟨⟨C1, b1⟩, h1, he⟩ := Option.map_eq_some_iff.1 h
      simp only [Prod.mk.injEq] at he
      obtain ⟨rfl, rfl⟩ := he
      match us, vs, hl, hl' with
      | u :: us, v :: vs, hl, hl' =>
        obtain rfl := CRlit (hx 0 _ _ rfl rfl)
        obtain rfl := CRlit (hy 0 _ _ rfl rfl)
        exact .str a b' (eqL_ok p xs ys us vs C1 b1 h1 hC (by simpa using hl) (by simpa using hl') (fun j c u hc hu => hx (j + 1) c u (by simpa using hc) (by simpa using hu)) (fun j c u hc hu => hy (j + 1) c u (by simpa using hc) (by simpa using hu)))
    · cases h

theorem binQ_ok {t : TypeId} {d : TD} (hd : DOK P t d) (hk : d.known = true) {op : BinOp} {x y : TV} {u v : Value} (hx : TVR κ x u) (hy : TVR κ y v) {C : Prop} {r : TV} (hq : binQ op d x y = some (C, r)) (hC : C) (xo yo : Operand) :
    ∃ z, (∀ w' : World, (do eqGuard op t xo yo u v; binOp op t u v : Sem Value).run P w' = .ok z w') ∧ TVR κ r z := by
  unfold binQ at hq
  split at hq
  · -- ints
    rename_i k a k' b
    obtain rfl := ivlit hx
    obtain rfl := ivlit hy
    cases hc : cmpI op a b with
    | some c =>
      simp only [hc, Option.some.injEq, Prod.mk.injEq] at hq
      obtain ⟨rfl, rfl⟩ := hq
      subst hC
      refine ⟨.bool c, fun w' => ?_, .iv _ _ (.lit _)⟩
      rw [Sem.run_bind, eqGuard_lit (by simp) (by simp)]
      exact binOp_int (by rw [hc])
    | none =>
      simp only [hc] at hq
      cases ha : ariI k op a b with
      | none =>
        simp only [ha] at hq
        cases op <;> simp only [shI, Option.map_some, Option.map_none, Option.some.injEq, Prod.mk.injEq, reduceCtorEq] at hq
        · obtain ⟨rfl, rfl⟩ := hq
          obtain ⟨rfl, hb⟩ := hC
          refine ⟨.int k (k.wrap (a.tdiv b)), fun w' => ?_, .iv _ _ (.lit _)⟩
          rw [Sem.run_bind, eqGuard_lit (by simp) (by simp)]
          simp [binOp, Op.intDiv, hb]
        · obtain ⟨rfl, rfl⟩ := hq
          obtain ⟨rfl, hb⟩ := hC
          refine ⟨.int k (a.tmod b), fun w' => ?_, .iv _ _ (.lit _)⟩
          rw [Sem.run_bind, eqGuard_lit (by simp) (by simp)]
          simp [binOp, Op.intDiv, hb]
        · obtain ⟨rfl, rfl⟩ := hq
          refine ⟨.int k (a.fdiv (2 ^ (min b.toNat k.bits))), fun w' => ?_, .iv _ _ (.lit _)⟩
          rw [Sem.run_bind, eqGuard_lit (by simp) (by simp)]
          simp [binOp, Op.shift, Int.not_lt.2 hC]
      | some c =>
        simp only [ha, Option.some.injEq, Prod.mk.injEq] at hq
        obtain ⟨rfl, rfl⟩ := hq
        subst hC
        refine ⟨.int k c, fun w' => ?_, .iv _ _ (.lit _)⟩
        rw [Sem.run_bind, eqGuard_lit (by simp) (by simp)]
        exact binOp_int (by rw [hc, ha]; rfl)
  · -- strings
    rename_i a b
    obtain rfl := ivlit hx
    obtain rfl := ivlit hy
    cases op <;> simp only [cmpS, catS, Option.map_some, Option.map_none, Option.some.injEq, Prod.mk.injEq, reduceCtorEq] at hq <;> obtain ⟨rfl, rfl⟩ := hq
    · refine ⟨_, fun w' => ?_, .iv _ _ (.lit _)⟩
      rw [Sem.run_bind, eqGuard_lit (by simp) (by simp)]
      have hm : ¬ (((a.size + b.size : Nat) : Int) > IntKind.i64.max) := by
        have : IntKind.i64.max = 9223372036854775807 := by simp [IntKind.max, IntKind.signed, IntKind.bits]
        rw [this]; omega
      simp only [binOp, Op.stringOp, if_neg hm, Result.andThen_ok]
      rfl
    all_goals
      refine ⟨_, fun w' => ?_, .iv _ _ (.lit _)⟩
      rw [Sem.run_bind, eqGuard_lit (by simp) (by simp)]
      simp [binOp, Op.stringOp]
  · -- bools
    rename_i a b
    obtain rfl := ivlit hx
    obtain rfl := ivlit hy
    obtain ⟨i, desc, z, hi, hu, _, _, _, hko, _⟩ := hd hk
    split at hq
    · rename_i hkd
      rw [hkd] at hko
      simp only [KOK] at hko
      subst hko
      cases op <;> simp [cmpB] at hq <;> obtain ⟨_, rfl⟩ := hq
      all_goals
        refine ⟨_, fun w' => ?_, .iv _ _ (.lit _)⟩
        rw [Sem.run_bind, eqGuard_lit (by simp) (by simp)]
        simp [binOp, equal_bool hu]
    · cases hq
  · -- in one piece
    rename_i xs ys
    obtain ⟨i, desc, z, hi, hu, _, _, _, hko, _, _, _, _, hpl, _⟩ := hd hk
    have hagg : ∀ {cs : List IV} {u : Value}, TVR κ (.iv (.agg cs)) u → ∃ us : List Value, u = .agg us.toArray ∧ us.length = cs.length ∧ ∀ (j : Nat) (c : IV) (u : Value), cs[j]? = some c → us[j]? = some u → IVR κ.w κ.prot c u := by
      intro cs u hu
      cases hu with
      | iv _ _ h => cases h with | agg _ us hl h1 h => exact ⟨us, rfl, hl, h⟩
    obtain ⟨us, rfl, hl, hrx⟩ := hagg hx
    obtain ⟨vs, rfl, hl', hry⟩ := hagg hy
    split at hq
    · rename_i k p hkd
      obtain ⟨⟨C1, b1⟩, h1, he⟩ := Option.map_eq_some_iff.1 hq
      simp only [Prod.mk.injEq] at he
      obtain ⟨rfl, rfl⟩ := he
      have hE := hpl (by rw [hkd]; simp)
      have hf := eqL_ok _ _ _ us vs _ _ h1 hC hl hl' hrx hry
      rw [← hkd] at hf
      refine ⟨.bool b1, fun w' => ?_, .iv _ _ (.lit _)⟩
      rw [Sem.run_bind, run_eqGuard_agg _ _ _ _ _ _ _ hE.1]
      simp only [Result.andThen_ok]
      rw [run_eql_struct, hE.2 us vs b1 hf w']
      rfl
    · rename_i k p hkd
      obtain ⟨⟨C1, b1⟩, h1, he⟩ := Option.map_eq_some_iff.1 hq
      simp only [Prod.mk.injEq] at he
      obtain ⟨rfl, rfl⟩ := he
      have hE := hpl (by rw [hkd]; simp)
      have hf := eqL_ok _ _ _ us vs _ _ h1 hC hl hl' hrx hry
      rw [← hkd] at hf
      refine ⟨.bool (!b1), fun w' => ?_, .iv _ _ (.lit _)⟩
      rw [Sem.run_bind, run_eqGuard_agg _ _ _ _ _ _ _ hE.1]
      simp only [Result.andThen_ok]
      rw [run_neq_struct, hE.2 us vs b1 hf w']
      rfl
    · cases hq
  · -- nil, nil
    cases hx
    cases hy
    obtain ⟨i, desc, z, hi, hu, _, _, _, hko, _⟩ := hd hk
    split at hq
    · rename_i hkd
      rw [hkd] at hko
      simp only [KOK] at hko
      subst hko
      simp only [Option.some.injEq, Prod.mk.injEq] at hq
      obtain ⟨rfl, rfl⟩ := hq
      refine ⟨.bool true, fun w' => ?_, .iv _ _ (.lit _)⟩
      rw [Sem.run_bind, eqGuard_lit (by simp) (by simp)]
      simp [binOp, equal_nilnil hu]
    · rename_i hkd
      rw [hkd] at hko
      simp only [KOK] at hko
      subst hko
      simp only [Option.some.injEq, Prod.mk.injEq] at hq
      obtain ⟨rfl, rfl⟩ := hq
      refine ⟨.bool false, fun w' => ?_, .iv _ _ (.lit _)⟩
      rw [Sem.run_bind, eqGuard_lit (by simp) (by simp)]
      simp [binOp, equal_nilnil hu]
    · cases hq
  · -- not nil, nil
    cases hy
    cases hx with
    | nsl sz xs ad n c h =>
    obtain ⟨i, desc, z, hi, hu, _, _, _, hko, _⟩ := hd hk
    split at hq
    · rename_i hkd
      rw [hkd] at hko
      simp only [KOK] at hko
      subst hko
      simp only [Option.some.injEq, Prod.mk.injEq] at hq
      obtain ⟨rfl, rfl⟩ := hq
      refine ⟨.bool false, fun w' => ?_, .iv _ _ (.lit _)⟩
      rw [Sem.run_bind, eqGuard_lit (by simp) (by simp)]
      simp [binOp, equal_somenil hu]
    · rename_i hkd
      rw [hkd] at hko
      simp only [KOK] at hko
      subst hko
      simp only [Option.some.injEq, Prod.mk.injEq] at hq
      obtain ⟨rfl, rfl⟩ := hq
      refine ⟨.bool true, fun w' => ?_, .iv _ _ (.lit _)⟩
      rw [Sem.run_bind, eqGuard_lit (by simp) (by simp)]
      simp [binOp, equal_somenil hu]
    · cases hq
  · cases hq

theorem unQ_ok {op : UnOp} {x : TV} {u : Value} (hx : TVR κ x u) {C : Prop} {r : TV} (hq : unQ op x = some (C, r)) : ∃ z, (∀ w' : World, (Op.unary op u).run P w' = .ok z w') ∧ TVR κ r z := by
  unfold unQ at hq
  split at hq
  · obtain rfl := ivlit hx
    simp only [Option.some.injEq, Prod.mk.injEq] at hq
    obtain ⟨rfl, rfl⟩ := hq
    exact ⟨_, fun w' => by simp [Op.unary], .iv _ _ (.lit _)⟩
  · obtain rfl := ivlit hx
    simp only [Option.some.injEq, Prod.mk.injEq] at hq
    obtain ⟨rfl, rfl⟩ := hq
    exact ⟨_, fun w' => by simp [Op.unary, Op.intArith], .iv _ _ (.lit _)⟩
  · cases hq

theorem bytesOK_ex : ∀ {xs : List IV}, bytesOK xs → ∃ ns : List Int, xs = ns.map fun n => .lit (.int .u8 n)
  | [], _ => ⟨[], rfl⟩
  | x :: xs, h => by
    cases x with
    | lit v =>
      cases v with
      | int k n =>
        cases k with
        | u8 =>
          obtain ⟨ns, rfl⟩ := bytesOK_ex (xs := xs) h
          exact ⟨n :: ns, rfl⟩
        | _ => exact h.elim
      | _ => exact h.elim
    | _ => exact h.elim
theorem nums_flat (ns : List Int) : ((ns.map fun n => IV.lit (.int .u8 n)).flatMap IV.cells) = ns.map fun n => IV.lit (.int .u8 n) := by
  induction ns with
  | nil => rfl
  | cons n ns ih => rw [List.map_cons, List.flatMap_cons, ih]; rfl
theorem convB_ok {τ : Nat → TD} (hτ : TOK P τ) {s t : TypeId} (hk : (τ s).known = true ∧ (τ t).known = true) {x : TV} {u : Value} (hx : TVR κ x u) {C : Prop} {r : TV} (hq : convB τ (τ s) (τ t) x.rows = some (C, r)) (hC : C) :
    ∃ z, (∀ w' : World, (∀ a, κ.prot a → w'.cell? a = κ.w.cell? a) → (convert s t u).run P w' = .ok z w') ∧ TVR κ r z := by
  obtain ⟨i, desc, z, hi, hu, _, _, _, hko, _⟩ := hτ t hk.2
  obtain ⟨i', desc', z', hi', hu', _, _, _, hko', _⟩ := hτ s hk.1
  unfold convB at hq
  split at hq
  · rename_i sz xs hr
    split at hq
    · rename_i e hkd1 hkd2
      rw [hkd1] at hko'
      rw [hkd2] at hko
      simp only [KOK] at hko hko'
      subst hko
      subst hko'
      split at hq
      · rename_i hke
        simp only [Option.some.injEq, Prod.mk.injEq] at hq
        obtain ⟨rfl, rfl⟩ := hq
        obtain ⟨h1, h2, h3⟩ := hC
        obtain ⟨ie, de, ze, hie, hue, _, _, _, hkoe, _⟩ := hτ e h1
        rw [hke] at hkoe
        simp only [KOK] at hkoe
        subst hkoe
        obtain ⟨ns, rfl⟩ := bytesOK_ex h3
        have hrow := rows_ok hx hr
        have hby : bytesI (ns.map fun n => IV.lit (.int .u8 n)) = ns.map fun n => UInt8.ofNat n.toNat := by
          unfold bytesI
          rw [List.map_map]
          rfl
        refine ⟨.string ⟨(bytesI (ns.map fun n => IV.lit (.int .u8 n))).toArray⟩, fun w' hb => ?_, .iv _ _ (.lit _)⟩
        rw [hby]
        cases hrow with
        | sl A _ _ c us hc hl hszx hone hA ha hcell hN =>
          rw [run_convert_bytes_string w' s t e A _ c hu' hue hu]
          have hus : us = ns.map (Value.int .u8) := by
            have hll : us.length = ns.length := by
              rcases h2 with rfl | h2
              · rw [hl, List.length_map, Nat.mul_one]
              · have : ns = [] := by simpa using h2
                subst this
                simpa using hl
            apply List.ext_getElem?
            intro j
            by_cases hj : j < ns.length
            · have e1 : us[j]? = some (us[j]'(by omega)) := List.getElem?_eq_getElem (by omega)
              have e2 : (ns.map fun n => IV.lit (.int .u8 n))[j]? = some (.lit (.int .u8 ns[j])) := by rw [List.getElem?_map, List.getElem?_eq_getElem hj]; rfl
              rw [nums_flat] at hcell
              have e3 := hcell j _ _ e2 e1
              rw [e1, List.getElem?_map, List.getElem?_eq_getElem hj]
              rw [ivlit (TVR.iv (κ := κ) _ _ e3)]
              rfl
            · rw [List.getElem?_eq_none (by omega), List.getElem?_eq_none (by rw [List.length_map]; omega)]
          cases A with
          | none =>
            have h0 : (ns.map fun n => IV.lit (.int .u8 n)).length = 0 := by have := hN rfl; omega
            have : ns = [] := by simpa using h0
            subst this
            simp [Conv.bytesToString, Sem.run_pure]
            rfl
          | some ad =>
            have hload := run_loadCells_list (P := P) (w := w') ad us (fun j v hv => by
              obtain ⟨g1, g2⟩ := ha ad rfl j v hv
              rw [hb _ g2]; exact g1)
            rw [hus, List.length_map] at hload
            rw [List.length_map, run_bytesToString w' ad ns.length c ns hload, foldl_push_bytes]
            simp
      · cases hq
    · cases hq
  · cases hq
theorem convQ_ok {τ : Nat → TD} (hτ : TOK P τ) {s t : TypeId} (hk : (τ s).known = true ∧ (τ t).known = true) {x : TV} {u : Value} (hx : TVR κ x u) {C : Prop} {r : TV} (hq : convQ τ (τ s) (τ t) x = some (C, r)) (hC : C) :
    ∃ z, (∀ w' : World, (∀ a, κ.prot a → w'.cell? a = κ.w.cell? a) → (convert s t u).run P w' = .ok z w') ∧ TVR κ r z := by
  obtain ⟨i, desc, z, hi, hu, _, _, _, hko, _⟩ := hτ t hk.2
  obtain ⟨i', desc', z', hi', hu', _, _, _, hko', _⟩ := hτ s hk.1
  unfold convQ at hq
  split at hq
  · obtain rfl := ivlit hx
    split at hq
    · rename_i hkd
      rw [hkd] at hko
      simp only [KOK] at hko
      subst hko
      simp only [Option.some.injEq, Prod.mk.injEq] at hq
      obtain ⟨rfl, rfl⟩ := hq
      refine ⟨_, fun w' _ => ?_, .iv _ _ (.lit _)⟩
      simp [convert, run_underlying hu, run_underlying hu', Conv.intToInt]
    · cases hq
  · obtain rfl := ivlit hx
    split at hq
    · rename_i hkd1 hkd2
      rw [hkd1] at hko'
      rw [hkd2] at hko
      simp only [KOK] at hko hko'
      subst hko
      subst hko'
      simp only [Option.some.injEq, Prod.mk.injEq] at hq
      obtain ⟨rfl, rfl⟩ := hq
      refine ⟨_, fun w' _ => ?_, .iv _ _ (.lit _)⟩
      simp [convert, run_underlying hu, run_underlying hu']
    · cases hq
  · exact convB_ok hτ hk hx hq hC
end
end Go.PL
