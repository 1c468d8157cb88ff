/- THE LOGIC'S FIRST LEMMAS: what a pure value says of a world holds on while the world grows. -/
import Derived.Test.YtmocgjimlhgejaaKB0
namespace Go.PL
set_option linter.unusedSimpArgs false
set_option linter.unusedVariables false

theorem IVR.mono {w w' : World} {prot prot' : Addr → Prop} (hp : ∀ a, prot a → prot' a ∧ w'.cell? a = w.cell? a) {x : IV} {v : Value} (h : IVR w prot x v) : IVR w' prot' x v := by
  induction h with
  | any v => exact .any v
  | lit v => exact .lit v
  | agg cs us hl h1 _ ih => exact .agg cs us hl h1 ih
  | sl A sz xs c us hc hl hsz h1 hA ha _ hN ih =>
    refine .sl A sz xs c us hc hl hsz h1 hA (fun ad e j u hu => ?_) ih hN
    obtain ⟨hcell, hpr⟩ := ha ad e j u hu
    exact ⟨by rw [(hp _ hpr).2]; exact hcell, (hp _ hpr).1⟩

theorem Ext.refl (κ : Kx) : Ext κ κ := ⟨rfl, rfl, rfl, Nat.le_refl _, ⟨fun _ h => h, rfl⟩, fun _ _ => rfl, fun _ h => ⟨h, rfl⟩, fun _ h => .inl h⟩
theorem Ext.trans {a b c : Kx} (h : Ext a b) (k : Ext b c) : Ext a c :=
  ⟨k.os.trans h.os, k.tape.trans h.tape, k.output.trans h.output, Nat.le_trans h.size k.size, ⟨fun x hx => k.F.1 x (h.F.1 x hx), k.F.2.trans h.F.2⟩,
   fun x hx => (k.fr x (h.F.1 x hx)).trans (h.fr x hx),
   fun x hx => ⟨(k.prot x (h.prot x hx).1).1, (k.prot x (h.prot x hx).1).2.trans (h.prot x hx).2⟩,
   fun x hx => (k.np x hx).elim (h.np x) (fun hn => .inr (fun hf => hn (h.F.1 _ hf)))⟩
theorem Ext.iv {κ κ' : Kx} (h : Ext κ κ') {x : IV} {v : Value} (hx : IVR κ.w κ.prot x v) : IVR κ'.w κ'.prot x v := hx.mono h.prot
theorem Keep.refl (m : Nat) (κ : Kx) (h : m ≤ κ.n) : Keep m κ κ := ⟨h, fun _ _ _ => rfl⟩
theorem Keep.trans {m : Nat} {a b c : Kx} (h : Keep m a b) (k : Keep m b c) : Keep m a c :=
  ⟨k.n, fun i hi hp => by rw [k.tk i hi (by rw [h.tk i hi hp]; exact hp), h.tk i hi hp]⟩

/-- All names keep their places. -/
theorem TVR.monoP {κ κ' : Kx} (hp : ∀ a, κ.prot a → κ'.prot a ∧ κ'.w.cell? a = κ.w.cell? a) (hn : κ.n ≤ κ'.n) (ht : ∀ k, k < κ.n → κ'.tk k = κ.tk k) {t : TV} {v : Value} (h : TVR κ t v) : TVR κ' t v := by
  induction h with
  | any v => exact .any v
  | iv x v h => exact .iv x v (h.mono hp)
  | nilsl => exact .nilsl
  | nsl sz xs ad n c h => exact .nsl sz xs ad n c (h.mono hp)
  | acc k sz xs hk h =>
    rw [← ht k hk]
    exact .acc k sz xs (Nat.lt_of_lt_of_le hk hn) (by rw [ht k hk]; exact h.mono hp)
  | bptr k off b hk h => exact .bptr k off b (Nat.lt_of_lt_of_le hk hn) (by rw [ht k hk]; exact h)
  | mptr k b hk h => exact .mptr k b (Nat.lt_of_lt_of_le hk hn) (by rw [ht k hk]; exact h)
  | mrow k A n c hk h => exact .mrow k A n c (Nat.lt_of_lt_of_le hk hn) (by rw [ht k hk]; exact h)
  | eptr k sz i off b n c hk h => exact .eptr k sz i off b n c (Nat.lt_of_lt_of_le hk hn) (by rw [ht k hk]; exact h)
  | yld k b hk h => exact .yld k b (Nat.lt_of_lt_of_le hk hn) (by rw [ht k hk]; exact h)
  | rptr cs ad us hl h1 ha h =>
    refine .rptr cs ad us hl h1 (fun j u hu => ?_) fun j c u hc hu => (h j c u hc hu).mono hp
    obtain ⟨hc, hq⟩ := ha j u hu
    exact ⟨by rw [(hp _ hq).2]; exact hc, (hp _ hq).1⟩
  | clo f caps us hl _ ih => exact .clo f caps us hl ih
  | tup vs us hl _ ih => exact .tup vs us hl ih
  | wh b t v _ hu ih => exact .wh b t v ih hu
theorem TVR.mono {κ κ' : Kx} (he : Ext κ κ') (hn : κ.n ≤ κ'.n) (ht : ∀ k, k < κ.n → κ'.tk k = κ.tk k) {t : TV} {v : Value} (h : TVR κ t v) : TVR κ' t v := h.monoP he.prot hn ht

theorem memN_iff (j : Nat) : ∀ (l : List Nat), memN j l = true ↔ j ∈ l
  | [] => by simp [memN]
  | k :: l => by
    simp only [memN, List.mem_cons]
    cases h : j == k
    · have e : j ≠ k := by simpa using h
      simp [e, memN_iff j l]
    · have e : j = k := by simpa using h
      simp [e]
theorem memN_false (j : Nat) (l : List Nat) : memN j l = false ↔ j ∉ l := by
  rw [← Bool.not_eq_true, memN_iff]
theorem allFree_get {S : List Nat} : ∀ (l : List TV), allFree S l = true → ∀ t ∈ l, t.free S = true
  | [], _, t, ht => by cases ht
  | u :: l, h, t, ht => by
    simp only [allFree] at h
    cases hu : u.free S
    · rw [hu] at h; cases h
    · rw [hu] at h
      rcases List.mem_cons.1 ht with rfl | ht
      · exact hu
      · exact allFree_get l h t ht

/-- All but some rows keep their places; a value that is none of these stays. -/
theorem TVR.keepFree {κ κ' : Kx} {S : List Nat} (he : Ext κ κ') (hn : κ.n ≤ κ'.n) (ht : ∀ k, k < κ.n → k ∉ S → κ'.tk k = κ.tk k) (hs : ∀ k, k ∈ S → isPtr (κ.tk k) = false) {t : TV} {v : Value} (h : TVR κ t v) (hf : t.free S = true) : TVR κ' t v := by
  cases h with
  | any v => exact .any v
  | iv x v h => exact .iv x v (he.iv h)
  | nilsl => exact .nilsl
  | nsl sz xs ad n c h => exact .nsl sz xs ad n c (he.iv h)
  | acc k sz xs hk h =>
    have e : k ∉ S := by
      simp only [TV.free, Bool.not_eq_true'] at hf
      exact (memN_false k S).1 hf
    rw [← ht k hk e]
    exact .acc k sz xs (Nat.lt_of_lt_of_le hk hn) (by rw [ht k hk e]; exact he.iv h)
  | bptr k off b hk h =>
    have e : k ∉ S := fun hS => by have := hs k hS; rw [h] at this; simp [isPtr] at this
    exact .bptr k off b (Nat.lt_of_lt_of_le hk hn) (by rw [ht k hk e]; exact h)
  | mptr k b hk h =>
    have e : k ∉ S := fun hS => by have := hs k hS; rw [h] at this; simp [isPtr] at this
    exact .mptr k b (Nat.lt_of_lt_of_le hk hn) (by rw [ht k hk e]; exact h)
  | mrow k A n c hk h =>
    have e : k ∉ S := fun hS => by have := hs k hS; rw [h] at this; simp [isPtr] at this
    exact .mrow k A n c (Nat.lt_of_lt_of_le hk hn) (by rw [ht k hk e]; exact h)
  | eptr k sz i off b n c hk h =>
    have e : k ∉ S := fun hS => by have := hs k hS; rw [h] at this; simp [isPtr] at this
    exact .eptr k sz i off b n c (Nat.lt_of_lt_of_le hk hn) (by rw [ht k hk e]; exact h)
  | yld k b hk h =>
    have e : k ∉ S := fun hS => by have := hs k hS; rw [h] at this; simp [isPtr] at this
    exact .yld k b (Nat.lt_of_lt_of_le hk hn) (by rw [ht k hk e]; exact h)
  | rptr cs ad us hl h1 ha h =>
    refine .rptr cs ad us hl h1 (fun j u hu => ?_) fun j c u hc hu => he.iv (h j c u hc hu)
    obtain ⟨hc, hp⟩ := ha j u hu
    exact ⟨by rw [(he.prot _ hp).2]; exact hc, (he.prot _ hp).1⟩
  | clo f caps us hl h => simp [TV.free] at hf
  | tup vs us hl h => simp [TV.free] at hf
  | wh b t v h hu => simp [TV.free] at hf
/-- All but some rows keep their places; these have been let go. -/
theorem TVR.dem {κ κ' : Kx} {S : List Nat} (he : Ext κ κ') (hn : κ.n ≤ κ'.n) (ht : ∀ k, k < κ.n → k ∉ S → κ'.tk k = κ.tk k) (hs : ∀ k, k ∈ S → isPtr (κ.tk k) = false) {t : TV} {v : Value} (h : TVR κ t v) : TVR κ' (demT S t) v := by
  cases h with
  | acc k sz xs hk h =>
    simp only [demT]
    cases e : memN k S
    · exact (TVR.acc k sz xs hk h).keepFree he hn ht hs (by simp [TV.free, e])
    · exact .iv _ _ (he.iv h)
  | clo f caps us hl h =>
    simp only [demT]
    cases e : allFree S caps
    · exact .any _
    · exact .clo f caps us hl (fun j c u hc hu => (h j c u hc hu).keepFree he hn ht hs (allFree_get caps e c (List.mem_of_getElem? hc)))
  | tup vs us hl h =>
    simp only [demT]
    cases e : allFree S vs
    · exact .any _
    · exact .tup vs us hl (fun j c u hc hu => (h j c u hc hu).keepFree he hn ht hs (allFree_get vs e c (List.mem_of_getElem? hc)))
  | wh b t v h hu =>
    simp only [demT]
    cases e : t.free S
    · exact .any _
    · exact .wh b t v (fun hb => (h hb).keepFree he hn ht hs e) hu
  | any v => exact .any v
  | iv x v h => exact (TVR.iv x v h).keepFree he hn ht hs rfl
  | nilsl => exact .nilsl
  | nsl sz xs ad n c h => exact (TVR.nsl sz xs ad n c h).keepFree he hn ht hs rfl
  | bptr k off b hk h => exact (TVR.bptr k off b hk h).keepFree he hn ht hs rfl
  | mptr k b hk h => exact (TVR.mptr k b hk h).keepFree he hn ht hs rfl
  | mrow k A n c hk h => exact (TVR.mrow k A n c hk h).keepFree he hn ht hs rfl
  | eptr k sz i off b n c hk h => exact (TVR.eptr k sz i off b n c hk h).keepFree he hn ht hs rfl
  | yld k b hk h => exact (TVR.yld k b hk h).keepFree he hn ht hs rfl
  | rptr cs ad us hl h1 ha h => exact (TVR.rptr cs ad us hl h1 ha h).keepFree he hn ht hs rfl

theorem TVR.im {κ : Kx} {t : TV} {v : Value} (h : TVR κ t v) : IVR κ.w κ.prot t.im v := by
  cases h with
  | iv x v h => exact h
  | nilsl =>
    have := IVR.sl (w := κ.w) (prot := κ.prot) none 0 [] 0 [] (Nat.le_refl _) rfl (by simp) (by simp) (by simp) (by simp) (by simp) (fun _ => rfl)
    exact this
  | nsl sz xs ad n c h => exact h
  | acc k sz xs hk h => exact h
  | _ => exact .any _

theorem TVR.strip {κ : Kx} {t : TV} {v : Value} (h : TVR κ t v) (hp : t.pre) : TVR κ t.strip v := by
  cases h with
  | wh b t v h hu => exact h hp
  | any => exact .any _
  | iv x v h => exact .iv x v h
  | nilsl => exact .nilsl
  | nsl sz xs ad n c h => exact .nsl sz xs ad n c h
  | acc k sz xs hk h => exact .acc k sz xs hk h
  | bptr k off b hk h => exact .bptr k off b hk h
  | mptr k b hk h => exact .mptr k b hk h
  | mrow k A n c hk h => exact .mrow k A n c hk h
  | eptr k sz i off b n c hk h => exact .eptr k sz i off b n c hk h
  | yld k b hk h => exact .yld k b hk h
  | rptr cs ad us hl h1 ha h => exact .rptr cs ad us hl h1 ha h
  | clo f caps us hl h => exact .clo f caps us hl h
  | tup vs us hl h => exact .tup vs us hl h

/-- What a constant is. -/
theorem TVR.cst (κ : Kx) (v : Value) : TVR κ (cTV v) v := by
  unfold cTV
  split
  · exact .nilsl
  · exact .iv _ _ (.lit v)

theorem look_eq {α : Type} (d : α) (l : List (Nat × α)) (i : Nat) : look d l i = (look? l i).getD d := by
  induction l with
  | nil => rfl
  | cons p l ih =>
    obtain ⟨j, t⟩ := p
    simp only [look, look?]
    cases h : i == j <;> simp [ih]

theorem look?_demE (k : List Nat) (l : List (Nat × TV)) (i : Nat) : look? (demE k l) i = (look? l i).map (demT k) := by
  induction l with
  | nil => rfl
  | cons p l ih =>
    obtain ⟨j, t⟩ := p
    simp only [demE, look?]
    cases h : i == j <;> simp [ih]
def demB (k : List Nat) : Ob → Ob
  | .box ty cs => .box ty (demC k cs)
  | .lp s ps a b env => .lp s ps a b (demE k env)
  | .map kt vt es => .map kt vt (demE k es)
  | o => o
theorem look?_demO (k : List Nat) (l : List (Nat × Ob)) (i : Nat) : look? (demO k l) i = (look? l i).map (demB k) := by
  induction l with
  | nil => rfl
  | cons p l ih =>
    obtain ⟨j, o⟩ := p
    cases o <;> (simp only [demO, look?]; cases h : i == j <;> simp [ih, demB])
theorem demC_get (k : List Nat) (l : List TV) (j : Nat) : (demC k l)[j]? = (l[j]?).map (demT k) := by
  induction l generalizing j with
  | nil => simp [demC]
  | cons t l ih => cases j <;> simp [demC, ih]
theorem demE_get {α : Type} (k : List Nat) (l : List (α × TV)) (j : Nat) : (demE k l)[j]? = (l[j]?).map (fun p => (p.1, demT k p.2)) := by
  induction l generalizing j with
  | nil => simp [demE]
  | cons p l ih => obtain ⟨i, t⟩ := p; cases j <;> simp [demE, ih]
theorem demE_length {α : Type} (k : List Nat) (l : List (α × TV)) : (demE k l).length = l.length := by
  induction l with
  | nil => rfl
  | cons p l ih => obtain ⟨i, t⟩ := p; simp [demE, ih]
theorem demC_length (k : List Nat) (l : List TV) : (demC k l).length = l.length := by
  induction l with
  | nil => rfl
  | cons t l ih => simp [demC, ih]
theorem look?_putAt {α : Type} (l : List (Nat × α)) (k i : Nat) (u : α) : look? (putAt l k u) i = if i = k then (look? l k).map (fun _ => u) else look? l i := by
  induction l with
  | nil => simp [putAt, look?]
  | cons p l ih =>
    obtain ⟨j, t⟩ := p
    simp only [putAt, look?]
    by_cases hk : k = j
    · subst hk
      simp only [beq_self_eq_true, cond_true, look?]
      by_cases hi : i = k
      · subst hi; simp
      · have hb : (i == k) = false := beq_eq_false_iff_ne.2 hi
        simp [hi, hb]
    · simp only [beq_eq_false_iff_ne.2 hk, cond_false, look?, ih]
      by_cases hi : i = k
      · subst hi
        have hb : (i == j) = false := beq_eq_false_iff_ne.2 hk
        simp [hb]
      · simp [hi]
theorem keysNd_putAt : ∀ (l : List (Nat × Ob)) (k : Nat) (u : Ob), keysNd l → keysNd (putAt l k u)
  | [], _, _, h => h
  | (j, t) :: l, k, u, h => by
    simp only [putAt]
    cases hk : k == j
    · simp only [cond_false]
      refine ⟨?_, keysNd_putAt l k u h.2⟩
      rw [look?_putAt]
      have hj : j ≠ k := by rintro rfl; simp at hk
      rw [if_neg hj]
      exact h.1
    · exact h
theorem keysNd_demO : ∀ (l : List (Nat × Ob)) (k : List Nat), keysNd l → keysNd (demO k l)
  | [], _, h => h
  | (j, o) :: l, k, h => by
    cases o <;> exact ⟨by rw [look?_demO, h.1]; rfl, keysNd_demO l k h.2⟩
theorem St.get_set (st : St) (i j : Nat) (t : TV) : (st.set i t).get j = if j = i then t else st.get j := by
  simp only [St.get, St.set, look]
  by_cases h : j = i
  · subst h; simp
  · have hb : (j == i) = false := beq_eq_false_iff_ne.2 h
    simp [h, hb]
theorem St.get_put (st : St) (d : Option Nat) (j : Nat) (t : TV) : (st.put d t).get j = if d = some j then t else st.get j := by
  cases d with
  | none => simp [St.put]
  | some i =>
    simp only [St.put, St.get_set]
    by_cases h : j = i
    · subst h; simp
    · rw [if_neg h, if_neg (fun e => h (by injection e with e; exact e.symm))]

/-- A frame behind an operation. -/
theorem Rel.putQ {κ : Kx} {N : Nat} {st : St} {a : Act} (h : Rel κ N st a) {d : Option Nat} {t : TV} {v : Value} (ht : TVR κ t v) (hd : ∀ i, d = some i → i < N) : Rel κ N (st.put d t) (a.put d v) := by
  have ho : (st.put d t).obj = st.obj := by cases d <;> rfl
  have hn : (st.put d t).nx = st.nx := by cases d <;> rfl
  refine ⟨by rw [ho]; exact h.o, fun i => ?_, ?_, ?_, by rw [hn]; exact h.nx⟩
  · rw [St.get_put]
    cases d with
    | none => exact h.env i
    | some j =>
      have hj : j < N := hd j rfl
      have hsz := h.size
      simp only [Act.put]
      by_cases e : j = i
      · subst e
        rw [if_pos rfl]
        have : (a.tmps.setIfInBounds j v).getD j undef = v := by
          simp [Array.getD, hsz, hj]
        rw [this]; exact ht
      · rw [if_neg (fun q => e (by injection q))]
        have : (a.tmps.setIfInBounds j v).getD i undef = a.tmps.getD i undef := by
          simp only [Array.getD_eq_getD_getElem?, Array.getElem?_setIfInBounds]
          rw [if_neg e]
        rw [this]; exact h.env i
  · cases d <;> simp [Act.put, h.size]
  · cases d <;> exact h.nodef

theorem Rel.get {κ : Kx} {N : Nat} {st : St} {a : Act} (h : Rel κ N st a) (x : Operand) : TVR κ (opd st x) (a.eval x) := by
  cases x with
  | tmp i => exact h.env i
  | const v => exact .cst κ v
  | global g => exact .any _
  | func f => exact .clo f [] [] rfl (by simp)
theorem Rel.ox {κ : Kx} {N : Nat} {st : St} {a : Act} (h : Rel κ N st a) {x : Operand} (hx : op? st x) : TVR κ (ox st x) (a.eval x) := (h.get x).strip hx
end Go.PL
