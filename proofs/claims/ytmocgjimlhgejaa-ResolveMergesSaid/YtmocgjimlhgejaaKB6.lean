/- OPERATIONS THAT MAKE OR WRITE MEMORY: the world behind them, and what the pure state says of it. -/
import Derived.Test.YtmocgjimlhgejaaKB5
import Derived.Lib.AppendStr
import Derived.Lib.ConvBytes
namespace Go.PL
open Go.RowKit (Below)
set_option linter.unusedSimpArgs false
set_option linter.unusedVariables false
section
variable {P : Program} {κ κ' : Kx}

def updF {α : Type} (f : Nat → α) (k : Nat) (v : α) : Nat → α := fun i => if i = k then v else f i
theorem updF_same {α : Type} (f : Nat → α) (k : Nat) (v : α) : updF f k v k = v := by simp [updF]
theorem updF_ne {α : Type} (f : Nat → α) {i k : Nat} (v : α) (h : i ≠ k) : updF f k v i = f i := by simp [updF, h]

theorem prot_lt (hO : ∀ a, κ.prot a → (κ.w.cell? a).isSome = true) {a : Addr} (h : κ.prot a) : a.block < κ.w.heap.size := by
  obtain ⟨v, hv⟩ := Option.isSome_iff_exists.1 (hO a h)
  exact World.block_lt_of_cell? κ.w a hv

/-- The object has a block of its own, and nothing has happened to that. -/
theorem ObR.keep (he : Ext κ κ') (hF : ∀ b, κ'.F b → κ.F b) (hn : κ.n ≤ κ'.n) (ht : ∀ k, k < κ.n → κ'.tk k = κ.tk k) {k : Nat} (hk : k < κ.n) (hb : ∀ b, Own (κ.tk k) b → κ'.w.heap[b]? = κ.w.heap[b]?)
    (hp : ∀ a, κ'.prot a → κ.prot a ∨ ∀ b, Own (κ.tk k) b → a.block ≠ b) {o : Ob} (h : ObR κ k o) : ObR κ' k o := by
  cases o with
  | box ty cs =>
    obtain ⟨b, us, h1, h2, h3, h4, h5, h6, h7⟩ := h
    have hbk : Own (κ.tk k) b := by rw [h1]; rfl
    refine ⟨b, us, by rw [ht k hk]; exact h1, by rw [hb b hbk]; exact h2, h3, fun j c u hc hu => (h4 j c u hc hu).mono he hn ht, h5, fun hf => h6 (hF _ hf), fun a ha => ?_⟩
    rcases hp a ha with h | h
    · exact h7 a h
    · exact h b hbk
  | row e sz =>
    rcases h with h | ⟨b, n, c, cur, h1, h2, h3, h4, h5, h6, h7⟩
    · exact .inl (by rw [ht k hk]; exact h)
    · have hbk : Own (κ.tk k) b := by rw [h1]; rfl
      refine .inr ⟨b, n, c, cur, by rw [ht k hk]; exact h1, by rw [hb b hbk]; exact h2, h3, h4, h5, fun hf => h6 (hF _ hf), fun a ha hab => ?_⟩
      rcases hp a ha with h | h
      · exact h7 a h hab
      · exact absurd hab (h b hbk)
  | map kt vt es =>
    obtain ⟨b, ms, clock, h1, h2, h3, h4, h6, h7⟩ := h
    have hbk : Own (κ.tk k) b := by rw [h1]; rfl
    refine ⟨b, ms, clock, by rw [ht k hk]; exact h1, by rw [hb b hbk]; exact h2, h3, fun j p e hp he' => ⟨(h4 j p e hp he').1, (h4 j p e hp he').2.mono he hn ht⟩, fun hf => h6 (hF _ hf), fun a ha => ?_⟩
    rcases hp a ha with h | h
    · exact h7 a h
    · exact h b hbk
  | mrow e sz xs =>
    obtain ⟨A, c, us, h1, h2, h3, h4, h5, hm⟩ := h
    refine ⟨A, c, us, by rw [ht k hk]; exact h1, h2, h3, h4, fun j x u hx hu => he.iv (h5 j x u hx hu), ?_⟩
    rcases hm with hm | ⟨b, cur, rfl, hh, hc, hcm, hcs, htk, h6, h7⟩
    · exact .inl hm
    · have hbk : Own (κ.tk k) b := by rw [h1]; rfl
      refine .inr ⟨b, cur, rfl, by rw [hb b hbk]; exact hh, hc, hcm, hcs, htk, fun hf => h6 (hF _ hf), fun a ha => ?_⟩
      rcases hp a ha with h | h
      · exact h7 a h
      · exact h b hbk
  | lp s ps as bd env =>
    obtain ⟨b, d, fn, tmps, h1, h2, h3, h6, h7⟩ := h
    have hbk : Own (κ.tk k) b := by rw [h1]; rfl
    refine ⟨b, d, fn, tmps, by rw [ht k hk]; exact h1, by rw [hb b hbk]; exact h2, ⟨h3.1, fun i => ?_⟩, fun hf => h6 (hF _ hf), fun a ha => ?_⟩
    · exact (h3.2 i).mono he hn ht
    · rcases hp a ha with h | h
      · exact h7 a h
      · exact h b hbk
  | lrow e sz v xs =>
    obtain ⟨h0, hi, h⟩ := h
    refine ⟨by rw [ht k hk]; exact h0, he.iv hi, ?_⟩
    rcases h with h | ⟨b, n, c, cur, h1, h2, h3, h4, h5, h6, h7⟩
    · exact .inl (by rw [ht k hk]; exact h)
    · have hbk : Own (κ.tk k) b := by rw [h1]; rfl
      refine .inr ⟨b, n, c, cur, by rw [ht k hk]; exact h1, by rw [hb b hbk]; exact h2, h3, h4, h5, fun hf => h6 (hF _ hf), fun a ha hab => ?_⟩
      rcases hp a ha with h | h
      · exact h7 a h hab
      · exact absurd hab (h b hbk)
  | pins e rs =>
    obtain ⟨h1, h2, h3⟩ := h
    refine ⟨by rw [ht k hk]; exact h1, h2, fun b xs hx => ?_⟩
    obtain ⟨us, g1, g2, g3, g4, g5, g6⟩ := h3 b xs hx
    have hbk : Own (κ.tk k) b := by rw [h1]; exact (own_pins rs b).2 ⟨xs, hx⟩
    refine ⟨us, by rw [hb b hbk]; exact g1, g2, fun j x u hx hu => he.iv (g3 j x u hx hu), g4, fun hf => g5 (hF _ hf), fun a ha => ?_⟩
    rcases hp a ha with h | h
    · exact g6 a h
    · exact h b hbk
/-- The same, while another row grows. -/
theorem ObR.dem {S : List Nat} (he : Ext κ κ') (hF : ∀ b, κ'.F b → κ.F b) (hn : κ.n ≤ κ'.n) (ht : ∀ k, k < κ.n → k ∉ S → κ'.tk k = κ.tk k) (hs : ∀ k, k ∈ S → isPtr (κ.tk k) = false) {k : Nat} (hk : k < κ.n) (hne : k ∉ S) (hb : ∀ b, Own (κ.tk k) b → κ'.w.heap[b]? = κ.w.heap[b]?)
    (hp : ∀ a, κ'.prot a → κ.prot a ∨ ∀ b, Own (κ.tk k) b → a.block ≠ b) {o : Ob} (h : ObR κ k o) : ObR κ' k (demB S o) := by
  cases o with
  | box ty cs =>
    obtain ⟨b, us, h1, h2, h3, h4, h5, h6, h7⟩ := h
    have hbk : Own (κ.tk k) b := by rw [h1]; rfl
    refine ⟨b, us, by rw [ht k hk hne]; exact h1, by rw [hb b hbk]; exact h2, by rw [demC_length]; exact h3, fun j c u hc hu => ?_, h5, fun hf => h6 (hF _ hf), fun a ha => ?_⟩
    · rw [demC_get] at hc
      cases hq : cs[j]? with
      | none => rw [hq] at hc; cases hc
      | some q =>
        rw [hq] at hc
        simp only [Option.map_some, Option.some.injEq] at hc
        subst hc
        exact (h4 j q u hq hu).dem he hn ht hs
    · rcases hp a ha with h | h
      · exact h7 a h
      · exact h b hbk
  | row e sz =>
    rcases h with h | ⟨b, n, c, cur, h1, h2, h3, h4, h5, h6, h7⟩
    · exact .inl (by rw [ht k hk hne]; exact h)
    · have hbk : Own (κ.tk k) b := by rw [h1]; rfl
      refine .inr ⟨b, n, c, cur, by rw [ht k hk hne]; exact h1, by rw [hb b hbk]; exact h2, h3, h4, h5, fun hf => h6 (hF _ hf), fun a ha hab => ?_⟩
      rcases hp a ha with h | h
      · exact h7 a h hab
      · exact absurd hab (h b hbk)
  | map kt vt es =>
    obtain ⟨b, ms, clock, h1, h2, h3, h4, h6, h7⟩ := h
    have hbk : Own (κ.tk k) b := by rw [h1]; rfl
    refine ⟨b, ms, clock, by rw [ht k hk hne]; exact h1, by rw [hb b hbk]; exact h2, by rw [demE_length]; exact h3, fun j p e hp' he' => ?_, fun hf => h6 (hF _ hf), fun a ha => ?_⟩
    · rw [demE_get] at hp'
      cases hq : es[j]? with
      | none => rw [hq] at hp'; cases hp'
      | some q =>
        rw [hq] at hp'
        simp only [Option.map_some, Option.some.injEq] at hp'
        subst hp'
        exact ⟨(h4 j q e hq he').1, (h4 j q e hq he').2.dem he hn ht hs⟩
    · rcases hp a ha with h | h
      · exact h7 a h
      · exact h b hbk
  | mrow e sz xs =>
    obtain ⟨A, c, us, h1, h2, h3, h4, h5, hm⟩ := h
    refine ⟨A, c, us, by rw [ht k hk hne]; exact h1, h2, h3, h4, fun j x u hx hu => he.iv (h5 j x u hx hu), ?_⟩
    rcases hm with hm | ⟨b, cur, rfl, hh, hc, hcm, hcs, htk, h6, h7⟩
    · exact .inl hm
    · have hbk : Own (κ.tk k) b := by rw [h1]; rfl
      refine .inr ⟨b, cur, rfl, by rw [hb b hbk]; exact hh, hc, hcm, hcs, htk, fun hf => h6 (hF _ hf), fun a ha => ?_⟩
      rcases hp a ha with h | h
      · exact h7 a h
      · exact h b hbk
  | lp s ps as bd env =>
    obtain ⟨b, d, fn, tmps, h1, h2, h3, h6, h7⟩ := h
    have hbk : Own (κ.tk k) b := by rw [h1]; rfl
    refine ⟨b, d, fn, tmps, by rw [ht k hk hne]; exact h1, by rw [hb b hbk]; exact h2, ⟨h3.1, fun i => ?_⟩, fun hf => h6 (hF _ hf), fun a ha => ?_⟩
    · have := (h3.2 i).dem he hn ht hs
      rw [look_eq] at this ⊢
      rw [look?_demE]
      cases hq : look? env i with
      | none => exact .any _
      | some t => rw [hq] at this; exact this
    · rcases hp a ha with h | h
      · exact h7 a h
      · exact h b hbk
  | lrow e sz v xs =>
    obtain ⟨h0, hi, h⟩ := h
    refine ⟨by rw [ht k hk hne]; exact h0, he.iv hi, ?_⟩
    rcases h with h | ⟨b, n, c, cur, h1, h2, h3, h4, h5, h6, h7⟩
    · exact .inl (by rw [ht k hk hne]; exact h)
    · have hbk : Own (κ.tk k) b := by rw [h1]; rfl
      refine .inr ⟨b, n, c, cur, by rw [ht k hk hne]; exact h1, by rw [hb b hbk]; exact h2, h3, h4, h5, fun hf => h6 (hF _ hf), fun a ha hab => ?_⟩
      rcases hp a ha with h | h
      · exact h7 a h hab
      · exact absurd hab (h b hbk)
  | pins e rs =>
    obtain ⟨h1, h2, h3⟩ := h
    refine ⟨by rw [ht k hk hne]; exact h1, h2, fun b xs hx => ?_⟩
    obtain ⟨us, g1, g2, g3, g4, g5, g6⟩ := h3 b xs hx
    have hbk : Own (κ.tk k) b := by rw [h1]; exact (own_pins rs b).2 ⟨xs, hx⟩
    refine ⟨us, by rw [hb b hbk]; exact g1, g2, fun j x u hx hu => he.iv (g3 j x u hx hu), g4, fun hf => g5 (hF _ hf), fun a ha => ?_⟩
    rcases hp a ha with h | h
    · exact g6 a h
    · exact h b hbk

theorem fok (hF : κ'.F = κ.F) : (∀ b, κ.F b → κ'.F b) ∧ κ'.F.bd = κ.F.bd := ⟨fun b hb => by rw [hF]; exact hb, by rw [hF]⟩
theorem dfx (he : Ext κ κ') {ds : List Deferred} (h : Marks κ ds) : Marks κ' ds :=
  let ⟨hb, Ds, e, hnd, hD⟩ := h
  ⟨by rw [he.F.2]; exact Nat.le_trans hb he.size, Ds, by rw [he.F.2]; exact e, hnd, fun D hd => let ⟨h1, h2, h3⟩ := hD D hd; ⟨he.F.1 D h1, by rw [he.F.2]; exact h2, by rw [he.fr D h1]; exact h3⟩⟩

/-- A new block. -/
theorem Ext.alloc {obj : List (Nat × Ob)} (hO : RelO κ obj) (o : Obj) {κ' : Kx} (hw : κ'.w = κ.w.alloc o) (hF : κ'.F = κ.F) (hp : ∀ a, κ.prot a → κ'.prot a) (hnp : ∀ a, κ'.prot a → κ.prot a ∨ a.block = κ.w.heap.size) : Ext κ κ' := by
  refine ⟨by rw [hw]; rfl, by rw [hw]; rfl, by rw [hw]; rfl, by rw [hw]; simp, fok hF, fun b hb => by rw [hw]; exact heap_alloc_old κ.w o b (hO.fr b hb), fun a ha => ⟨hp a ha, ?_⟩, fun a ha => (hnp a ha).imp id (fun e hF' => by have := hO.fr _ hF'; omega)⟩
  rw [hw]
  exact World.cell?_alloc_lt κ.w o a (prot_lt hO.prot ha)

/-- A new object. -/
theorem Rel.newOb {N : Nat} {st : St} {a : Act} (h : Rel κ N st a) {o : Ob} {ob : Obj} {tv : Value} (hw : κ'.w = κ.w.alloc ob) (htk : κ'.tk = updF κ.tk κ.n tv) (hn : κ'.n = κ.n + 1) (hF : κ'.F = κ.F)
    (hp : κ'.prot = κ.prot) (htv : ∀ b, Own tv b → b = κ.w.heap.size) (hob : ObR κ' κ.n o) : Rel κ' N (st.new o) a ∧ Ext κ κ' := by
  have he : Ext κ κ' := Ext.alloc h.o ob hw hF (fun a ha => by rw [hp]; exact ha) (fun a ha => .inl (by rw [hp] at ha; exact ha))
  have ht : ∀ k, k < κ.n → κ'.tk k = κ.tk k := fun k hk => by rw [htk]; exact updF_ne _ _ (by omega)
  have hblk : ∀ b, b < κ.w.heap.size → κ'.w.heap[b]? = κ.w.heap[b]? := fun b hb => by rw [hw]; exact heap_alloc_old κ.w _ b hb
  have hne : ∀ k o', look? st.obj k = some o' → k ≠ κ.n := fun k o' hk e => by have := (h.o.obs k o' hk).1; omega
  have hnone : look? st.obj κ.n = none := by
    cases hl : look? st.obj κ.n with
    | none => rfl
    | some o' => exact absurd rfl (hne _ _ hl)
  have hst : (st.new o).obj = (κ.n, o) :: st.obj := by simp [St.new, h.nx]
  have hlook : ∀ k o', look? ((κ.n, o) :: st.obj) k = some o' → (k = κ.n ∧ o' = o) ∨ (k ≠ κ.n ∧ look? st.obj k = some o') := by
    intro k o' hk
    simp only [look?] at hk
    by_cases e : k = κ.n
    · subst e
      simp at hk
      exact .inl ⟨rfl, hk.symm⟩
    · have hb : (k == κ.n) = false := beq_eq_false_iff_ne.2 e
      rw [hb] at hk
      exact .inr ⟨e, hk⟩
  refine ⟨⟨⟨fun k o' hk => ?_, fun k o1 k' o2 hk hk' hkk b hb1 hb2 => ?_, ?_, fun a ha => ?_, fun b hb => ?_⟩, fun i => ?_, h.size, dfx he h.nodef, ?_⟩, he⟩
  · rw [hst] at hk
    rcases hlook k o' hk with ⟨rfl, rfl⟩ | ⟨hkn, hk⟩
    · exact ⟨by omega, hob⟩
    · obtain ⟨h1, h2⟩ := h.o.obs k o' hk
      exact ⟨by omega, h2.keep he (fun b hb => by rw [hF] at hb; exact hb) (by omega) ht h1 (fun b hb => hblk b (h2.lt hb).1) (fun a ha => .inl (by rw [hp] at ha; exact ha))⟩
  · rw [hst] at hk hk'
    rcases hlook k o1 hk with ⟨rfl, rfl⟩ | ⟨hkn, hk1⟩ <;> rcases hlook k' o2 hk' with ⟨rfl, rfl⟩ | ⟨hkn', hk2⟩
    · exact hkk rfl
    · rw [htk, updF_same] at hb1
      have e := htv b hb1
      obtain ⟨h1, h2⟩ := h.o.obs k' o2 hk2
      rw [ht k' h1] at hb2
      have := (h2.lt hb2).1
      omega
    · rw [htk, updF_same] at hb2
      have e := htv b hb2
      obtain ⟨h1, h2⟩ := h.o.obs k o1 hk1
      rw [ht k h1] at hb1
      have := (h2.lt hb1).1
      omega
    · obtain ⟨h1, _⟩ := h.o.obs k o1 hk1
      obtain ⟨h1', _⟩ := h.o.obs k' o2 hk2
      rw [ht k h1] at hb1
      rw [ht k' h1'] at hb2
      exact h.o.dis k o1 k' o2 hk1 hk2 hkk b hb1 hb2
  · rw [hst]
    exact ⟨hnone, h.o.nd⟩
  · rw [hp] at ha
    rw [(he.prot a ha).2]
    exact h.o.prot a ha
  · rw [hF] at hb
    exact Nat.lt_of_lt_of_le (h.o.fr b hb) he.size
  · exact (h.env i).mono he (by omega) ht
  · simp [St.new, hn, h.nx]

/-- A new block that is never written: what it holds is an immutable row. -/
theorem Rel.newIm {N : Nat} {st : St} {a : Act} (h : Rel κ N st a) {C : Array Value} {ty : TypeId} (hw : κ'.w = κ.w.alloc (.cells C ty)) (htk : κ'.tk = κ.tk) (hn : κ'.n = κ.n) (hF : κ'.F = κ.F)
    (hp : κ'.prot = fun a => κ.prot a ∨ (a.block = κ.w.heap.size ∧ a.spot = none ∧ a.off < C.size)) : Rel κ' N st a ∧ Ext κ κ' := by
  have he : Ext κ κ' := Ext.alloc h.o (.cells C ty) hw hF (fun a ha => by rw [hp]; exact .inl ha) (fun a ha => by rw [hp] at ha; exact ha.imp id (·.1))
  have ht : ∀ k, k < κ.n → κ'.tk k = κ.tk k := fun k hk => by rw [htk]
  have hblk : ∀ b, b < κ.w.heap.size → κ'.w.heap[b]? = κ.w.heap[b]? := fun b hb => by rw [hw]; exact heap_alloc_old κ.w _ b hb
  refine ⟨⟨⟨fun k o' hk => ?_, fun k o1 k' o2 hk hk' hkk b hb1 hb2 => ?_, h.o.nd, fun a ha => ?_, fun b hb => ?_⟩, fun i => ?_, h.size, dfx he h.nodef, by rw [hn]; exact h.nx⟩, he⟩
  · obtain ⟨h1, h2⟩ := h.o.obs k o' hk
    refine ⟨by omega, h2.keep he (fun b hb => by rw [hF] at hb; exact hb) (by omega) ht h1 (fun b hb => hblk b (h2.lt hb).1) (fun a ha => ?_)⟩
    rw [hp] at ha
    rcases ha with ha | ⟨ha, _⟩
    · exact .inl ha
    · refine .inr fun b hb e => ?_
      have := (h2.lt hb).1
      omega
  · obtain ⟨h1, _⟩ := h.o.obs k o1 hk
    obtain ⟨h1', _⟩ := h.o.obs k' o2 hk'
    rw [ht k h1] at hb1
    rw [ht k' h1'] at hb2
    exact h.o.dis k o1 k' o2 hk hk' hkk b hb1 hb2
  · rw [hp] at ha
    rcases ha with ha | ⟨h1, h2, h3⟩
    · rw [(he.prot a ha).2]; exact h.o.prot a ha
    · obtain ⟨b, o, s⟩ := a
      simp only at h1 h2 h3
      subst h1; subst h2
      rw [hw, World.cell?_alloc_new]
      simp [h3]
  · rw [hF] at hb
    exact Nat.lt_of_lt_of_le (h.o.fr b hb) he.size
  · exact (h.env i).mono he (by omega) ht

/-- A variable of the call's own is written. -/
theorem Rel.store {N : Nat} {st : St} {a : Act} (h : Rel κ N st a) {k : Nat} {ty : TypeId} {cs cs' : List TV} (hk : look? st.obj k = some (.box ty cs)) {b : Nat} {us us' : List Value} (hb : κ.tk k = .pointer (some ⟨b, 0, none⟩))
    (hh : κ.w.heap[b]? = some (.cells us.toArray ty (0, 0))) (hw : κ'.w = κ.w.setRow b us'.toArray) (htk : κ'.tk = κ.tk) (hn : κ'.n = κ.n) (hF : κ'.F = κ.F) (hp : κ'.prot = κ.prot)
    (hl : us'.length = cs'.length) (h1 : ∀ u ∈ us', u.oneCell' = true) (hc : ∀ (j : Nat) (c : TV) (u : Value), cs'[j]? = some c → us'[j]? = some u → TVR κ c u) : Rel κ' N (st.setOb k (.box ty cs')) a ∧ Ext κ κ' := by
  obtain ⟨hkn, b0, us0, hb0, hh0, hlen, hcs, hone, hF0, hp0⟩ := h.o.obs k _ hk
  rw [hb] at hb0
  simp only [Value.pointer.injEq, Option.some.injEq, Addr.mk.injEq, and_true] at hb0
  subst hb0
  have hother : ∀ b', b' ≠ b → κ'.w.heap[b']? = κ.w.heap[b']? := fun b' hne => by rw [hw]; exact setRow_other _ _ _ _ hne
  have he : Ext κ κ' := by
    refine ⟨by rw [hw]; rfl, by rw [hw]; rfl, by rw [hw]; rfl, by rw [hw]; simp [World.setRow], fok hF, fun x hx => hother x (fun e => hF0 (e ▸ hx)), fun x hx => ⟨by rw [hp]; exact hx, World.cell?_of_block (hother _ (hp0 x hx))⟩, fun x hx => .inl (by rw [hp] at hx; exact hx)⟩
  have ht : ∀ k, k < κ.n → κ'.tk k = κ.tk k := fun k hk => by rw [htk]
  have hbk : Own (κ.tk k) b := by rw [hb]; rfl
  refine ⟨⟨⟨fun j o' hj => ?_, fun j o1 j' o2 hj hj' hjj c hb1 hb2 => ?_, keysNd_putAt _ _ _ h.o.nd, fun a ha => ?_, fun c hc' => ?_⟩, fun i => ?_, h.size, dfx he h.nodef, by rw [hn]; exact h.nx⟩, he⟩
  · simp only [St.setOb, look?_putAt] at hj
    split at hj
    · rename_i e
      subst e
      rw [hk] at hj
      simp only [Option.map_some, Option.some.injEq] at hj
      subst hj
      refine ⟨by omega, b, us', by rw [htk]; exact hb, by rw [hw]; exact setRow_heap _ _ _ _ _ _ hh, hl, fun j c u hc' hu => (hc j c u hc' hu).mono he (by omega) ht, h1, by rw [hF]; exact hF0, fun a ha => ?_⟩
      rw [hp] at ha
      exact hp0 a ha
    · rename_i hne
      obtain ⟨h1', h2'⟩ := h.o.obs j o' hj
      refine ⟨by omega, h2'.keep he (fun b hb => by rw [hF] at hb; exact hb) (by omega) ht h1' (fun c hc' => hother c (fun e => ?_)) (fun a ha => .inl (by rw [hp] at ha; exact ha))⟩
      subst e
      exact h.o.dis k _ j o' hk hj (fun e => hne e.symm) c hbk hc'
  · have key : ∀ i o, look? (putAt st.obj k (.box ty cs')) i = some o → ∃ o', look? st.obj i = some o' := by
      intro i o hi
      rw [look?_putAt] at hi
      split at hi
      · rename_i e; subst e; exact ⟨_, hk⟩
      · exact ⟨o, hi⟩
    obtain ⟨o1', h1'⟩ := key j o1 hj
    obtain ⟨o2', h2'⟩ := key j' o2 hj'
    rw [htk] at hb1 hb2
    exact h.o.dis j o1' j' o2' h1' h2' hjj c hb1 hb2
  · rw [hp] at ha
    rw [(he.prot a ha).2]; exact h.o.prot a ha
  · rw [hF] at hc'
    exact Nat.lt_of_lt_of_le (h.o.fr c hc') he.size
  · exact (h.env i).mono he (by omega) ht

/-- A map of the call's own is written. -/
theorem Rel.mapput {N : Nat} {st : St} {a : Act} (h : Rel κ N st a) {k : Nat} {kt vt : TypeId} {es es' : List (Int × TV)} (hk : look? st.obj k = some (.map kt vt es)) {b : Nat} {ms ms' : Array MapEntry} {clock clock' : Nat} (hb : κ.tk k = .map (some b))
    (hh : κ.w.heap[b]? = some (.map ms clock)) (hw : κ'.w = { κ.w with heap := κ.w.heap.setIfInBounds b (.map ms' clock') }) (htk : κ'.tk = κ.tk) (hn : κ'.n = κ.n) (hF : κ'.F = κ.F) (hp : κ'.prot = κ.prot)
    (hl : ms'.size = es'.length) (hc : ∀ (j : Nat) (p : Int × TV) (e : MapEntry), es'[j]? = some p → ms'[j]? = some e → e.key = .int .i64 p.1 ∧ TVR κ p.2 e.val) : Rel κ' N (st.setOb k (.map kt vt es')) a ∧ Ext κ κ' := by
  obtain ⟨hkn, b0, ms0, clock0, hb0, hh0, hlen, hcs, hF0, hp0⟩ := h.o.obs k _ hk
  rw [hb] at hb0
  simp only [Value.map.injEq, Option.some.injEq] at hb0
  subst hb0
  have hother : ∀ b', b' ≠ b → κ'.w.heap[b']? = κ.w.heap[b']? := fun b' hne => by rw [hw]; simp [Array.getElem?_setIfInBounds, Ne.symm hne]
  have hnew : κ'.w.heap[b]? = some (.map ms' clock') := by
    have hlt : b < κ.w.heap.size := (Array.getElem?_eq_some_iff.1 hh).1
    rw [hw]; simp [hlt]
  have he : Ext κ κ' := by
    refine ⟨by rw [hw], by rw [hw], by rw [hw], by rw [hw]; simp, fok hF, fun x hx => hother x (fun e => hF0 (e ▸ hx)), fun x hx => ⟨by rw [hp]; exact hx, World.cell?_of_block (hother _ (hp0 x hx))⟩, fun x hx => .inl (by rw [hp] at hx; exact hx)⟩
  have ht : ∀ k, k < κ.n → κ'.tk k = κ.tk k := fun k hk => by rw [htk]
  have hbk : Own (κ.tk k) b := by rw [hb]; rfl
  refine ⟨⟨⟨fun j o' hj => ?_, fun j o1 j' o2 hj hj' hjj c hb1 hb2 => ?_, keysNd_putAt _ _ _ h.o.nd, fun a ha => ?_, fun c hc' => ?_⟩, fun i => ?_, h.size, dfx he h.nodef, by rw [hn]; exact h.nx⟩, he⟩
  · simp only [St.setOb, look?_putAt] at hj
    split at hj
    · rename_i e
      subst e
      rw [hk] at hj
      simp only [Option.map_some, Option.some.injEq] at hj
      subst hj
      refine ⟨by omega, b, ms', clock', by rw [htk]; exact hb, hnew, hl, fun j p e hp' he' => ⟨(hc j p e hp' he').1, (hc j p e hp' he').2.mono he (by omega) ht⟩, by rw [hF]; exact hF0, fun a ha => ?_⟩
      rw [hp] at ha
      exact hp0 a ha
    · rename_i hne
      obtain ⟨h1', h2'⟩ := h.o.obs j o' hj
      refine ⟨by omega, h2'.keep he (fun b hb => by rw [hF] at hb; exact hb) (by omega) ht h1' (fun c hc' => hother c (fun e => ?_)) (fun a ha => .inl (by rw [hp] at ha; exact ha))⟩
      subst e
      exact h.o.dis k _ j o' hk hj (fun e => hne e.symm) c hbk hc'
  · have key : ∀ i o, look? (putAt st.obj k (.map kt vt es')) i = some o → ∃ o', look? st.obj i = some o' := by
      intro i o hi
      rw [look?_putAt] at hi
      split at hi
      · rename_i e; subst e; exact ⟨_, hk⟩
      · exact ⟨o, hi⟩
    obtain ⟨o1', h1'⟩ := key j o1 hj
    obtain ⟨o2', h2'⟩ := key j' o2 hj'
    rw [htk] at hb1 hb2
    exact h.o.dis j o1' j' o2' h1' h2' hjj c hb1 hb2
  · rw [hp] at ha
    rw [(he.prot a ha).2]; exact h.o.prot a ha
  · rw [hF] at hc'
    exact Nat.lt_of_lt_of_le (h.o.fr c hc') he.size
  · exact (h.env i).mono he (by omega) ht

/-- append, told apart: in place, or into a new block, all else as it was. -/
theorem run_append_x (w : World) (t ty e : TypeId) (i : TypeInfo) (z : Value) (size : Nat) (ht : P.underlying t = some (.slice e)) (hi : P.info? e = some i) (hz : i.zero = some z)
    (hsize : i.size = size) (hzs : z.cells.size = size) (hsz : 0 < size)
    (v : Value) (n : Nat) (xs : List Value) (hown : w.ownsRow 0 e size v n xs)
    (A : Option Addr) (m c : Nat) (news : List Value) (hl : news.length = m * size) (hA : 0 < m → ∃ a, A = some a) (hnews : ∀ a, A = some a → ∀ j u, news[j]? = some u → w.cell? (a.add j) = some u) (h1 : ∀ u ∈ news, u.oneCell' = true)
    (h63 : n + m ≤ maxLen) (hbytes : (n + m) * i.bytes ≤ 140737488355328) :
    ∃ v' w', (Builtin.append_ #[t, t] ty #[v, .slice A m c]).run P w = .ok v' w' ∧ w'.ownsRow 0 e size v' (n + m) (xs ++ news) ∧
      ((v'.ownBlock = v.ownBlock ∧ w.grownBy w' v.ownBlock) ∨ (v'.ownBlock = some w.heap.size ∧ w.grownBy w' none)) := by
  subst hsize
  rcases Nat.eq_zero_or_pos m with hm | hm
  · subst hm
    have hn : news = [] := List.eq_nil_of_length_eq_zero (by simpa using hl)
    subst hn
    refine ⟨v, w, ?_, by simpa using hown, .inl ⟨rfl, rfl, rfl, rfl, Nat.le_refl _, fun _ _ _ => rfl⟩⟩
    rcases hown.2 with ⟨rfl, rfl⟩ | ⟨g, cap, cur, rfl, _, _, hnc, _⟩
    · cases A <;> simp [Builtin.append_, run_underlying ht, sizeOf, typeInfo, hi, Builtin.lenOf, Builtin.firstCells, loadCells, loadCellsFrom]
    · cases A <;> simp [Builtin.append_, run_underlying ht, sizeOf, typeInfo, hi, Builtin.lenOf, Builtin.firstCells, hnc, storeCells, loadCells, loadCellsFrom]
  · obtain ⟨a, rfl⟩ := hA hm
    have hnews := hnews a rfl
    have hlen : (xs ++ news).length = (n + m) * i.size := by rw [List.length_append, hown.1, hl, Nat.add_mul]
    have grown : ∀ (old : Nat), old < n + m →
        (w.drew.alloc (.cells (xs.toArray ++ news.toArray ++ Builtin.zeroCells z.cells (grownCap w (n + m) old e - (n + m))) e)).ownsRow 0 e i.size
          (.slice (some ⟨w.heap.size, 0, none⟩) (n + m) (grownCap w (n + m) old e)) (n + m) (xs ++ news) ∧
        w.grownBy (w.drew.alloc (.cells (xs.toArray ++ news.toArray ++ Builtin.zeroCells z.cells (grownCap w (n + m) old e - (n + m))) e)) none := by
      intro old ho
      have hge := grownCap_ge w (n + m) old e
      have hcm : grownCap w (n + m) old e ≤ maxLen := grownCap_le_maxLen w (n + m) old e h63
      refine ⟨⟨hlen, .inr ⟨w.heap.size, _, _, rfl, Nat.zero_le _, heap_alloc_new w.drew _, hge, hcm, ?_, ?_⟩⟩, ⟨rfl, rfl, rfl, by simp, fun k hk _ => heap_alloc_old w.drew _ k hk⟩⟩
      · simp only [Array.size_append, List.size_toArray, size_zeroCells, hzs, hown.1, hl, ← Nat.add_mul]
        congr 1
        omega
      · simp only [Array.toList_append, List.append_assoc]
        rw [← List.append_assoc, ← hlen]
        exact List.take_left
    rcases hown.2 with ⟨rfl, rfl⟩ | ⟨g, cap, cur, rfl, hbg, hg, hnc, hcm, hcs, htake⟩
    · have hx : xs = [] := List.eq_nil_of_length_eq_zero (by simpa using hown.1)
      subst hx
      have hr := run_append_nil (P := P) w t ty e i z ht hi hz a m c news hl hnews hm (by simp only [maxLen] at h63; omega) (by have hb := hbytes; simp only [Nat.zero_add] at hb; omega)
      have hgr := grown 0 (by omega)
      simp only [Nat.zero_add, List.nil_append, Array.empty_append] at hgr ⊢
      exact ⟨_, _, hr, hgr.1, .inr ⟨rfl, hgr.2⟩⟩
    · by_cases hroom : n + m ≤ cap
      · have hfit : n * i.size + news.length ≤ cur.size := by rw [hl, hcs, ← Nat.add_mul]; exact Nat.mul_le_mul_right _ hroom
        have hr := run_append_room (P := P) w t ty e i ht hi g n cap cur hg a m c news hl hnews h1 hroom hfit
        refine ⟨_, _, hr, ⟨hlen, .inr ⟨g, cap, _, rfl, hbg, setRow_heap w g cur _ e _ hg, hroom, hcm, ?_, ?_⟩⟩, .inl ⟨rfl, rfl, rfl, rfl, by simp [World.setRow], fun k _ hk => setRow_other w g k _ (fun e => hk (by simp [Value.ownBlock, e]))⟩⟩
        · simp only [List.size_toArray, List.length_append, List.length_take, List.length_drop, Array.length_toList]
          omega
        · rw [htake, ← hlen]
          exact List.take_left
      · have holds : ∀ j u, xs[j]? = some u → w.cell? ((⟨g, 0, none⟩ : Addr).add j) = some u := hown.cells (g := g) rfl
        have hr := run_append_grow (P := P) w t ty e i z ht hi hz ⟨g, 0, none⟩ n cap xs hown.1 holds a m c news hl hnews (by omega) (by simp only [maxLen] at h63; omega) (growslice_fits (by omega) hbytes)
        have hgr := grown cap (by omega)
        exact ⟨_, _, hr, hgr.1, .inr ⟨rfl, hgr.2⟩⟩

/-- A new block of cells that nobody will write, in a world that has otherwise stayed. -/
theorem Rel.newImG {N : Nat} {st : St} {a : Act} (h : Rel κ N st a) {n : Nat} (hos : κ'.w.os = κ.w.os) (htp : κ'.w.tape = κ.w.tape) (hout : κ'.w.output = κ.w.output) (hsz : κ.w.heap.size ≤ κ'.w.heap.size) (hblk : ∀ b, b < κ.w.heap.size → κ'.w.heap[b]? = κ.w.heap[b]?)
    (hcell : ∀ j, j < n → (κ'.w.cell? ⟨κ.w.heap.size, j, none⟩).isSome = true) (htk : κ'.tk = κ.tk) (hn : κ'.n = κ.n) (hF : κ'.F = κ.F)
    (hp : κ'.prot = fun a => κ.prot a ∨ (a.block = κ.w.heap.size ∧ a.spot = none ∧ a.off < n)) : Rel κ' N st a ∧ Ext κ κ' := by
  have hold : ∀ a : Addr, a.block < κ.w.heap.size → κ'.w.cell? a = κ.w.cell? a := fun a ha => World.cell?_of_block (hblk _ ha)
  have he : Ext κ κ' := ⟨hos, htp, hout, hsz, fok hF, fun b hb => hblk b (h.o.fr b hb), fun a ha => ⟨by rw [hp]; exact .inl ha, hold a (prot_lt h.o.prot ha)⟩, fun a ha => by
    rw [hp] at ha
    exact ha.imp id (fun e hF' => by have := h.o.fr _ hF'; omega)⟩
  have ht : ∀ k, k < κ.n → κ'.tk k = κ.tk k := fun k hk => by rw [htk]
  refine ⟨⟨⟨fun k o' hk => ?_, fun k o1 k' o2 hk hk' hkk b hb1 hb2 => ?_, h.o.nd, fun a ha => ?_, fun b hb => ?_⟩, fun i => ?_, h.size, dfx he h.nodef, by rw [hn]; exact h.nx⟩, he⟩
  · obtain ⟨h1, h2⟩ := h.o.obs k o' hk
    refine ⟨by omega, h2.keep he (fun b hb => by rw [hF] at hb; exact hb) (by omega) ht h1 (fun b hb => hblk b (h2.lt hb).1) (fun a ha => ?_)⟩
    rw [hp] at ha
    rcases ha with ha | ⟨ha, _⟩
    · exact .inl ha
    · refine .inr fun b hb e => ?_
      have := (h2.lt hb).1
      omega
  · obtain ⟨h1, _⟩ := h.o.obs k o1 hk
    obtain ⟨h1', _⟩ := h.o.obs k' o2 hk'
    rw [ht k h1] at hb1
    rw [ht k' h1'] at hb2
    exact h.o.dis k o1 k' o2 hk hk' hkk b hb1 hb2
  · rw [hp] at ha
    rcases ha with ha | ⟨h1, h2, h3⟩
    · rw [(he.prot a ha).2]; exact h.o.prot a ha
    · obtain ⟨b, o, s⟩ := a
      simp only at h1 h2 h3
      subst h1; subst h2
      exact hcell _ h3
  · rw [hF] at hb
    exact Nat.lt_of_lt_of_le (h.o.fr b hb) he.size
  · exact (h.env i).mono he (by omega) ht
/-- append of a string's bytes onto a row of its own. -/
theorem run_append_str (w : World) (t u ty e : TypeId) (i : TypeInfo) (ht : P.underlying t = some (.slice e)) (hu : P.underlying u = some .string) (hi : P.info? e = some i) (hz : i.zero = some (.int .u8 0)) (hsize : i.size = 1)
    (v : Value) (n : Nat) (xs : List Value) (hown : w.ownsRow 0 e 1 v n xs) (s : ByteArray)
    (h63 : n + s.size ≤ maxLen) (hbytes : (n + s.size) * i.bytes ≤ 140737488355328) :
    ∃ v' w', (Builtin.append_ #[t, u] ty #[v, .string s]).run P w = .ok v' w' ∧ w'.ownsRow 0 e 1 v' (n + s.size) (xs ++ Lib.strCells s) ∧
      ((v'.ownBlock = v.ownBlock ∧ w.grownBy w' v.ownBlock) ∨ (v'.ownBlock = some w.heap.size ∧ w.grownBy w' none)) := by
  have hsmall : n + s.size ≤ 9223372036854775807 := by simp only [maxLen] at h63; omega
  have hxl : xs.length = n := by simpa using hown.1
  have hlen : (xs ++ Lib.strCells s).length = (n + s.size) * 1 := by rw [List.length_append, hxl, Lib.strCells_length, Nat.mul_one]
  rcases Nat.eq_zero_or_pos s.size with hm | hm
  · have hn : Lib.strCells s = [] := List.eq_nil_of_length_eq_zero (by rw [Lib.strCells_length]; exact hm)
    have hf := Lib.run_firstCells_string (P := P) w 1 s
    rw [hm, hn] at hf
    refine ⟨v, w, ?_, by rw [hm, hn, List.append_nil]; exact hown, .inl ⟨rfl, rfl, rfl, rfl, Nat.le_refl _, fun _ _ _ => rfl⟩⟩
    rcases hown.2 with ⟨rfl, rfl⟩ | ⟨g, cap, cur, rfl, _, _, hnc, _⟩
    · simp [Builtin.append_, run_underlying ht, run_underlying hu, sizeOf, typeInfo, hi, hsize, Builtin.lenOf, hm, hf]
    · simp [Builtin.append_, run_underlying ht, run_underlying hu, sizeOf, typeInfo, hi, hsize, Builtin.lenOf, hm, hf, hnc, storeCells]
  · have grown : ∀ (old : Nat), old < n + s.size →
        (w.drew.alloc (.cells (xs.toArray ++ (Lib.strCells s).toArray ++ Builtin.zeroCells (Value.int .u8 0).cells (grownCap w (n + s.size) old e - (n + s.size))) e)).ownsRow 0 e 1
          (.slice (some ⟨w.heap.size, 0, none⟩) (n + s.size) (grownCap w (n + s.size) old e)) (n + s.size) (xs ++ Lib.strCells s) ∧
        w.grownBy (w.drew.alloc (.cells (xs.toArray ++ (Lib.strCells s).toArray ++ Builtin.zeroCells (Value.int .u8 0).cells (grownCap w (n + s.size) old e - (n + s.size))) e)) none := by
      intro old ho
      have hge := grownCap_ge w (n + s.size) old e
      have hcm : grownCap w (n + s.size) old e ≤ maxLen := grownCap_le_maxLen w (n + s.size) old e h63
      refine ⟨⟨hlen, .inr ⟨w.heap.size, _, _, rfl, Nat.zero_le _, heap_alloc_new w.drew _, hge, hcm, ?_, ?_⟩⟩, ⟨rfl, rfl, rfl, by simp, fun k hk _ => heap_alloc_old w.drew _ k hk⟩⟩
      · have hz1 : (Value.int IntKind.u8 0).cells.size = 1 := rfl
        simp only [Array.size_append, List.size_toArray, size_zeroCells, hz1, hxl, Lib.strCells_length]
        omega
      · simp only [Array.toList_append, List.append_assoc]
        rw [← List.append_assoc, ← hlen]
        exact List.take_left
    rcases hown.2 with ⟨rfl, rfl⟩ | ⟨g, cap, cur, rfl, hbg, hg, hnc, hcm, hcs, htake⟩
    · have hx : xs = [] := List.eq_nil_of_length_eq_zero hxl
      subst hx
      have hr := run_append_nil_string (P := P) w t u ty e i (.int .u8 0) ht hu hi hz s hm (by omega) (by have hb := hbytes; simp only [Nat.zero_add] at hb; omega)
      have hgr := grown 0 (by omega)
      simp only [Nat.zero_add, List.nil_append, Array.empty_append] at hgr ⊢
      have e1 : (s.data.map fun b => Value.int .u8 b.toNat) = (Lib.strCells s).toArray := by
        apply Array.ext'
        simp [Lib.strCells]
      rw [e1] at hr
      exact ⟨_, _, hr, hgr.1, .inr ⟨rfl, hgr.2⟩⟩
    · by_cases hroom : n + s.size ≤ cap
      · have hcs' : cur.size = cap := by simpa using hcs
        have hr := Lib.run_append_room_string (P := P) w t u ty e i ht hu hi hsize g n cap cur hg s hroom (by omega)
        refine ⟨_, _, hr, ⟨hlen, .inr ⟨g, cap, _, rfl, hbg, setRow_heap w g cur _ e _ hg, hroom, hcm, ?_, ?_⟩⟩, .inl ⟨rfl, rfl, rfl, rfl, by simp [World.setRow], fun k _ hk => setRow_other w g k _ (fun e => hk (by simp [Value.ownBlock, e]))⟩⟩
        · simp only [List.size_toArray, List.length_append, List.length_take, List.length_drop, Array.length_toList, Lib.strCells_length]
          omega
        · have ht' : cur.toList.take n = xs := by simpa using htake
          rw [ht', ← hlen]
          exact List.take_left
      · have holds : ∀ j u, xs[j]? = some u → w.cell? ((⟨g, 0, none⟩ : Addr).add j) = some u := hown.cells (g := g) rfl
        have hr := Lib.run_append_grow_string (P := P) w t u ty e i (.int .u8 0) ht hu hi hz ⟨g, 0, none⟩ n cap xs (by rw [hsize]; simpa using hxl) holds s (by omega) (by omega) (growslice_fits (by omega) hbytes)
        have hgr := grown cap (by omega)
        exact ⟨_, _, hr, hgr.1, .inr ⟨rfl, hgr.2⟩⟩
/-- Row k0 (it may be a new one) has grown. -/
theorem Rel.grow {N : Nat} {st : St} {a : Act} (h : Rel κ N st a) {k0 : Nat} (hk0 : isPtr (κ.tk k0) = false) {e : TypeId} {sz : Nat} {v v' : Value} {n n' : Nat} {us us' : List Value}
    (hv : k0 < κ.n → κ.tk k0 = v) (hob : k0 < κ.n → look? st.obj k0 = some (.row e sz)) (hfresh : ¬ k0 < κ.n → v.ownBlock = none ∧ k0 = κ.n)
    (hown : κ.w.ownsRow 0 e sz v n us) (hown' : κ'.w.ownsRow 0 e sz v' n' us') (hpre : us' = us ++ us'.drop (n * sz)) (hnn : n ≤ n')
    (hg : (v'.ownBlock = v.ownBlock ∧ κ.w.grownBy κ'.w v.ownBlock) ∨ (v'.ownBlock = some κ.w.heap.size ∧ κ.w.grownBy κ'.w none))
    (htk : κ'.tk = updF κ.tk k0 v') (hn : κ'.n = if k0 < κ.n then κ.n else κ.n + 1) (hF : κ'.F = κ.F)
    (hp : κ'.prot = fun a => κ.prot a ∨ (v'.ownBlock = some a.block ∧ a.spot = none ∧ a.off < n' * sz)) :
    Rel κ' N (if k0 < κ.n then st.dem k0 else st.new (.row e sz)) a ∧ Ext κ κ' := by
  -- what is known of the old block
  have hold : ∀ b, v.ownBlock = some b → b < κ.w.heap.size ∧ ¬ κ.F b ∧ (∀ a, κ.prot a → a.block = b → a.off < n * sz) ∧ k0 < κ.n ∧ Own (κ.tk k0) b := by
    intro b hb
    have hlt : k0 < κ.n := by
      rcases Nat.lt_or_ge k0 κ.n with h | h
      · exact h
      · rw [(hfresh (by omega)).1] at hb; cases hb
    have hobr := (h.o.obs k0 _ (hob hlt)).2
    have hvk := hv hlt
    rcases hobr with hz | ⟨b', m, c, cur, h1, h2, h3, h4, h5, h6, h7⟩
    · rw [hvk] at hz; rw [hz] at hb; cases hb
    · rw [hvk] at h1
      subst h1
      simp only [Value.ownBlock, Option.some.injEq] at hb
      subst hb
      have hm : m = n := by
        rcases hown.2 with ⟨e1, _⟩ | ⟨g, cap, cur', e1, _⟩
        · cases e1
        · simp only [Value.slice.injEq] at e1; exact e1.2.1
      subst hm
      exact ⟨(Array.getElem?_eq_some_iff.1 h2).1, h6, h7, hlt, by rw [hvk]; rfl⟩
  have hsize : κ.w.heap.size ≤ κ'.w.heap.size := by rcases hg with ⟨_, hg⟩ | ⟨_, hg⟩ <;> exact hg.size
  -- blocks other than the row's
  have hother : ∀ b, b < κ.w.heap.size → v.ownBlock ≠ some b → κ'.w.heap[b]? = κ.w.heap[b]? := by
    intro b hb hne
    rcases hg with ⟨_, hg⟩ | ⟨_, hg⟩
    · exact hg.block b hb (fun e => hne e.symm)
    · exact hg.block b hb (by simp)
  have hcellp : ∀ a, κ.prot a → κ'.w.cell? a = κ.w.cell? a := by
    intro a ha
    have hlt := prot_lt h.o.prot ha
    by_cases hvb : v.ownBlock = some a.block
    · rcases hg with ⟨hb', hg⟩ | ⟨_, hg⟩
      · have hoff := (hold _ hvb).2.2.1 a ha rfl
        obtain ⟨ab, ao, asp⟩ := a
        have hsome := h.o.prot _ ha
        have hsp : asp = none := by
          cases asp with
          | none => rfl
          | some s =>
            simp only [World.cell?] at hsome
            split at hsome <;> simp at hsome
        subst hsp
        simp only at hoff hvb hb'
        have hul := hown.1
        have hul' := hown'.1
        have e1 : us[ao]? = some (us[ao]'(by omega)) := List.getElem?_eq_getElem (by omega)
        have c1 := hown.cells hvb ao _ e1
        have e2 : us'[ao]? = some (us[ao]'(by omega)) := by rw [hpre, List.getElem?_append_left (by omega)]; exact e1
        have c2 := hown'.cells (by rw [hb']; exact hvb) ao _ e2
        rw [add_mk, Nat.zero_add] at c1 c2
        rw [c1, c2]
      · exact World.cell?_of_block (hg.block a.block hlt (by simp))
    · exact World.cell?_of_block (hother _ hlt hvb)
  have he : Ext κ κ' := by
    refine ⟨?_, ?_, ?_, hsize, fok hF, fun b hb => hother b (h.o.fr b hb) (fun e => (hold b e).2.1 hb), fun a ha => ⟨by rw [hp]; exact .inl ha, hcellp a ha⟩, fun a ha => ?_⟩
    case refine_4 =>
      rw [hp] at ha
      refine ha.imp id (fun h1 hFb => ?_)
      rcases hg with ⟨hb', _⟩ | ⟨hb', _⟩
      · rw [hb'] at h1
        exact (hold _ h1.1).2.1 hFb
      · rw [hb'] at h1
        have e := h1.1
        injection e with e
        have := h.o.fr _ hFb
        omega
    all_goals rcases hg with ⟨_, hg⟩ | ⟨_, hg⟩
    all_goals first | exact hg.os | exact hg.tape | exact hg.output
  have hblk : ∀ k o, look? st.obj k = some o → k ≠ k0 → ∀ b, Own (κ.tk k) b → κ'.w.heap[b]? = κ.w.heap[b]? := by
    intro k o hk hne b hb
    have hl := ((h.o.obs k o hk).2.lt hb).1
    refine hother b hl (fun e => ?_)
    obtain ⟨_, _, _, hlt, hb0⟩ := hold b e
    exact h.o.dis k0 _ k o (hob hlt) hk (fun e => hne e.symm) b hb0 hb
  have hpk : ∀ k o, look? st.obj k = some o → k ≠ k0 → ∀ a, κ'.prot a → κ.prot a ∨ ∀ b, Own (κ.tk k) b → a.block ≠ b := by
    intro k o hk hne a ha
    rw [hp] at ha
    rcases ha with ha | ⟨h1, _, _⟩
    · exact .inl ha
    · refine .inr fun b hb e => ?_
      have hl := ((h.o.obs k o hk).2.lt hb).1
      rw [e] at h1
      rcases hg with ⟨hb', _⟩ | ⟨hb', _⟩
      · rw [hb'] at h1
        obtain ⟨_, _, _, hlt, hb0⟩ := hold b h1
        exact h.o.dis k0 _ k o (hob hlt) hk (fun e => hne e.symm) b hb0 hb
      · rw [hb'] at h1
        injection h1 with h1
        omega
  have hob' : ObR κ' k0 (.row e sz) := by
    rcases hown'.2 with ⟨e1, _⟩ | ⟨g, cap, cur, e1, _, h2, h3, h4, h5, _⟩
    · exact .inl (by rw [htk, updF_same]; exact e1)
    · have hbn : v'.ownBlock = some g := by rw [e1]; rfl
      refine .inr ⟨g, n', cap, cur, by rw [htk, updF_same]; exact e1, h2, h3, h4, h5, ?_, fun a ha hab => ?_⟩
      · rw [hF]
        intro hFg
        rcases hg with ⟨hb', _⟩ | ⟨hb', _⟩
        · rw [hb'] at hbn
          exact (hold g hbn).2.1 hFg
        · rw [hb'] at hbn
          injection hbn with hbn
          have := h.o.fr g hFg
          omega
      · rw [hp] at ha
        rcases ha with ha | ⟨_, _, h3⟩
        · rcases hg with ⟨hb', _⟩ | ⟨hb', _⟩
          · rw [hb'] at hbn
            have := (hold g hbn).2.2.1 a ha hab
            exact Nat.lt_of_lt_of_le this (Nat.mul_le_mul_right _ hnn)
          · rw [hb'] at hbn
            injection hbn with hbn
            have := prot_lt h.o.prot ha
            omega
        · exact h3
  have hdis : ∀ k o, look? st.obj k = some o → k ≠ k0 → ∀ b, Own (κ'.tk k0) b → ¬ Own (κ.tk k) b := by
    intro k o hk hne b hb hb2
    rw [htk, updF_same] at hb
    have hl := ((h.o.obs k o hk).2.lt hb2).1
    have hbn : v'.ownBlock = some b := by
      rcases hown'.2 with ⟨e1, _⟩ | ⟨g, cap, cur, e1, _⟩
      · rw [e1] at hb; cases hb
      · rw [e1] at hb ⊢; exact hb
    rcases hg with ⟨hb', _⟩ | ⟨hb', _⟩
    · rw [hb'] at hbn
      obtain ⟨_, _, _, hlt, hb0⟩ := hold b hbn
      exact h.o.dis k0 _ k o (hob hlt) hk (fun e => hne e.symm) b hb0 hb2
    · rw [hb'] at hbn
      injection hbn with hbn
      omega
  have hprot' : ∀ a, κ'.prot a → (κ'.w.cell? a).isSome = true := by
    intro a ha
    rw [hp] at ha
    rcases ha with ha | ⟨h1, h2, h3⟩
    · rw [hcellp a ha]; exact h.o.prot a ha
    · obtain ⟨ab, ao, asp⟩ := a
      simp only at h1 h2 h3
      subst h2
      have hul' := hown'.1
      have e2 : us'[ao]? = some (us'[ao]'(by omega)) := List.getElem?_eq_getElem (by omega)
      have c2 := hown'.cells h1 ao _ e2
      rw [add_mk, Nat.zero_add] at c2
      rw [c2]; rfl
  have hfr' : ∀ b, κ'.F b → b < κ'.w.heap.size := fun b hb => by
    rw [hF] at hb
    exact Nat.lt_of_lt_of_le (h.o.fr b hb) hsize
  have htk' : ∀ k, k ≠ k0 → κ'.tk k = κ.tk k := fun k hk => by rw [htk]; exact updF_ne _ _ hk
  by_cases hlt : k0 < κ.n
  · rw [if_pos hlt]
    rw [if_pos hlt] at hn
    refine ⟨⟨⟨fun k o hk => ?_, fun k o1 k' o2 hk hk' hkk b hb1 hb2 => ?_, keysNd_demO _ _ h.o.nd, hprot', hfr'⟩, fun i => ?_, h.size, dfx he h.nodef, by rw [hn]; exact h.nx⟩, he⟩
    · simp only [St.dem, look?_demO] at hk
      obtain ⟨o', ho', rfl⟩ := Option.map_eq_some_iff.1 hk
      by_cases hkk : k = k0
      · subst hkk
        rw [hob hlt] at ho'
        injection ho' with ho'
        subst ho'
        exact ⟨by omega, hob'⟩
      · obtain ⟨h1, h2⟩ := h.o.obs k o' ho'
        exact ⟨by omega, h2.dem (S := [k0]) he (fun b hb => by rw [hF] at hb; exact hb) (by omega) (fun j _ hj => htk' j (by simpa using hj)) (fun j hj => by simp at hj; subst hj; exact hk0) h1 (by simpa using hkk) (hblk k o' ho' hkk) (hpk k o' ho' hkk)⟩
    · simp only [St.dem, look?_demO] at hk hk'
      obtain ⟨o1', ho1, rfl⟩ := Option.map_eq_some_iff.1 hk
      obtain ⟨o2', ho2, rfl⟩ := Option.map_eq_some_iff.1 hk'
      by_cases e1 : k = k0
      · subst e1
        rw [htk' k' (fun e => hkk e.symm)] at hb2
        exact hdis k' _ ho2 (fun e => hkk e.symm) b hb1 hb2
      · by_cases e2 : k' = k0
        · subst e2
          rw [htk' k e1] at hb1
          exact hdis k _ ho1 e1 b hb2 hb1
        · rw [htk' k e1] at hb1
          rw [htk' k' e2] at hb2
          exact h.o.dis k o1' k' o2' ho1 ho2 hkk b hb1 hb2
    · have := (h.env i).dem (S := [k0]) he (by omega) (fun j _ hj => htk' j (by simpa using hj)) (fun j hj => by simp at hj; subst hj; exact hk0)
      simp only [St.get, St.dem, look_eq, look?_demE] at this ⊢
      cases hl : look? st.env i with
      | none => rw [hl] at this; simpa [demT] using this
      | some t => rw [hl] at this; simpa using this
  · rw [if_neg hlt]
    rw [if_neg hlt] at hn
    have hk0n : k0 = κ.n := (hfresh hlt).2
    subst hk0n
    have hne : ∀ k o', look? st.obj k = some o' → k ≠ κ.n := fun k o' hk e => by have := (h.o.obs k o' hk).1; omega
    have hnone : look? st.obj κ.n = none := by
      cases hl : look? st.obj κ.n with
      | none => rfl
      | some o' => exact absurd rfl (hne _ _ hl)
    have hst : (st.new (.row e sz)).obj = (κ.n, .row e sz) :: st.obj := by simp [St.new, h.nx]
    have hlook : ∀ k o', look? ((κ.n, Ob.row e sz) :: st.obj) k = some o' → (k = κ.n ∧ o' = .row e sz) ∨ (k ≠ κ.n ∧ look? st.obj k = some o') := by
      intro k o' hk
      simp only [look?] at hk
      by_cases e : k = κ.n
      · subst e
        simp at hk
        exact .inl ⟨rfl, hk.symm⟩
      · have hb : (k == κ.n) = false := beq_eq_false_iff_ne.2 e
        rw [hb] at hk
        exact .inr ⟨e, hk⟩
    have ht : ∀ k, k < κ.n → κ'.tk k = κ.tk k := fun k hk => htk' k (by omega)
    refine ⟨⟨⟨fun k o hk => ?_, fun k o1 k' o2 hk hk' hkk b hb1 hb2 => ?_, by rw [hst]; exact ⟨hnone, h.o.nd⟩, hprot', hfr'⟩, fun i => ?_, h.size, dfx he h.nodef, by rw [hn, h.nx]; rfl⟩, he⟩
    · rw [hst] at hk
      rcases hlook k o hk with ⟨rfl, rfl⟩ | ⟨hkn, hk1⟩
      · exact ⟨by omega, hob'⟩
      · obtain ⟨h1, h2⟩ := h.o.obs k o hk1
        exact ⟨by omega, h2.keep he (fun b hb => by rw [hF] at hb; exact hb) (by omega) ht h1 (hblk k o hk1 hkn) (hpk k o hk1 hkn)⟩
    · rw [hst] at hk hk'
      rcases hlook k o1 hk with ⟨rfl, rfl⟩ | ⟨hkn, hk1⟩ <;> rcases hlook k' o2 hk' with ⟨rfl, rfl⟩ | ⟨hkn', hk2⟩
      · exact hkk rfl
      · rw [htk' k' hkn'] at hb2
        exact hdis k' _ hk2 hkn' b hb1 hb2
      · rw [htk' k hkn] at hb1
        exact hdis k _ hk1 hkn b hb2 hb1
      · rw [htk' k hkn] at hb1
        rw [htk' k' hkn'] at hb2
        exact h.o.dis k o1 k' o2 hk1 hk2 hkk b hb1 hb2
    · exact (h.env i).mono he (by omega) ht
end
end Go.PL
