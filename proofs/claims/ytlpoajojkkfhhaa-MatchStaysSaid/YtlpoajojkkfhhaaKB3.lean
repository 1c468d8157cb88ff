/- QUIET OPERATIONS, ON: addresses, indices, fields, cuts, tests joined, lengths, what is built; all of them together. -/
import Derived.Test.YtlpoajojkkfhhaaKB2
import Derived.Laws.Slices
namespace Go.PL
open Go.RowKit (Below)
set_option linter.unusedSimpArgs false
set_option linter.unusedVariables false

theorem flat_length {sz : Nat} : ∀ (xs : List IV), (∀ x ∈ xs, x.cells.length = sz) → (xs.flatMap IV.cells).length = xs.length * sz
  | [], _ => by simp
  | x :: xs, h => by
    rw [List.flatMap_cons, List.length_append, flat_length xs (fun y hy => h y (List.mem_cons_of_mem _ hy)), h x (List.mem_cons_self ..), List.length_cons, Nat.add_mul, Nat.one_mul, Nat.add_comm]
theorem flat_drop {sz : Nat} : ∀ (l : Nat) (xs : List IV), (∀ x ∈ xs, x.cells.length = sz) → (xs.drop l).flatMap IV.cells = (xs.flatMap IV.cells).drop (l * sz)
  | 0, xs, _ => by simp
  | l + 1, [], _ => by simp
  | l + 1, x :: xs, h => by
    have e : x.cells.length = sz := h x (List.mem_cons_self ..)
    have e2 : (l + 1) * sz = l * sz + sz := Nat.succ_mul l sz
    have h1 : x.cells.drop ((l + 1) * sz) = [] := List.drop_eq_nil_of_le (by rw [e, e2]; omega)
    rw [List.drop_succ_cons, flat_drop l xs (fun y hy => h y (List.mem_cons_of_mem _ hy)), List.flatMap_cons, List.drop_append, h1, List.nil_append, e, e2, Nat.add_sub_cancel]
theorem flat_take {sz : Nat} : ∀ (l : Nat) (xs : List IV), (∀ x ∈ xs, x.cells.length = sz) → (xs.take l).flatMap IV.cells = (xs.flatMap IV.cells).take (l * sz)
  | 0, xs, _ => by simp
  | l + 1, [], _ => by simp
  | l + 1, x :: xs, h => by
    have e : x.cells.length = sz := h x (List.mem_cons_self ..)
    have e2 : (l + 1) * sz = l * sz + sz := Nat.succ_mul l sz
    have h1 : x.cells.take ((l + 1) * sz) = x.cells := List.take_of_length_le (by rw [e, e2]; omega)
    rw [List.take_succ_cons, List.flatMap_cons, flat_take l xs (fun y hy => h y (List.mem_cons_of_mem _ hy)), List.flatMap_cons, List.take_append, h1, e, e2, Nat.add_sub_cancel]
theorem flat_get {sz : Nat} (xs : List IV) (h : ∀ x ∈ xs, x.cells.length = sz) {i j : Nat} (hi : i < xs.length) (hj : j < sz) : (xs.flatMap IV.cells)[i * sz + j]? = ((xs.getD i .any).cells)[j]? := by
  have h1 := flat_drop i xs h
  rw [← List.getElem?_drop, ← h1, List.drop_eq_getElem_cons hi, List.flatMap_cons, List.getElem?_append_left (by rw [h _ (List.getElem_mem hi)]; exact hj)]
  simp [List.getD, hi]

section
variable {P : Program} {κ : Kx}

theorem natI_ok {t : TV} {v : Value} (h : TVR κ t v) {n : Int} (hn : natI t = some n) : v = .int .i64 n := by
  unfold natI at hn
  split at hn
  · obtain rfl := ivlit h
    simp only [Option.some.injEq] at hn
    rw [hn]
  · cases hn

theorem fieldAddr_ok {t : TypeId} {d : TD} (hd : DOK P t d) (hk : d.known = true) {f : Nat} {x : TV} {v : Value} (hx : TVR κ x v) {C : Prop} {r : TV} (hq : fieldAddrQ d f x = some (C, r)) (hC : C) :
    ∃ u, (∀ w' : World, (Instr.fieldAt t v f).run P w' = .ok u w') ∧ TVR κ r u := by
  obtain ⟨i, desc, z, hi, hu, hsz, _, hag, hko, _⟩ := hd hk
  cases hx with
  | bptr k off b hk' h =>
    simp only [fieldAddrQ] at hq
    split at hq
    · rename_i l hl
      rw [hl] at hko
      obtain ⟨fs, rfl, hfs, hall⟩ := hko
      simp only [Option.some.injEq, Prod.mk.injEq] at hq
      obtain ⟨rfl, rfl⟩ := hq
      obtain ⟨fd, hf, ho, hs, _⟩ := hall f hC.1
      have hs2 := hC.2
      obtain ⟨fi, hfi, hfs'⟩ := Option.map_eq_some_iff.1 hs
      refine ⟨.pointer (some ⟨b, off + (offOf l f).1, none⟩), fun w' => ?_, .bptr _ _ _ hk' h⟩
      simp [Instr.fieldAt, run_underlying hu, hf, Instr.sureAddr, fieldPlace, sizeOf, typeInfo, hfi, hfs', hs2, ho, add_mk]
    · cases hq
  | rptr cs ad us hl1 h1 ha h =>
    simp only [fieldAddrQ] at hq
    split at hq
    · rename_i l hl
      rw [hl] at hko
      obtain ⟨fs, rfl, hfs, hall⟩ := hko
      simp only [Option.some.injEq, Prod.mk.injEq] at hq
      obtain ⟨rfl, rfl⟩ := hq
      obtain ⟨fd, hf, ho, hs, _⟩ := hall f hC.1
      have hs2 := hC.2
      obtain ⟨fi, hfi, hfs'⟩ := Option.map_eq_some_iff.1 hs
      refine ⟨.pointer (some (ad.add (offOf l f).1)), fun w' => ?_, .rptr _ _ (us.drop (offOf l f).1) (by simp [hl1]) (fun u hu => h1 u (List.mem_of_mem_drop hu)) (fun j u hu => ?_) (fun j c u hc hu => ?_)⟩
      · simp [Instr.fieldAt, run_underlying hu, hf, Instr.sureAddr, fieldPlace, sizeOf, typeInfo, hfi, hfs', hs2, ho]
      · rw [List.getElem?_drop] at hu
        rw [add_add_]
        exact ha _ _ hu
      · rw [List.getElem?_drop] at hc hu
        exact h _ _ _ hc hu
    · cases hq
  | _ => simp [fieldAddrQ] at hq

theorem indexAddr_ok {τ : Nat → TD} (hτ : TOK P τ) {t : TypeId} (hk : (τ t).known = true) {x : TV} {n : Int} {v : Value} (hx : TVR κ x v) {C : Prop} {r : TV} (hq : indexAddrQ τ (τ t) x n = some (C, r)) (hC : C) :
    ∃ u, (∀ w' : World, (Instr.indexAt t v (.int .i64 n)).run P w' = .ok u w') ∧ TVR κ r u := by
  obtain ⟨i, desc, z, hi, hu, hsz, _, hag, hko, _⟩ := hτ t hk
  unfold indexAddrQ at hq
  split at hq
  · rename_i m e hkd
    rw [hkd] at hko
    simp only [KOK] at hko
    subst hko
    cases hx with
    | bptr k off b hk' h =>
      simp only [Option.some.injEq, Prod.mk.injEq] at hq
      obtain ⟨rfl, rfl⟩ := hq
      obtain ⟨ie, de, ze, hie, hue, hsze, _⟩ := hτ e hC.1
      refine ⟨.pointer (some ⟨b, off + n.toNat * (τ e).size, none⟩), fun w' => ?_, .bptr _ _ _ hk' h⟩
      simp [Instr.indexAt, asIntOf, run_underlying hu, Instr.sureAddr, hC.2, sizeOf, typeInfo, hie, hsze, add_mk]
    | rptr cs ad us hl1 h1 ha h =>
      simp only [Option.some.injEq, Prod.mk.injEq] at hq
      obtain ⟨rfl, rfl⟩ := hq
      obtain ⟨ie, de, ze, hie, hue, hsze, _⟩ := hτ e hC.1
      refine ⟨.pointer (some (ad.add (n.toNat * (τ e).size))), fun w' => ?_, .rptr _ _ (us.drop (n.toNat * (τ e).size)) (by simp [hl1]) (fun u hu => h1 u (List.mem_of_mem_drop hu)) (fun j u hu => ?_) (fun j c u hc hu => ?_)⟩
      · simp [Instr.indexAt, asIntOf, run_underlying hu, Instr.sureAddr, hC.2, sizeOf, typeInfo, hie, hsze]
      · rw [List.getElem?_drop] at hu
        rw [add_add_]
        exact ha _ _ hu
      · rw [List.getElem?_drop] at hc hu
        exact h _ _ _ hc hu
    | _ => simp at hq
  · rename_i e hkd
    rw [hkd] at hko
    simp only [KOK] at hko
    subst hko
    split at hq
    · rename_i sz xs hr
      simp only [Option.some.injEq, Prod.mk.injEq] at hq
      obtain ⟨rfl, rfl⟩ := hq
      obtain ⟨hke, h0, hlt, hszz⟩ := hC
      obtain ⟨ie, de, ze, hie, hue, hsze, _⟩ := hτ e hke
      have hrow := rows_ok hx hr
      cases hrow with
      | sl A sz xs c us hc hl hszx h1 hA ha h =>
        obtain ⟨ad, rfl⟩ := hA (by omega)
        have hin : n.toNat < xs.length := by omega
        have hmem : (xs.getD n.toNat .any).cells.length = sz := by
          have e1 : xs.getD n.toNat .any = xs[n.toNat] := by simp [List.getD, hin]
          rw [e1]; exact hszx _ (List.getElem_mem hin)
        have hmul : n.toNat * sz + sz ≤ us.length := by rw [hl, ← Nat.succ_mul]; exact Nat.mul_le_mul_right _ hin
        refine ⟨.pointer (some (ad.add (n.toNat * sz))), fun w' => ?_, .rptr _ _ ((us.drop (n.toNat * sz)).take sz) ?_ (fun u hu => h1 u (List.mem_of_mem_drop (List.mem_of_mem_take hu))) (fun j u hu => ?_) (fun j c' u hc' hu => ?_)⟩
        · simp [Instr.indexAt, asIntOf, run_underlying hu, h0, hlt, sizeOf, typeInfo, hie, hsze, hszz]
        · rw [List.length_take, List.length_drop, hmem]; omega
        · rw [List.getElem?_take] at hu
          split at hu
          · rw [List.getElem?_drop] at hu
            rw [add_add_]
            exact ha ad rfl _ _ hu
          · cases hu
        · rw [List.getElem?_take] at hu
          split at hu
          · rename_i hj
            rw [List.getElem?_drop] at hu
            rw [← flat_get xs hszx hin hj] at hc'
            exact h _ _ _ hc' hu
          · cases hu
    · cases hq
  · cases hq

theorem part_ok {e : TypeId} {d : TD} (hd : DOK P e d) (hk : d.known = true) {cs : List IV} {us : List Value} (off : Nat) (hl : us.length = cs.length) (h1 : ∀ u ∈ us, u.oneCell' = true)
    (h : ∀ (j : Nat) (c : IV) (u : Value), cs[j]? = some c → us[j]? = some u → IVR κ.w κ.prot c u) (hC : (partI d cs off).1) :
    ∃ u, (∀ w' : World, (part e us.toArray off).run P w' = .ok u w') ∧ TVR κ (partI d cs off).2 u := by
  obtain ⟨i, desc, z, hi, hu, hsz, _, hag, _⟩ := hd hk
  unfold partI at hC ⊢
  cases hg : d.agg
  · simp only [hg, cond_false] at hC ⊢
    have hj : us[off]? = some (us[off]'(by omega)) := List.getElem?_eq_getElem (by omega)
    have hc : cs[off]? = some (cs[off]'hC) := List.getElem?_eq_getElem hC
    refine ⟨us[off]'(by omega), fun w' => ?_, ?_⟩
    · rw [hg] at hag
      have hlt : off < us.length := by omega
      cases desc <;> simp [isAggD] at hag <;> simp [part, isAgg, run_underlying hu, hlt]
    · refine .iv _ _ ?_
      rw [List.getD_eq_getElem?_getD, hc]
      exact h off _ _ hc hj
  · simp only [hg, cond_true] at hC ⊢
    refine ⟨.agg ((us.drop off).take d.size).toArray, fun w' => ?_, ?_⟩
    · rw [hg] at hag
      have he : us.toArray.extract off (off + i.size) = ((us.drop off).take d.size).toArray := by
        rw [hsz]
        apply Array.ext'
        simp [List.take_drop, Nat.add_comm]
      cases desc <;> simp [isAggD] at hag <;> simp [part, isAgg, run_underlying hu, sizeOf, typeInfo, hi] <;> simpa using he
    · refine .iv _ _ (.agg _ _ (by rw [List.length_take, List.length_take, List.length_drop, List.length_drop]; omega) (fun u hu => h1 u (List.mem_of_mem_drop (List.mem_of_mem_take hu))) (fun j c u hc hu => ?_))
      rw [List.getElem?_take] at hc hu
      split at hc
      · rw [if_pos (by assumption)] at hu
        rw [List.getElem?_drop] at hc hu
        exact h _ _ _ hc hu
      · cases hc

theorem index_ok {τ : Nat → TD} (hτ : TOK P τ) {t : TypeId} (hk : (τ t).known = true) {x : TV} {n : Int} {v : Value} (hx : TVR κ x v) {C : Prop} {r : TV} (hq : indexQ τ (τ t) x n = some (C, r)) (hC : C) :
    ∃ u, (∀ w' : World, (Instr.index t v (.int .i64 n)).run P w' = .ok u w') ∧ TVR κ r u := by
  obtain ⟨i, desc, z, hi, hu, hsz, _, hag, hko, _⟩ := hτ t hk
  unfold indexQ at hq
  split at hq
  · rename_i m e cs hkd
    rw [hkd] at hko
    simp only [KOK] at hko
    subst hko
    simp only [Option.some.injEq, Prod.mk.injEq] at hq
    obtain ⟨rfl, rfl⟩ := hq
    obtain ⟨⟨hke, h0, hlt⟩, hp⟩ := hC
    cases hx with | iv x v hiv =>
    cases hiv with
    | agg cs us hl h1 h =>
      obtain ⟨ie, de, ze, hie, hue, hsze, _⟩ := hτ e hke
      obtain ⟨u, hr, ht⟩ := part_ok (κ := κ) (hτ e) hke (n.toNat * (τ e).size) hl h1 h hp
      refine ⟨u, fun w' => ?_, ht⟩
      simp [Instr.index, asIntOf, run_underlying hu, h0, hlt, sizeOf, typeInfo, hie, hsze, hr]
  · rename_i s hkd
    rw [hkd] at hko
    simp only [KOK] at hko
    subst hko
    simp only [Option.some.injEq, Prod.mk.injEq] at hq
    obtain ⟨rfl, rfl⟩ := hq
    obtain rfl := ivlit hx
    have hn : n.toNat < s.size := by omega
    have h0 := hC.1
    refine ⟨_, fun w' => ?_, .iv _ _ (.lit _)⟩
    have hs : s[n.toNat]? = some (s.data.toList.getD n.toNat 0) := by
      simp [getElem?_pos, hn, List.getD]
      rfl
    simp [Instr.index, asIntOf, run_underlying hu, h0, hs]
  · cases hq

theorem field_ok {τ : Nat → TD} (hτ : TOK P τ) {t : TypeId} (hk : (τ t).known = true) {f : Nat} {x : TV} {v : Value} (hx : TVR κ x v) {C : Prop} {r : TV} (hq : fieldQ τ (τ t) x f = some (C, r)) (hC : C) :
    ∃ u, (∀ w' : World, (Instr.field t v f).run P w' = .ok u w') ∧ TVR κ r u := by
  obtain ⟨i, desc, z, hi, hu, hsz, _, hag, hko, _⟩ := hτ t hk
  unfold fieldQ at hq
  split at hq
  · rename_i l cs hkd
    rw [hkd] at hko
    obtain ⟨fs, rfl, hfs, hall⟩ := hko
    simp only [Option.some.injEq, Prod.mk.injEq] at hq
    obtain ⟨rfl, rfl⟩ := hq
    obtain ⟨⟨hke, hlt⟩, hp⟩ := hC
    obtain ⟨fd, hf, ho, hs, hty⟩ := hall f hlt
    cases hx with | iv x v hiv =>
    cases hiv with
    | agg cs us hl h1 h =>
      obtain ⟨u, hr, ht⟩ := part_ok (κ := κ) (hτ (offOf l f).2.2) hke (offOf l f).1 hl h1 h hp
      refine ⟨u, fun w' => ?_, ht⟩
      simp [Instr.field, run_underlying hu, hf, asAgg, hty, ho, hr]
  · cases hq

theorem lenQ_ok {t : TypeId} {d : TD} (hd : DOK P t d) (hk : d.known = true) {ty : TypeId} {x : TV} {v : Value} (hx : TVR κ x v) {C : Prop} {r : TV} (hq : lenQ d x = some (C, r)) :
    ∃ u, (∀ w' : World, (Builtin.len_ #[t] ty #[v]).run P w' = .ok u w') ∧ TVR κ r u := by
  obtain ⟨i, desc, z, hi, hu, hsz, _, hag, hko, _⟩ := hd hk
  unfold lenQ at hq
  split at hq
  · rename_i s hkd
    rw [hkd] at hko
    simp only [KOK] at hko
    subst hko
    obtain rfl := ivlit hx
    simp only [Option.some.injEq, Prod.mk.injEq] at hq
    obtain ⟨rfl, rfl⟩ := hq
    exact ⟨_, fun w' => by simp [Builtin.len_, run_underlying hu, goInt], .iv _ _ (.lit _)⟩
  · rename_i e hkd
    rw [hkd] at hko
    simp only [KOK] at hko
    subst hko
    split at hq
    · rename_i sz xs hr
      simp only [Option.some.injEq, Prod.mk.injEq] at hq
      obtain ⟨rfl, rfl⟩ := hq
      have hrow := rows_ok hx hr
      cases hrow with
      | sl A sz xs c us hc hl hszx h1 hA ha h => exact ⟨_, fun w' => by simp [Builtin.len_, run_underlying hu, goInt], .iv _ _ (.lit _)⟩
    · cases hq
  · cases hq
end
end Go.PL
