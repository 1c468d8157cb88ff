/- QUIET OPERATIONS, ON: addresses, indices, fields, cuts, tests joined, lengths, what is built; all of them together. -/
import Derived.Test.YtmocgjimlhgejaaKB2
import Derived.Laws.Slices
namespace Go.PL
open Go.RowKit (Below)
set_option linter.unusedSimpArgs false
set_option linter.unusedVariables false

section
variable {P : Program} {κ : Kx}

theorem natI_ok {t : TV} {v : Value} (h : TVR κ t v) {n : Int} (hn : natI t = some n) : v = .int .i64 n := by
  unfold natI at hn
  split at hn
  · obtain rfl := ivlit h
    simp only [Option.some.injEq] at hn
    rw [hn]
  · cases hn

theorem intI_ok {t : TV} {v : Value} (h : TVR κ t v) {n : Int} (hn : intI t = some n) : ∃ ik, v = .int ik n := by
  unfold intI at hn
  split at hn
  · obtain rfl := ivlit h
    simp only [Option.some.injEq] at hn
    rw [hn]
    exact ⟨_, rfl⟩
  · cases hn
theorem fieldAddr_ok {t : TypeId} {d : TD} (hd : DOK P t d) (hk : d.known = true) {f : Nat} {x : TV} {v : Value} (hx : TVR κ x v) {C : Prop} {r : TV} (hq : fieldAddrQ d f x = some (C, r)) (hC : C) :
    ∃ u, (∀ w' : World, (Instr.fieldAt t v f).run P w' = .ok u w') ∧ TVR κ r u := by
  obtain ⟨i, desc, z, hi, hu, hsz, _, hag, hko, _⟩ := hd hk
  cases hx with
  | bptr k off b hk' h =>
    simp only [fieldAddrQ] at hq
    split at hq
    · rename_i l hl
      rw [hl] at hko
      obtain ⟨fs, rfl, hfs, hall⟩ := hko
      simp only [Option.some.injEq, Prod.mk.injEq] at hq
      obtain ⟨rfl, rfl⟩ := hq
      obtain ⟨fd, hf, ho, hs, _⟩ := hall f hC.1
      have hs2 := hC.2
      obtain ⟨fi, hfi, hfs'⟩ := Option.map_eq_some_iff.1 hs
      refine ⟨.pointer (some ⟨b, off + (offOf l f).1, none⟩), fun w' => ?_, .bptr _ _ _ hk' h⟩
      simp [Instr.fieldAt, run_underlying hu, hf, Instr.sureAddr, fieldPlace, sizeOf, typeInfo, hfi, hfs', hs2, ho, add_mk]
    · cases hq
  | rptr cs ad us hl1 h1 ha h =>
    simp only [fieldAddrQ] at hq
    split at hq
    · rename_i l hl
      rw [hl] at hko
      obtain ⟨fs, rfl, hfs, hall⟩ := hko
      simp only [Option.some.injEq, Prod.mk.injEq] at hq
      obtain ⟨rfl, rfl⟩ := hq
      obtain ⟨fd, hf, ho, hs, _⟩ := hall f hC.1
      have hs2 := hC.2
      obtain ⟨fi, hfi, hfs'⟩ := Option.map_eq_some_iff.1 hs
      refine ⟨.pointer (some (ad.add (offOf l f).1)), fun w' => ?_, .rptr _ _ (us.drop (offOf l f).1) (by simp [hl1]) (fun u hu => h1 u (List.mem_of_mem_drop hu)) (fun j u hu => ?_) (fun j c u hc hu => ?_)⟩
      · simp [Instr.fieldAt, run_underlying hu, hf, Instr.sureAddr, fieldPlace, sizeOf, typeInfo, hfi, hfs', hs2, ho]
      · rw [List.getElem?_drop] at hu
        rw [add_add_]
        exact ha _ _ hu
      · rw [List.getElem?_drop] at hc hu
        exact h _ _ _ hc hu
    · cases hq
  | eptr k sz i off b n c hk' h =>
    simp only [fieldAddrQ] at hq
    split at hq
    · rename_i l hl
      rw [hl] at hko
      obtain ⟨fs, rfl, hfs, hall⟩ := hko
      simp only [Option.some.injEq, Prod.mk.injEq] at hq
      obtain ⟨rfl, rfl⟩ := hq
      obtain ⟨fd, hf, ho, hs, _⟩ := hall f hC.1
      have hs2 := hC.2
      obtain ⟨fi, hfi, hfs'⟩ := Option.map_eq_some_iff.1 hs
      refine ⟨.pointer (some ⟨b, i * sz + (off + (offOf l f).1), none⟩), fun w' => ?_, .eptr _ _ _ _ _ _ _ hk' h⟩
      simp [Instr.fieldAt, run_underlying hu, hf, Instr.sureAddr, fieldPlace, sizeOf, typeInfo, hfi, hfs', hs2, ho, add_mk, Nat.add_assoc]
    · cases hq
  | _ => simp [fieldAddrQ] at hq

theorem indexAddr_ok {ik : IntKind} {τ : Nat → TD} (hτ : TOK P τ) {t : TypeId} (hk : (τ t).known = true) {x : TV} {n : Int} {v : Value} (hx : TVR κ x v) {C : Prop} {r : TV} (hq : indexAddrQ τ (τ t) x n = some (C, r)) (hC : C) :
    ∃ u, (∀ w' : World, (Instr.indexAt t v (.int ik n)).run P w' = .ok u w') ∧ TVR κ r u := by
  obtain ⟨i, desc, z, hi, hu, hsz, _, hag, hko, _⟩ := hτ t hk
  unfold indexAddrQ at hq
  split at hq
  · rename_i m e hkd
    rw [hkd] at hko
    simp only [KOK] at hko
    subst hko
    cases hx with
    | bptr k off b hk' h =>
      simp only [Option.some.injEq, Prod.mk.injEq] at hq
      obtain ⟨rfl, rfl⟩ := hq
      obtain ⟨ie, de, ze, hie, hue, hsze, _⟩ := hτ e hC.1
      refine ⟨.pointer (some ⟨b, off + n.toNat * (τ e).size, none⟩), fun w' => ?_, .bptr _ _ _ hk' h⟩
      simp [Instr.indexAt, asIntOf, run_underlying hu, Instr.sureAddr, hC.2, sizeOf, typeInfo, hie, hsze, add_mk]
    | rptr cs ad us hl1 h1 ha h =>
      simp only [Option.some.injEq, Prod.mk.injEq] at hq
      obtain ⟨rfl, rfl⟩ := hq
      obtain ⟨ie, de, ze, hie, hue, hsze, _⟩ := hτ e hC.1
      refine ⟨.pointer (some (ad.add (n.toNat * (τ e).size))), fun w' => ?_, .rptr _ _ (us.drop (n.toNat * (τ e).size)) (by simp [hl1]) (fun u hu => h1 u (List.mem_of_mem_drop hu)) (fun j u hu => ?_) (fun j c u hc hu => ?_)⟩
      · simp [Instr.indexAt, asIntOf, run_underlying hu, Instr.sureAddr, hC.2, sizeOf, typeInfo, hie, hsze]
      · rw [List.getElem?_drop] at hu
        rw [add_add_]
        exact ha _ _ hu
      · rw [List.getElem?_drop] at hc hu
        exact h _ _ _ hc hu
    | _ => simp at hq
  · rename_i e hkd
    rw [hkd] at hko
    simp only [KOK] at hko
    subst hko
    split at hq
    · rename_i sz xs hr
      simp only [Option.some.injEq, Prod.mk.injEq] at hq
      obtain ⟨rfl, rfl⟩ := hq
      obtain ⟨hke, h0, hlt, hszz⟩ := hC
      obtain ⟨ie, de, ze, hie, hue, hsze, _⟩ := hτ e hke
      have hrow := rows_ok hx hr
      cases hrow with
      | sl A sz xs c us hc hl hszx h1 hA ha h =>
        obtain ⟨ad, rfl⟩ := hA (by omega)
        have hin : n.toNat < xs.length := by omega
        have hmem : (xs.getD n.toNat .any).cells.length = sz := by
          have e1 : xs.getD n.toNat .any = xs[n.toNat] := by simp [List.getD, hin]
          rw [e1]; exact hszx _ (List.getElem_mem hin)
        have hmul : n.toNat * sz + sz ≤ us.length := by rw [hl, ← Nat.succ_mul]; exact Nat.mul_le_mul_right _ hin
        refine ⟨.pointer (some (ad.add (n.toNat * sz))), fun w' => ?_, .rptr _ _ ((us.drop (n.toNat * sz)).take sz) ?_ (fun u hu => h1 u (List.mem_of_mem_drop (List.mem_of_mem_take hu))) (fun j u hu => ?_) (fun j c' u hc' hu => ?_)⟩
        · simp [Instr.indexAt, asIntOf, run_underlying hu, h0, hlt, sizeOf, typeInfo, hie, hsze, hszz]
        · rw [List.length_take, List.length_drop, hmem]; omega
        · rw [List.getElem?_take] at hu
          split at hu
          · rw [List.getElem?_drop] at hu
            rw [add_add_]
            exact ha ad rfl _ _ hu
          · cases hu
        · rw [List.getElem?_take] at hu
          split at hu
          · rename_i hj
            rw [List.getElem?_drop] at hu
            rw [← flat_get xs hszx hin hj] at hc'
            exact h _ _ _ hc' hu
          · cases hu
    · split at hq
      · rename_i b off m c hrr
        simp only [Option.some.injEq, Prod.mk.injEq] at hq
        obtain ⟨rfl, rfl⟩ := hq
        obtain ⟨hke, h0, hlt⟩ := hC
        obtain ⟨ie, de, ze, hie, hue, hsze, _⟩ := hτ e hke
        cases hx with
        | iv _ _ h =>
          cases h
          refine ⟨.pointer (some ⟨b, off + n.toNat * (τ e).size, none⟩), fun w' => ?_, .iv _ _ (.lit _)⟩
          simp [Instr.indexAt, asIntOf, run_underlying hu, h0, hlt, sizeOf, typeInfo, hie, hsze, add_mk]
      · cases hq
  · cases hq

theorem part_ok {e : TypeId} {d : TD} (hd : DOK P e d) (hk : d.known = true) {cs : List IV} {us : List Value} (off : Nat) (hl : us.length = cs.length) (h1 : ∀ u ∈ us, u.oneCell' = true)
    (h : ∀ (j : Nat) (c : IV) (u : Value), cs[j]? = some c → us[j]? = some u → IVR κ.w κ.prot c u) (hC : (partI d cs off).1) :
    ∃ u, (∀ w' : World, (part e us.toArray off).run P w' = .ok u w') ∧ TVR κ (partI d cs off).2 u := by
  obtain ⟨i, desc, z, hi, hu, hsz, _, hag, _⟩ := hd hk
  unfold partI at hC ⊢
  cases hg : d.agg
  · simp only [hg, cond_false] at hC ⊢
    have hj : us[off]? = some (us[off]'(by omega)) := List.getElem?_eq_getElem (by omega)
    have hc : cs[off]? = some (cs[off]'hC) := List.getElem?_eq_getElem hC
    refine ⟨us[off]'(by omega), fun w' => ?_, ?_⟩
    · rw [hg] at hag
      have hlt : off < us.length := by omega
      cases desc <;> simp [isAggD] at hag <;> simp [part, isAgg, run_underlying hu, hlt]
    · refine .iv _ _ ?_
      rw [List.getD_eq_getElem?_getD, hc]
      exact h off _ _ hc hj
  · simp only [hg, cond_true] at hC ⊢
    refine ⟨.agg ((us.drop off).take d.size).toArray, fun w' => ?_, ?_⟩
    · rw [hg] at hag
      have he : us.toArray.extract off (off + i.size) = ((us.drop off).take d.size).toArray := by
        rw [hsz]
        apply Array.ext'
        simp [List.take_drop, Nat.add_comm]
      cases desc <;> simp [isAggD] at hag <;> simp [part, isAgg, run_underlying hu, sizeOf, typeInfo, hi] <;> simpa using he
    · refine .iv _ _ (.agg _ _ (by rw [List.length_take, List.length_take, List.length_drop, List.length_drop]; omega) (fun u hu => h1 u (List.mem_of_mem_drop (List.mem_of_mem_take hu))) (fun j c u hc hu => ?_))
      rw [List.getElem?_take] at hc hu
      split at hc
      · rw [if_pos (by assumption)] at hu
        rw [List.getElem?_drop] at hc hu
        exact h _ _ _ hc hu
      · cases hc

theorem index_ok {ik : IntKind} {τ : Nat → TD} (hτ : TOK P τ) {t : TypeId} (hk : (τ t).known = true) {x : TV} {n : Int} {v : Value} (hx : TVR κ x v) {C : Prop} {r : TV} (hq : indexQ τ (τ t) x n = some (C, r)) (hC : C) :
    ∃ u, (∀ w' : World, (Instr.index t v (.int ik n)).run P w' = .ok u w') ∧ TVR κ r u := by
  obtain ⟨i, desc, z, hi, hu, hsz, _, hag, hko, _⟩ := hτ t hk
  unfold indexQ at hq
  split at hq
  · rename_i m e cs hkd
    rw [hkd] at hko
    simp only [KOK] at hko
    subst hko
    simp only [Option.some.injEq, Prod.mk.injEq] at hq
    obtain ⟨rfl, rfl⟩ := hq
    obtain ⟨⟨hke, h0, hlt⟩, hp⟩ := hC
    cases hx with | iv x v hiv =>
    cases hiv with
    | agg cs us hl h1 h =>
      obtain ⟨ie, de, ze, hie, hue, hsze, _⟩ := hτ e hke
      obtain ⟨u, hr, ht⟩ := part_ok (κ := κ) (hτ e) hke (n.toNat * (τ e).size) hl h1 h hp
      refine ⟨u, fun w' => ?_, ht⟩
      simp [Instr.index, asIntOf, run_underlying hu, h0, hlt, sizeOf, typeInfo, hie, hsze, hr]
  · rename_i s hkd
    rw [hkd] at hko
    simp only [KOK] at hko
    subst hko
    simp only [Option.some.injEq, Prod.mk.injEq] at hq
    obtain ⟨rfl, rfl⟩ := hq
    obtain rfl := ivlit hx
    have hn : n.toNat < s.size := by omega
    have h0 := hC.1
    refine ⟨_, fun w' => ?_, .iv _ _ (.lit _)⟩
    have hs : s[n.toNat]? = some (s.data.toList.getD n.toNat 0) := by
      simp [getElem?_pos, hn, List.getD]
      rfl
    simp [Instr.index, asIntOf, run_underlying hu, h0, hs]
  · cases hq

theorem field_ok {τ : Nat → TD} (hτ : TOK P τ) {t : TypeId} (hk : (τ t).known = true) {f : Nat} {x : TV} {v : Value} (hx : TVR κ x v) {C : Prop} {r : TV} (hq : fieldQ τ (τ t) x f = some (C, r)) (hC : C) :
    ∃ u, (∀ w' : World, (Instr.field t v f).run P w' = .ok u w') ∧ TVR κ r u := by
  obtain ⟨i, desc, z, hi, hu, hsz, _, hag, hko, _⟩ := hτ t hk
  unfold fieldQ at hq
  split at hq
  · rename_i l cs hkd
    rw [hkd] at hko
    obtain ⟨fs, rfl, hfs, hall⟩ := hko
    simp only [Option.some.injEq, Prod.mk.injEq] at hq
    obtain ⟨rfl, rfl⟩ := hq
    obtain ⟨⟨hke, hlt⟩, hp⟩ := hC
    obtain ⟨fd, hf, ho, hs, hty⟩ := hall f hlt
    cases hx with | iv x v hiv =>
    cases hiv with
    | agg cs us hl h1 h =>
      obtain ⟨u, hr, ht⟩ := part_ok (κ := κ) (hτ (offOf l f).2.2) hke (offOf l f).1 hl h1 h hp
      refine ⟨u, fun w' => ?_, ht⟩
      simp [Instr.field, run_underlying hu, hf, asAgg, hty, ho, hr]
  · cases hq

theorem lenQ_ok {t : TypeId} {d : TD} (hd : DOK P t d) (hk : d.known = true) {ty : TypeId} {x : TV} {v : Value} (hx : TVR κ x v) {C : Prop} {r : TV} (hq : lenQ d x = some (C, r)) :
    ∃ u, (∀ w' : World, (Builtin.len_ #[t] ty #[v]).run P w' = .ok u w') ∧ TVR κ r u := by
  obtain ⟨i, desc, z, hi, hu, hsz, _, hag, hko, _⟩ := hd hk
  unfold lenQ at hq
  split at hq
  · rename_i s hkd
    rw [hkd] at hko
    simp only [KOK] at hko
    subst hko
    obtain rfl := ivlit hx
    simp only [Option.some.injEq, Prod.mk.injEq] at hq
    obtain ⟨rfl, rfl⟩ := hq
    exact ⟨_, fun w' => by simp [Builtin.len_, run_underlying hu, goInt], .iv _ _ (.lit _)⟩
  · rename_i e hkd
    rw [hkd] at hko
    simp only [KOK] at hko
    subst hko
    split at hq
    · rename_i sz xs hr
      simp only [Option.some.injEq, Prod.mk.injEq] at hq
      obtain ⟨rfl, rfl⟩ := hq
      have hrow := rows_ok hx hr
      cases hrow with
      | sl A sz xs c us hc hl hszx h1 hA ha h => exact ⟨_, fun w' => by simp [Builtin.len_, run_underlying hu, goInt], .iv _ _ (.lit _)⟩
    · cases hq
  · cases hq
theorem mrow_at {obj : List (Nat × Ob)} (hO : RelO κ obj) {k : Nat} {e : TypeId} {sz : Nat} {xs : List IV} (hl : look? obj k = some (.mrow e sz xs)) {v : Value} (hx : TVR κ (.mrow k) v) :
    ∃ (A : Option Addr) (c : Nat), κ.tk k = .tuple ⟨[.slice A xs.length c]⟩ ∧ v = .slice A xs.length c := by
  cases hx with
  | mrow k A n c hk h =>
    obtain ⟨A', c', us, hA, _⟩ := hO.obs k _ hl |>.2
    have := hA
    rw [h] at this
    simp only [Value.tuple.injEq, Array.mk.injEq, List.cons.injEq, Value.slice.injEq, and_true] at this
    obtain ⟨rfl, rfl, rfl⟩ := this
    exact ⟨A, c, hA, rfl⟩
theorem indexAddrM_ok {ik : IntKind} {τ : Nat → TD} (hτ : TOK P τ) {st : St} (hO : RelO κ st.obj) {t : TypeId} (hk : (τ t).known = true) {k : Nat} {n : Int} {v : Value} (hx : TVR κ (.mrow k) v) {C : Prop} {r : TV} (hq : indexAddrM τ st (τ t) k n = some (C, r)) (hC : C) :
    ∃ u, (∀ w' : World, (Instr.indexAt t v (.int ik n)).run P w' = .ok u w') ∧ TVR κ r u := by
  obtain ⟨i, desc, z, hi, hu, hsz, _, hag, hko, _⟩ := hτ t hk
  unfold indexAddrM at hq
  split at hq
  · rename_i e e' sz xs hkd hl
    rw [hkd] at hko
    simp only [KOK] at hko
    subst hko
    simp only [Option.some.injEq, Prod.mk.injEq] at hq
    obtain ⟨rfl, rfl⟩ := hq
    obtain ⟨hke, h0, hlt, rfl, rfl⟩ := hC
    obtain ⟨ie, de, ze, hie, hue, hsze, _⟩ := hτ e' hke
    obtain ⟨A, c, hA, rfl⟩ := mrow_at hO hl hx
    obtain ⟨A', c', us, hA', hlen, hszx, h1, hcs, hm⟩ := hO.obs k _ hl |>.2
    rw [hA] at hA'
    simp only [Value.tuple.injEq, Array.mk.injEq, List.cons.injEq, Value.slice.injEq, and_true] at hA'
    obtain ⟨rfl, _, rfl⟩ := hA'
    obtain ⟨_, rfl, _⟩ | ⟨b, cur, rfl, _⟩ := hm
    · simp at hlt; omega
    cases hx with
    | mrow k _ _ _ hk' h' =>
      refine ⟨.pointer (some ⟨b, n.toNat * (τ e').size + 0, none⟩), fun w' => ?_, .eptr _ _ _ _ _ _ _ hk' h'⟩
      simp [Instr.indexAt, asIntOf, run_underlying hu, h0, hlt, sizeOf, typeInfo, hie, hsze, add_mk]
  · cases hq
theorem indexAddrS_ok {ik : IntKind} {τ : Nat → TD} (hτ : TOK P τ) {st : St} (hO : RelO κ st.obj) {t : TypeId} (hk : (τ t).known = true) {x : TV} {n : Int} {v : Value} (hx : TVR κ x v) {C : Prop} {r : TV} (hq : indexAddrS τ st (τ t) n x = some (C, r)) (hC : C) :
    ∃ u, (∀ w' : World, (Instr.indexAt t v (.int ik n)).run P w' = .ok u w') ∧ TVR κ r u := by
  unfold indexAddrS at hq
  split at hq
  · exact indexAddrM_ok hτ hO hk hx hq hC
  · exact indexAddr_ok hτ hk hx hq hC
theorem lenS_ok {t : TypeId} {d : TD} (hd : DOK P t d) (hk : d.known = true) {st : St} (hO : RelO κ st.obj) {ty : TypeId} {x : TV} {v : Value} (hx : TVR κ x v) {C : Prop} {r : TV} (hq : lenS st d x = some (C, r)) :
    ∃ u, (∀ w' : World, (Builtin.len_ #[t] ty #[v]).run P w' = .ok u w') ∧ TVR κ r u := by
  unfold lenS at hq
  split at hq
  · obtain ⟨i, desc, z, hi, hu, hsz, _, hag, hko, _⟩ := hd hk
    unfold lenM at hq
    split at hq
    · rename_i e e' sz xs hkd hl
      rw [hkd] at hko
      simp only [KOK] at hko
      subst hko
      simp only [Option.some.injEq, Prod.mk.injEq] at hq
      obtain ⟨rfl, rfl⟩ := hq
      obtain ⟨A, c, hA, rfl⟩ := mrow_at hO hl hx
      exact ⟨_, fun w' => by simp [Builtin.len_, run_underlying hu, goInt], .iv _ _ (.lit _)⟩
    · cases hq
  · exact lenQ_ok hd hk hx hq
theorem cap_ok {t e : TypeId} {d : TD} (hd : DOK P t d) (hk : d.known = true) (hkd : d.kind = .slice e) {ty : TypeId} {v : Value} (hx : TVR κ .nilsl v) (w' : World) : (Builtin.cap_ #[t] ty #[v]).run P w' = .ok (.int .i64 0) w' := by
  obtain ⟨i, desc, z, hi, hu, hsz, _, hag, hko, _⟩ := hd hk
  rw [hkd] at hko
  simp only [KOK] at hko
  subst hko
  cases hx
  simp [Builtin.cap_, run_underlying hu, goInt]
end
end Go.PL
