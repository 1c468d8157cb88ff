/- EACH OPERATION THAT IS NO CALL, AND REGIONS. -/
import Derived.Test.YtmocgjimlhgejaaKB7
namespace Go.PL
open Go.RowKit (Below)
set_option linter.unusedSimpArgs false
set_option linter.unusedVariables false
section
variable {P : Program} {κ κ' : Kx}

theorem elems_length (st : St) : ∀ (l : List (Nat × Operand)), (elems st l).length = l.length
  | [] => rfl
  | (_, x) :: l => by simp [elems, elems_length st l]
theorem elems_ok {N : Nat} {st : St} {a : Act} (h : Rel κ N st a) : ∀ (l : List (Nat × Operand)), ops? st l → ∀ (j : Nat) (x : IV) (v : Value), (elems st l)[j]? = some x → (l.map fun p => a.eval p.2)[j]? = some v → IVR κ.w κ.prot x v
  | [], _, j, x, v, hx, _ => by simp [elems] at hx
  | (i, y) :: l, hp, 0, x, v, hx, hv => by
    simp [elems] at hx hv; subst hx; subst hv; exact (h.ox hp.1).im
  | (i, y) :: l, hp, j + 1, x, v, hx, hv => by
    simp [elems] at hx hv
    exact elems_ok h l hp.2 j x v hx (by simpa using hv)
theorem ordP_zip (a : Act) : ∀ (l : List (Nat × Operand)) (i : Nat), ordP i l → (l.map fun x => (x.1, a.eval x.2)) = ((l.map fun p => a.eval p.2).zipIdx i).map fun x => (x.2, x.1)
  | [], i, _ => rfl
  | (j, x) :: l, i, h => by
    obtain ⟨rfl, h2⟩ := h
    simp [List.zipIdx_cons, ordP_zip a l (j + 1) h2]
theorem flat_rel {w : World} {prot : Addr → Prop} : ∀ (xs : List IV) (vs : List Value), vs.length = xs.length → (∀ x ∈ xs, x.one) → (∀ (j : Nat) (x : IV) (v : Value), xs[j]? = some x → vs[j]? = some v → IVR w prot x v) →
    CR w prot (xs.flatMap IV.cells) (vs.flatMap fun v => v.cells.toList)
  | [], [], _, _, _ => ⟨rfl, by simp, by simp⟩
  | x :: xs, v :: vs, hl, h1, h => by
    rw [List.flatMap_cons, List.flatMap_cons]
    exact (CR.cells (h 0 x v rfl rfl) (h1 x (List.mem_cons_self ..))).app (flat_rel xs vs (by simpa using hl) (fun y hy => h1 y (List.mem_cons_of_mem _ hy)) (fun j x v hx hv => h (j + 1) x v (by simpa using hx) (by simpa using hv)))

/-- An operation that is no call, carried out. -/
def Ex (P : Program) (o : Oper) (a : Act) (w : World) (v : Value) (w' : World) : Prop :=
  (execOp a.eval o).run P w = .ok (.value v) w' ∨ ((execOp a.eval o).run P w = .ok .skip w' ∧ v = undef)
theorem Ex.wp {o : Oper} {a : Act} {w w' : World} {v : Value} (h : Ex P o a w v w') (K : Act → World → Prop) (Q : Exit → Act → World → Prop) (hK : K (a.put o.dst v) w') : o.wp P a w K Q := by
  rcases h with h | ⟨h, rfl⟩
  · exact wp_value h K Q hK
  · exact wp_skip_ h K Q hK
/-- One operation. -/
theorem step_ok {τ : Nat → TD} (hτ : TOK P τ) {N : Nat} {st st' : St} {a : Act} (h : Rel κ N st a) {o : Oper} {C : Prop} {r : TV} (hs : step τ st o = .ok C r st') (hC : C) (hd : ∀ i, o.dst = some i → i < N) :
    ∃ κ' v, Ex P o a κ.w v κ'.w ∧ Rel κ' N (st'.put o.dst r) (a.put o.dst v) ∧ Ext κ κ' ∧ ∀ m, m ≤ κ.n → Keep m κ κ' := by
  unfold step at hs
  split at hs
  · -- quiet
    rename_i q hq
    obtain ⟨C', r'⟩ := q
    simp only [Res.ok.injEq] at hs
    obtain ⟨rfl, rfl, rfl⟩ := hs
    obtain ⟨u, hr, ht⟩ := quiet_ok hτ h hq hC
    exact ⟨κ, u, .inl (hr κ.w (Sees.refl _ _)), h.putQ ht hd, Ext.refl κ, fun m hm => Keep.refl m κ hm⟩
  · split at hs
    · -- alloc
      rename_i t hop
      simp only [Res.ok.injEq] at hs
      obtain ⟨rfl, rfl, rfl⟩ := hs
      obtain ⟨i, desc, z, hi, hu, hsz, hby, hag, hko, hz, hzc, hz1, hzl, _⟩ := hτ t hC
      have hb := h.box (ty := t) (us := z.cells) (cs := zTVs (τ t).zero) (by rw [hzc]; exact CT.zero _ hz1)
      refine ⟨κ.box z.cells t, .pointer (some ⟨κ.w.heap.size, 0, none⟩), .inl ?_, hb.1.putQ hb.2.2 hd, hb.2.1, fun m hm => Keep.box _ _ _ m hm⟩
      simp [execOp, hop, Instr.alloc, zeroValue, typeInfo, hi, hz, newVar, newRow, Kx.box]
    · -- box
      rename_i t x hop
      simp only [Res.ok.injEq] at hs
      obtain ⟨rfl, rfl, rfl⟩ := hs
      have hb := h.box (ty := t) (us := (a.eval x).cells) (CT.cells (h.ox hC.1) hC.2)
      refine ⟨κ.box (a.eval x).cells t, .pointer (some ⟨κ.w.heap.size, 0, none⟩), .inl ?_, hb.1.putQ hb.2.2 hd, hb.2.1, fun m hm => Keep.box _ _ _ m hm⟩
      simp [execOp, hop, Instr.box, newVar, newRow, Kx.box]
    · -- store
      rename_i t p x hop
      split at hs
      · rename_i C' u st1 hse
        simp only [Res.ok.injEq] at hs
        obtain ⟨rfl, rfl, rfl⟩ := hs
        obtain ⟨hk, hx, hp, hC'⟩ := hC
        obtain ⟨i, desc, z, hi, hu, hsz, hby, hag, hko, hz, hzc, hz1, hzl, _⟩ := hτ t hk
        have hpv := h.ox hp
        have hxv := h.ox hx
        generalize hpe : a.eval p = pv at hpv
        generalize hpt : ox st p = pt at hpv hse
        cases hpv with
        | bptr k off b hk' hb =>
          simp only [storeE] at hse
          cases hl : look? st.obj k with
          | none => rw [hl] at hse; cases hse
          | some o' =>
            rw [hl] at hse
            cases o' with
            | row e sz => cases hse
            | map _ _ _ => cases hse
            | mrow _ _ _ => cases hse
            | lp _ _ _ _ _ => cases hse
            | pins _ _ => cases hse
            | lrow _ _ _ _ => cases hse
            | box ty cs =>
              simp only at hse
              obtain ⟨_, b', us, hb', hh, hlen, hcs, hone, _⟩ := h.o.obs k _ hl
              rw [hb] at hb'
              simp only [Value.pointer.injEq, Option.some.injEq, Addr.mk.injEq, and_true] at hb'
              subst hb'
              have hold : CT κ cs us := ⟨hlen, hone, hcs⟩
              -- both kinds of store lay the same cells
              have main : ∀ (cs' : List TV), (ox st x).one → (ox st x).cells.length = (τ t).size → off + (τ t).size ≤ cs.length → cs' = cs.take off ++ (ox st x).cells ++ cs.drop (off + (ox st x).cells.length) →
                  ∃ κ' v, Ex P o a κ.w v κ'.w ∧ Rel κ' N ((st.setOb k (.box ty cs')).put o.dst .any) (a.put o.dst v) ∧ Ext κ κ' ∧ ∀ m, m ≤ κ.n → Keep m κ κ' := by
                intro cs' h1 h2 h3 h4
                have hnew := CT.cells hxv h1
                have hvl : (a.eval x).cells.size = (ox st x).cells.length := by have := hnew.1; simpa using this
                have hall : CT κ cs' (us.take off ++ (a.eval x).cells.toList ++ us.drop (off + (a.eval x).cells.size)) := by
                  rw [h4, hvl]
                  exact ((hold.take off).app hnew).app (hold.drop _)
                let κ' : Kx := ⟨κ.w.setRow b (us.take off ++ (a.eval x).cells.toList ++ us.drop (off + (a.eval x).cells.size)).toArray, κ.prot, κ.F, κ.tk, κ.n⟩
                have hst := Rel.store (κ := κ) (κ' := κ') h hl hb hh rfl rfl rfl rfl rfl hall.1 hall.2.1 hall.2.2
                refine ⟨κ', undef, .inr ⟨?_, rfl⟩, hst.1.putQ (.any _) hd, hst.2, fun m hm => ⟨hm, fun _ _ _ => rfl⟩⟩
                have hsz' : (a.eval x).cells.size = i.size := by omega
                have hrun := run_storeCells_at P b off ty (a.eval x).cells.toList 0 us.toArray κ.w hh (by simp; omega) (fun v hv => hnew.2.1 v hv)
                simp only [Nat.add_zero] at hrun
                simp [execOp, hop, Instr.storeAt, hpe, Instr.sureAddr, storeVar, sizeOf, typeInfo, hi, hsz', hrun, κ']
              cases hg : (τ t).agg
              · simp only [hg, cond_false, Res.ok.injEq] at hse
                obtain ⟨rfl, rfl, rfl⟩ := hse
                obtain ⟨h1, h2, h3, h4⟩ := hC'
                have hc1 : (ox st x).cells = [ox st x] := by
                  generalize ox st x = q at h4
                  cases q with
                  | iv y => cases y <;> first | rfl | (simp [TV.isA] at h4)
                  | _ => rfl
                refine main _ h1 (by rw [hc1]; simp [h3]) (by omega) ?_
                rw [hc1, List.length_singleton]
                rw [List.set_eq_take_append_cons_drop, if_pos h2]
                simp
              · simp only [hg, cond_true, Res.ok.injEq] at hse
                obtain ⟨rfl, rfl, rfl⟩ := hse
                obtain ⟨h1, h2, h3⟩ := hC'
                exact main _ h1 h2 h3 rfl
        | eptr k sz i' off b n c hk' hb =>
          simp only [storeE] at hse
          cases hl : look? st.obj k with
          | none => rw [hl] at hse; cases hse
          | some o' =>
            rw [hl] at hse
            cases o' with
            | row e sz => cases hse
            | map _ _ _ => cases hse
            | box _ _ => cases hse
            | lp _ _ _ _ _ => cases hse
            | pins _ _ => cases hse
            | lrow _ _ _ _ => cases hse
            | mrow e sz' xs =>
              simp only at hse
              have hxi := hxv.im
              have main : ∀ (y : IV), sz = sz' → i' < xs.length → (ox st x).im.one → (ox st x).im.cells.length = (τ t).size → off + (τ t).size ≤ (xs.getD i' .any).cells.length →
                  y.cells = (xs.getD i' .any).cells.take off ++ (ox st x).im.cells ++ (xs.getD i' .any).cells.drop (off + (ox st x).im.cells.length) →
                  ∃ κ' v, Ex P o a κ.w v κ'.w ∧ Rel κ' N ((st.setOb k (.mrow e sz' (xs.set i' y))).put o.dst .any) (a.put o.dst v) ∧ Ext κ κ' ∧ ∀ m, m ≤ κ.n → Keep m κ κ' := by
                intro y hsz1 hi1 h1 h2 h3 h4
                subst hsz1
                have hnew := CR.cells hxi h1
                have hxl : (xs.getD i' .any).cells.length = sz := by
                  obtain ⟨_, _, _, _, _, hxsz, _⟩ := (h.o.obs k _ hl).2
                  have : xs.getD i' .any = xs[i'] := by simp [List.getD, hi1]
                  rw [this]; exact hxsz _ (List.getElem_mem hi1)
                obtain ⟨w', hrun, hrel, he⟩ := mstore_ok (P := P) h hl hb hi1 hnew (by omega) h4
                refine ⟨_, undef, .inr ⟨?_, rfl⟩, hrel.putQ (.any _) hd, he, fun m hm => ⟨hm, fun _ _ _ => rfl⟩⟩
                have hsz' : (a.eval x).cells.size = i.size := by have := hnew.1; simp at this; omega
                simp [execOp, hop, Instr.storeAt, hpe, Instr.sureAddr, storeVar, sizeOf, typeInfo, hi, hsz', hrun]
              have one1 : (ox st x).im.one → (ox st x).isA = false → (ox st x).im.cells = [(ox st x).im] := by
                intro h1 h4
                generalize ox st x = q at h1 h4
                cases q with
                | iv y => cases y <;> first | rfl | (simp [TV.isA] at h4)
                | nilsl => rfl
                | nsl _ _ => rfl
                | acc _ _ _ => rfl
                | _ => exact h1.elim
              split at hse
              · rename_i cs0 hxe
                cases hg : (τ t).agg
                · simp only [hg, cond_false, Res.ok.injEq] at hse
                  obtain ⟨rfl, rfl, rfl⟩ := hse
                  obtain ⟨⟨h1, h2⟩, h3, h4, h5, h6⟩ := hC'
                  have hc1 := one1 h3 h6
                  refine main _ h1 h2 h3 (by rw [hc1]; simp [h5]) (by omega) ?_
                  rw [hc1, List.length_singleton]
                  show (xs.getD i' .any).cells.set off _ = _
                  rw [List.set_eq_take_append_cons_drop, if_pos h4]
                  simp
                · simp only [hg, cond_true, Res.ok.injEq] at hse
                  obtain ⟨rfl, rfl, rfl⟩ := hse
                  obtain ⟨⟨h1, h2⟩, h3, h4, h5⟩ := hC'
                  exact main _ h1 h2 h3 h4 h5 rfl
              · rename_i hne
                cases hg : (τ t).agg
                · simp only [hg, cond_false, Res.ok.injEq] at hse
                  obtain ⟨rfl, rfl, rfl⟩ := hse
                  obtain ⟨⟨h1, h2⟩, h3, h4, h5, h6, h7⟩ := hC'
                  have hc1 := one1 h3 h7
                  have hxl : (xs.getD i' .any).cells.length = 1 := by
                    generalize xs.getD i' .any = q at hne
                    cases q <;> first | rfl | exact absurd rfl (hne _)
                  refine main _ h1 h2 h3 (by rw [hc1]; simp [h6]) (by omega) ?_
                  subst h4
                  rw [hc1, List.take_zero, List.nil_append, List.drop_eq_nil_of_le (by simp only [List.length_singleton]; omega)]
                  rfl
                · simp only [hg, cond_true] at hse
                  cases hse
        | iv px _ hpx =>
          unfold storeE at hse
          split at hse
          · rename_i b off heq
            simp only [TV.iv.injEq] at heq
            subst heq
            cases hpx
            cases hl : pinLook st.obj b with
            | none => rw [hl] at hse; cases hse
            | some p =>
              obtain ⟨k, e, rs, xs⟩ := p
              rw [hl] at hse
              cases hg : (τ t).agg
              · simp only [pinStore, hg, cond_false, Res.ok.injEq] at hse
                obtain ⟨rfl, rfl, rfl⟩ := hse
                obtain ⟨h3, h4, h5, h6⟩ := hC'
                have hxi := hxv.im
                have hc1 : (ox st x).im.cells = [(ox st x).im] := by
                  generalize ox st x = q at h3 h6
                  cases q with
                  | iv y => cases y <;> first | rfl | (simp [TV.isA] at h6)
                  | nilsl => rfl
                  | nsl _ _ => rfl
                  | acc _ _ _ => rfl
                  | _ => exact h3.elim
                have hnew := CR.cells hxi h3
                rw [hc1] at hnew
                obtain ⟨u, hu1⟩ : ∃ u, (a.eval x).cells.toList = [u] := by
                  have := hnew.1
                  match hq : (a.eval x).cells.toList, this with
                  | [u], _ => exact ⟨u, rfl⟩
                rw [hu1] at hnew
                obtain ⟨w', hrun, hrel, he⟩ := pstore_ok (P := P) h hl h4 (hnew.2.2 0 _ u rfl rfl) (hnew.2.1 u (by simp))
                refine ⟨_, undef, .inr ⟨?_, rfl⟩, hrel.putQ (.any _) hd, he, fun m hm => ⟨hm, fun _ _ _ => rfl⟩⟩
                have hsz' : (a.eval x).cells.size = i.size := by
                  have : (a.eval x).cells.toList.length = 1 := by rw [hu1]; rfl
                  simp at this; omega
                simp [execOp, hop, Instr.storeAt, hpe, Instr.sureAddr, storeVar, sizeOf, typeInfo, hi, hsz', hu1, hrun]
              · simp [pinStore, hg] at hse
          all_goals first | cases hse | (rename_i heq; cases heq)
        | _ => simp [storeE] at hse
      · cases hs
    · -- makeMap
      rename_i t hop
      split at hs
      · rename_i kt vt hkd
        simp only [Res.ok.injEq] at hs
        obtain ⟨rfl, rfl, rfl⟩ := hs
        have hb := h.mkmap (kt := kt) (vt := vt)
        refine ⟨κ.mk_, .map (some κ.w.heap.size), .inl ?_, hb.1.putQ hb.2.2 hd, hb.2.1, fun m hm => Keep.mk_ κ m hm⟩
        simp [execOp, hop, Instr.makeMap, Kx.mk_, newObj, Sem.run]
      · cases hs
    · -- mapUpdate
      rename_i t mo ko x hop
      split at hs
      · rename_i kt vt j n hkd hmo hn
        split at hs
        · rename_i kt' vt' es hl hki
          simp only [Res.ok.injEq] at hs
          obtain ⟨rfl, rfl, rfl⟩ := hs
          obtain ⟨hk, hkk, hpm, hpk, hpx⟩ := hC
          obtain ⟨i, desc, z, hi, hu, _, _, _, hko, _⟩ := hτ t hk
          obtain ⟨i1, d1, z1, hi1, hu1, _, _, _, hko1, _⟩ := hτ kt hkk
          rw [hkd] at hko
          simp only [KOK] at hko
          subst hko
          rw [hki] at hko1
          simp only [KOK] at hko1
          subst hko1
          have ek := natI_ok (h.ox hpk) hn
          have hxv := h.ox hpx
          have hmv := h.ox hpm
          rw [hmo] at hmv
          generalize hme : a.eval mo = mv at hmv
          cases hmv with
          | mptr _ b hkn hb =>
            obtain ⟨_, b', ms, clock, hb', hh, hlen, hes, _, hp0⟩ := h.o.obs j _ hl
            rw [hb] at hb'
            simp only [Value.map.injEq, Option.some.injEq] at hb'
            subst hb'
            have hms : ∀ (j : Nat) (p : Int × TV) (e : MapEntry), es[j]? = some p → ms.toList[j]? = some e → e.key = .int .i64 p.1 ∧ TVR κ p.2 e.val := fun j p e h1 h2 => hes j p e h1 (by simpa using h2)
            have hchk : (Instr.checkKey false 10000 kt (.int .i64 n)).run P κ.w = .ok () κ.w := MapKept.run_checkKey hu1 (by simp [MapKept.IsKey]) _ 9999
            rcases findNow_ok n (ox st x) es ms.toList 0 (by simpa using hlen) hms with ⟨h1, h2, h3, _⟩ | ⟨q, y, e, h1, h2, h4, h5, h6, h7, h3, _⟩
            · let κ' : Kx := ⟨{ κ.w with heap := κ.w.heap.setIfInBounds b (.map (ms.push { key := .int .i64 n, val := a.eval x, born := clock }) (clock + 1)) }, κ.prot, κ.F, κ.tk, κ.n⟩
              have hfind : (Instr.findKey kt (.int .i64 n) ms.toList).run P κ.w = .ok none κ.w := by simp [Instr.findKey, run_underlying hu1, h2]
              have hst := Rel.mapput (κ := κ) (κ' := κ') h hl hb hh (ms' := ms.push { key := .int .i64 n, val := a.eval x, born := clock }) (clock' := clock + 1) (es' := mapPut es n (ox st x)) rfl rfl rfl rfl rfl (by rw [h3]; simp [hlen]) (by
                intro j p e hp he
                rw [h3] at hp
                rw [Array.getElem?_push] at he
                by_cases hj : j = ms.size
                · rw [if_pos hj] at he
                  rw [List.getElem?_append_right (by omega), show j - es.length = 0 by omega] at hp
                  simp at hp he
                  subst hp; subst he
                  exact ⟨rfl, hxv⟩
                · rw [if_neg hj] at he
                  have hlt : j < ms.size := (Array.getElem?_eq_some_iff.1 he).1
                  rw [List.getElem?_append_left (by omega)] at hp
                  exact hes j p e hp he)
              refine ⟨κ', undef, .inr ⟨?_, rfl⟩, hst.1.putQ (.any _) hd, hst.2, fun m hm => ⟨hm, fun _ _ _ => rfl⟩⟩
              simp [execOp, hop, hme, ek, Instr.mapUpdate, run_underlying hu, MapKept.run_getObj_map hh, hchk, hfind, MapKept.run_setObj_map _ hh, κ']
            · let κ' : Kx := ⟨{ κ.w with heap := κ.w.heap.setIfInBounds b (.map (ms.modify q fun e => { e with key := .int .i64 n, val := a.eval x }) clock) }, κ.prot, κ.F, κ.tk, κ.n⟩
              have hfind : (Instr.findKey kt (.int .i64 n) ms.toList).run P κ.w = .ok (some (q, e.val)) κ.w := by simp [Instr.findKey, run_underlying hu1, h2]
              have h5' : ms[q]? = some e := by simpa using h5
              have hst := Rel.mapput (κ := κ) (κ' := κ') h hl hb hh (ms' := ms.modify q fun e => { e with key := .int .i64 n, val := a.eval x }) (clock' := clock) (es' := mapPut es n (ox st x)) rfl rfl rfl rfl rfl (by rw [h3]; simp [hlen]) (by
                intro j p e hp he
                rw [h3, List.getElem?_set] at hp
                rw [Array.getElem?_modify] at he
                by_cases hj : q = j
                · subst hj
                  rw [if_pos rfl] at he
                  rw [if_pos rfl, if_pos h7] at hp
                  rw [h5'] at he
                  simp at hp he
                  subst hp; subst he
                  exact ⟨rfl, hxv⟩
                · rw [if_neg hj] at he
                  rw [if_neg hj] at hp
                  exact hes j p e hp he)
              refine ⟨κ', undef, .inr ⟨?_, rfl⟩, hst.1.putQ (.any _) hd, hst.2, fun m hm => ⟨hm, fun _ _ _ => rfl⟩⟩
              simp [execOp, hop, hme, ek, Instr.mapUpdate, run_underlying hu, MapKept.run_getObj_map hh, hchk, hfind, h5', h6, Instr.keyThatStays, Instr.sameBits, MapKept.run_setObj_map _ hh, κ']
        · cases hs
      · cases hs
    · -- an entry taken out
      rename_i mo ko t u hop
      split at hs
      · rename_i kt vt j n hkd hmo hn
        split at hs
        · rename_i kt' vt' es hl hki
          simp only [Res.ok.injEq] at hs
          obtain ⟨rfl, rfl, rfl⟩ := hs
          obtain ⟨hk, hkk, hpm, hpk⟩ := hC
          obtain ⟨i, desc, z, hi, hu, _, _, _, hko, _⟩ := hτ t hk
          obtain ⟨i1, d1, z1, hi1, hu1, _, _, _, hko1, _⟩ := hτ kt hkk
          rw [hkd] at hko
          simp only [KOK] at hko
          subst hko
          rw [hki] at hko1
          simp only [KOK] at hko1
          subst hko1
          have ek := natI_ok (h.ox hpk) hn
          have hmv := h.ox hpm
          rw [hmo] at hmv
          generalize hme : a.eval mo = mv at hmv
          cases hmv with
          | mptr _ b hkn hb =>
            obtain ⟨_, b', ms, clock, hb', hh, hlen, hes, _, hp0⟩ := h.o.obs j _ hl
            rw [hb] at hb'
            simp only [Value.map.injEq, Option.some.injEq] at hb'
            subst hb'
            have hms : ∀ (j : Nat) (p : Int × TV) (e : MapEntry), es[j]? = some p → ms.toList[j]? = some e → e.key = .int .i64 p.1 ∧ TVR κ p.2 e.val := fun j p e h1 h2 => hes j p e h1 (by simpa using h2)
            have hchk : (Instr.checkKey ms.isEmpty 10000 kt (.int .i64 n)).run P κ.w = .ok () κ.w := MapKept.run_checkKey hu1 (by simp [MapKept.IsKey]) _ 9999
            rcases findNow_ok n .any es ms.toList 0 (by simpa using hlen) hms with ⟨h1, h2, _, h3⟩ | ⟨q, y, e, h1, h2, h4, h5, h6, h7, _, h3⟩
            · let κ' : Kx := ⟨{ κ.w with heap := κ.w.heap.setIfInBounds b (.map ms clock) }, κ.prot, κ.F, κ.tk, κ.n⟩
              have hfind : (Instr.findKey kt (.int .i64 n) ms.toList).run P κ.w = .ok none κ.w := by simp [Instr.findKey, run_underlying hu1, h2]
              have hst := Rel.mapput (κ := κ) (κ' := κ') h hl hb hh (ms' := ms) (clock' := clock) (es' := mapDel es n) rfl rfl rfl rfl rfl (by rw [h3]; exact hlen) (by rw [h3]; exact hes)
              refine ⟨κ', .tuple #[], .inl ?_, hst.1.putQ (.any _) hd, hst.2, fun m hm => ⟨hm, fun _ _ _ => rfl⟩⟩
              simp [execOp, hop, resolve, invoke, builtin, hme, ek, Builtin.delete_, run_underlying hu, MapKept.run_getObj_map hh, hchk, hfind, MapKept.run_setObj_map _ hh, κ']
            · let κ' : Kx := ⟨{ κ.w with heap := κ.w.heap.setIfInBounds b (.map (ms.eraseIdxIfInBounds q) clock) }, κ.prot, κ.F, κ.tk, κ.n⟩
              have hfind : (Instr.findKey kt (.int .i64 n) ms.toList).run P κ.w = .ok (some (q, e.val)) κ.w := by simp [Instr.findKey, run_underlying hu1, h2]
              have hqs : q < ms.size := by omega
              have hlist : (ms.eraseIdxIfInBounds q).toList = ms.toList.eraseIdx q := by simp [Array.eraseIdxIfInBounds, hqs]
              have hst := Rel.mapput (κ := κ) (κ' := κ') h hl hb hh (ms' := ms.eraseIdxIfInBounds q) (clock' := clock) (es' := mapDel es n) rfl rfl rfl rfl rfl (by
                rw [h3, ← Array.length_toList, hlist, List.length_eraseIdx, List.length_eraseIdx]; simp [hlen]) (by
                intro j p e hp he
                rw [h3, List.getElem?_eraseIdx] at hp
                rw [← Array.getElem?_toList, hlist, List.getElem?_eraseIdx] at he
                split at hp
                · rename_i hj; rw [if_pos hj] at he; exact hms j p e hp he
                · rename_i hj; rw [if_neg hj] at he; exact hms (j + 1) p e hp he)
              refine ⟨κ', .tuple #[], .inl ?_, hst.1.putQ (.any _) hd, hst.2, fun m hm => ⟨hm, fun _ _ _ => rfl⟩⟩
              simp [execOp, hop, resolve, invoke, builtin, hme, ek, Builtin.delete_, run_underlying hu, MapKept.run_getObj_map hh, hchk, hfind, MapKept.run_setObj_map _ hh, κ']
        · cases hs
      · cases hs
    · -- a slice written out
      rename_i t n ps hop
      split at hs
      · rename_i e hkd
        split at hs
        · -- empty
          simp only [Res.ok.injEq] at hs
          obtain ⟨rfl, rfl, rfl⟩ := hs
          obtain ⟨hk, hke, hps⟩ := hC
          obtain ⟨i, desc, z, hi, hu, _, _, _, hko, _⟩ := hτ t hk
          obtain ⟨ie, de, ze, hie, hue, hsze, _, _, _, hze, _⟩ := hτ e hke
          rw [hkd] at hko
          simp only [KOK] at hko
          subst hko
          have hps' : ps = [] := List.eq_nil_of_length_eq_zero hps
          subst hps'
          let tv : Value := .slice (some ⟨κ.w.heap.size, 0, none⟩) 0 0
          let κ' : Kx := ⟨κ.w.alloc (.cells #[] e), κ.prot, κ.F, updF κ.tk κ.n tv, κ.n + 1⟩
          have htk : κ'.tk κ.n = tv := updF_same _ _ _
          have hb := h.newOb (κ' := κ') (o := .row e (τ e).size) (ob := .cells #[] e) (tv := tv) rfl rfl rfl rfl rfl (fun b hb => by injection hb with hb; exact hb.symm)
            (.inr ⟨κ.w.heap.size, 0, 0, #[], htk, by show (κ.w.alloc _).heap[_]? = _; rw [heap_alloc_new], Nat.le_refl _, Nat.zero_le _, by simp, fun hF => by have := h.o.fr _ hF; omega, fun a ha e => by have := prot_lt h.o.prot ha; omega⟩)
          have ht : TVR κ' (.acc st.nx (τ e).size []) tv := by
            rw [← h.nx, ← htk]
            refine .acc κ.n _ [] (Nat.lt_succ_self _) ?_
            rw [htk]
            exact .sl _ _ [] 0 [] (Nat.le_refl _) (by simp) (by simp) (by simp) (by simp) (by simp) (by simp) (fun _ => rfl)
          refine ⟨κ', tv, .inl ?_, hb.1.putQ ht hd, hb.2, fun m hm => ⟨Nat.le_succ_of_le hm, fun k hk _ => updF_ne _ _ (by omega)⟩⟩
          simp [execOp, hop, Instr.buildSlice, run_underlying hu, sizeOf, typeInfo, hie, Instr.fill, newRow, κ', tv]
          have : Array.range 0 = #[] := by decide
          rw [this, Array.map_empty]
        · rename_i n
          simp only [Res.ok.injEq] at hs
          obtain ⟨rfl, rfl, rfl⟩ := hs
          obtain ⟨hk, hke, hops, hord, hlen, hn, hs0, hs1, hlens⟩ := hC
          obtain ⟨i, desc, z, hi, hu, _, _, _, hko, _⟩ := hτ t hk
          obtain ⟨ie, de, ze, hie, hue, hsze, _, _, _, hze, _⟩ := hτ e hke
          rw [hkd] at hko
          simp only [KOK] at hko
          subst hko
          have hxs := lens_ok _ hlens
          have hvl : (ps.map fun p => a.eval p.2).length = (elems st ps).length := by simp [elems_length]
          have hrel := flat_rel (w := κ.w) (prot := κ.prot) (elems st ps) (ps.map fun p => a.eval p.2) hvl (fun x hx => (hxs x hx).1) (elems_ok h ps hops)
          have hvsz : ∀ v ∈ (ps.map fun p => a.eval p.2), v.cells.size = (τ e).size := by
            intro v hv
            obtain ⟨j, hj⟩ := List.getElem?_of_mem hv
            have hjl : j < (elems st ps).length := by rw [← hvl]; exact (List.getElem?_eq_some_iff.1 hj).1
            have hx := List.getElem?_eq_getElem hjl
            have hc := CR.cells (elems_ok h ps hops j _ v hx hj) (hxs _ (List.getElem_mem hjl)).1
            have := hc.1
            rw [(hxs _ (List.getElem_mem hjl)).2] at this
            simpa using this
          generalize hcells : ((ps.map fun p => a.eval p.2).flatMap fun v => v.cells.toList) = us at hrel
          have hul : us.length = (n + 1) * (τ e).size := by
            rw [hrel.1, flat_length _ (fun x hx => (hxs x hx).2), elems_length, hlen]
          let κ' : Kx := ⟨κ.w.alloc (.cells us.toArray e), fun a => κ.prot a ∨ (a.block = κ.w.heap.size ∧ a.spot = none ∧ a.off < us.toArray.size), κ.F, κ.tk, κ.n⟩
          have hb := h.newIm (κ' := κ') (C := us.toArray) (ty := e) rfl rfl rfl rfl rfl
          have hxl : (elems st ps).length = n + 1 := by rw [elems_length, hlen]
          have ht : TVR κ' (.nsl (τ e).size (elems st ps)) (.slice (some ⟨κ.w.heap.size, 0, none⟩) (n + 1) (n + 1)) := by
            refine .nsl _ _ _ _ _ ?_
            rw [← hxl]
            refine .sl _ _ _ _ us (Nat.le_refl _) (by rw [hul, hxl]) (fun x hx => (hxs x hx).2) hrel.2.1 (fun _ => ⟨_, rfl⟩) (fun ad ead j u hu => ?_) (fun j x u hx hu => hb.2.iv (hrel.2.2 j x u hx hu)) (fun e => by cases e)
            injection ead with ead
            subst ead
            rw [add_mk, Nat.zero_add]
            refine ⟨?_, .inr ⟨rfl, rfl, by simpa using (List.getElem?_eq_some_iff.1 hu).1⟩⟩
            show (κ.w.alloc _).cell? _ = _
            rw [World.cell?_alloc_new]
            simpa using hu
          refine ⟨κ', _, .inl ?_, hb.1.putQ ht hd, hb.2, fun m hm => ⟨hm, fun k hk _ => rfl⟩⟩
          have hfill := Go.Great.fill_whole hs0 (ps.map fun p => a.eval p.2) ((Array.range ((n + 1) * (τ e).size)).map (ze.cells[· % ze.cells.size]!)) hvsz (by simp [hlen])
          rw [← ordP_zip a ps 0 hord, hcells] at hfill
          have hrun := run_buildSlice κ.w t e (n + 1) (ps.map fun x => (x.1, a.eval x.2)).toArray us.toArray ie ze hu hie hze
            (by rw [hsze]; have : (n + 1) * (τ e).size ≤ 1000 * 1000 := Nat.mul_le_mul (by omega) (by omega); omega)
            (by rw [hsze]; have : 0 < (n + 1) * (τ e).size := Nat.mul_pos (by omega) hs0; omega) (by rw [hsze]; simpa using hfill)
          simp only [execOp, hop, List.map_toArray, Sem.run_bind]
          simp [hrun, κ']
      · cases hs
    · -- append
      rename_i x y t u hop
      split at hs
      · rename_i e hkd
        split at hs
        · rename_i sy ys hr
          split at hs
          · rename_i C' r' st1 hae
            simp only [Res.ok.injEq] at hs
            obtain ⟨rfl, rfl, rfl⟩ := hs
            obtain ⟨hk, hke, rfl, hx, hy, hlen, hsz, hC'⟩ := hC
            obtain ⟨i, desc, z, hi, hu, _, _, _, hko, _⟩ := hτ t hk
            rw [hkd] at hko
            simp only [KOK] at hko
            subst hko
            obtain ⟨κ', v', hrun, hrel, he, hkeep, ht⟩ := append_ok h hu (hτ e) hke hsz (h.ox hx) (h.ox hy) hr hlen hae hC' o.type
            refine ⟨κ', v', .inl ?_, hrel.putQ ht hd, he, hkeep⟩
            simp [execOp, hop, resolve, invoke, builtin, hrun]
          · unfold appendL at hs
            split at hs
            · split at hs <;> cases hs
            · cases hs
        · rename_i hr
          unfold appendS at hs
          split at hs
          · rename_i b hyb
            split at hs
            · rename_i hku hke2
              split at hs
              · rename_i C' r' st1 hae
                simp only [Res.ok.injEq] at hs
                obtain ⟨rfl, rfl, rfl⟩ := hs
                obtain ⟨hk, hke, hkuk, hx, hy, hsz, hby, hag, hz0, hC'⟩ := hC
                obtain ⟨i, desc, z, hi, hu, _, _, _, hko, _⟩ := hτ t hk
                rw [hkd] at hko
                simp only [KOK] at hko
                subst hko
                obtain ⟨i', desc', z', hi', hu', _, _, _, hko', _⟩ := hτ u hkuk
                rw [hku] at hko'
                simp only [KOK] at hko'
                subst hko'
                have hyv := h.ox hy
                rw [hyb] at hyv
                have ey := ivlit hyv
                obtain ⟨κ', v', hrun, hrel, he, hkeep, ht⟩ := appendS_ok (P := P) h hu hu' (hτ e) hke hsz hby hag hz0 (h.ox hx) b hae hC' o.type
                refine ⟨κ', v', .inl ?_, hrel.putQ ht hd, he, hkeep⟩
                simp [execOp, hop, resolve, invoke, builtin, ey, hrun]
              · cases hs
            · cases hs
          unfold appendN at hs
          split at hs
          · rename_i n ik hxn hn hkk
            simp only [Res.ok.injEq] at hs
            obtain ⟨rfl, rfl, rfl⟩ := hs
            obtain ⟨⟨hk, hke, hku⟩, hx, hy, h0, hb1, hb2, hsz⟩ := hC
            obtain ⟨i, desc, z, hi, hu, _, _, _, hko, _⟩ := hτ t hk
            rw [hkd] at hko
            simp only [KOK] at hko
            subst hko
            obtain ⟨i', desc', z', hi', hu', _, _, _, hko', _⟩ := hτ u hku
            rw [hkk] at hko'
            simp only [KOK] at hko'
            subst hko'
            have hxv := h.ox hx
            rw [hxn] at hxv
            have ex : a.eval x = .slice none 0 0 := by
              generalize a.eval x = v at hxv
              cases hxv; rfl
            have en := natI_ok (h.ox hy) hn
            obtain ⟨κ', v', hrun, hrel, he, hkeep, ht⟩ := zeros_ok (P := P) h hu hu' (hτ e) hke hsz h0 hb1 hb2 o.type
            refine ⟨κ', v', .inl ?_, hrel.putQ ht hd, he, hkeep⟩
            simp [execOp, hop, resolve, invoke, builtin, ex, en, hrun]
          · cases hs
      · cases hs
    · rename_i f xs ts hop
      split at hs <;> cases hs
    · -- a string's bytes
      rename_i s t x hop
      split at hs
      · rename_i e b hkd hxb
        split at hs
        · rename_i hke2
          simp only [Res.ok.injEq] at hs
          obtain ⟨rfl, rfl, rfl⟩ := hs
          obtain ⟨hks, hk, hke, hsz, hx⟩ := hC
          obtain ⟨i, desc, z, hi, hu, _, _, _, hko, _⟩ := hτ t hk
          rw [hkd] at hko
          simp only [KOK] at hko
          subst hko
          obtain ⟨i', desc', z', hi', hu', _⟩ := hτ s hks
          obtain ⟨ie, de, ze, hie, hue, _, _, _, hkoe, _⟩ := hτ e hke
          rw [hke2] at hkoe
          simp only [KOK] at hkoe
          subst hkoe
          have hxv := h.ox hx
          rw [hxb] at hxv
          have ex := ivlit hxv
          obtain ⟨κ', v', hrun, hrel, he, hkeep, ht⟩ := bytes_ok (P := P) h hu' hu hue b
          refine ⟨κ', v', .inl ?_, hrel.putQ ht hd, he, hkeep⟩
          simp [execOp, hop, ex, hrun]
        · cases hs
      · cases hs
    · -- a row made
      rename_i t n c hop
      split at hs
      · rename_i e i j hkd hn hc
        unfold makeR at hs
        split at hs
        rotate_left
        · cases hs
        simp only [Res.ok.injEq] at hs
        obtain ⟨rfl, rfl, rfl⟩ := hs
        obtain ⟨hk, hke, hpn, hpc, h0, rfl, hb1, hb2, hsz⟩ := hC
        obtain ⟨ii, desc, z, hi, hu, _, _, _, hko, _⟩ := hτ t hk
        rw [hkd] at hko
        simp only [KOK] at hko
        subst hko
        have en := natI_ok (h.ox hpn) hn
        have ec := natI_ok (h.ox hpc) hc
        obtain ⟨κ', v', hrun, hrel, he, hkeep, ht, _⟩ := make_ok (P := P) h hu (hτ e) hke hsz h0 hb1 hb2
        refine ⟨κ', v', .inl ?_, hrel.putQ ht hd, he, hkeep⟩
        simp [execOp, hop, en, ec, hrun]
      · cases hs
    · split at hs
      · split at hs <;> cases hs
      · cases hs
    · cases hs
end
end Go.PL
