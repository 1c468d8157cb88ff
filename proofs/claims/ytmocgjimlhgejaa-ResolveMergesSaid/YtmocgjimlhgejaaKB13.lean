/- NIL OR NOT, NIL CELLS, AND CALLS THAT ONLY LOOK. -/
import Derived.Test.YtmocgjimlhgejaaKB12
namespace Go.PL
open Go.RowKit (Below)
set_option linter.unusedSimpArgs false
set_option linter.unusedVariables false
section
variable {P : Program} {κ κ' : Kx} {N m : Nat}

/-- A slice is nil, or it is not. -/
theorem PWp.nilcase {c : Code} {Q : Exit → St → Prop} {st : St} (i : Nat) {sz : Nat} {xs : List IV} (hi : st.get i = .iv (.sl sz xs)) (h1 : xs = [] → PWp P N m c Q (st.set i .nilsl)) (h2 : PWp P N m c Q (st.set i (.nsl sz xs))) : PWp P N m c Q st := by
  intro κ a hr hm
  have hv := hr.env i
  rw [hi] at hv
  have set : ∀ t, TVR κ t (a.tmps.getD i undef) → Rel κ N (st.set i t) a := by
    intro t ht
    refine ⟨hr.o, fun j => ?_, hr.size, hr.nodef, hr.nx⟩
    rw [St.get_set]
    split
    · rename_i e; subst e; exact ht
    · exact hr.env j
  generalize hval : a.tmps.getD i undef = v at hv set
  cases hv with
  | iv _ _ h =>
    cases h with
    | sl A _ _ cp us hc hl hsz ho hA ha hh hN =>
      cases A with
      | none =>
        have hx : xs = [] := by
          cases xs with
          | nil => rfl
          | cons x xs => obtain ⟨ad, hh⟩ := hA (by simp); cases hh
        subst hx
        have hc0 := hN rfl
        subst hc0
        exact h1 rfl κ a (set _ .nilsl) hm
      | some ad => exact h2 κ a (set _ (.nsl sz xs ad _ cp (.sl (some ad) sz xs cp us hc hl hsz ho hA ha hh hN))) hm

/-- A slice that is not nil is a slice. -/
theorem TVR.unnil {sz : Nat} {xs : List IV} {v : Value} (h : TVR κ (.nsl sz xs) v) : TVR κ (.iv (.sl sz xs)) v := by
  cases h with
  | nsl _ _ ad n c h => exact .iv _ _ h

/-- A variable's nil slice is a row that nothing has been appended to yet. -/
theorem Gh.rowc {st : St} (k j : Nat) (e : TypeId) (sz : Nat) {ty : TypeId} {cs : List TV} (hk : look? st.obj k = some (.box ty cs)) (hj : cs[j]? = some .nilsl) : Gh m st ((st.new (.row e sz)).setOb k (.box ty (cs.set j (.acc st.nx sz [])))) := by
  intro κ N a h hm
  let κ' : Kx := ⟨κ.w, κ.prot, κ.F, updF κ.tk κ.n (.slice none 0 0), κ.n + 1⟩
  have he : Ext κ κ' := ⟨rfl, rfl, rfl, Nat.le_refl _, ⟨fun _ h => h, rfl⟩, fun _ _ => rfl, fun _ h => ⟨h, rfl⟩, fun _ h => .inl h⟩
  have ht : ∀ k, k < κ.n → κ'.tk k = κ.tk k := fun k hk => updF_ne _ _ (by omega)
  have hnew : κ'.tk κ.n = .slice none 0 0 := updF_same _ _ _
  have hne : ∀ k o', look? st.obj k = some o' → k ≠ κ.n := fun k o' hk e => by have := (h.o.obs k o' hk).1; omega
  have hkn : k < κ.n := (h.o.obs k _ hk).1
  have hnone : look? st.obj κ.n = none := by
    cases hl : look? st.obj κ.n with
    | none => rfl
    | some o' => exact absurd rfl (hne _ _ hl)
  have hlook : ∀ k1 o', look? (putAt ((κ.n, Ob.row e sz) :: st.obj) k (.box ty (cs.set j (.acc st.nx sz [])))) k1 = some o' →
      (k1 = κ.n ∧ o' = .row e sz) ∨ (k1 = k ∧ o' = .box ty (cs.set j (.acc st.nx sz []))) ∨ (k1 ≠ κ.n ∧ k1 ≠ k ∧ look? st.obj k1 = some o') := by
    intro k1 o' hk1
    rw [look?_putAt] at hk1
    by_cases e1 : k1 = k
    · subst e1
      rw [if_pos rfl] at hk1
      simp only [look?] at hk1
      have hb : (k1 == κ.n) = false := beq_eq_false_iff_ne.2 (by omega)
      rw [hb, cond_false, hk] at hk1
      simp only [Option.map_some, Option.some.injEq] at hk1
      exact .inr (.inl ⟨rfl, hk1.symm⟩)
    · rw [if_neg e1] at hk1
      simp only [look?] at hk1
      by_cases e : k1 = κ.n
      · subst e
        simp at hk1
        exact .inl ⟨rfl, hk1.symm⟩
      · have hb : (k1 == κ.n) = false := beq_eq_false_iff_ne.2 e
        rw [hb] at hk1
        exact .inr (.inr ⟨e, e1, hk1⟩)
  have hblk : ∀ k1 o', look? (putAt ((κ.n, Ob.row e sz) :: st.obj) k (.box ty (cs.set j (.acc st.nx sz [])))) k1 = some o' → ∀ b, Own (κ'.tk k1) b → k1 < κ.n ∧ Own (κ.tk k1) b ∧ ∃ o, look? st.obj k1 = some o := by
    intro k1 o' hk1 b hb
    rcases hlook k1 o' hk1 with ⟨rfl, _⟩ | ⟨rfl, _⟩ | ⟨_, _, h2⟩
    · rw [hnew] at hb; cases hb
    · rw [ht _ hkn] at hb; exact ⟨hkn, hb, _, hk⟩
    · have hlt := (h.o.obs k1 o' h2).1
      rw [ht _ hlt] at hb
      exact ⟨hlt, hb, _, h2⟩
  refine ⟨κ', rfl, ⟨⟨fun k1 o hk1 => ?_, fun k1 o1 k2 o2 hk1 hk2 hkk b hb1 hb2 => ?_, ?_, h.o.prot, h.o.fr⟩, fun j => (h.env j).mono he (Nat.le_succ _) ht, h.size, h.nodef, ?_⟩, he, ⟨Nat.le_succ_of_le hm, fun k hk _ => ht k (by omega)⟩⟩
  · simp only [St.setOb, St.new, ← h.nx] at hk1
    rw [h.nx] at hk1
    rw [← h.nx] at hk1
    rcases hlook k1 o (by rw [← h.nx]; exact hk1) with ⟨rfl, rfl⟩ | ⟨rfl, rfl⟩ | ⟨_, _, h2⟩
    · exact ⟨Nat.lt_succ_self _, .inl hnew⟩
    · refine ⟨Nat.lt_succ_of_lt hkn, ?_⟩
      obtain ⟨b, us, e1, e2, e3, e4, e5, e6, e7⟩ := (h.o.obs k1 _ hk).2.keep he (fun _ h => h) (Nat.le_succ _) ht hkn (fun _ _ => rfl) (fun a ha => .inl ha)
      refine ⟨b, us, e1, e2, by rw [List.length_set]; exact e3, fun i c u hc hu => ?_, e5, e6, e7⟩
      rw [List.getElem?_set] at hc
      split at hc
      · rename_i eij
        subst eij
        split at hc
        · simp only [Option.some.injEq] at hc
          subst hc
          have h0 := e4 j _ u hj hu
          cases h0
          rw [← h.nx, ← hnew]
          exact .acc κ.n sz [] (Nat.lt_succ_self _) (by rw [hnew]; exact .sl none sz [] 0 [] (Nat.le_refl _) (by simp) (by simp) (by simp) (by simp) (by simp) (by simp) (fun _ => rfl))
        · cases hc
      · exact e4 i c u hc hu
    · obtain ⟨h3, h4⟩ := h.o.obs k1 o h2
      exact ⟨Nat.lt_succ_of_lt h3, h4.keep he (fun _ h => h) (Nat.le_succ _) ht h3 (fun _ _ => rfl) (fun a ha => .inl ha)⟩
  · simp only [St.setOb, St.new, ← h.nx] at hk1 hk2
    obtain ⟨l1, b1, q1, p1⟩ := hblk k1 o1 (by rw [← h.nx]; exact hk1) b hb1
    obtain ⟨l2, b2, q2, p2⟩ := hblk k2 o2 (by rw [← h.nx]; exact hk2) b hb2
    exact h.o.dis k1 q1 k2 q2 p1 p2 hkk b b1 b2
  · simp only [St.setOb, St.new, ← h.nx]
    exact keysNd_putAt _ _ _ ⟨hnone, h.o.nd⟩
  · show κ.n + 1 = st.nx + 1
    rw [h.nx]

/-- Code that only looks: it comes to one state, in every world that has grown out of this one. -/
def QW (P : Program) (N : Nat) (c : Code) (Q : Exit → St → Prop) (st : St) : Prop :=
  ∀ (κ : Kx) (a : Act), Rel κ N st a → ∃ e a' st', Rel κ N st' a' ∧ Q e st' ∧ ∀ w', Below κ.w.heap.size κ.w w' → ∀ K : Exit → Act → World → Prop, K e a' w' → c.wp P K a w'
theorem QW.seq {x y : Code} {Q : Exit → St → Prop} {st : St} (h : QW P N x (fun e st' => e = .normal ∧ QW P N y Q st') st) : QW P N (.seq x y) Q st := by
  intro κ a hr
  obtain ⟨e, a1, st1, h1, ⟨rfl, hy⟩, hx⟩ := h κ a hr
  obtain ⟨e2, a2, st2, h2, hq, hy⟩ := hy κ a1 h1
  exact ⟨e2, a2, st2, h2, hq, fun w' hb K hK => wp_seq (hx w' hb _ (hy w' hb K hK))⟩
theorem QW.ret {Q : Exit → St → Prop} {st : St} (h : Q .ret st) : QW P N .ret Q st := fun κ a hr => ⟨.ret, a, st, hr, h, fun w' hb K hK => wp_ret hK⟩
/-- Operations without guards that only look. -/
def qrun (τ : Nat → TD) : List Oper → St → (St → Prop) → Prop
  | [], st, K => K st
  | o :: l, st, K => match o.guard, quiet τ st o.op with
    | none, some r => r.1 ∧ qrun τ l (st.put o.dst r.2) K
    | _, _ => False
theorem qrun_ok {τ : Nat → TD} (hτ : TOK P τ) {all : Array Oper} {K : St → Prop} : ∀ (l : List Oper) (κ : Kx) (st : St) (a : Act), Rel κ N st a → dstOK N l = true → qrun τ l st K →
    ∃ a' st', Rel κ N st' a' ∧ K st' ∧ ∀ w', Below κ.w.heap.size κ.w w' → ∀ Q : Exit → Act → World → Prop, Q .normal a' w' → wpList P all Q l a w'
  | [], κ, st, a, h, _, hq => ⟨a, st, h, hq, fun w' _ Q hQ => hQ⟩
  | o :: l, κ, st, a, h, hd, hq => by
    simp only [dstOK, Bool.and_eq_true] at hd
    have hdst : ∀ i, o.dst = some i → i < N := by
      intro i hi
      have := hd.1
      rw [hi] at this
      simpa using this
    unfold qrun at hq
    split at hq
    · rename_i r hg hr
      obtain ⟨u, hrun, ht⟩ := quiet_ok (r := r.2) (C := r.1) hτ h hr hq.1
      obtain ⟨a', st', h', hK, hw⟩ := qrun_ok hτ l κ _ _ (h.putQ ht hdst) hd.2 hq.2
      refine ⟨a', st', h', hK, fun w' hb Q hQ => ?_⟩
      unfold wpList
      rw [if_pos (by simp [Region.wanted, hg])]
      exact .inl (wp_value (hrun w' (Sees.below h.o hb)) _ _ (hw w' hb Q hQ))
    · exact hq.elim
theorem QW.region {id : Nat} {τ : Nat → TD} (hτ : TOK P τ) {l : List Oper} {Q : Exit → St → Prop} {st : St} (hd : dstOK N l = true) (h : ∀ K : St → Prop, (∀ st', Q .normal st' → K st') → qrun τ l st K) : QW P N (.region id l.toArray false) Q st := by
  intro κ a hr
  obtain ⟨a', st', h', hK, hw⟩ := qrun_ok hτ l κ st a hr hd (h _ (fun _ q => q))
  exact ⟨.normal, a', st', h', hK, fun w' hb K hk => wp_region_lit (hw w' hb K hk)⟩
theorem QW.sreg {id : Nat} {τ : Nat → TD} (hτ : TOK P τ) {l : List Oper} {y : Code} {Q : Exit → St → Prop} {st : St} (hd : dstOK N l = true) (h : ∀ K : St → Prop, (∀ st', QW P N y Q st' → K st') → qrun τ l st K) : QW P N (.seq (.region id l.toArray false) y) Q st :=
  QW.seq (QW.region hτ hd (fun K hK => h K (fun st' q => hK st' ⟨rfl, q⟩)))
/-- A function that only looks, with one result. -/
theorem QCall.body {f : FuncId} {args : List TV} {t : TV} {fn : Func} {c : Code} (r : Nat) (hf : P.funcs[f]? = some fn) (hb : fn.body = some c) (hname : (fn.name == "runtime.NumGoroutine") = false) (hlen : args.length ≤ fn.ntmps) (hres : fn.results = (resVars [r]).toArray)
    (hargs : args.all (TV.okN 0) = true) (hok : t.okN 0 = true) (h : QW P fn.ntmps c (fun e st' => (e = .normal ∨ e = .ret) ∧ TVle (st'.get r) t) ⟨enumA 0 args, [], 0⟩) : QCall P f args t := by
  refine ⟨⟨fn, c, hf, hb, hname⟩, fun κ vs hp hl hrel => ?_⟩
  let κ0 : Kx := { κ with n := 0, F := ⟨fun _ => False, (0, [])⟩ }
  have hO : RelO κ0 [] := ⟨fun k o hk => (by cases hk), fun k o k' o' hk => (by cases hk), trivial, hp, fun b hb => hb.elim⟩
  have hsz : (vs.toArray ++ Array.replicate (fn.ntmps - vs.toArray.size) undef).size = fn.ntmps := by simp; omega
  have hall : ∀ t ∈ args, t.okN 0 = true := fun t ht => (List.all_eq_true.1 hargs) t ht
  have hrel0 : Rel κ0 fn.ntmps ⟨enumA 0 args, [], 0⟩ { tmps := vs.toArray ++ Array.replicate (fn.ntmps - vs.toArray.size) undef, defers := [] } := by
    refine ⟨hO, fun i => ?_, hsz, ⟨Nat.zero_le _, [], rfl, List.nodup_nil, by simp⟩, rfl⟩
    simp only [St.get, look_eq, look?_enumA, Nat.zero_le, if_true, Nat.sub_zero]
    cases ha : args[i]? with
    | none => exact .any _
    | some t =>
      have hi : i < vs.length := by rw [hl]; exact (List.getElem?_eq_some_iff.1 ha).1
      have hv : vs[i]? = some (vs[i]) := List.getElem?_eq_getElem hi
      have h1 := (hrel i t _ ha hv).cutN (hall t (List.mem_of_getElem? ha))
      have := TVR.monoP (κ := { κ with n := 0 }) (κ' := κ0) (fun a ha => ⟨ha, rfl⟩) (Nat.le_refl _) (fun _ _ => rfl) h1
      simp only [Option.getD_some]
      rw [Array.getD_eq_getD_getElem?, Array.getElem?_append_left (by simpa using hi)]
      simpa [hi] using this
  obtain ⟨e, a', st', h', ⟨hend, hle⟩, hw⟩ := h κ0 _ hrel0
  have hv := ((h'.env r).le hle).cutN hok
  refine ⟨a'.tmps.getD r undef, TVR.monoP (κ := { κ0 with n := 0 }) (κ' := κ) (fun a ha => ⟨ha, rfl⟩) (Nat.zero_le _) (fun k hk => absurd hk (Nat.not_lt_zero _)) hv, fun w' hbel => ?_⟩
  refine calls_of_wp hf hb (hw w' hbel _ ?_)
  obtain ⟨_, Ds, hds, _, hDD⟩ := h'.nodef
  have hD0 : Ds = [] := by
    cases Ds with
    | nil => rfl
    | cons D l => exact ((hDD D (List.mem_cons_self ..)).1).elim
  subst hD0
  have hpost : a'.defers = [] ∧ ∃ v, (results fn a'.tmps).run P w' = .ok v w' ∧ Ending.returned v = .returned (a'.tmps.getD r undef) ∧ Below w'.heap.size w' w' := ⟨hds, _, results_ok hres a'.tmps w', rfl, ⟨rfl, rfl, rfl, Nat.le_refl _, fun _ _ => rfl⟩⟩
  rcases hend with rfl | rfl
  · exact hpost
  · exact hpost
/-- Such a call in a plain region. -/
theorem PCall.quse {f : FuncId} {args A : List TV} {t : TV} {st : St} {K : TV → St → Prop} (hq : QCall P f args t) (hA : argsle [] A args) (hok : t.okN 0 = true) (hK : K t st) : PCall P m f A st K := by
  refine ⟨hq.1, fun κ N a vs hr hm hl hargs => ?_⟩
  obtain ⟨hAl, hAg⟩ := argsle_get _ _ hA
  obtain ⟨v, htv, hcall⟩ := hq.2 κ vs hr.o.prot (by rw [hl, hAl]) (fun j t v ht hv => by
    obtain ⟨t0, h0, hle, hok'⟩ := hAg j t ht
    rw [ren_nil hok'] at hle
    exact (hargs j t0 v h0 hv).le hle)
  refine Calls.mono (hcall κ.w (Below.refl _ _)) ?_
  rintro e w'' ⟨rfl, hb⟩
  obtain ⟨h2, he⟩ := hr.below hb
  exact ⟨κ.at_ w'', v, t, st, rfl, rfl, h2, he, ⟨hm, fun _ _ _ => rfl⟩, TVR.monoP (κ := κ) (κ' := κ.at_ w'') he.prot (Nat.le_refl _) (fun _ _ => rfl) htv, hK⟩
end
attribute [push_cast] qrun
end Go.PL
