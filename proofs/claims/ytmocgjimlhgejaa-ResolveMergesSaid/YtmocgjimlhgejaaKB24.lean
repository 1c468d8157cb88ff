/- CALLS THAT PANIC, AND A FUNCTION THAT DEFERS A CLOSURE WHICH RECOVERS. -/
import Derived.Test.YtmocgjimlhgejaaKB23
import Derived.RecoverIn
namespace Go.PL
open Go.RowKit (Below)
set_option linter.unusedSimpArgs false
set_option linter.unusedVariables false

/-- The ending of a call that panics with a value. -/
def EP (v : Value) : Ending := .panicked [{ v := v, recovered := false }]

section
variable {P : Program} {κ κ' : Kx} {N m : Nat}

/-- A plain region whose last operation is a call that panics. -/
theorem PWp.regionP {id : Nat} {τ : Nat → TD} (n : Nat) {o : Oper} {fo : Operand} {xs : List Operand} {ts : Array TypeId} (hτ : TOK P τ) {l : List Oper} {Q : Exit → St → Prop} {st : St} (hl : l = l.take n ++ [o]) (hg : o.guard = none) (hop : o.op = .call ⟨.value fo, ⟨xs⟩, ts⟩) (hd : dstOK N (l.take n) = true)
    (h : ∀ K : St → Prop, (∀ st1, (∃ g caps, ox st1 fo = .clo g caps ∧ (op? st1 fo ∧ args? st1 xs) ∧ PCallE EP P m g (argsOf st1 xs ++ caps) st1 (fun t st2 => ∃ v, t = .iv (.lit v) ∧ Q (.panic [{ v := v, recovered := false }]) st2)) → K st1) → wpO (PG P m) τ l (l.take n) st K) :
    PWp P N m (.region id l.toArray false) Q st := by
  intro κ a hr hm
  refine wpIn_region_lit ?_
  have := wpO_okR (r := none) (all := l) (rest := [o]) (Q := fun e a' w' => ∃ κ' st', κ'.w = w' ∧ Rel κ' N st' a' ∧ Ext κ κ' ∧ Keep m κ κ' ∧ Q e st') hτ (l.take n) κ st a hr hm hd (h _ (fun _ q => q)) (fun κ1 st1 a1 h1 he1 hk1 hK => by
    obtain ⟨g, caps, hf, hC, hcall, hG⟩ := hK
    obtain ⟨vs, hexec, hlen, hrel⟩ := call_exec h1 hop hf hC hcall
    unfold wpListIn
    rw [if_pos (by simp [Region.wanted, hg])]
    refine ⟨fun _ _ => trivial, ?_⟩
    rw [Oper.semAt_eq _ _ _ (by rw [hop]; intro c hc; cases hc), hexec]
    refine ⟨fun e => (by cases e), ?_⟩
    show CallsIn Fence.wide 0 P g vs.toArray κ1.w _
    refine (callsIn_wide.2 (hG κ1 N a1 vs h1 hk1.n hlen hrel)).mono ?_
    rintro e w' ⟨κ2, v, t, st2, rfl, rfl, h2, he2, hk2, ht, v', rfl, hQ⟩
    have ev : v = v' := ivlit ht
    subst ev
    exact ⟨κ2, st2, rfl, h2, he1.trans he2, hk1.trans hk2, hQ⟩)
  rwa [← hl] at this

/-- A region with an operation in it that yields a value, by the model's own word. -/
theorem PWp.regionY {id : Nat} {τ : Nat → TD} (n : Nat) {o : Oper} (hτ : TOK P τ) {l : List Oper} {Q : Exit → St → Prop} {st : St} (hl : l = l.take n ++ o :: l.drop (n + 1)) (hg : o.guard = none) (hdef : ∀ c, o.op ≠ .defer c) (ho : ∀ i, o.dst = some i → i < N) (hd : dstOK N (l.take n) = true) (hd2 : dstOK N (l.drop (n + 1)) = true)
    (h : ∀ K : St → Prop, (∀ st', Q .normal st' → K st') → wpO (PG P m) τ l (l.take n) st (fun st1 => ∃ t, (∀ (κ : Kx) (N : Nat) (a : Act), Rel κ N st1 a → ∃ v, (execOp a.eval o).run P κ.w = .ok (.value v) κ.w ∧ TVR κ t v) ∧ wpO (PG P m) τ l (l.drop (n + 1)) (st1.put o.dst t) K)) :
    PWp P N m (.region id l.toArray false) Q st := by
  intro κ a hr hm
  refine wpIn_region_lit ?_
  have := wpO_okR (r := none) (all := l) (rest := o :: l.drop (n + 1)) (Q := fun e a' w' => ∃ κ' st', κ'.w = w' ∧ Rel κ' N st' a' ∧ Ext κ κ' ∧ Keep m κ κ' ∧ Q e st') hτ (l.take n) κ st a hr hm hd (h _ (fun _ q => q)) (fun κ1 st1 a1 h1 he1 hk1 hK => by
    obtain ⟨t, hrun, hw⟩ := hK
    obtain ⟨v, hv, ht⟩ := hrun κ1 N a1 h1
    unfold wpListIn
    rw [if_pos (by simp [Region.wanted, hg])]
    refine (Ex.wpIn (.inl hv)) (fun c hc => absurd hc (hdef c)) _ _ ?_
    exact wpO_ok hτ (l.drop (n + 1)) κ1 _ _ (h1.putQ ht ho) hk1.n hd2 hw (fun κ' st' a' h' he hk hK => ⟨κ', st', rfl, h', he1.trans he, hk1.trans hk, hK⟩))
  rwa [← hl] at this

theorem leaves_marksP {F : Fence} {n : Nat} {fn : Func} {tmps : Array Value} {R : Ending → World → Prop} (u : FrameMode) (hu : u ≠ .run) : ∀ (Ds : List Nat) (w : World), Ds.Nodup → (∀ D ∈ Ds, w.heap[D]? = some (.deferred (some []))) → LeavesInM F n P fn tmps R [] u (shutD w Ds) →
    LeavesInM F n P fn tmps R (Ds.map fun D => { target := .collected D, args := #[] }) u w
  | [], w, _, _, h => h
  | D :: l, w, hnd, hD, h => by
    obtain ⟨h1, h2⟩ := List.nodup_cons.1 hnd
    refine ⟨hu, .inl ⟨D, _, rfl, run_takeDeferred (hD D (List.mem_cons_self ..)), leaves_marksP u hu l _ h2 (fun D' hD' => ?_) h⟩⟩
    rw [World.putObj_heap_other (fun e => by subst e; exact h1 hD')]
    exact hD D' (List.mem_cons_of_mem _ hD')

/-- What a frame's fence says may be told otherwise. -/
def bdK (κ : Kx) (b : Nat × List Deferred) : Kx := { κ with F := ⟨κ.F.p, b⟩ }
theorem Ext.bdK (h : Ext κ κ') (b : Nat × List Deferred) : Ext (Go.PL.bdK κ b) (Go.PL.bdK κ' b) := ⟨h.os, h.tape, h.output, h.size, ⟨h.F.1, rfl⟩, h.fr, h.prot, h.np⟩
theorem TVR.bdK {t : TV} {v : Value} (h : TVR κ t v) (b : Nat × List Deferred) : TVR (Go.PL.bdK κ b) t v := h.bd b
theorem RelO.bdK {obs : List (Nat × Ob)} (h : RelO κ obs) (b : Nat × List Deferred) : RelO (Go.PL.bdK κ b) obs := h.bd b

/-- The state that a function begins in. -/
theorem Rel.enter {fn : Func} {args : List TV} {obs : List (Nat × Ob)} {n : Nat} {vs : List Value} (hO : RelO κ obs) (hn : κ.n = n) (hlen : args.length ≤ fn.ntmps) (hl : vs.length = args.length)
    (hargs : ∀ (j : Nat) (t : TV) (v : Value), args[j]? = some t → vs[j]? = some v → TVR κ t v) :
    Rel (bdK κ (κ.w.heap.size, [])) fn.ntmps ⟨enumA 0 args, obs, n⟩ { tmps := vs.toArray ++ Array.replicate (fn.ntmps - vs.toArray.size) undef, defers := [] } := by
  refine ⟨hO.bdK _, fun i => ?_, by simp; omega, ⟨Nat.le_refl _, [], rfl, List.nodup_nil, by simp⟩, hn⟩
  simp only [St.get, look_eq, look?_enumA, Nat.zero_le, if_true, Nat.sub_zero]
  cases ha : args[i]? with
  | none => exact .any _
  | some t =>
    have hi : i < vs.length := by rw [hl]; exact (List.getElem?_eq_some_iff.1 ha).1
    have hv : vs[i]? = some (vs[i]) := List.getElem?_eq_getElem hi
    have := (hargs i t _ ha hv).bdK (κ.w.heap.size, [])
    simp only [Option.getD_some]
    rw [Array.getD_eq_getD_getElem?, Array.getElem?_append_left (by simpa using hi)]
    simpa [hi] using this

/-- What is left when a function ends, in the caller's eyes. -/
theorem cut_end {n n' : Nat} {st' : St} {obs' : List (Nat × Ob)} (h' : RelO κ' st'.obj) (he : Ext κ κ') (hk : ∀ k, k < n → isPtr (κ.tk k) = true → κ'.tk k = κ.tk k) (hnn : n ≤ n') (hf3 : obsle st' n' obs') (hf4 : keysNd obs') {Ds : List Nat}
    (hDD : ∀ D ∈ Ds, κ'.F D ∧ κ.w.heap.size ≤ D ∧ κ'.w.heap[D]? = some (.deferred (some []))) (hfr : ∀ b, κ.F b → b < κ.w.heap.size) :
    ∃ κ2 : Kx, κ2.w = shutD κ'.w Ds ∧ RelO κ2 obs' ∧ (∀ k o, look? obs' k = some o → obOk n' o) ∧ κ2.n = n' ∧ Ext κ κ2 ∧ Keep n κ κ2 ∧ ∀ t v, t.okN n' = true → TVR κ' t v → TVR κ2 t v := by
  have hcut0 := h'.le hf3 hf4
  have hsh := hcut0.shut (Ds := Ds) (fun D hD => ⟨(hDD D hD).1, (hDD D hD).2.2⟩)
  obtain ⟨s1, s2, s3, s4, s5⟩ := shutD_spec Ds κ'.w
  let κ'' : Kx := { κ' with w := shutD κ'.w Ds, n := n', F := ⟨κ'.F.p, κ.F.bd⟩ }
  refine ⟨κ'', rfl, hsh.1.bd _, obsle_ok obs' hf3, rfl, ?_, ⟨hnn, hk⟩, fun t v hok ht => ?_⟩
  · refine ⟨s1.trans he.os, s2.trans he.tape, s3.trans he.output, by show κ.w.heap.size ≤ (shutD κ'.w Ds).heap.size; rw [s4]; exact he.size, ⟨fun b hb => he.F.1 b hb, rfl⟩, fun b hb => ?_, fun a ha => ⟨(he.prot a ha).1, (hsh.2 a (he.prot a ha).1).trans (he.prot a ha).2⟩, he.np⟩
    refine (s5 b (fun hm => ?_)).trans (he.fr b hb)
    have := hfr b hb
    have := (hDD b hm).2.1
    omega
  · exact TVR.monoP (κ := { κ' with n := n' }) (κ' := κ'') (h := ht.cutN hok) (fun a ha => ⟨ha, hsh.2 a ha⟩) (Nat.le_refl _) (fun _ _ => rfl)

/-- A function that panics. -/
theorem PCE.bodyP {f : FuncId} {args : List TV} {obs : List (Nat × Ob)} {n n' : Nat} {R : TV → List (Nat × Ob) → Prop} {fn : Func} {c : Code} (hf : P.funcs[f]? = some fn) (hb : fn.body = some c) (hname : (fn.name == "runtime.NumGoroutine") = false)
    (hlen : args.length ≤ fn.ntmps)
    (h : PWp P fn.ntmps n c (fun e st' => ∃ v obs', e = .panic [{ v := v, recovered := false }] ∧ n ≤ n' ∧ obsle st' n' obs' ∧ keysNd obs' ∧ R (.iv (.lit v)) obs') ⟨enumA 0 args, obs, n⟩) : PCE EP P f args obs n n' R := by
  refine ⟨⟨fn, c, hf, hb, hname⟩, fun κ vs hO hn hl hargs => ?_⟩
  have hrel := Rel.enter (fn := fn) hO hn hlen hl hargs
  refine callsIn_wide.1 (callsIn_of_wp_marks (n := 0) hf hb trivial (wpIn_mono (F := Fence.wide) (h (bdK κ (κ.w.heap.size, [])) _ hrel (by show n ≤ κ.n; rw [hn]; exact Nat.le_refl _)) ?_))
  rintro e a' w' ⟨κ', st', rfl, h', he, hk, v, obs', rfl, hnn, hf3, hf4, hR⟩
  obtain ⟨_, Ds, hds, hDnd, hDD⟩ := h'.nodef
  rw [show κ'.F.bd.2 = [] by rw [he.F.2]; rfl, List.append_nil] at hds
  have he1 : Ext κ (bdK κ' κ.F.bd) := he.bdK κ.F.bd
  obtain ⟨κ2, e1, e2, e3, e4, e5, e6, e7⟩ := cut_end (κ := κ) (κ' := bdK κ' κ.F.bd) (h'.o.bdK _) he1 hk.tk hnn hf3 hf4 (Ds := Ds) (fun D hD => ⟨(hDD D hD).1, by have := (hDD D hD).2.1; rw [he.F.2] at this; exact this, (hDD D hD).2.2⟩) hO.fr
  show LeavesInM Fence.wide 0 P fn a'.tmps _ a'.defers (.panicking _) κ'.w
  rw [hds]
  refine leaves_marksP _ (by simp) Ds κ'.w hDnd (fun D hD => (hDD D hD).2.2) ?_
  show ∃ κ3 v' t obs3, _
  exact ⟨κ2, v, _, obs', rfl, e1, e2, e3, e4, e5, e6, rfl, .iv _ _ (.lit v), hR⟩
end
end Go.PL
