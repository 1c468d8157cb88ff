/- FUNCTIONS: a contract out of a body, and a contract at a call. -/
import Derived.Test.YtmocgjimlhgejaaKB9
import Derived.RangeFuncRecord
namespace Go.PL
open Go.RowKit (Below)
set_option linter.unusedSimpArgs false
set_option linter.unusedVariables false

def enumA : Nat → List TV → List (Nat × TV)
  | _, [] => []
  | i, t :: l => (i, t) :: enumA (i + 1) l
theorem look?_enumA : ∀ (l : List TV) (i j : Nat), look? (enumA i l) j = if i ≤ j then l[j - i]? else none
  | [], i, j => by simp [enumA, look?]
  | t :: l, i, j => by
    simp only [enumA, look?, look?_enumA l (i + 1) j]
    by_cases e : j = i
    · subst e; simp
    · have hb : (j == i) = false := beq_eq_false_iff_ne.2 e
      rw [hb, cond_false]
      by_cases h : i ≤ j
      · rw [if_pos h, if_pos (by omega)]
        have : j - i = (j - (i + 1)) + 1 := by omega
        rw [this, List.getElem?_cons_succ]
      · rw [if_neg h, if_neg (by omega)]

def getsOf (st : St) : List Nat → List TV
  | [] => []
  | r :: l => st.get r :: getsOf st l
theorem getsOf_eq (st : St) : ∀ l : List Nat, getsOf st l = l.map st.get
  | [] => rfl
  | r :: l => by simp [getsOf, getsOf_eq st l]
def resVars : List Nat → List ResultVar
  | [] => []
  | r :: l => .tmp r :: resVars l
theorem resVars_eq : ∀ l : List Nat, resVars l = l.map .tmp
  | [] => rfl
  | r :: l => by simp [resVars, resVars_eq l]
/-- What a function answers, out of its results' slots. -/
def finR (st : St) (n : Nat) : List Nat → TV → Prop
  | [r], t => TVle (st.get r) t
  | rs, .tup ts => cellsle n (getsOf st rs) ts
  | _, _ => False
/-- What is left when a function ends. -/
def Fin' (rs : List Nat) (st : St) (t : TV) (obs' : List (Nat × Ob)) (n' : Nat) : Prop :=
  finR st n' rs t ∧ t.okN n' = true ∧ obsle st n' obs' ∧ keysNd obs'

section
variable {P : Program} {κ κ' : Kx} {N m : Nat}

def resF (tmps : Array Value) : ResultVar → Sem Value
  | .tmp t => pure (tmps.getD t undef)
  | .cell a t => do loadVar t (← asAddr (tmps.getD a undef))
@[simp] theorem resFtmp (tmps : Array Value) (t : Nat) : resF tmps (.tmp t) = pure (tmps.getD t undef) := rfl
theorem resF_list (tmps : Array Value) : ∀ (l : List Nat) (w : World), ((l.map ResultVar.tmp).mapM (resF tmps)).run P w = .ok (l.map fun r => tmps.getD r undef) w
  | [], w => by simp
  | r :: l, w => by
    rw [List.map_cons, List.mapM_cons]
    simp only [Sem.run_bind, resFtmp, Sem.run_pure, Result.andThen_ok, resF_list tmps l w, List.map_cons]
theorem results_ok {fn : Func} {rs : List Nat} (hres : fn.results = (resVars rs).toArray) (tmps : Array Value) (w : World) :
    (results fn tmps).run P w = .ok (match rs with | [r] => tmps.getD r undef | rs => .tuple (rs.map fun r => tmps.getD r undef).toArray) w := by
  have e : results fn tmps = (do let vs ← fn.results.mapM (resF tmps); pure (if h : vs.size = 1 then vs[0] else .tuple vs)) := rfl
  have hm : (fn.results.mapM (resF tmps)).run P w = .ok (rs.map fun r => tmps.getD r undef).toArray w := by
    rw [hres, resVars_eq, List.mapM_toArray]
    simp only [Sem.run_map, resF_list, Result.andThen_ok]
  rw [e, Sem.run_bind, hm]
  simp only [Result.andThen_ok, Sem.run_pure]
  congr 1
  match rs with
  | [] => rfl
  | [r] => rfl
  | r :: s :: l => rfl

theorem cellsle_ok {n : Nat} : ∀ (l l' : List TV), cellsle n l l' → csOk n l'
  | [], [], _ => trivial
  | [], _ :: _, h => h.elim
  | _ :: _, [], h => h.elim
  | t :: l, t' :: l', h => ⟨h.2.1, cellsle_ok l l' h.2.2⟩
theorem mapsle_ok {n : Nat} : ∀ (l l' : List (Int × TV)), mapsle n l l' → envOk n l'
  | [], [], _ => trivial
  | [], _ :: _, h => h.elim
  | _ :: _, [], h => h.elim
  | (_, _) :: l, (_, _) :: l', h => ⟨h.2.2.1, mapsle_ok l l' h.2.2.2⟩
theorem obsle_ok {st : St} {n : Nat} (l : List (Nat × Ob)) (h : obsle st n l) : ∀ k o, look? l k = some o → obOk n o := by
  intro k o hk
  obtain ⟨_, o', _, hle⟩ := obsle_get l h k o hk
  cases o with
  | row e sz => trivial
  | map _ _ es =>
    cases o' with
    | map _ _ _ => exact mapsle_ok _ _ hle.2.2
    | _ => exact hle.elim
  | mrow _ _ _ => trivial
  | pins _ _ => trivial
  | lrow _ _ _ _ => trivial
  | lp _ _ _ _ _ =>
    cases o' with
    | lp _ _ _ _ _ => exact hle.2.2.2.2.2
    | _ => exact hle.elim
  | box ty cs =>
    cases o' with
    | box ty' cs' => exact cellsle_ok _ _ hle.2
    | _ => exact hle.elim
/-- The marks, come to: their blocks are shut. -/
def shutD (w : World) : List Nat → World
  | [] => w
  | D :: l => shutD (w.putObj D (.deferred none)) l
theorem shutD_spec : ∀ (l : List Nat) (w : World), (shutD w l).os = w.os ∧ (shutD w l).tape = w.tape ∧ (shutD w l).output = w.output ∧ (shutD w l).heap.size = w.heap.size ∧ ∀ b, b ∉ l → (shutD w l).heap[b]? = w.heap[b]?
  | [], w => ⟨rfl, rfl, rfl, rfl, fun _ _ => rfl⟩
  | D :: l, w => by
    obtain ⟨h1, h2, h3, h4, h5⟩ := shutD_spec l (w.putObj D (.deferred none))
    refine ⟨h1, h2, h3, by rw [shutD, h4]; simp, fun b hb => ?_⟩
    simp only [List.mem_cons, not_or] at hb
    rw [shutD, h5 b hb.2]
    exact World.putObj_heap_other hb.1
theorem leaves_marks {F : Fence} {n : Nat} {fn : Func} {tmps : Array Value} {R : Ending → World → Prop} : ∀ (Ds : List Nat) (w : World), Ds.Nodup → (∀ D ∈ Ds, w.heap[D]? = some (.deferred (some []))) → LeavesInM F n P fn tmps R [] .returning (shutD w Ds) →
    LeavesInM F n P fn tmps R (Ds.map fun D => { target := .collected D, args := #[] }) .returning w
  | [], w, _, _, h => h
  | D :: l, w, hnd, hD, h => by
    obtain ⟨h1, h2⟩ := List.nodup_cons.1 hnd
    refine ⟨by simp, .inl ⟨D, _, rfl, run_takeDeferred (hD D (List.mem_cons_self ..)), leaves_marks l _ h2 (fun D' hD' => ?_) h⟩⟩
    rw [World.putObj_heap_other (fun e => by subst e; exact h1 hD')]
    exact hD D' (List.mem_cons_of_mem _ hD')
/-- A world that differs in blocks that are no object's and hold no cells. -/
theorem RelO.shut {obj : List (Nat × Ob)} (h : RelO κ obj) {Ds : List Nat} (hD : ∀ D ∈ Ds, κ.F D ∧ κ.w.heap[D]? = some (.deferred (some []))) :
    RelO { κ with w := shutD κ.w Ds } obj ∧ ∀ a, κ.prot a → (shutD κ.w Ds).cell? a = κ.w.cell? a := by
  obtain ⟨h1, h2, h3, h4, h5⟩ := shutD_spec Ds κ.w
  have hp : ∀ a, κ.prot a → (shutD κ.w Ds).cell? a = κ.w.cell? a := fun a ha => World.cell?_of_block (h5 _ (fun hm => by
    have := h.prot a ha
    simp [World.cell?, (hD _ hm).2] at this))
  refine ⟨⟨fun k o hk => ?_, h.dis, h.nd, fun a ha => by show ((shutD κ.w Ds).cell? a).isSome = true; rw [hp a ha]; exact h.prot a ha, fun b hb => by show b < (shutD κ.w Ds).heap.size; rw [h4]; exact h.fr b hb⟩, hp⟩
  obtain ⟨h1', h2'⟩ := h.obs k o hk
  refine ⟨h1', ?_⟩
  have hb : ∀ b, Own (κ.tk k) b → (shutD κ.w Ds).heap[b]? = κ.w.heap[b]? := fun b hb => h5 b (fun hm => (h2'.lt hb).2 (hD b hm).1)
  have hT : ∀ t v, TVR κ t v → TVR { κ with w := shutD κ.w Ds } t v := fun t v h => TVR.monoP (κ := κ) (κ' := { κ with w := shutD κ.w Ds }) (h := h) (fun a ha => ⟨ha, hp a ha⟩) (Nat.le_refl _) (fun _ _ => rfl)
  have hI : ∀ x v, IVR κ.w κ.prot x v → IVR (shutD κ.w Ds) κ.prot x v := fun x v h => h.mono (fun a ha => ⟨ha, hp a ha⟩)
  cases o with
  | box ty cs =>
    obtain ⟨b, us, e1, e2, e3, e4, e5, e6, e7⟩ := h2'
    exact ⟨b, us, e1, (hb b (by rw [e1]; rfl)).trans e2, e3, fun j c u hc hu => hT _ _ (e4 j c u hc hu), e5, e6, e7⟩
  | row e sz =>
    rcases h2' with h0 | ⟨b, nn, c, cur, e1, e2, e3⟩
    · exact .inl h0
    · exact .inr ⟨b, nn, c, cur, e1, (hb b (by rw [e1]; rfl)).trans e2, e3⟩
  | map kt vt es =>
    obtain ⟨b, ms, clock, e1, e2, e3, e4, e5⟩ := h2'
    exact ⟨b, ms, clock, e1, (hb b (by rw [e1]; rfl)).trans e2, e3, fun j p e hp' he => ⟨(e4 j p e hp' he).1, hT _ _ (e4 j p e hp' he).2⟩, e5⟩
  | mrow e sz xs =>
    obtain ⟨A, c, us, e1, e2, e3, e4, e5, hm⟩ := h2'
    refine ⟨A, c, us, e1, e2, e3, e4, fun j x u hx hu => hI _ _ (e5 j x u hx hu), ?_⟩
    rcases hm with hm | ⟨b, cur, rfl, hh, hr⟩
    · exact .inl hm
    · exact .inr ⟨b, cur, rfl, (hb b (by rw [e1]; rfl)).trans hh, hr⟩
  | lrow e sz v xs =>
    obtain ⟨e0, ei, hr⟩ := h2'
    refine ⟨e0, hI _ _ ei, ?_⟩
    rcases hr with h0 | ⟨b, nn, c, cur, e1, e2, e3⟩
    · exact .inl h0
    · exact .inr ⟨b, nn, c, cur, e1, (hb b (by rw [e1]; rfl)).trans e2, e3⟩
  | pins e rs =>
    obtain ⟨e1, e2, e3⟩ := h2'
    refine ⟨e1, e2, fun b xs hx => ?_⟩
    obtain ⟨us, g1, g2, g3, g4, g5, g6⟩ := e3 b xs hx
    exact ⟨us, (hb b (by rw [e1]; exact (own_pins rs b).2 ⟨xs, hx⟩)).trans g1, g2, fun j x u hx hu => hI _ _ (g3 j x u hx hu), g4, g5, g6⟩
  | lp s ps as bd env =>
    obtain ⟨b, d, fn, tmps, e1, e2, e3, e4⟩ := h2'
    exact ⟨b, d, fn, tmps, e1, (hb b (by rw [e1]; rfl)).trans e2, ⟨e3.1, fun i => hT _ _ (e3.2 i)⟩, e4⟩
/-- What is deferred told otherwise. -/
theorem TVR.bd {t : TV} {v : Value} (h : TVR κ t v) (b : Nat × List Deferred) : TVR { κ with F := ⟨κ.F.p, b⟩ } t v := TVR.monoP (κ := κ) (κ' := { κ with F := ⟨κ.F.p, b⟩ }) (h := h) (fun a ha => ⟨ha, rfl⟩) (Nat.le_refl _) (fun _ _ => rfl)
theorem RelO.bd {obs : List (Nat × Ob)} (hO : RelO κ obs) (b : Nat × List Deferred) : RelO { κ with F := ⟨κ.F.p, b⟩ } obs := by
  refine ⟨fun k o hk => ⟨(hO.obs k o hk).1, ?_⟩, hO.dis, hO.nd, hO.prot, hO.fr⟩
  have h2' := (hO.obs k o hk).2
  cases o with
  | box ty cs =>
    obtain ⟨b, us, e1, e2, e3, e4, e5⟩ := h2'
    exact ⟨b, us, e1, e2, e3, fun j c u hc hu => (e4 j c u hc hu).bd _, e5⟩
  | row e sz => exact h2'
  | map kt vt es =>
    obtain ⟨b, ms, clock, e1, e2, e3, e4, e5⟩ := h2'
    exact ⟨b, ms, clock, e1, e2, e3, fun j p e hp' he => ⟨(e4 j p e hp' he).1, (e4 j p e hp' he).2.bd _⟩, e5⟩
  | mrow e sz xs => exact h2'
  | pins e rs => exact h2'
  | lrow e sz v xs => exact h2'
  | lp s ps as bd env =>
    obtain ⟨b, d, fn, tmps, e1, e2, e3, e4⟩ := h2'
    exact ⟨b, d, fn, tmps, e1, e2, ⟨e3.1, fun i => (e3.2 i).bd _⟩, e4⟩
theorem PC.body {f : FuncId} {args : List TV} {obs : List (Nat × Ob)} {n n' : Nat} {R : TV → List (Nat × Ob) → Prop} {fn : Func} {c : Code} (rs : List Nat) (hf : P.funcs[f]? = some fn) (hb : fn.body = some c) (hname : (fn.name == "runtime.NumGoroutine") = false)
    (hlen : args.length ≤ fn.ntmps) (hres : fn.results = (resVars rs).toArray)
    (h : PWp P fn.ntmps n c (fun e st' => (e = .normal ∨ e = .ret) ∧ n ≤ n' ∧ ∃ t obs', Fin' rs st' t obs' n' ∧ R t obs') ⟨enumA 0 args, obs, n⟩) : PC P f args obs n n' R := by
  refine ⟨⟨fn, c, hf, hb, hname⟩, fun κ vs hO hn hl hargs => ?_⟩
  have hsz : (vs.toArray ++ Array.replicate (fn.ntmps - vs.toArray.size) undef).size = fn.ntmps := by simp; omega
  let κ0 : Kx := { κ with F := ⟨κ.F.p, (κ.w.heap.size, [])⟩ }
  have hT0 : ∀ t v, TVR κ t v → TVR κ0 t v := fun t v h => TVR.monoP (κ := κ) (κ' := κ0) (h := h) (fun a ha => ⟨ha, rfl⟩) (Nat.le_refl _) (fun _ _ => rfl)
  have hO0 : RelO κ0 obs := by
    refine ⟨fun k o hk => ⟨(hO.obs k o hk).1, ?_⟩, hO.dis, hO.nd, hO.prot, hO.fr⟩
    have h2' := (hO.obs k o hk).2
    cases o with
    | box ty cs =>
      obtain ⟨b, us, e1, e2, e3, e4, e5⟩ := h2'
      exact ⟨b, us, e1, e2, e3, fun j c u hc hu => hT0 _ _ (e4 j c u hc hu), e5⟩
    | row e sz => exact h2'
    | map kt vt es =>
      obtain ⟨b, ms, clock, e1, e2, e3, e4, e5⟩ := h2'
      exact ⟨b, ms, clock, e1, e2, e3, fun j p e hp' he => ⟨(e4 j p e hp' he).1, hT0 _ _ (e4 j p e hp' he).2⟩, e5⟩
    | mrow e sz xs => exact h2'
    | pins e rs => exact h2'
    | lrow e sz v xs => exact h2'
    | lp s ps as bd env =>
      obtain ⟨b, d, fn, tmps, e1, e2, e3, e4⟩ := h2'
      exact ⟨b, d, fn, tmps, e1, e2, ⟨e3.1, fun i => hT0 _ _ (e3.2 i)⟩, e4⟩
  have hrel : Rel κ0 fn.ntmps ⟨enumA 0 args, obs, n⟩ { tmps := vs.toArray ++ Array.replicate (fn.ntmps - vs.toArray.size) undef, defers := [] } := by
    refine ⟨hO0, fun i => ?_, hsz, ⟨Nat.le_refl _, [], rfl, List.nodup_nil, by simp⟩, hn⟩
    simp only [St.get, look_eq, look?_enumA, Nat.zero_le, if_true, Nat.sub_zero]
    cases ha : args[i]? with
    | none => exact .any _
    | some t =>
      have hi : i < vs.length := by rw [hl]; exact (List.getElem?_eq_some_iff.1 ha).1
      have hv : vs[i]? = some (vs[i]) := List.getElem?_eq_getElem hi
      have := hT0 _ _ (hargs i t _ ha hv)
      simp only [Option.getD_some]
      rw [Array.getD_eq_getD_getElem?, Array.getElem?_append_left (by simpa using hi)]
      simpa [hi] using this
  refine callsIn_wide.1 (callsIn_of_wp_marks (n := 0) hf hb trivial (wpIn_mono (F := Fence.wide) (h κ0 _ hrel (by show n ≤ κ.n; rw [hn]; exact Nat.le_refl _)) ?_))
  rintro e a' w' ⟨κ', st', rfl, h', he, hk, hend, hnn, t, obs', ⟨hf1, hf2, hf3, hf4⟩, hR⟩
  obtain ⟨_, Ds, hds, hDnd, hDD⟩ := h'.nodef
  have hd0 : κ'.F.bd.2 = [] := by rw [he.F.2]
  rw [hd0, List.append_nil] at hds
  have hcut0 := h'.o.le hf3 hf4
  have hsh := hcut0.shut (Ds := Ds) (fun D hD => ⟨(hDD D hD).1, (hDD D hD).2.2⟩)
  obtain ⟨s1, s2, s3, s4, s5⟩ := shutD_spec Ds κ'.w
  let κ'' : Kx := { κ' with w := shutD κ'.w Ds, n := n', F := ⟨κ'.F.p, κ.F.bd⟩ }
  have hTs : ∀ t v, TVR { κ' with n := n' } t v → TVR κ'' t v := fun t v h => TVR.monoP (κ := { κ' with n := n' }) (κ' := κ'') (h := h) (fun a ha => ⟨ha, hsh.2 a ha⟩) (Nat.le_refl _) (fun _ _ => rfl)
  have hcut : RelO κ'' obs' := by
    refine ⟨fun k o hk => ⟨(hsh.1.obs k o hk).1, ?_⟩, hsh.1.dis, hsh.1.nd, hsh.1.prot, hsh.1.fr⟩
    have h2' := (hsh.1.obs k o hk).2
    have hT2 : ∀ t v, TVR { κ' with w := shutD κ'.w Ds, n := n' } t v → TVR κ'' t v := fun t v h => TVR.monoP (κ := { κ' with w := shutD κ'.w Ds, n := n' }) (κ' := κ'') (h := h) (fun a ha => ⟨ha, rfl⟩) (Nat.le_refl _) (fun _ _ => rfl)
    cases o with
    | box ty cs =>
      obtain ⟨b, us, e1, e2, e3, e4, e5⟩ := h2'
      exact ⟨b, us, e1, e2, e3, fun j c u hc hu => hT2 _ _ (e4 j c u hc hu), e5⟩
    | row e sz => exact h2'
    | map kt vt es =>
      obtain ⟨b, ms, clock, e1, e2, e3, e4, e5⟩ := h2'
      exact ⟨b, ms, clock, e1, e2, e3, fun j p e hp' he => ⟨(e4 j p e hp' he).1, hT2 _ _ (e4 j p e hp' he).2⟩, e5⟩
    | mrow e sz xs => exact h2'
    | pins e rs => exact h2'
    | lrow e sz v xs => exact h2'
    | lp s ps as bd env =>
      obtain ⟨b, d, fn, tmps, e1, e2, e3, e4⟩ := h2'
      exact ⟨b, d, fn, tmps, e1, e2, ⟨e3.1, fun i => hT2 _ _ (e3.2 i)⟩, e4⟩
  have hDnew : ∀ D ∈ Ds, κ.w.heap.size ≤ D := fun D hD => by have := (hDD D hD).2.1; rw [he.F.2] at this; exact this
  have he' : Ext κ κ'' := by
    refine ⟨s1.trans he.os, s2.trans he.tape, s3.trans he.output, by show κ.w.heap.size ≤ (shutD κ'.w Ds).heap.size; rw [s4]; exact he.size, ⟨fun b hb => he.F.1 b hb, rfl⟩, fun b hb => ?_, fun a ha => ⟨(he.prot a ha).1, (hsh.2 a (he.prot a ha).1).trans (he.prot a ha).2⟩, he.np⟩
    refine (s5 b (fun hm => ?_)).trans (he.fr b hb)
    have := hO.fr b hb
    have := hDnew b hm
    omega
  suffices hpost : ∃ v, (results fn a'.tmps).run P (shutD κ'.w Ds) = .ok v (shutD κ'.w Ds) ∧ ∃ κ2 v' t obs', Ending.returned v = .returned v' ∧ κ2.w = shutD κ'.w Ds ∧ RelO κ2 obs' ∧ (∀ k o, look? obs' k = some o → obOk n' o) ∧ κ2.n = n' ∧ Ext κ κ2 ∧ Keep n κ κ2 ∧ t.okN n' = true ∧ TVR κ2 t v' ∧ R t obs' by
    rcases hend with rfl | rfl <;> (show LeavesInM Fence.wide 0 P fn a'.tmps _ a'.defers .returning κ'.w; rw [hds]; exact leaves_marks Ds κ'.w hDnd (fun D hD => (hDD D hD).2.2) hpost)
  · refine ⟨_, results_ok hres a'.tmps _, κ'', _, t, obs', rfl, rfl, hcut, obsle_ok obs' hf3, rfl, he', ⟨hnn, hk.tk⟩, hf2, hTs _ _ ?_, hR⟩
    match rs, hf1 with
    | [r], hf1 => exact ((h'.env r).le hf1).cutN hf2
    | [], hf1 =>
      cases t with
      | tup ts =>
        simp only [finR, getsOf] at hf1
        obtain ⟨hl', hg⟩ := cellsle_get _ _ hf1
        refine TVR.cutN (κ := κ') (n := n') ?_ hf2
        refine .tup ts _ (by simpa using hl'.symm) (fun j c u hc hu => ?_)
        obtain ⟨q, hq, _⟩ := hg j c hc
        simp at hq
      | _ => simp [finR] at hf1
    | r :: s :: l, hf1 =>
      cases t with
      | tup ts =>
        simp only [finR, getsOf_eq] at hf1
        obtain ⟨hl', hg⟩ := cellsle_get _ _ hf1
        refine TVR.cutN (κ := κ') (n := n') ?_ hf2
        refine .tup ts _ (by simpa using hl'.symm) (fun j c u hc hu => ?_)
        obtain ⟨q, hq, hle, _⟩ := hg j c hc
        rw [List.getElem?_map] at hq hu
        obtain ⟨r0, hr0, rfl⟩ := Option.map_eq_some_iff.1 hq
        rw [hr0] at hu
        simp only [Option.map_some, Option.some.injEq] at hu
        subst hu
        exact (h'.env r0).le hle
      | _ => simp [finR] at hf1

/-! ### A call -/
/-- The caller's name of what the callee calls j. -/
def sig (σ : List Nat) (nx j : Nat) : Nat := match σ[j]? with | some k => k | none => nx + (j - σ.length)
def TV.ren1 (f : Nat → Nat) : TV → TV
  | .acc k sz xs => .acc (f k) sz xs
  | .bptr k off => .bptr (f k) off
  | .mptr k => .mptr (f k)
  | .mrow k => .mrow (f k)
  | .eptr k sz i off => .eptr (f k) sz i off
  | .yld k => .yld (f k)
  | t => t
def renL (f : Nat → Nat) : List TV → List TV
  | [] => []
  | t :: l => t.ren1 f :: renL f l
theorem renL_get (f : Nat → Nat) (l : List TV) (j : Nat) : (renL f l)[j]? = (l[j]?).map (TV.ren1 f) := by
  induction l generalizing j with
  | nil => simp [renL]
  | cons t l ih => cases j <;> simp [renL, ih]
theorem renL_length (f : Nat → Nat) (l : List TV) : (renL f l).length = l.length := by
  induction l with
  | nil => rfl
  | cons t l ih => simp [renL, ih]
def TV.ren (f : Nat → Nat) : TV → TV
  | .clo g caps => .clo g (renL f caps)
  | .tup ts => .tup (renL f ts)
  | t => t.ren1 f
def renC (f : Nat → Nat) : List TV → List TV
  | [] => []
  | t :: l => t.ren f :: renC f l
theorem renC_get (f : Nat → Nat) (l : List TV) (j : Nat) : (renC f l)[j]? = (l[j]?).map (TV.ren f) := by
  induction l generalizing j with
  | nil => simp [renC]
  | cons t l ih => cases j <;> simp [renC, ih]
theorem renC_length (f : Nat → Nat) (l : List TV) : (renC f l).length = l.length := by
  induction l with
  | nil => rfl
  | cons t l ih => simp [renC, ih]
def renE {α : Type} (f : Nat → Nat) : List (α × TV) → List (α × TV)
  | [] => []
  | (i, t) :: l => (i, t.ren f) :: renE f l
theorem renE_get {α : Type} (f : Nat → Nat) (l : List (α × TV)) (j : Nat) : (renE f l)[j]? = (l[j]?).map (fun p => (p.1, p.2.ren f)) := by
  induction l generalizing j with
  | nil => simp [renE]
  | cons p l ih => obtain ⟨i, t⟩ := p; cases j <;> simp [renE, ih]
theorem renE_length {α : Type} (f : Nat → Nat) (l : List (α × TV)) : (renE f l).length = l.length := by
  induction l with
  | nil => rfl
  | cons p l ih => obtain ⟨i, t⟩ := p; simp [renE, ih]
theorem envOk_mem {α : Type} {n : Nat} : ∀ (l : List (α × TV)), envOk n l → ∀ p ∈ l, p.2.okN n = true
  | [], _, p, h => by cases h
  | (_, _) :: l, hh, p, h => by
    rcases List.mem_cons.1 h with rfl | h
    · exact hh.1
    · exact envOk_mem l hh.2 p h
theorem look?_renE (f : Nat → Nat) : ∀ (l : List (Nat × TV)) (i : Nat), look? (renE f l) i = (look? l i).map (TV.ren f)
  | [], i => rfl
  | (j, t) :: l, i => by
    simp only [renE, look?, look?_renE f l i]
    cases i == j <;> rfl
def Ob.ren (f : Nat → Nat) : Ob → Ob
  | .box ty cs => .box ty (renC f cs)
  | .row e sz => .row e sz
  | .map kt vt es => .map kt vt (renE f es)
  | .mrow e sz xs => .mrow e sz xs
  | .pins e rs => .pins e rs
  | .lrow e sz v xs => .lrow e sz v xs
  | .lp s ps a b env => .lp s ps a b (renE f env)
def renO (f : Nat → Nat) : List (Nat × Ob) → List (Nat × Ob)
  | [] => []
  | (k, o) :: l => (f k, o.ren f) :: renO f l
/-- The caller's own objects, those that are handed over left out. -/
def restO (σ : List Nat) : List (Nat × Ob) → List (Nat × Ob)
  | [] => []
  | (k, o) :: l => bif σ.contains k then restO σ l else (k, o) :: restO σ l
def Ob.isRow : Ob → Bool
  | .row _ _ => true
  | .lrow _ _ _ _ => true
  | _ => false
/-- The rows among what is handed over, under the caller's names. -/
def rowsOf (σ : List Nat) : List (Nat × Ob) → List Nat
  | [] => []
  | (k, .row _ _) :: l => sig σ 0 k :: rowsOf σ l
  | (k, .lrow _ _ _ _) :: l => sig σ 0 k :: rowsOf σ l
  | (_, .box _ _) :: l => rowsOf σ l
  | (_, .map _ _ _) :: l => rowsOf σ l
  | (_, .mrow _ _ _) :: l => rowsOf σ l
  | (_, .pins _ _) :: l => rowsOf σ l
  | (_, .lp _ _ _ _ _) :: l => rowsOf σ l
/-- The caller's state behind a call. -/
def after (σ : List Nat) (st : St) (obs obs' : List (Nat × Ob)) (n' : Nat) : St :=
  ⟨demE (rowsOf σ obs) st.env, renO (sig σ st.nx) obs' ++ demO (rowsOf σ obs) (restO σ st.obj), st.nx + (n' - σ.length)⟩
/-- What is handed over lies there, under the caller's names. -/
def given (σ : List Nat) (st : St) : List (Nat × Ob) → Prop
  | [] => True
  | (k, o) :: l => k < σ.length ∧ look? st.obj (sig σ 0 k) = some (o.ren (sig σ 0)) ∧ obOk σ.length o ∧ given σ st l
/-- What is handed over as arguments. -/
def argsle (σ : List Nat) : List TV → List TV → Prop
  | [], [] => True
  | t :: l, t' :: l' => TVle t (t'.ren (sig σ 0)) ∧ t'.okN σ.length = true ∧ argsle σ l l'
  | _, _ => False
theorem argsle_get {σ : List Nat} : ∀ (l l' : List TV), argsle σ l l' → l'.length = l.length ∧ ∀ (j : Nat) (t' : TV), l'[j]? = some t' → ∃ t, l[j]? = some t ∧ TVle t (t'.ren (sig σ 0)) ∧ t'.okN σ.length = true
  | [], [], _ => ⟨rfl, by simp⟩
  | [], _ :: _, h => h.elim
  | _ :: _, [], h => h.elim
  | t :: l, t' :: l', h => by
    obtain ⟨h1, h2⟩ := argsle_get l l' h.2.2
    refine ⟨by simp [h1], fun j u hu => ?_⟩
    cases j with
    | zero => simp at hu; subst hu; exact ⟨t, rfl, h.1, h.2.1⟩
    | succ j => simp at hu; simpa using h2 j u hu

/-- Names read through. -/
theorem TVR.unren1 {f : Nat → Nat} {n : Nat} {κc : Kx} (hw : κc.w = κ.w) (hp : κc.prot = κ.prot) (hn : κc.n = n) (htk : ∀ j, j < n → κc.tk j = κ.tk (f j)) {t : TV} {v : Value} (h : TVR κ (t.ren1 f) v) (hok : t.ok1 n = true) : TVR κc t v := by
  cases t with
  | acc k sz xs =>
    have hk : k < n := by simpa [TV.ok1] using hok
    simp only [TV.ren1] at h
    generalize hq : κ.tk (f k) = q at *
    cases h with
    | acc _ _ _ hk' hi =>
      rw [← htk k hk]
      exact .acc k sz xs (by rw [hn]; exact hk) (by rw [htk k hk, hw, hp]; exact hi)
  | bptr k off =>
    have hk : k < n := by simpa [TV.ok1] using hok
    simp only [TV.ren1] at h
    cases h with
    | bptr _ _ b hk' hb => exact .bptr k off b (by rw [hn]; exact hk) (by rw [htk k hk]; exact hb)
  | mptr k =>
    have hk : k < n := by simpa [TV.ok1] using hok
    simp only [TV.ren1] at h
    cases h with
    | mptr _ b hk' hb => exact .mptr k b (by rw [hn]; exact hk) (by rw [htk k hk]; exact hb)
  | mrow k =>
    have hk : k < n := by simpa [TV.ok1] using hok
    simp only [TV.ren1] at h
    cases h with
    | mrow _ A n' c hk' hb => exact .mrow k A n' c (by rw [hn]; exact hk) (by rw [htk k hk]; exact hb)
  | eptr k sz i off =>
    have hk : k < n := by simpa [TV.ok1] using hok
    simp only [TV.ren1] at h
    cases h with
    | eptr _ _ _ _ b n' c hk' hb => exact .eptr k sz i off b n' c (by rw [hn]; exact hk) (by rw [htk k hk]; exact hb)
  | yld k =>
    have hk : k < n := by simpa [TV.ok1] using hok
    simp only [TV.ren1] at h
    cases h with
    | yld _ b hk' hb => exact .yld k b (by rw [hn]; exact hk) (by rw [htk k hk]; exact hb)
  | any => exact .any v
  | iv x => cases h with | iv _ _ h => exact .iv _ _ (by rw [hw, hp]; exact h)
  | nilsl => cases h; exact .nilsl
  | nsl sz xs => cases h with | nsl _ _ ad n' c h => exact .nsl _ _ _ _ _ (by rw [hw, hp]; exact h)
  | rptr cs => cases h with | rptr _ ad us hl h1 ha h => exact .rptr cs ad us hl h1 (by rw [hw, hp]; exact ha) (by rw [hw, hp]; exact h)
  | clo f caps => simp [TV.ok1] at hok
  | tup ts => simp [TV.ok1] at hok
  | wh b t => simp [TV.ok1] at hok
theorem TVR.unren {f : Nat → Nat} {n : Nat} {κc : Kx} (hw : κc.w = κ.w) (hp : κc.prot = κ.prot) (hn : κc.n = n) (htk : ∀ j, j < n → κc.tk j = κ.tk (f j)) {t : TV} {v : Value} (h : TVR κ (t.ren f) v) (hok : t.okN n = true) : TVR κc t v := by
  cases t with
  | clo g caps =>
    simp only [TV.ren] at h
    simp only [TV.okN, List.all_eq_true] at hok
    cases h with
    | clo _ _ us hl hh =>
      refine .clo g caps us (by rw [hl, renL_length]) (fun j c u hc hu => ?_)
      exact (hh j (c.ren1 f) u (by rw [renL_get, hc]; rfl) hu).unren1 hw hp hn htk (hok c (List.mem_of_getElem? hc))
  | tup ts =>
    simp only [TV.ren] at h
    simp only [TV.okN, List.all_eq_true] at hok
    cases h with
    | tup _ us hl hh =>
      refine .tup ts us (by rw [hl, renL_length]) (fun j c u hc hu => ?_)
      exact (hh j (c.ren1 f) u (by rw [renL_get, hc]; rfl) hu).unren1 hw hp hn htk (hok c (List.mem_of_getElem? hc))
  | wh b t => simp [TV.okN, TV.ok1] at hok
  | _ => exact TVR.unren1 (f := f) hw hp hn htk (by simpa only [TV.ren] using h) hok
/-- And back. -/
theorem TVR.doren1 {f : Nat → Nat} {n : Nat} {κc : Kx} (hw : κc.w = κ.w) (hp : κc.prot = κ.prot) (hn : κc.n = n) (htk : ∀ j, j < n → f j < κ.n ∧ κc.tk j = κ.tk (f j)) {t : TV} {v : Value} (h : TVR κc t v) (hok : t.ok1 n = true) : TVR κ (t.ren1 f) v := by
  cases h with
  | acc k sz xs hk hi =>
    rw [hn] at hk
    rw [(htk k hk).2] at hi ⊢
    exact .acc (f k) sz xs (htk k hk).1 (by rw [← hw, ← hp]; exact hi)
  | bptr k off b hk hb =>
    rw [hn] at hk
    rw [(htk k hk).2] at hb
    exact .bptr (f k) off b (htk k hk).1 hb
  | mptr k b hk hb =>
    rw [hn] at hk
    rw [(htk k hk).2] at hb
    exact .mptr (f k) b (htk k hk).1 hb
  | mrow k A n' c hk hb =>
    rw [hn] at hk
    rw [(htk k hk).2] at hb
    exact .mrow (f k) A n' c (htk k hk).1 hb
  | eptr k sz i off b n' c hk hb =>
    rw [hn] at hk
    rw [(htk k hk).2] at hb
    exact .eptr (f k) sz i off b n' c (htk k hk).1 hb
  | yld k b hk hb =>
    rw [hn] at hk
    rw [(htk k hk).2] at hb
    exact .yld (f k) b (htk k hk).1 hb
  | any v => exact .any v
  | iv x v h => exact .iv _ _ (by rw [← hw, ← hp]; exact h)
  | nilsl => exact .nilsl
  | nsl sz xs ad n' c h => exact .nsl _ _ _ _ _ (by rw [← hw, ← hp]; exact h)
  | rptr cs ad us hl h1 ha h => exact .rptr cs ad us hl h1 (by rw [← hw, ← hp]; exact ha) (by rw [← hw, ← hp]; exact h)
  | clo f caps us hl h => simp [TV.ok1] at hok
  | tup vs us hl h => simp [TV.ok1] at hok
  | wh b t v h hu => simp [TV.ok1] at hok
theorem TVR.doren {f : Nat → Nat} {n : Nat} {κc : Kx} (hw : κc.w = κ.w) (hp : κc.prot = κ.prot) (hn : κc.n = n) (htk : ∀ j, j < n → f j < κ.n ∧ κc.tk j = κ.tk (f j)) {t : TV} {v : Value} (h : TVR κc t v) (hok : t.okN n = true) : TVR κ (t.ren f) v := by
  cases h with
  | clo g caps us hl hh =>
    simp only [TV.okN, List.all_eq_true] at hok
    refine .clo g _ us (by rw [hl, renL_length]) (fun j c u hc hu => ?_)
    rw [renL_get] at hc
    obtain ⟨q, hq, rfl⟩ := Option.map_eq_some_iff.1 hc
    exact (hh j q u hq hu).doren1 hw hp hn htk (hok q (List.mem_of_getElem? hq))
  | tup ts us hl hh =>
    simp only [TV.okN, List.all_eq_true] at hok
    refine .tup _ us (by rw [hl, renL_length]) (fun j c u hc hu => ?_)
    rw [renL_get] at hc
    obtain ⟨q, hq, rfl⟩ := Option.map_eq_some_iff.1 hc
    exact (hh j q u hq hu).doren1 hw hp hn htk (hok q (List.mem_of_getElem? hq))
  | wh b t v h hu => simp [TV.okN, TV.ok1] at hok
  | any v => exact .any v
  | iv x v h => exact .iv _ _ (by rw [← hw, ← hp]; exact h)
  | nilsl => exact .nilsl
  | nsl sz xs ad n' c h => exact .nsl _ _ _ _ _ (by rw [← hw, ← hp]; exact h)
  | rptr cs ad us hl h1 ha h => exact .rptr cs ad us hl h1 (by rw [← hw, ← hp]; exact ha) (by rw [← hw, ← hp]; exact h)
  | acc k sz xs hk hi => exact (TVR.acc k sz xs hk hi).doren1 hw hp hn htk hok
  | bptr k off b hk hb => exact (TVR.bptr k off b hk hb).doren1 hw hp hn htk hok
  | mptr k b hk hb => exact (TVR.mptr k b hk hb).doren1 hw hp hn htk hok
  | mrow k A n' c hk hb => exact (TVR.mrow k A n' c hk hb).doren1 hw hp hn htk hok
  | eptr k sz i off b n' c hk hb => exact (TVR.eptr k sz i off b n' c hk hb).doren1 hw hp hn htk hok
  | yld k b hk hb => exact (TVR.yld k b hk hb).doren1 hw hp hn htk hok

theorem csOk_get {n : Nat} : ∀ (l : List TV), csOk n l → ∀ t ∈ l, t.okN n = true
  | [], _, t, ht => by cases ht
  | u :: l, h, t, ht => by
    rcases List.mem_cons.1 ht with rfl | ht
    · exact h.1
    · exact csOk_get l h.2 t ht
theorem given_get {σ : List Nat} {st : St} : ∀ (l : List (Nat × Ob)), given σ st l → ∀ k o, look? l k = some o → k < σ.length ∧ look? st.obj (sig σ 0 k) = some (o.ren (sig σ 0)) ∧ obOk σ.length o
  | [], _, k, o, hk => by cases hk
  | (j, o') :: l, h, k, o, hk => by
    simp only [look?] at hk
    cases hb : k == j
    · rw [hb] at hk
      exact given_get l h.2.2.2 k o hk
    · have e : k = j := by simpa using hb
      subst e
      rw [hb] at hk
      simp only [cond_true, Option.some.injEq] at hk
      subst hk
      exact ⟨h.1, h.2.1, h.2.2.1⟩
theorem look?_restO (σ : List Nat) : ∀ (l : List (Nat × Ob)) (k : Nat), look? (restO σ l) k = if k ∈ σ then none else look? l k
  | [], k => by simp [restO, look?]
  | (j, o) :: l, k => by
    simp only [restO]
    cases hc : σ.contains j
    · have hj : j ∉ σ := by simpa using hc
      simp only [cond_false, look?, look?_restO σ l k]
      cases hb : k == j
      · simp
      · have e : k = j := by simpa using hb
        subst e
        simp [hj]
    · have hj : j ∈ σ := by simpa using hc
      simp only [cond_true, look?, look?_restO σ l k]
      by_cases hk : k ∈ σ
      · simp [hk]
      · have hb : (k == j) = false := beq_eq_false_iff_ne.2 (fun e => hk (e ▸ hj))
        simp [hk, hb]
theorem keysNd_restO (σ : List Nat) : ∀ (l : List (Nat × Ob)), keysNd l → keysNd (restO σ l)
  | [], _ => trivial
  | (j, o) :: l, h => by
    simp only [restO]
    cases hc : σ.contains j
    · exact ⟨by rw [look?_restO, h.1]; simp, keysNd_restO σ l h.2⟩
    · exact keysNd_restO σ l h.2
theorem look?_append {α : Type} : ∀ (l l' : List (Nat × α)) (k : Nat), look? (l ++ l') k = (look? l k).or (look? l' k)
  | [], l', k => by simp [look?]
  | (j, o) :: l, l', k => by
    simp only [List.cons_append, look?, look?_append l l' k]
    cases k == j <;> simp


theorem sig_lt {σ : List Nat} {nx j : Nat} (hj : j < σ.length) : sig σ nx j = σ[j] := by
  simp [sig, hj]
theorem sig_ge {σ : List Nat} {nx j : Nat} (hj : σ.length ≤ j) : sig σ nx j = nx + (j - σ.length) := by
  simp [sig, hj]
theorem look?_renO (f : Nat → Nat) : ∀ (l : List (Nat × Ob)) (k : Nat) (o : Ob), look? (renO f l) k = some o → ∃ j o', look? l j = some o' ∧ f j = k ∧ o = o'.ren f
  | [], k, o, h => by cases h
  | (j, o') :: l, k, o, h => by
    simp only [renO, look?] at h
    cases hb : k == f j
    · rw [hb, cond_false] at h
      obtain ⟨i, oi, h1, h2, h3⟩ := look?_renO f l k o h
      have hne : (i == j) = false := beq_eq_false_iff_ne.2 (fun e => by subst e; rw [h2] at hb; simp at hb)
      exact ⟨i, oi, by simp [look?, hne, h1], h2, h3⟩
    · rw [hb, cond_true] at h
      have e : k = f j := by simpa using hb
      exact ⟨j, o', by simp [look?], e.symm, by injection h with h; exact h.symm⟩
theorem look?_renO_none (f : Nat → Nat) : ∀ (l : List (Nat × Ob)) (k : Nat), (∀ j o, look? l j = some o → f j ≠ k) → look? (renO f l) k = none := by
  intro l k h
  cases hq : look? (renO f l) k with
  | none => rfl
  | some o =>
    obtain ⟨j, o', h1, h2, _⟩ := look?_renO f l k o hq
    exact absurd h2 (h j o' h1)
theorem keysNd_renO (f : Nat → Nat) : ∀ (l : List (Nat × Ob)), keysNd l → (∀ i j o o', look? l i = some o → look? l j = some o' → f i = f j → i = j) → keysNd (renO f l)
  | [], _, _ => trivial
  | (j, o) :: l, h, hinj => by
    have hj : look? ((j, o) :: l) j = some o := by simp [look?]
    have hsub : ∀ i oi, look? l i = some oi → i ≠ j ∧ look? ((j, o) :: l) i = some oi := by
      intro i oi hi
      have hne : i ≠ j := fun e => by subst e; rw [h.1] at hi; cases hi
      exact ⟨hne, by simp [look?, beq_eq_false_iff_ne.2 hne, hi]⟩
    refine ⟨look?_renO_none f l (f j) (fun i oi hi e => ?_), keysNd_renO f l h.2 (fun i i' oi oi' hi hi' e => hinj i i' oi oi' (hsub i oi hi).2 (hsub i' oi' hi').2 e)⟩
    exact (hsub i oi hi).1 (hinj i j oi o (hsub i oi hi).2 hj e)
theorem keysNd_app : ∀ (l l' : List (Nat × Ob)), keysNd l → keysNd l' → (∀ k o, look? l k = some o → look? l' k = none) → keysNd (l ++ l')
  | [], l', _, h', _ => h'
  | (j, o) :: l, l', h, h', hd => by
    refine ⟨?_, keysNd_app l l' h.2 h' (fun k ok hk => hd k ok ?_)⟩
    · show look? (l ++ l') j = none
      rw [look?_append, h.1, hd j o (by simp [look?])]; rfl
    · have hne : k ≠ j := fun e => by subst e; rw [h.1] at hk; cases hk
      simp [look?, beq_eq_false_iff_ne.2 hne, hk]
theorem rowsOf_cons (σ : List Nat) (j : Nat) (o : Ob) (l : List (Nat × Ob)) : rowsOf σ ((j, o) :: l) = if o.isRow then sig σ 0 j :: rowsOf σ l else rowsOf σ l := by
  cases o <;> rfl
theorem rowsOf_mem {σ : List Nat} : ∀ (l : List (Nat × Ob)), keysNd l → ∀ k, k ∈ rowsOf σ l → ∃ j o, look? l j = some o ∧ o.isRow = true ∧ k = sig σ 0 j
  | [], _, k, h => by cases h
  | (j, o) :: l, hnd, k, h => by
    have tail : k ∈ rowsOf σ l → ∃ i o', look? ((j, o) :: l) i = some o' ∧ o'.isRow = true ∧ k = sig σ 0 i := fun h => by
      obtain ⟨i, o', h1, h2, h3⟩ := rowsOf_mem l hnd.2 k h
      have hne : i ≠ j := fun e => by subst e; rw [hnd.1] at h1; cases h1
      exact ⟨i, o', by simp [look?, beq_eq_false_iff_ne.2 hne, h1], h2, h3⟩
    rw [rowsOf_cons] at h
    split at h
    · rename_i hr
      rcases List.mem_cons.1 h with rfl | h
      · exact ⟨j, o, by simp [look?], hr, rfl⟩
      · exact tail h
    · exact tail h
theorem mem_rowsOf {σ : List Nat} : ∀ (l : List (Nat × Ob)) (j : Nat) (o : Ob), look? l j = some o → o.isRow = true → sig σ 0 j ∈ rowsOf σ l
  | [], j, o, h, _ => by cases h
  | (i, o') :: l, j, o, h, hr => by
    simp only [look?] at h
    rw [rowsOf_cons]
    cases hb : j == i
    · rw [hb, cond_false] at h
      have := mem_rowsOf (σ := σ) l j o h hr
      split
      · exact List.mem_cons_of_mem _ this
      · exact this
    · rw [hb, cond_true] at h
      have e' : j = i := by simpa using hb
      subst e'
      injection h with h
      subst h
      rw [if_pos hr]
      exact List.mem_cons_self ..
/-- All that is handed over is told. -/
def fullO (obs : List (Nat × Ob)) : Nat → Prop
  | 0 => True
  | n + 1 => (look? obs n).isSome = true ∧ fullO obs n
theorem fullO_get {obs : List (Nat × Ob)} : ∀ (n : Nat), fullO obs n → ∀ j, j < n → ∃ o, look? obs j = some o
  | 0, _, j, h => by omega
  | n + 1, hf, j, h => by
    by_cases e : j = n
    · subst e; exact Option.isSome_iff_exists.1 hf.1
    · exact fullO_get n hf.2 j (by omega)

/-- No name twice. -/
def ndN : List Nat → Prop
  | [] => True
  | k :: l => memN k l = false ∧ ndN l
def idxN (k : Nat) : List Nat → Option Nat
  | [] => none
  | j :: l => bif k == j then some 0 else (idxN k l).map (· + 1)
theorem ndN_inj : ∀ (l : List Nat), ndN l → ∀ i j, i < l.length → j < l.length → l[i]? = l[j]? → i = j
  | [], _, i, j, hi, _, _ => by simp at hi
  | k :: l, h, 0, 0, _, _, _ => rfl
  | k :: l, h, 0, j + 1, _, hj, e => by
    simp only [List.getElem?_cons_zero, List.getElem?_cons_succ] at e
    exact absurd (List.mem_of_getElem? e.symm) ((memN_false k l).1 h.1)
  | k :: l, h, i + 1, 0, hi, _, e => by
    simp only [List.getElem?_cons_zero, List.getElem?_cons_succ] at e
    exact absurd (List.mem_of_getElem? e) ((memN_false k l).1 h.1)
  | k :: l, h, i + 1, j + 1, hi, hj, e => by
    simp only [List.getElem?_cons_succ] at e
    rw [ndN_inj l h.2 i j (by simpa using hi) (by simpa using hj) e]
theorem idxN_get : ∀ (l : List Nat) (k j : Nat), idxN k l = some j → j < l.length ∧ l[j]? = some k
  | [], k, j, h => by cases h
  | i :: l, k, j, h => by
    simp only [idxN] at h
    cases hb : k == i
    · rw [hb, cond_false] at h
      obtain ⟨q, hq, rfl⟩ := Option.map_eq_some_iff.1 h
      obtain ⟨h1, h2⟩ := idxN_get l k q hq
      exact ⟨by simpa using h1, by simpa using h2⟩
    · rw [hb, cond_true] at h
      have e : k = i := by simpa using hb
      injection h with h
      subst h
      subst e
      simp
theorem idxN_some : ∀ (l : List Nat), ndN l → ∀ (j k : Nat), l[j]? = some k → idxN k l = some j
  | [], _, j, k, h => by simp at h
  | i :: l, hnd, 0, k, h => by simp at h; subst h; simp [idxN]
  | i :: l, hnd, j + 1, k, h => by
    simp only [List.getElem?_cons_succ] at h
    have hne : k ≠ i := fun e => by subst e; exact absurd (List.mem_of_getElem? h) ((memN_false k l).1 hnd.1)
    simp [idxN, beq_eq_false_iff_ne.2 hne, idxN_some l hnd.2 j k h]

theorem PCall.use {E : Value → Ending} {f : FuncId} {args : List TV} {obs : List (Nat × Ob)} {n n' : Nat} {R : TV → List (Nat × Ob) → Prop} (hc : PCE E P f args obs n n' R) (σ : List Nat) {A : List TV} {st : St} {K : TV → St → Prop}
    (hσ : σ.length = n) (hnd : ndN σ) (hlt : ∀ k ∈ σ, k < st.nx) (hA : argsle σ A args) (hobs : given σ st obs) (hkn : keysNd obs) (hfull : fullO obs n)
    (hK : ∀ t obs', R t obs' → K (t.ren (sig σ st.nx)) (after σ st obs obs' n')) : PCallE E P m f A st K := by
  subst hσ
  refine ⟨hc.1, fun κ N a vs hr hm hl hargs => ?_⟩
  obtain ⟨hAl, hAg⟩ := argsle_get A args hA
  have hgv := given_get obs hobs
  have hnx := hr.nx
  -- the callee's world
  let Fc : Nat → Prop := fun b => κ.F b ∨ ∃ k o, look? st.obj k = some o ∧ k ∉ σ ∧ Own (κ.tk k) b
  let κc : Kx := ⟨κ.w, κ.prot, ⟨Fc, κ.F.bd⟩, fun j => κ.tk (sig σ 0 j), σ.length⟩
  have hσmem : ∀ j, j < σ.length → sig σ 0 j ∈ σ := fun j hj => by rw [sig_lt hj]; exact List.getElem_mem hj
  have hσinj : ∀ i j, i < σ.length → j < σ.length → sig σ 0 i = sig σ 0 j → i = j := by
    intro i j hi hj e
    rw [sig_lt hi, sig_lt hj] at e
    exact ndN_inj σ hnd i j hi hj (by rw [List.getElem?_eq_getElem hi, List.getElem?_eq_getElem hj, e])
  have hnF : ∀ j o b, look? obs j = some o → Own (κ.tk (sig σ 0 j)) b → ¬ Fc b := by
    intro j o b hj hb hF
    obtain ⟨h1, h2, _⟩ := hgv j o hj
    rcases hF with hF | ⟨k, o', hk, hks, hkb⟩
    · exact ((hr.o.obs _ _ h2).2.lt hb).2 hF
    · exact hr.o.dis _ _ _ _ h2 hk (fun e => hks (e ▸ hσmem j h1)) b hb hkb
  have hOc : RelO κc obs := by
    refine ⟨fun k o hk => ?_, fun k o k' o' hk hk' hne b hb hb' => ?_, hkn, hr.o.prot, fun b hb => ?_⟩
    · obtain ⟨h1, h2, h3⟩ := hgv k o hk
      refine ⟨h1, ?_⟩
      have hob := (hr.o.obs _ _ h2).2
      cases o with
      | box ty cs =>
        obtain ⟨b, us, e1, e2, e3, e4, e5, e6, e7⟩ := hob
        refine ⟨b, us, e1, e2, by rw [e3, renC_length], fun j c u hcj hu => ?_, e5, hnF k _ b hk (by rw [e1]; rfl), e7⟩
        exact (e4 j (c.ren (sig σ 0)) u (by rw [renC_get, hcj]; rfl) hu).unren (κ := κ) (f := sig σ 0) (κc := κc) rfl rfl rfl (fun _ _ => rfl) (csOk_get cs h3 c (List.mem_of_getElem? hcj))
      | row e sz =>
        rcases hob with hob | ⟨b, nn, c, cur, e1, e2, e3, e4, e5, e6, e7⟩
        · exact .inl hob
        · exact .inr ⟨b, nn, c, cur, e1, e2, e3, e4, e5, hnF k _ b hk (by rw [e1]; rfl), e7⟩
      | map kt vt es =>
        obtain ⟨b, ms, clock, e1, e2, e3, e4, e6, e7⟩ := hob
        refine ⟨b, ms, clock, e1, e2, by rw [e3, renE_length], fun j p e hp' he => ?_, hnF k _ b hk (by rw [e1]; rfl), e7⟩
        have := e4 j (p.1, p.2.ren (sig σ 0)) e (by rw [renE_get, hp']; rfl) he
        exact ⟨this.1, this.2.unren (κ := κ) (f := sig σ 0) (κc := κc) rfl rfl rfl (fun _ _ => rfl) (envOk_mem es h3 p (List.mem_of_getElem? hp'))⟩
      | mrow e sz xs =>
        obtain ⟨A, c, us, e1, e2, e3, e4, e5, hm⟩ := hob
        refine ⟨A, c, us, e1, e2, e3, e4, e5, ?_⟩
        rcases hm with hm | ⟨b, cur, rfl, f1, f2, f3, f4, f5, f6, f7⟩
        · exact .inl hm
        · exact .inr ⟨b, cur, rfl, f1, f2, f3, f4, f5, hnF k _ b hk (by rw [e1]; rfl), f7⟩
      | lrow e sz v xs =>
        obtain ⟨e0, ei, hob⟩ := hob
        refine ⟨e0, ei, ?_⟩
        rcases hob with hob | ⟨b, nn, c, cur, e1, e2, e3, e4, e5, e6, e7⟩
        · exact .inl hob
        · exact .inr ⟨b, nn, c, cur, e1, e2, e3, e4, e5, hnF k _ b hk (by rw [e1]; rfl), e7⟩
      | pins e rs =>
        obtain ⟨e1, e2, e3⟩ := hob
        refine ⟨e1, e2, fun b xs hx => ?_⟩
        obtain ⟨us, g1, g2, g3, g4, g5, g6⟩ := e3 b xs hx
        exact ⟨us, g1, g2, g3, g4, hnF k _ b hk (by rw [e1]; exact (own_pins rs b).2 ⟨xs, hx⟩), g6⟩
      | lp s ps as bd env =>
        obtain ⟨b, d, fn, tmps, e1, e2, e3, e6, e7⟩ := hob
        refine ⟨b, d, fn, tmps, e1, e2, ⟨e3.1, fun i => ?_⟩, hnF k _ b hk (by rw [e1]; rfl), e7⟩
        have := e3.2 i
        rw [look_eq, look?_renE] at this
        rw [look_eq]
        cases hq : look? env i with
        | none => exact .any _
        | some t =>
          rw [hq] at this
          exact TVR.unren (κ := κ) (f := sig σ 0) (κc := κc) rfl rfl rfl (fun _ _ => rfl) this (envOk_get env h3 i t hq)
    · obtain ⟨h1, h2, _⟩ := hgv k o hk
      obtain ⟨h1', h2', _⟩ := hgv k' o' hk'
      exact hr.o.dis _ _ _ _ h2 h2' (fun e => hne (hσinj k k' h1 h1' e)) b hb hb'
    · rcases hb with hb | ⟨k, o, hk, _, hkb⟩
      · exact hr.o.fr b hb
      · exact ((hr.o.obs k o hk).2.lt hkb).1
  have hcall := hc.2 κc vs hOc rfl (by rw [hl, hAl]) (fun j t v ht hv => by
    obtain ⟨t0, h0, hle, hok⟩ := hAg j t ht
    exact ((hargs j t0 v h0 hv).le hle).unren (κ := κ) (f := sig σ 0) (κc := κc) rfl rfl rfl (fun _ _ => rfl) hok)
  refine Calls.mono hcall ?_
  rintro e w' ⟨κ1, v, t, obs', rfl, rfl, hO', hobok, hn', he, hk, hok, ht, hR⟩
  have hnn : σ.length ≤ n' := by rw [← hn']; exact hk.n
  -- the caller's names behind the call
  let tk2 : Nat → Value := fun k => if k < st.nx then (match idxN k σ with | some j => κ1.tk j | none => κ.tk k) else κ1.tk (k - st.nx + σ.length)
  let κ2 : Kx := ⟨κ1.w, κ1.prot, κ.F, tk2, st.nx + (n' - σ.length)⟩
  have hidx : ∀ j, j < σ.length → idxN (sig σ 0 j) σ = some j := by
    intro j hj
    rw [sig_lt hj]
    exact idxN_some σ hnd j _ (List.getElem?_eq_getElem hj)
  have hsig : ∀ j, j < σ.length → sig σ st.nx j = sig σ 0 j := fun j hj => by rw [sig_lt hj, sig_lt hj]
  have T1 : ∀ j, j < n' → sig σ st.nx j < κ2.n ∧ κ1.tk j = κ2.tk (sig σ st.nx j) := by
    intro j hj
    by_cases h : j < σ.length
    · have h1 : sig σ 0 j < st.nx := hlt _ (hσmem j h)
      rw [hsig j h]
      refine ⟨Nat.lt_of_lt_of_le h1 (Nat.le_add_right _ _), ?_⟩
      show _ = tk2 _
      simp only [tk2, if_pos h1, hidx j h]
    · rw [sig_ge (by omega)]
      refine ⟨by show _ < st.nx + (n' - σ.length); omega, ?_⟩
      show _ = tk2 _
      have e1 : ¬ st.nx + (j - σ.length) < st.nx := by omega
      have e2 : st.nx + (j - σ.length) - st.nx + σ.length = j := by omega
      simp only [tk2, if_neg e1, e2]
  have T3 : ∀ k, k ∈ rowsOf σ obs → isPtr (κ.tk k) = false ∧ k ∈ σ := by
    intro k hkr
    obtain ⟨j, o, hj, hro, rfl⟩ := rowsOf_mem obs hkn k hkr
    obtain ⟨h1, h2, _⟩ := hgv j _ hj
    refine ⟨?_, hσmem j h1⟩
    have hob := (hr.o.obs _ _ h2).2
    cases o with
    | row e sz =>
      rcases hob with h0 | ⟨b, nn, c, cur, e1, _⟩
      · rw [h0]; rfl
      · rw [e1]; rfl
    | lrow e sz v xs =>
      obtain ⟨_, _, h0 | ⟨b, nn, c, cur, e1, _⟩⟩ := hob
      · rw [h0]; rfl
      · rw [e1]; rfl
    | box _ _ => cases hro
    | map _ _ _ => cases hro
    | mrow _ _ _ => cases hro
    | pins _ _ => cases hro
    | lp _ _ _ _ _ => cases hro
  have T2 : ∀ k, k < κ.n → k ∉ rowsOf σ obs → κ2.tk k = κ.tk k := by
    intro k hkn' hkr
    rw [hnx] at hkn'
    show tk2 k = _
    simp only [tk2, if_pos hkn']
    cases hi : idxN k σ with
    | none => rfl
    | some j =>
      simp only
      obtain ⟨hj, hjk⟩ := idxN_get σ k j hi
      have hjk' : sig σ 0 j = k := by rw [sig_lt hj]; rw [List.getElem?_eq_getElem hj] at hjk; injection hjk
      obtain ⟨o, ho⟩ := fullO_get _ hfull j hj
      obtain ⟨h1, h2, _⟩ := hgv j o ho
      cases o with
      | row e sz => exact absurd (hjk' ▸ mem_rowsOf obs j _ ho rfl) hkr
      | lrow e sz v xs => exact absurd (hjk' ▸ mem_rowsOf obs j _ ho rfl) hkr
      | box ty cs =>
        obtain ⟨b, us, e1, _⟩ := (hr.o.obs _ _ h2).2
        have hp : isPtr (κc.tk j) = true := by show isPtr (κ.tk (sig σ 0 j)) = true; rw [e1]; rfl
        rw [hk.tk j hj hp]
        show κ.tk (sig σ 0 j) = _
        rw [hjk']
      | map kt vt es =>
        obtain ⟨b, ms, clock, e1, _⟩ := (hr.o.obs _ _ h2).2
        have hp : isPtr (κc.tk j) = true := by show isPtr (κ.tk (sig σ 0 j)) = true; rw [e1]; rfl
        rw [hk.tk j hj hp]
        show κ.tk (sig σ 0 j) = _
        rw [hjk']
      | mrow e sz xs =>
        obtain ⟨A, c, us, e1, _⟩ := (hr.o.obs _ _ h2).2
        have hp : isPtr (κc.tk j) = true := by show isPtr (κ.tk (sig σ 0 j)) = true; rw [e1]; rfl
        rw [hk.tk j hj hp]
        show κ.tk (sig σ 0 j) = _
        rw [hjk']
      | pins e rs =>
        obtain ⟨e1, _⟩ := (hr.o.obs _ _ h2).2
        have hp : isPtr (κc.tk j) = true := by show isPtr (κ.tk (sig σ 0 j)) = true; rw [e1]; rfl
        rw [hk.tk j hj hp]
        show κ.tk (sig σ 0 j) = _
        rw [hjk']
      | lp s ps as bd env =>
        obtain ⟨b, d, fn, tmps, e1, _⟩ := (hr.o.obs _ _ h2).2
        have hp : isPtr (κc.tk j) = true := by show isPtr (κ.tk (sig σ 0 j)) = true; rw [e1]; rfl
        rw [hk.tk j hj hp]
        show κ.tk (sig σ 0 j) = _
        rw [hjk']
  have he2 : Ext κ κ2 := ⟨he.os, he.tape, he.output, he.size, ⟨fun _ h => h, rfl⟩, fun b hb => he.fr b (.inl hb), he.prot, fun x hx => (he.np x hx).imp id (fun h hF => h (.inl hF))⟩
  have hn2 : κ.n ≤ κ2.n := by show κ.n ≤ st.nx + _; omega
  have hdT : ∀ (t : TV) (v : Value), TVR κ t v → TVR κ2 (demT (rowsOf σ obs) t) v := fun t v h => h.dem he2 hn2 T2 (fun k hk => (T3 k hk).1)
  have hkey : ∀ j o, look? obs' j = some o → j < n' := fun j o hj => by rw [← hn']; exact (hO'.obs j o hj).1
  have hinj : ∀ i j, i < n' → j < n' → sig σ st.nx i = sig σ st.nx j → i = j := by
    intro i j hi hj e
    by_cases h1 : i < σ.length <;> by_cases h2 : j < σ.length
    · rw [hsig i h1, hsig j h2] at e; exact hσinj i j h1 h2 e
    · rw [hsig i h1, sig_ge (σ := σ) (nx := st.nx) (j := j) (by omega)] at e
      have := hlt _ (hσmem i h1)
      omega
    · rw [hsig j h2, sig_ge (σ := σ) (nx := st.nx) (j := i) (by omega)] at e
      have := hlt _ (hσmem j h2)
      omega
    · rw [sig_ge (σ := σ) (nx := st.nx) (j := i) (by omega), sig_ge (σ := σ) (nx := st.nx) (j := j) (by omega)] at e; omega
  have hrest : ∀ k o, look? (demO (rowsOf σ obs) (restO σ st.obj)) k = some o → k ∉ σ ∧ k < st.nx ∧ ∃ o0, look? st.obj k = some o0 ∧ o = demB (rowsOf σ obs) o0 := by
    intro k o hko
    rw [look?_demO, look?_restO] at hko
    split at hko
    · cases hko
    · rename_i hks
      obtain ⟨o0, h0, rfl⟩ := Option.map_eq_some_iff.1 hko
      exact ⟨hks, by rw [← hnx]; exact (hr.o.obs k o0 h0).1, o0, h0, rfl⟩
  have hren : ∀ k o, look? (renO (sig σ st.nx) obs') k = some o → ∃ j o', look? obs' j = some o' ∧ j < n' ∧ sig σ st.nx j = k ∧ o = o'.ren (sig σ st.nx) := by
    intro k o hko
    obtain ⟨j, o', h1, h2, h3⟩ := look?_renO _ _ _ _ hko
    exact ⟨j, o', h1, hkey j o' h1, h2, h3⟩
  have hdisj : ∀ k o, look? (renO (sig σ st.nx) obs') k = some o → look? (demO (rowsOf σ obs) (restO σ st.obj)) k = none := by
    intro k o hko
    obtain ⟨j, o', h1, h2, h3, _⟩ := hren k o hko
    cases hq : look? (demO (rowsOf σ obs) (restO σ st.obj)) k with
    | none => rfl
    | some o2 =>
      obtain ⟨g1, g2, _⟩ := hrest k o2 hq
      by_cases h : j < σ.length
      · rw [hsig j h] at h3
        exact absurd (h3 ▸ hσmem j h) g1
      · rw [sig_ge (by omega)] at h3
        omega
  have hblkR : ∀ k o0, look? st.obj k = some o0 → k ∉ σ → ∀ b, Own (κ.tk k) b → Fc b := fun k o0 h0 hks b hb => .inr ⟨k, o0, h0, hks, hb⟩
  refine ⟨κ2, v, t.ren (sig σ st.nx), after σ st obs obs' n', rfl, rfl, ⟨⟨fun k o hko => ?_, fun k o k' o' hko hko' hne b hb hb' => ?_, ?_, hO'.prot, fun b hb => ?_⟩, fun i => ?_, hr.size, dfx he2 hr.nodef, rfl⟩, he2, ⟨by show m ≤ st.nx + _; omega, fun k hkm hp => ?_⟩, ?_, hK t obs' hR⟩
  · -- objects
    simp only [after, look?_append] at hko
    cases hq : look? (renO (sig σ st.nx) obs') k with
    | some o1 =>
      rw [hq] at hko
      simp only [Option.some_or, Option.some.injEq] at hko
      subst hko
      obtain ⟨j, o', h1, h2, rfl, rfl⟩ := hren k o1 hq
      obtain ⟨g1, g2⟩ := T1 j h2
      refine ⟨g1, ?_⟩
      have hob := (hO'.obs j o' h1).2
      have hFF : ∀ b, ¬ κ1.F b → ¬ κ2.F b := fun b h hF => h (he.F.1 b (.inl hF))
      cases o' with
      | box ty cs =>
        obtain ⟨b, us, e1, e2, e3, e4, e5, e6, e7⟩ := hob
        refine ⟨b, us, by rw [← g2]; exact e1, e2, by rw [e3, renC_length], fun i c u hci hu => ?_, e5, hFF b e6, e7⟩
        rw [renC_get] at hci
        obtain ⟨c0, hc0, rfl⟩ := Option.map_eq_some_iff.1 hci
        exact (e4 i c0 u hc0 hu).doren (κ := κ2) (κc := κ1) (f := sig σ st.nx) rfl rfl hn' T1 (csOk_get cs (hobok j _ h1) c0 (List.mem_of_getElem? hc0))
      | row e sz =>
        rcases hob with hob | ⟨b, nn, c, cur, e1, e2, e3, e4, e5, e6, e7⟩
        · exact .inl (by rw [← g2]; exact hob)
        · exact .inr ⟨b, nn, c, cur, by rw [← g2]; exact e1, e2, e3, e4, e5, hFF b e6, e7⟩
      | map kt vt es =>
        obtain ⟨b, ms, clock, e1, e2, e3, e4, e6, e7⟩ := hob
        refine ⟨b, ms, clock, by rw [← g2]; exact e1, e2, by rw [e3, renE_length], fun i p e hp' he' => ?_, hFF b e6, e7⟩
        rw [renE_get] at hp'
        obtain ⟨p0, hp0, rfl⟩ := Option.map_eq_some_iff.1 hp'
        exact ⟨(e4 i p0 e hp0 he').1, (e4 i p0 e hp0 he').2.doren (κ := κ2) (κc := κ1) (f := sig σ st.nx) rfl rfl hn' T1 (envOk_mem es (hobok j _ h1) p0 (List.mem_of_getElem? hp0))⟩
      | mrow e sz xs =>
        obtain ⟨A, c, us, e1, e2, e3, e4, e5, hm⟩ := hob
        refine ⟨A, c, us, by rw [← g2]; exact e1, e2, e3, e4, e5, ?_⟩
        rcases hm with hm | ⟨b, cur, rfl, f1, f2, f3, f4, f5, f6, f7⟩
        · exact .inl hm
        · exact .inr ⟨b, cur, rfl, f1, f2, f3, f4, f5, hFF b f6, f7⟩
      | lrow e sz v xs =>
        obtain ⟨e0, ei, hob⟩ := hob
        refine ⟨by rw [← g2]; exact e0, ei, ?_⟩
        rcases hob with hob | ⟨b, nn, c, cur, e1, e2, e3, e4, e5, e6, e7⟩
        · exact .inl (by rw [← g2]; exact hob)
        · exact .inr ⟨b, nn, c, cur, by rw [← g2]; exact e1, e2, e3, e4, e5, hFF b e6, e7⟩
      | pins e rs =>
        obtain ⟨e1, e2, e3⟩ := hob
        refine ⟨by rw [← g2]; exact e1, e2, fun b xs hx => ?_⟩
        obtain ⟨us, q1, q2, q3, q4, q5, q6⟩ := e3 b xs hx
        exact ⟨us, q1, q2, q3, q4, hFF b q5, q6⟩
      | lp s ps as bd env =>
        obtain ⟨b, d, fn, tmps, e1, e2, e3, e6, e7⟩ := hob
        refine ⟨b, d, fn, tmps, by rw [← g2]; exact e1, e2, ⟨e3.1, fun i => ?_⟩, hFF b e6, e7⟩
        have := e3.2 i
        rw [look_eq] at this
        rw [look_eq, look?_renE]
        cases hq : look? env i with
        | none => exact .any _
        | some t =>
          rw [hq] at this
          exact TVR.doren (κ := κ2) (κc := κ1) (f := sig σ st.nx) rfl rfl hn' T1 this (envOk_get env (hobok j _ h1) i t hq)
    | none =>
      rw [hq, Option.none_or] at hko
      obtain ⟨g1, g2, o0, g3, rfl⟩ := hrest k o hko
      obtain ⟨f1, f2⟩ := hr.o.obs k o0 g3
      refine ⟨Nat.lt_of_lt_of_le f1 hn2, f2.dem he2 (fun _ h => h) hn2 T2 (fun k hk => (T3 k hk).1) f1 (fun hkr => g1 (T3 k hkr).2) (fun b hb => he.fr b (hblkR k o0 g3 g1 b hb)) (fun x hx => ?_)⟩
      rcases he.np x hx with hx | hx
      · exact .inl hx
      · exact .inr fun b hb e => hx (e ▸ hblkR k o0 g3 g1 b hb)
  · -- apart
    simp only [after, look?_append] at hko hko'
    have side : ∀ k o, (look? (renO (sig σ st.nx) obs') k).or (look? (demO (rowsOf σ obs) (restO σ st.obj)) k) = some o →
        (∃ j o', look? obs' j = some o' ∧ j < n' ∧ sig σ st.nx j = k ∧ κ2.tk k = κ1.tk j) ∨ (∃ o0, look? st.obj k = some o0 ∧ k ∉ σ ∧ κ2.tk k = κ.tk k) := by
      intro k o hko
      cases hq : look? (renO (sig σ st.nx) obs') k with
      | some o1 =>
        obtain ⟨j, o', h1, h2, rfl, _⟩ := hren k o1 hq
        exact .inl ⟨j, o', h1, h2, rfl, (T1 j h2).2.symm⟩
      | none =>
        rw [hq, Option.none_or] at hko
        obtain ⟨g1, g2, o0, g3, _⟩ := hrest k o hko
        exact .inr ⟨o0, g3, g1, T2 k (hr.o.obs k o0 g3).1 (fun hkr => g1 (T3 k hkr).2)⟩
    have cross : ∀ j o' k o0 b, look? obs' j = some o' → Own (κ1.tk j) b → look? st.obj k = some o0 → k ∉ σ → Own (κ.tk k) b → False := by
      intro j o' k o0 b h1 h2 h3 h4 h5
      exact ((hO'.obs j o' h1).2.lt h2).2 (he.F.1 b (hblkR k o0 h3 h4 b h5))
    rcases side k o hko with ⟨j, oj, h1, h2, h3, h4⟩ | ⟨o0, h1, h2, h3⟩ <;> rcases side k' o' hko' with ⟨j', oj', h1', h2', h3', h4'⟩ | ⟨o0', h1', h2', h3'⟩
    · rw [h4] at hb
      rw [h4'] at hb'
      exact hO'.dis j oj j' oj' h1 h1' (fun e => hne (by rw [← h3, ← h3', e])) b hb hb'
    · rw [h4] at hb
      rw [h3'] at hb'
      exact cross j oj k' o0' b h1 hb h1' h2' hb'
    · rw [h3] at hb
      rw [h4'] at hb'
      exact cross j' oj' k o0 b h1' hb' h1 h2 hb
    · rw [h3] at hb
      rw [h3'] at hb'
      exact hr.o.dis k o0 k' o0' h1 h1' hne b hb hb'
  · exact keysNd_app _ _ (keysNd_renO _ _ hO'.nd (fun i j o o' hi hj e => hinj i j (hkey i o hi) (hkey j o' hj) e)) (keysNd_demO _ _ (keysNd_restO _ _ hr.o.nd)) hdisj
  · exact Nat.lt_of_lt_of_le (hr.o.fr b hb) he.size
  · have := hdT _ _ (hr.env i)
    simp only [St.get, after, look_eq, look?_demE] at this ⊢
    cases hl : look? st.env i with
    | none => exact .any _
    | some q => rw [hl] at this; simpa using this
  · by_cases hkr : k ∈ rowsOf σ obs
    · rw [(T3 k hkr).1] at hp; cases hp
    · exact T2 k (by omega) hkr
  · exact ht.doren (κ := κ2) (κc := κ1) (f := sig σ st.nx) rfl rfl hn' T1 hok
end
end Go.PL
