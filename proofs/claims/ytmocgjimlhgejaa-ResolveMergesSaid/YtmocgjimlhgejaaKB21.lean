/- FUNCTIONS WHOSE RESULT LIES IN A VARIABLE. -/
import Derived.Test.YtmocgjimlhgejaaKB20
namespace Go.PL
open Go.RowKit (Below)
set_option linter.unusedSimpArgs false
set_option linter.unusedVariables false
section
variable {P : Program} {κ κ' : Kx} {N m : Nat}
theorem PC.bodyG {f : FuncId} {args : List TV} {obs : List (Nat × Ob)} {n n' : Nat} {R : TV → List (Nat × Ob) → Prop} {fn : Func} {c : Code} (F : St → TV → Prop) (hf : P.funcs[f]? = some fn) (hb : fn.body = some c) (hname : (fn.name == "runtime.NumGoroutine") = false)
    (hlen : args.length ≤ fn.ntmps) (hres : ∀ (κ1 : Kx) (st1 : St) (a1 : Act) (t : TV), Rel κ1 fn.ntmps st1 a1 → F st1 t → ∃ v, (results fn a1.tmps).run P κ1.w = .ok v κ1.w ∧ TVR κ1 t v)
    (h : PWp P fn.ntmps n c (fun e st' => (e = .normal ∨ e = .ret) ∧ n ≤ n' ∧ ∃ t obs', (F st' t ∧ t.okN n' = true ∧ obsle st' n' obs' ∧ keysNd obs') ∧ R t obs') ⟨enumA 0 args, obs, n⟩) : PC P f args obs n n' R := by
  refine ⟨⟨fn, c, hf, hb, hname⟩, fun κ vs hO hn hl hargs => ?_⟩
  have hsz : (vs.toArray ++ Array.replicate (fn.ntmps - vs.toArray.size) undef).size = fn.ntmps := by simp; omega
  let κ0 : Kx := { κ with F := ⟨κ.F.p, (κ.w.heap.size, [])⟩ }
  have hT0 : ∀ t v, TVR κ t v → TVR κ0 t v := fun t v h => TVR.monoP (κ := κ) (κ' := κ0) (h := h) (fun a ha => ⟨ha, rfl⟩) (Nat.le_refl _) (fun _ _ => rfl)
  have hO0 : RelO κ0 obs := by
    refine ⟨fun k o hk => ⟨(hO.obs k o hk).1, ?_⟩, hO.dis, hO.nd, hO.prot, hO.fr⟩
    have h2' := (hO.obs k o hk).2
    cases o with
    | box ty cs =>
      obtain ⟨b, us, e1, e2, e3, e4, e5⟩ := h2'
      exact ⟨b, us, e1, e2, e3, fun j c u hc hu => hT0 _ _ (e4 j c u hc hu), e5⟩
    | row e sz => exact h2'
    | map kt vt es =>
      obtain ⟨b, ms, clock, e1, e2, e3, e4, e5⟩ := h2'
      exact ⟨b, ms, clock, e1, e2, e3, fun j p e hp' he => ⟨(e4 j p e hp' he).1, hT0 _ _ (e4 j p e hp' he).2⟩, e5⟩
    | mrow e sz xs => exact h2'
    | pins e rs => exact h2'
    | lrow e sz v xs => exact h2'
    | lp s ps as bd env =>
      obtain ⟨b, d, fn, tmps, e1, e2, e3, e4⟩ := h2'
      exact ⟨b, d, fn, tmps, e1, e2, ⟨e3.1, fun i => hT0 _ _ (e3.2 i)⟩, e4⟩
  have hrel : Rel κ0 fn.ntmps ⟨enumA 0 args, obs, n⟩ { tmps := vs.toArray ++ Array.replicate (fn.ntmps - vs.toArray.size) undef, defers := [] } := by
    refine ⟨hO0, fun i => ?_, hsz, ⟨Nat.le_refl _, [], rfl, List.nodup_nil, by simp⟩, hn⟩
    simp only [St.get, look_eq, look?_enumA, Nat.zero_le, if_true, Nat.sub_zero]
    cases ha : args[i]? with
    | none => exact .any _
    | some t =>
      have hi : i < vs.length := by rw [hl]; exact (List.getElem?_eq_some_iff.1 ha).1
      have hv : vs[i]? = some (vs[i]) := List.getElem?_eq_getElem hi
      have := hT0 _ _ (hargs i t _ ha hv)
      simp only [Option.getD_some]
      rw [Array.getD_eq_getD_getElem?, Array.getElem?_append_left (by simpa using hi)]
      simpa [hi] using this
  refine callsIn_wide.1 (callsIn_of_wp_marks (n := 0) hf hb trivial (wpIn_mono (F := Fence.wide) (h κ0 _ hrel (by show n ≤ κ.n; rw [hn]; exact Nat.le_refl _)) ?_))
  rintro e a' w' ⟨κ', st', rfl, h', he, hk, hend, hnn, t, obs', ⟨hf1, hf2, hf3, hf4⟩, hR⟩
  obtain ⟨_, Ds, hds, hDnd, hDD⟩ := h'.nodef
  have hd0 : κ'.F.bd.2 = [] := by rw [he.F.2]
  rw [hd0, List.append_nil] at hds
  have hcut0 := h'.o.le hf3 hf4
  have hsh := hcut0.shut (Ds := Ds) (fun D hD => ⟨(hDD D hD).1, (hDD D hD).2.2⟩)
  obtain ⟨s1, s2, s3, s4, s5⟩ := shutD_spec Ds κ'.w
  let κ'' : Kx := { κ' with w := shutD κ'.w Ds, n := n', F := ⟨κ'.F.p, κ.F.bd⟩ }
  have hTs : ∀ t v, TVR { κ' with n := n' } t v → TVR κ'' t v := fun t v h => TVR.monoP (κ := { κ' with n := n' }) (κ' := κ'') (h := h) (fun a ha => ⟨ha, hsh.2 a ha⟩) (Nat.le_refl _) (fun _ _ => rfl)
  have hcut : RelO κ'' obs' := by
    refine ⟨fun k o hk => ⟨(hsh.1.obs k o hk).1, ?_⟩, hsh.1.dis, hsh.1.nd, hsh.1.prot, hsh.1.fr⟩
    have h2' := (hsh.1.obs k o hk).2
    have hT2 : ∀ t v, TVR { κ' with w := shutD κ'.w Ds, n := n' } t v → TVR κ'' t v := fun t v h => TVR.monoP (κ := { κ' with w := shutD κ'.w Ds, n := n' }) (κ' := κ'') (h := h) (fun a ha => ⟨ha, rfl⟩) (Nat.le_refl _) (fun _ _ => rfl)
    cases o with
    | box ty cs =>
      obtain ⟨b, us, e1, e2, e3, e4, e5⟩ := h2'
      exact ⟨b, us, e1, e2, e3, fun j c u hc hu => hT2 _ _ (e4 j c u hc hu), e5⟩
    | row e sz => exact h2'
    | map kt vt es =>
      obtain ⟨b, ms, clock, e1, e2, e3, e4, e5⟩ := h2'
      exact ⟨b, ms, clock, e1, e2, e3, fun j p e hp' he => ⟨(e4 j p e hp' he).1, hT2 _ _ (e4 j p e hp' he).2⟩, e5⟩
    | mrow e sz xs => exact h2'
    | pins e rs => exact h2'
    | lrow e sz v xs => exact h2'
    | lp s ps as bd env =>
      obtain ⟨b, d, fn, tmps, e1, e2, e3, e4⟩ := h2'
      exact ⟨b, d, fn, tmps, e1, e2, ⟨e3.1, fun i => hT2 _ _ (e3.2 i)⟩, e4⟩
  have hDnew : ∀ D ∈ Ds, κ.w.heap.size ≤ D := fun D hD => by have := (hDD D hD).2.1; rw [he.F.2] at this; exact this
  have he' : Ext κ κ'' := by
    refine ⟨s1.trans he.os, s2.trans he.tape, s3.trans he.output, by show κ.w.heap.size ≤ (shutD κ'.w Ds).heap.size; rw [s4]; exact he.size, ⟨fun b hb => he.F.1 b hb, rfl⟩, fun b hb => ?_, fun a ha => ⟨(he.prot a ha).1, (hsh.2 a (he.prot a ha).1).trans (he.prot a ha).2⟩, he.np⟩
    refine (s5 b (fun hm => ?_)).trans (he.fr b hb)
    have := hO.fr b hb
    have := hDnew b hm
    omega
  suffices hpost : ∃ v, (results fn a'.tmps).run P (shutD κ'.w Ds) = .ok v (shutD κ'.w Ds) ∧ ∃ κ2 v' t obs', Ending.returned v = .returned v' ∧ κ2.w = shutD κ'.w Ds ∧ RelO κ2 obs' ∧ (∀ k o, look? obs' k = some o → obOk n' o) ∧ κ2.n = n' ∧ Ext κ κ2 ∧ Keep n κ κ2 ∧ t.okN n' = true ∧ TVR κ2 t v' ∧ R t obs' by
    rcases hend with rfl | rfl <;> (show LeavesInM Fence.wide 0 P fn a'.tmps _ a'.defers .returning κ'.w; rw [hds]; exact leaves_marks Ds κ'.w hDnd (fun D hD => (hDD D hD).2.2) hpost)
  · have hrels : Rel { κ' with w := shutD κ'.w Ds } fn.ntmps st' { a' with defers := [] } := by
      have hs0 := h'.o.shut (Ds := Ds) (fun D hD => ⟨(hDD D hD).1, (hDD D hD).2.2⟩)
      refine ⟨hs0.1, fun i => TVR.monoP (κ := κ') (κ' := { κ' with w := shutD κ'.w Ds }) (h := h'.env i) (fun a ha => ⟨ha, hs0.2 a ha⟩) (Nat.le_refl _) (fun _ _ => rfl), h'.size, ⟨?_, [], hd0.symm, List.nodup_nil, by simp⟩, h'.nx⟩
      show κ'.F.bd.1 ≤ (shutD κ'.w Ds).heap.size
      rw [s4]
      exact h'.nodef.1
    obtain ⟨v, hv, htv⟩ := hres _ st' _ t hrels hf1
    refine ⟨v, hv, κ'', _, t, obs', rfl, rfl, hcut, obsle_ok obs' hf3, rfl, he', ⟨hnn, hk.tk⟩, hf2, ?_, hR⟩
    exact TVR.monoP (κ := { κ' with w := shutD κ'.w Ds, n := n' }) (κ' := κ'') (h := TVR.cutN (κ := { κ' with w := shutD κ'.w Ds }) (n := n') htv hf2) (fun a ha => ⟨ha, rfl⟩) (Nat.le_refl _) (fun _ _ => rfl)
/-- What a function answers whose result is a variable. -/
def finL (st : St) (t : TV) : Option (Prop × TV) → Prop
  | some p => p.1 ∧ TVle p.2 t
  | none => False
def finB (st : St) (d : TD) (t : TV) : TV → Prop
  | .bptr k off => finL st t (loadQ st d (.bptr k off))
  | _ => False
def finC (τ : Nat → TD) (r : Nat) (ty : TypeId) (st : St) (t : TV) : Prop := (τ ty).known = true ∧ finB st (τ ty) t (st.get r)
theorem finC_ok {τ : Nat → TD} (hτ : TOK P τ) {fn : Func} {r : Nat} {ty : TypeId} (hres : fn.results = #[.cell r ty]) (κ1 : Kx) (st1 : St) (a1 : Act) (t : TV) (hr : Rel κ1 N st1 a1) (hF : finC τ r ty st1 t) : ∃ v, (results fn a1.tmps).run P κ1.w = .ok v κ1.w ∧ TVR κ1 t v := by
  obtain ⟨hk, hF⟩ := hF
  have hv := hr.env r
  generalize st1.get r = x at hF hv
  cases x with
  | bptr k off =>
    simp only [finB] at hF
    cases hq : loadQ st1 (τ ty) (.bptr k off) with
    | none => rw [hq] at hF; exact hF.elim
    | some p =>
      rw [hq] at hF
      obtain ⟨hC, hle⟩ := hF
      obtain ⟨u, hu, htu⟩ := load_ok hr.o (hτ ty) hk hv (C := p.1) (r := p.2) hq hC
      refine ⟨u, ?_, htu.le hle⟩
      have h1 := hu κ1.w (Sees.refl _ _)
      have e : results fn a1.tmps = (do let vs ← fn.results.mapM (resF a1.tmps); pure (if h : vs.size = 1 then vs[0] else .tuple vs)) := rfl
      have hm : (resF a1.tmps (.cell r ty)).run P κ1.w = .ok u κ1.w := by
        simp only [resF]
        generalize a1.tmps.getD r undef = v at hv h1
        cases hv with
        | bptr _ _ b hk' hb =>
          simp only [Instr.loadAt, Instr.sureAddr] at h1
          simpa [asAddr] using h1
      have hl : (fn.results.mapM (resF a1.tmps)).run P κ1.w = .ok #[u] κ1.w := by
        rw [hres, show (#[ResultVar.cell r ty] : Array ResultVar) = [ResultVar.cell r ty].toArray from rfl, List.mapM_toArray]
        simp only [Sem.run_map, List.mapM_cons, List.mapM_nil, Sem.run_bind, hm, Result.andThen_ok, Sem.run_pure]
      rw [e, Sem.run_bind, hl]
      simp
  | _ => exact hF.elim
end
attribute [push_cast] finL finB finC
end Go.PL
