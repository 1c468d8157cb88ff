/- REGIONS WHOSE ORDER IS DRAWN, AND WHOSE OPERATIONS LEAVE WHAT WAS THERE AS IT WAS. -/
import Derived.Test.YtmocgjimlhgejaaKB10
namespace Go.PL
open Go.RowKit (Below)
set_option linter.unusedSimpArgs false
set_option linter.unusedVariables false
section
variable {P : Program} {κ κ' : Kx} {N m : Nat}

/-- A value that is told to the last bit. -/
def litL : List TV → Option (List Value)
  | [] => some []
  | .iv (.lit v) :: l => (litL l).map (v :: ·)
  | _ => none
def TV.lit? : TV → Option Value
  | .iv (.lit v) => some v
  | .tup ts => (litL ts).map fun vs => .tuple vs.toArray
  | _ => none
theorem litL_ok : ∀ (ts : List TV) (vs : List Value), litL ts = some vs → vs.length = ts.length ∧ ∀ (j : Nat) (t : TV) (v : Value), ts[j]? = some t → vs[j]? = some v → t = .iv (.lit v)
  | [], vs, h => by simp [litL] at h; subst h; simp
  | t :: ts, vs, h => by
    unfold litL at h
    split at h
    · rename_i e
      cases e
    · rename_i v l e
      simp only [List.cons.injEq] at e
      obtain ⟨rfl, rfl⟩ := e
      obtain ⟨ws, hw, rfl⟩ := Option.map_eq_some_iff.1 h
      obtain ⟨h1, h2⟩ := litL_ok ts ws hw
      refine ⟨by simp [h1], fun j t u ht hu => ?_⟩
      cases j with
      | zero => simp at ht hu; subst ht; subst hu; rfl
      | succ j => simp at ht hu; exact h2 j t u ht hu
    · cases h
theorem lit?_eq {t : TV} {v u : Value} (hl : t.lit? = some v) (h : TVR κ t u) : u = v := by
  cases t with
  | iv x =>
    cases x <;> simp [TV.lit?] at hl
    subst hl
    exact ivlit h
  | tup ts =>
    simp only [TV.lit?] at hl
    obtain ⟨vs, hvs, rfl⟩ := Option.map_eq_some_iff.1 hl
    obtain ⟨h1, h2⟩ := litL_ok ts vs hvs
    cases h with
    | tup _ us hlu hh =>
      congr 2
      apply List.ext_getElem?
      intro j
      by_cases hj : j < us.length
      · have e1 : us[j]? = some (us[j]) := List.getElem?_eq_getElem hj
        have e2 : vs[j]? = some (vs[j]'(by omega)) := List.getElem?_eq_getElem (by omega)
        have e3 : ts[j]? = some (ts[j]'(by omega)) := List.getElem?_eq_getElem (by omega)
        have := hh j _ _ e3 e1
        rw [h2 j _ _ e3 e2] at this
        rw [e1, e2, ivlit this]
      · rw [List.getElem?_eq_none (by omega), List.getElem?_eq_none (by omega)]
  | _ => simp [TV.lit?] at hl
theorem lit?_mk {t : TV} {v : Value} (hl : t.lit? = some v) : TVR κ t v := by
  cases t with
  | iv x =>
    cases x <;> simp [TV.lit?] at hl
    subst hl
    exact .iv _ _ (.lit _)
  | tup ts =>
    simp only [TV.lit?] at hl
    obtain ⟨vs, hvs, rfl⟩ := Option.map_eq_some_iff.1 hl
    obtain ⟨h1, h2⟩ := litL_ok ts vs hvs
    refine .tup ts vs h1 (fun j c u hc hu => ?_)
    rw [h2 j c u hc hu]
    exact .iv _ _ (.lit _)
  | _ => simp [TV.lit?] at hl

/-- What grows out of a world, all that was there left as it was. -/
def Kx.at_ (κ : Kx) (w : World) : Kx := { κ with w := w }
theorem Ext.below (hp : ∀ a, κ.prot a → (κ.w.cell? a).isSome = true) (hf : ∀ b, κ.F b → b < κ.w.heap.size) {w : World} (hb : Below κ.w.heap.size κ.w w) : Ext κ (κ.at_ w) :=
  ⟨hb.os, hb.tape, hb.output, hb.size, ⟨fun _ h => h, rfl⟩, fun b h => hb.block b (hf b h), fun a ha => ⟨ha, hb.cell (prot_lt hp ha)⟩, fun _ h => .inl h⟩
theorem Rel.below {st : St} {a : Act} (h : Rel κ N st a) {w : World} (hb : Below κ.w.heap.size κ.w w) : Rel (κ.at_ w) N st a ∧ Ext κ (κ.at_ w) := by
  have he := Ext.below h.o.prot h.o.fr hb
  refine ⟨⟨⟨fun k o hk => ?_, h.o.dis, h.o.nd, fun a ha => ?_, fun b hb' => Nat.lt_of_lt_of_le (h.o.fr b hb') hb.size⟩, fun i => (h.env i).mono he (Nat.le_refl _) (fun _ _ => rfl), h.size, dfx he h.nodef, h.nx⟩, he⟩
  · obtain ⟨h1, h2⟩ := h.o.obs k o hk
    exact ⟨h1, h2.keep he (fun _ h => h) (Nat.le_refl _) (fun _ _ => rfl) h1 (fun b hb' => hb.block b (h2.lt hb').1) (fun a ha => .inl ha)⟩
  · show (w.cell? a).isSome = true
    rw [hb.cell (prot_lt h.o.prot ha)]
    exact h.o.prot a ha

/-- A call that answers one and the same in every world that has grown out of this one, and leaves all as it was. -/
def QCall (P : Program) (f : FuncId) (args : List TV) (t : TV) : Prop :=
  Callable P f ∧ ∀ (κ : Kx) (vs : List Value), (∀ a, κ.prot a → (κ.w.cell? a).isSome = true) → vs.length = args.length → (∀ (j : Nat) (t : TV) (v : Value), args[j]? = some t → vs[j]? = some v → TVR κ t v) →
    ∃ v, TVR κ t v ∧ ∀ w', Below κ.w.heap.size κ.w w' → Calls P f vs.toArray w' (fun e w'' => e = .returned v ∧ Below w'.heap.size w' w'')
theorem PC.quiet {f : FuncId} {args : List TV} {n' : Nat} {R : TV → List (Nat × Ob) → Prop} (hc : PC P f args [] 0 n' R) {t : TV} {v : Value} (hR : ∀ t' obs, R t' obs → t' = t) (hl : t.lit? = some v) (hok : csOk 0 args) : QCall P f args t := by
  refine ⟨hc.1, fun κ vs hp hlen hargs => ⟨v, lit?_mk hl, fun w' hb => ?_⟩⟩
  let κ1 : Kx := ⟨w', κ.prot, ⟨fun b => b < w'.heap.size, (0, [])⟩, κ.tk, 0⟩
  have hp' : ∀ a, κ.prot a → κ.prot a ∧ w'.cell? a = κ.w.cell? a := fun a ha => ⟨ha, hb.cell (prot_lt hp ha)⟩
  have h1 : RelO κ1 [] := ⟨fun k o hk => (by cases hk), fun k o k' o' hk => (by cases hk), trivial, fun a ha => by show (w'.cell? a).isSome = true; rw [(hp' a ha).2]; exact hp a ha, fun b hb => hb⟩
  have hcall := hc.2 κ1 vs h1 rfl hlen (fun j t u ht hu => by
    have e1 := ((hargs j t u ht hu).cutN (csOk_get args hok t (List.mem_of_getElem? ht)))
    exact TVR.monoP (κ := { κ with n := 0 }) (κ' := κ1) hp' (Nat.le_refl _) (fun _ _ => rfl) e1)
  refine Calls.mono hcall ?_
  rintro e w'' ⟨κ2, u, t', obs', rfl, rfl, _, _, _, he2, _, _, ht', hRt⟩
  have e := hR t' obs' hRt
  subst e
  exact ⟨by rw [lit?_eq hl ht'], ⟨he2.os, he2.tape, he2.output, he2.size, fun k hk => he2.fr k hk⟩⟩

/-- Operations that may stand in a region that draws its order. -/
def drawable : Op → Bool
  | .alloc _ | .box _ _ | .store _ _ _ | .makeMap _ _ | .mapUpdate _ _ _ _ | .buildSlice _ _ _ | .call ⟨.builtin .append, _, _⟩ | .call ⟨.builtin .delete, _, _⟩ | .makeSlice _ _ _ | .convert _ _ _ => false
  | _ => true
def allDraw : List Oper → Bool
  | [] => true
  | o :: l => drawable o.op && allDraw l
def QG (P : Program) : Cal → List TV → St → (TV → St → Prop) → Prop
  | .fn f, args, st, K => ∃ args' t, QCall P f args' t ∧ argsle [] args args' ∧ t.okN 0 = true ∧ K t st
  | _, _, _, _ => False

theorem ren_nil {t : TV} (h : t.okN 0 = true) (f : Nat → Nat) : t.ren f = t := by
  have h1 : ∀ t : TV, t.ok1 0 = true → t.ren1 f = t := by
    intro t ht
    cases t <;> simp [TV.ok1] at ht <;> rfl
  have hL : ∀ l : List TV, l.all (TV.ok1 0) = true → renL f l = l := by
    intro l
    induction l with
    | nil => intro _; rfl
    | cons t l ih =>
      intro hl
      simp only [List.all_cons, Bool.and_eq_true] at hl
      simp [renL, h1 t hl.1, ih hl.2]
  cases t with
  | clo g caps => simp only [TV.okN] at h; simp [TV.ren, hL caps h]
  | tup ts => simp only [TV.okN] at h; simp [TV.ren, hL ts h]
  | wh b t => simp [TV.okN, TV.ok1] at h
  | acc k sz xs => simp [TV.okN, TV.ok1] at h
  | bptr k off => simp [TV.okN, TV.ok1] at h
  | mptr k => simp [TV.okN, TV.ok1] at h
  | mrow k => simp [TV.okN, TV.ok1] at h
  | eptr k sz i off => simp [TV.okN, TV.ok1] at h
  | yld k => simp [TV.okN, TV.ok1] at h
  | _ => rfl

/-- Operations in the order of the text, each quiet. -/
theorem wpD_ok {τ : Nat → TD} (hτ : TOK P τ) {all : List Oper} {K : St → Prop} {Q : Act → Prop} {κ : Kx} (hQ : ∀ st' a', Rel κ N st' a' → K st' → Q a') : ∀ (l : List Oper) (st : St) (a : Act), Rel κ N st a → dstOK N l = true → allDraw l = true → wpO (QG P) τ all l st K →
    wpQuiet P all.toArray (fun w => Below κ.w.heap.size κ.w w) Q l a
  | [], st, a, h, _, _, hw => by
    simp only [wpO] at hw
    exact hQ st a h hw
  | o :: l, st, a, h, hdst, hdr, hw => by
    simp only [dstOK, Bool.and_eq_true] at hdst
    simp only [allDraw, Bool.and_eq_true] at hdr
    obtain ⟨hd1, hd2⟩ := hdst
    obtain ⟨hr1, hr2⟩ := hdr
    have hd : ∀ i, o.dst = some i → i < N := by
      intro i hi
      rw [hi] at hd1
      simpa using hd1
    have next : ∀ st1 a1, Rel κ N st1 a1 → wpO (QG P) τ all l st1 K → wpQuiet P all.toArray (fun w => Below κ.w.heap.size κ.w w) Q l a1 := fun st1 a1 h1 hw1 => wpD_ok hτ hQ l st1 a1 h1 hd2 hr2 hw1
    have quiet' : ∀ (r : Prop × TV), quiet τ st o.op = some r → r.1 → ∃ v, (∀ w, Below κ.w.heap.size κ.w w → o.quietAt P a (fun w => Below κ.w.heap.size κ.w w) w v) ∧ TVR κ r.2 v := by
      intro r hq hC
      obtain ⟨u, hr, ht⟩ := quiet_ok (C := r.1) (r := r.2) hτ h hq hC
      refine ⟨u, fun w hb => ?_, ht⟩
      unfold Oper.quietAt
      rw [hr w (Sees.below h.o hb)]
      exact ⟨rfl, rfl⟩
    have exec : exO (QG P) τ o st (fun st' => wpO (QG P) τ all l st' K) → o.quiet P a (fun w => Below κ.w.heap.size κ.w w) (wpQuiet P all.toArray (fun w => Below κ.w.heap.size κ.w w) Q l) := by
      intro hx
      unfold exO at hx
      unfold step at hx
      cases hq : quiet τ st o.op with
      | some r =>
        rw [hq] at hx
        simp only at hx
        obtain ⟨v, hv, ht⟩ := quiet' r hq hx.1
        exact ⟨v, hv, next _ _ (h.putQ ht hd) hx.2⟩
      | none =>
        rw [hq] at hx
        simp only at hx
        have hx' : exO (QG P) τ o st (fun st' => wpO (QG P) τ all l st' K) := by unfold exO step; rw [hq]; exact hx
        unfold exO at hx'
        split at hx'
        · rename_i C t st' hs
          exfalso
          unfold step at hs
          rw [hq] at hs
          simp only at hs
          split at hs
          · rename_i hop; rw [hop] at hr1; simp [drawable] at hr1
          · rename_i hop; rw [hop] at hr1; simp [drawable] at hr1
          · rename_i hop; rw [hop] at hr1; simp [drawable] at hr1
          · rename_i hop; rw [hop] at hr1; simp [drawable] at hr1
          · rename_i hop; rw [hop] at hr1; simp [drawable] at hr1
          · rename_i hop; rw [hop] at hr1; simp [drawable] at hr1
          · rename_i hop; rw [hop] at hr1; simp [drawable] at hr1
          · rename_i hop; rw [hop] at hr1; simp [drawable] at hr1
          · split at hs <;> cases hs
          · rename_i hop; rw [hop] at hr1; simp [drawable] at hr1
          · rename_i hop; rw [hop] at hr1; simp [drawable] at hr1
          · split at hs
            · split at hs <;> cases hs
            · cases hs
          · cases hs
        · rename_i C f args hs
          obtain ⟨hC, hx1⟩ := hx'
          obtain ⟨fo, xs, ts, hop, ⟨g, caps, hf, rfl, rfl, rfl⟩ | ⟨k, hf, rfl, rfl, rfl⟩⟩ | ⟨t, x, y, k, e, e', sz, xs, n, hop, hkd, hxx, hl, hy, rfl, rfl⟩ | ⟨t, n, c, e, i, j, K', rs, hop, hkd, hn, hc, hp, rfl, rfl⟩ | ⟨t, u, x, y, e, sy, ys, k, sz, v, v', xs, hop, hkd, hx, hyr, hp, rfl, rfl⟩ := step_call hs
          · obtain ⟨A', t, hqc, hle, hok, hK⟩ := hx1
            obtain ⟨vs, hexec, hlen, hrel⟩ := call_exec h hop hf hC hqc.1
            obtain ⟨hAl, hAg⟩ := argsle_get _ _ hle
            obtain ⟨v, htv, hcall⟩ := hqc.2 κ vs h.o.prot (by rw [hlen, hAl]) (fun j t v ht hv => by
              obtain ⟨t0, h0, hle', hok'⟩ := hAg j t ht
              rw [ren_nil hok'] at hle'
              exact (hrel j t0 v h0 hv).le hle')
            refine ⟨v, fun w hb => ?_, next _ _ (h.putQ htv hd) hK⟩
            unfold Oper.quietAt
            rw [hexec w]
            refine ⟨rfl, Calls.mono (hcall w hb) ?_⟩
            rintro e w'' ⟨rfl, hb2⟩
            exact ⟨rfl, hb.trans (hb2.mono hb.size)⟩
          · exact hx1.elim
          · exact hx1.elim
          · exact hx1.elim
          · exact hx1.elim
        · exact hx'.elim
    simp only [wpO] at hw
    unfold wpQuiet
    split at hw
    · rename_i hg
      rw [if_pos (by simp [Region.wanted, hg])]
      exact exec hw
    · rename_i j want hg
      split at hw
      · rename_i c hgc
        have hslot : ∃ d, gslot all j = some d ∧ gcond (st.get d) want = some c := by
          cases hs : gslot all j with
          | none => rw [hs] at hgc; cases hgc
          | some d => rw [hs] at hgc; exact ⟨d, rfl, hgc⟩
        obtain ⟨d, hsl, hgc'⟩ := hslot
        have hwant := guard_ok h hsl hgc' hg
        rw [hwant]
        split at hw
        · rename_i r hq
          cases c with
          | true =>
            rw [if_pos rfl]
            obtain ⟨v, hv, ht⟩ := quiet' r hq (hw.1 rfl).1
            exact ⟨v, hv, next _ _ (h.putQ (.wh _ _ _ (fun _ => ht.strip (hw.1 rfl).2) (fun q => by cases q)) hd) hw.2⟩
          | false =>
            rw [if_neg (by simp)]
            exact next _ _ (h.putQ (TVR.undef κ _ _ _ rfl rfl) hd) hw.2
        · cases c with
          | true =>
            rw [if_pos rfl]
            exact exec (hw.1 rfl)
          | false =>
            rw [if_neg (by simp)]
            exact next _ _ (h.putQ (.any _) hd) (hw.2 rfl)
      · exact hw.elim

theorem PWp.draw {id : Nat} {τ : Nat → TD} (hτ : TOK P τ) (hmx : P.follows .mixedOrders = true) {l : List Oper} {Q : Exit → St → Prop} {st : St} (hB : Region.lexB .any l.toArray = true) (hd : dstOK N l = true) (hq : allDraw l = true)
    (h : ∀ K : St → Prop, (∀ st', Q .normal st' → K st') → wpO (QG P) τ l l st K) : PWp P N m (.region id l.toArray true) Q st := by
  intro κ a hr hm
  refine wpIn_wide.2 ?_
  refine wp_region_quiet (C := fun w => Below κ.w.heap.size κ.w w) hmx hB ⟨rfl, rfl, rfl, Nat.le_refl _, fun _ _ => rfl⟩ ?_
  refine wpD_ok hτ (all := l) (K := fun st' => Q .normal st') ?_ l st a hr hd hq (h _ (fun _ q => q))
  intro st' a' h' hK w' hb
  obtain ⟨h2, he⟩ := h'.below hb
  exact ⟨κ.at_ w', st', rfl, h2, he, ⟨hm, fun _ _ _ => rfl⟩, hK⟩
end
end Go.PL
