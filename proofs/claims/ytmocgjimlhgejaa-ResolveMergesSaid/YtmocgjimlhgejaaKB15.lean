/- REGIONS THAT DRAW THEIR ORDER, WITH CALLS AND NEW MEMORY IN THEM: what only looks at some variables that nobody writes may come first; the rest waits for one another. -/
import Derived.Test.YtmocgjimlhgejaaKB14
import Derived.OrdersHeld
namespace Go.PL
open Go.RowKit (Below)
set_option linter.unusedSimpArgs false
set_option linter.unusedVariables false

def zIn (zs : List Nat) : List (Nat × Ob) → List (Nat × Ob)
  | [] => []
  | (k, o) :: l => bif memN k zs then (k, o) :: zIn zs l else zIn zs l
def zOut (zs : List Nat) : List (Nat × Ob) → List (Nat × Ob)
  | [] => []
  | (k, o) :: l => bif memN k zs then zOut zs l else (k, o) :: zOut zs l
/-- Variables whose cells name no growing row. -/
def zOK (m : Nat) : List (Nat × Ob) → Bool
  | [] => true
  | (_, .box _ cs) :: l => cs.all (fun c => c.kp1 && c.ok1 m) && zOK m l
  | _ => false
/-- The order, checked. -/
def ordB (ops : Array Oper) : List (Bool × Nat) → Array Bool → Bool
  | [], listed => (Region.ready .any ops listed).isEmpty
  | (true, i) :: l, listed => (Region.ready .any ops listed).contains i && Region.free .any ops listed i && ordB ops l (listed.setIfInBounds i true)
  | (false, i) :: l, listed => decide (Region.ready .any ops listed = [i]) && ordB ops l (listed.setIfInBounds i true)
def ordOK (ops : Array Oper) (π : List (Bool × Nat)) : Bool := Region.noSelect ops && decide (π.length = ops.size) && ordB ops π (Array.replicate ops.size false)
/-- What a call in such a region meets. -/
def PGd (P : Program) (m : Nat) : Cal → List TV → St → (TV → St → Prop) → Prop
  | .fn f, args, st, K => PCall P m f args st K
  | .yl _, _, _, _ => False
  | .ct k o, _, st, K => K (.mrow st.nx) (st.moved k o)
  | .pn _ _ _ _, _, _, _ => False
  | .la k e sz xs, _, st, K => ∀ v, v.oneCell' = true → K (.iv (.lit v)) ((st.dem k).setOb k (.lrow e sz v xs))
def wpZ (G : Cal → List TV → St → (TV → St → Prop) → Prop) (τ : Nat → TD) (z : List (Nat × Ob)) (all : List Oper) : List (Bool × Nat) → St → (St → Prop) → Prop
  | [], st, K => K st
  | (q, i) :: l, st, K =>
    match all[i]? with
    | none => False
    | some o =>
      match o.guard with
      | none => bif q then (match quiet τ ⟨st.env, z, st.nx⟩ o.op with | some r => r.1 ∧ wpZ G τ z all l (st.put o.dst r.2) K | none => False) else exO G τ o st (fun st' => wpZ G τ z all l st' K)
      | some (j, want) => match (match gslot all j with | some d => gcond (st.get d) want | none => none) with
        | some c => bif q then (match quiet τ ⟨st.env, z, st.nx⟩ o.op with | some r => (c = true → r.1 ∧ r.2.pre) ∧ wpZ G τ z all l (st.put o.dst (.wh c r.2.strip)) K | none => False)
          else (c = true → exO G τ o st (fun st' => wpZ G τ z all l st' K)) ∧ (c = false → wpZ G τ z all l (st.put o.dst .any) K)
        | none => False
section
variable {P : Program} {N m : Nat}
theorem wpAnyH_mono {ops : Array Oper} {md : Region.Mode} {Q : Exit → Act → World → Prop} {S S' : World → Prop} (h : ∀ w, S' w → S w) : ∀ (fuel : Nat) (listed : Array Bool) (a : Act) (w : World), wpAnyH P md ops Q S' fuel listed a w → wpAnyH P md ops Q S fuel listed a w
  | 0, _, _, _, hh => hh
  | fuel + 1, _, _, _, hh => ⟨hh.1, fun i hi => wpOp_mono (fun a' w' h' => ⟨h w' h'.1, wpAnyH_mono h fuel _ a' w' h'.2⟩) (hh.2 i hi)⟩
def noF : Fz := ⟨fun _ => False, (0, [])⟩
theorem TVR.kpm {κ κ' : Kx} (hp : ∀ a, κ.prot a → κ'.prot a ∧ κ'.w.cell? a = κ.w.cell? a) (hk : Keep m κ κ') {t : TV} {v : Value} (h : TVR κ t v) (hf : t.kp1 = true) (hm : t.ok1 m = true) : TVR κ' t v := by
  have tk : ∀ k, k < m → isPtr (κ.tk k) = true → κ'.tk k = κ.tk k := hk.tk
  have lt : ∀ {k}, k < m → k < κ'.n := fun h => Nat.lt_of_lt_of_le h hk.n
  cases h with
  | any v => exact .any v
  | iv x v h => exact .iv x v (h.mono hp)
  | nilsl => exact .nilsl
  | nsl sz xs ad n c h => exact .nsl sz xs ad n c (h.mono hp)
  | acc k sz xs hk h => simp [TV.kp1] at hf
  | bptr k off b hk h =>
    have hm : k < m := by simpa [TV.ok1] using hm
    exact .bptr k off b (lt hm) (by rw [tk k hm (by rw [h]; rfl)]; exact h)
  | mptr k b hk h =>
    have hm : k < m := by simpa [TV.ok1] using hm
    exact .mptr k b (lt hm) (by rw [tk k hm (by rw [h]; rfl)]; exact h)
  | mrow k A n c hk h =>
    have hm : k < m := by simpa [TV.ok1] using hm
    exact .mrow k A n c (lt hm) (by rw [tk k hm (by rw [h]; rfl)]; exact h)
  | eptr k sz i off b n c hk h =>
    have hm : k < m := by simpa [TV.ok1] using hm
    exact .eptr k sz i off b n c (lt hm) (by rw [tk k hm (by rw [h]; rfl)]; exact h)
  | yld k b hk h =>
    have hm : k < m := by simpa [TV.ok1] using hm
    exact .yld k b (lt hm) (by rw [tk k hm (by rw [h]; rfl)]; exact h)
  | rptr cs ad us hl h1 ha h =>
    refine .rptr cs ad us hl h1 (fun j u hu => ?_) fun j c u hc hu => (h j c u hc hu).mono hp
    obtain ⟨hc, hq⟩ := ha j u hu
    exact ⟨by rw [(hp _ hq).2]; exact hc, (hp _ hq).1⟩
  | clo f caps us hl h => simp [TV.kp1] at hf
  | tup vs us hl h => simp [TV.kp1] at hf
  | wh b t v h hu => simp [TV.kp1] at hf
theorem zOK_get : ∀ (z : List (Nat × Ob)), zOK m z = true → ∀ k o, look? z k = some o → ∃ ty cs, o = .box ty cs ∧ ∀ c ∈ cs, c.kp1 = true ∧ c.ok1 m = true
  | [], _, k, o, h => by simp [look?] at h
  | (i, o') :: l, hz, k, o, h => by
    cases o' with
    | box ty cs =>
      simp only [zOK, Bool.and_eq_true] at hz
      simp only [look?] at h
      cases hk : k == i
      · rw [hk] at h; exact zOK_get l hz.2 k o h
      · rw [hk] at h
        simp only [cond_true, Option.some.injEq] at h
        subst h
        exact ⟨ty, cs, rfl, fun c hc => by simpa using List.all_eq_true.1 hz.1 c hc⟩
    | _ => simp [zOK] at hz
/-- Variables that are looked at, and left alone. -/
structure ZInv (κ : Kx) (m : Nat) (z : List (Nat × Ob)) : Prop where
  o : RelO { κ with F := noF } z
  fz : ∀ k o b, look? z k = some o → Own (κ.tk k) b → κ.F b
  lt : ∀ k o, look? z k = some o → k < m
theorem ZInv.next {κ κ' : Kx} {z : List (Nat × Ob)} (h : ZInv κ m z) (hz : zOK m z = true) (he : Ext κ κ') (hk : Keep m κ κ') (hprot : ∀ a, κ'.prot a → (κ'.w.cell? a).isSome = true) : ZInv κ' m z ∧ ∀ w', Sees κ' z w' → Sees κ z w' := by
  have tk : ∀ k o, look? z k = some o → ∃ b, κ.tk k = .pointer (some ⟨b, 0, none⟩) ∧ κ'.tk k = .pointer (some ⟨b, 0, none⟩) ∧ κ'.w.heap[b]? = κ.w.heap[b]? := by
    intro k o hko
    obtain ⟨ty, cs, rfl, _⟩ := zOK_get z hz k o hko
    obtain ⟨b, us, e1, _⟩ := (h.o.obs k _ hko).2
    have e1' : κ.tk k = .pointer (some ⟨b, 0, none⟩) := e1
    exact ⟨b, e1', by rw [hk.tk k (h.lt k _ hko) (by rw [e1']; rfl)]; exact e1', he.fr b (h.fz k _ b hko (by rw [e1']; rfl))⟩
  refine ⟨⟨⟨fun k o hko => ?_, fun k o k' o' hko hko' hne b hb => ?_, h.o.nd, fun a ha => ?_, fun b hb => hb.elim⟩, fun k o b hko hb => ?_, h.lt⟩, fun w' hs => ⟨fun a ha => (hs.1 a (he.prot a ha).1).trans (he.prot a ha).2, fun b ⟨k, o, hko, hb⟩ => ?_⟩⟩
  · obtain ⟨b, t1, t2, t3⟩ := tk k o hko
    obtain ⟨ty, cs, rfl, hcs⟩ := zOK_get z hz k o hko
    obtain ⟨b', us, e1, e2, e3, e4, e5, e6, e7⟩ := (h.o.obs k _ hko).2
    have hbb : b' = b := by
      have : κ.tk k = .pointer (some ⟨b', 0, none⟩) := e1
      rw [t1] at this; injection this with this; injection this with this; injection this with this; exact this.symm
    subst hbb
    refine ⟨Nat.lt_of_lt_of_le (h.lt k _ hko) hk.n, b', us, t2, t3.trans e2, e3, fun j c u hc hu => ?_, e5, fun hf => hf.elim, fun a ha => ?_⟩
    · obtain ⟨c1, c2⟩ := hcs c (List.mem_of_getElem? hc)
      have h4 : TVR κ c u := TVR.monoP (κ := { κ with F := noF }) (κ' := κ) (h := e4 j c u hc hu) (fun a ha => ⟨ha, rfl⟩) (Nat.le_refl _) (fun _ _ => rfl)
      have := h4.kpm he.prot hk c1 c2
      exact TVR.monoP (κ := κ') (κ' := { κ' with F := noF }) (h := this) (fun a ha => ⟨ha, rfl⟩) (Nat.le_refl _) (fun _ _ => rfl)
    · intro e
      rcases he.np a ha with hp | hp
      · exact e7 a hp e
      · exact hp (by rw [e]; exact h.fz k _ b' hko (by rw [t1]; rfl))
  · obtain ⟨b1, t1, t2, _⟩ := tk k o hko
    obtain ⟨b2, s1, s2, _⟩ := tk k' o' hko'
    intro hb'
    have hbe : b = b1 := by
      have : Own (κ'.tk k) b := hb
      rw [t2] at this; injection this with this; exact this.symm
    have hbe2 : b = b2 := by
      have : Own (κ'.tk k') b := hb'
      rw [s2] at this; injection this with this; exact this.symm
    subst hbe
    subst hbe2
    exact h.o.dis k o k' o' hko hko' hne b (by show Own (κ.tk k) _; rw [t1]; rfl) (by show Own (κ.tk k') _; rw [s1]; rfl)
  · exact hprot a ha
  · obtain ⟨b1, t1, t2, _⟩ := tk k o hko
    rw [t2] at hb
    injection hb with hb
    subst hb
    exact he.F.1 _ (h.fz k o _ hko (by rw [t1]; rfl))
  · obtain ⟨b1, t1, t2, t3⟩ := tk k o hko
    have hbe : b = b1 := by
      rw [t1] at hb; injection hb with hb; exact hb.symm
    subst hbe
    exact (hs.2 b ⟨k, o, hko, by rw [t2]; rfl⟩).trans t3
/-- What is looked at, in this world and in all that leave it alone. -/
theorem zquiet_ok {τ : Nat → TD} (hτ : TOK P τ) {κ : Kx} {z : List (Nat × Ob)} {st : St} {a : Act} (hr : Rel κ N st a) (hz : ZInv κ m z) {o : Oper} {C : Prop} {r : TV} (hq : quiet τ ⟨st.env, z, st.nx⟩ o.op = some (C, r)) (hC : C) :
    ∃ u, (∀ w', Sees κ z w' → (execOp a.eval o).run P w' = .ok (.value u) w') ∧ TVR κ r u := by
  have hrel : Rel { κ with F := noF } N ⟨st.env, z, st.nx⟩ { a with defers := [] } :=
    ⟨hz.o, fun i => TVR.monoP (κ := κ) (κ' := { κ with F := noF }) (h := hr.env i) (fun a ha => ⟨ha, rfl⟩) (Nat.le_refl _) (fun _ _ => rfl), hr.size, ⟨Nat.zero_le _, [], rfl, List.nodup_nil, by simp⟩, hr.nx⟩
  obtain ⟨u, h1, h2⟩ := quiet_ok hτ hrel hq hC
  exact ⟨u, fun w' hs => h1 w' hs, TVR.monoP (κ := { κ with F := noF }) (κ' := κ) (h := h2) (fun a ha => ⟨ha, rfl⟩) (Nat.le_refl _) (fun _ _ => rfl)⟩
theorem dcall_ok {κ : Kx} {st : St} {a : Act} (h : Rel κ N st a) (hm : m ≤ κ.n) {o : Oper} {fo : Operand} {xs : List Operand} {ts : Array TypeId} (hop : o.op = .call ⟨.value fo, ⟨xs⟩, ts⟩) {g : FuncId} {caps : List TV} (hf : ox st fo = .clo g caps) (hC : op? st fo ∧ args? st xs)
    {K : TV → St → Prop} (hG : PCall P m g (argsOf st xs ++ caps) st K) {next : Act → World → Prop} {Q : Exit → Act → World → Prop} (hn : ∀ κ' v t st', Rel κ' N st' a → Ext κ κ' → Keep m κ κ' → TVR κ' t v → K t st' → next (a.put o.dst v) κ'.w) : o.wp P a κ.w next Q := by
  obtain ⟨vs, hexec, hlen, hrel⟩ := call_exec h hop hf hC hG.1
  unfold Oper.wp
  rw [hexec]
  refine Calls.mono (hG.2 κ N a vs h hm hlen hrel) ?_
  rintro e w' ⟨κ1, v, t, st1, rfl, rfl, h1, he, hk, ht, hK⟩
  exact hn κ1 v t st1 h1 he hk ht hK

theorem wpZ_ok {τ : Nat → TD} (hτ : TOK P τ) {all : List Oper} {z : List (Nat × Ob)} (hz : zOK m z = true) (hd : dstOK N all = true) (hsel : Region.noSelect all.toArray = true) {K : St → Prop} {Q : Act → World → Prop} : ∀ (π : List (Bool × Nat)) (listed : Array Bool) (κ : Kx) (st : St) (a : Act), Rel κ N st a → m ≤ κ.n → ZInv κ m z → ordB all.toArray π listed = true →
    wpZ (PGd P m) τ z all π st K → (∀ κ' st' a', Rel κ' N st' a' → Ext κ κ' → Keep m κ κ' → ZInv κ' m z → K st' → Q a' κ'.w) →
    wpAnyH P .any all.toArray (fun e a w => e = .normal ∧ Q a w) (Sees κ z) π.length listed a κ.w
  | [], listed, κ, st, a, hr, hm, hzi, ho, hw, hQ => by
    simp only [ordB, List.isEmpty_iff] at ho
    exact wpAnyH_done ho ⟨rfl, hQ κ st a hr (Ext.refl κ) (Keep.refl m κ hm) hzi hw⟩ 0
  | (q, i) :: π, listed, κ, st, a, hr, hm, hzi, ho, hw, hQ => by
    unfold wpZ at hw
    split at hw
    · exact hw.elim
    rename_i o hi
    have hdst : ∀ d, o.dst = some d → d < N := by
      intro d hdd
      have : ∀ (l : List Oper), dstOK N l = true → ∀ o ∈ l, ∀ d, o.dst = some d → d < N := by
        intro l
        induction l with
        | nil => intro _ o ho; cases ho
        | cons x l ih =>
          intro h o ho d hod
          simp only [dstOK, Bool.and_eq_true] at h
          rcases List.mem_cons.1 ho with rfl | ho
          · have := h.1; rw [hod] at this; simpa using this
          · exact ih h.2 o ho d hod
      exact this all hd o (List.mem_of_getElem? hi) d hdd
    have hia : all.toArray[i]? = some o := by simpa using hi
    have hprot0 := hr.o.prot
    -- on, from a state in the same world
    have same : ∀ st1 a1, Rel κ N st1 a1 → ordB all.toArray π (listed.setIfInBounds i true) = true → wpZ (PGd P m) τ z all π st1 K → wpAnyH P .any all.toArray (fun e a w => e = .normal ∧ Q a w) (Sees κ z) π.length (listed.setIfInBounds i true) a1 κ.w :=
      fun st1 a1 h1 ho1 hw1 => wpZ_ok hτ hz hd hsel π _ κ st1 a1 h1 hm hzi ho1 hw1 hQ
    have next : ∀ κ1 st1 a1, Rel κ1 N st1 a1 → Ext κ κ1 → Keep m κ κ1 → ordB all.toArray π (listed.setIfInBounds i true) = true → wpZ (PGd P m) τ z all π st1 K → Sees κ z κ1.w ∧ wpAnyH P .any all.toArray (fun e a w => e = .normal ∧ Q a w) (Sees κ z) π.length (listed.setIfInBounds i true) a1 κ1.w := by
      intro κ1 st1 a1 h1 he hk ho1 hw1
      obtain ⟨z1, z2⟩ := hzi.next hz he hk h1.o.prot
      exact ⟨z2 _ (Sees.refl _ _), wpAnyH_mono z2 _ _ _ _ (wpZ_ok hτ hz hd hsel π _ κ1 st1 a1 h1 hk.n z1 ho1 hw1 (fun κ' st' a' h' he' hk' hz' hK => hQ κ' st' a' h' (he.trans he') (hk.trans hk') hz' hK))⟩
    have exec : ordB all.toArray π (listed.setIfInBounds i true) = true → exO (PGd P m) τ o st (fun st' => wpZ (PGd P m) τ z all π st' K) →
        o.wp P a κ.w (fun a' w' => Sees κ z w' ∧ wpAnyH P .any all.toArray (fun e a w => e = .normal ∧ Q a w) (Sees κ z) π.length (listed.setIfInBounds i true) a' w') (fun e a w => e = .normal ∧ Q a w) := by
      intro ho1 hx
      unfold exO at hx
      split at hx
      · rename_i C t st' hs
        obtain ⟨κ1, v, hrun, h1, he, hk⟩ := step_ok hτ hr hs hx.1 hdst
        exact hrun.wp _ _ (next κ1 _ _ h1 he (hk m hm) ho1 hx.2)
      · rename_i C f args hs
        obtain ⟨hC, hG0⟩ := hx
        obtain ⟨fo, xs, ts, hop, ⟨g, caps, hf, rfl, rfl, rfl⟩ | ⟨k, hf, rfl, rfl, rfl⟩⟩ | ⟨t, x, y, k, e, e', sz, xs, n, hop, hkd, hx, hl, hy, rfl, rfl⟩ | ⟨t, n, c, e, i, j, K', rs, hop, hkd, hn, hc, hp, rfl, rfl⟩ | ⟨t, u, x, y, e, sy, ys, k, sz, v, v', xs, hop, hkd, hx, hyr, hp, rfl, rfl⟩ := step_call hs
        · exact dcall_ok hr hm hop hf hC hG0 (fun κ1 v t st1 h1 he hk ht hK => next κ1 _ _ (h1.putQ ht hdst) he hk ho1 hK)
        · exact hG0.elim
        · obtain ⟨κ1, v, hex, hrel, he, hk, ht⟩ := cut_step hτ hr hop hkd hx hl hy hC
          exact (Ex.wp (.inl hex)) _ _ (next κ1 _ _ (hrel.putQ ht hdst) he (hk m hm) ho1 hG0)
        · exact hG0.elim
        · obtain ⟨κ1, v, hv1, hex, hrel, he, hk⟩ := la_step hτ hr hop hkd hx hyr hp hC
          exact (Ex.wp (.inl hex)) _ _ (next κ1 _ _ (hrel.putQ (.iv _ _ (.lit _)) hdst) he (hk m hm) ho1 (hG0 v hv1))
      · exact hx.elim
    cases q with
    | true =>
      simp only [ordB, Bool.and_eq_true] at ho
      obtain ⟨⟨o1, o2⟩, o3⟩ := ho
      have take : ∀ v, YieldsIf P all.toArray (Sees κ z) o v a → wpAnyH P .any all.toArray (fun e a w => e = .normal ∧ Q a w) (Sees κ z) π.length (listed.setIfInBounds i true) (a.put o.dst v) κ.w → wpAnyH P .any all.toArray (fun e a w => e = .normal ∧ Q a w) (Sees κ z) (π.length + 1) listed a κ.w :=
        fun v hy hn => wpAnyH_take hia hsel o2 o1 (fun c a w hh => by cases hh.1) hy (Sees.refl _ _) hn
      split at hw
      · rename_i hg
        simp only [cond_true] at hw
        split at hw
        · rename_i r hq
          obtain ⟨u, hu, ht⟩ := zquiet_ok (C := r.1) (r := r.2) hτ hr hzi hq hw.1
          exact take u (.inl ⟨by simp [Region.wanted, hg], fun w' hs => hu w' hs⟩) (same _ _ (hr.putQ ht hdst) o3 hw.2)
        · exact hw.elim
      · rename_i j want hg
        split at hw
        · rename_i c hgc
          have hslot : ∃ d, gslot all j = some d ∧ gcond (st.get d) want = some c := by
            cases hs : gslot all j with
            | none => rw [hs] at hgc; cases hgc
            | some d => rw [hs] at hgc; exact ⟨d, rfl, hgc⟩
          obtain ⟨d, hsl, hgc'⟩ := hslot
          have hwant := guard_ok hr hsl hgc' hg
          simp only [cond_true] at hw
          split at hw
          · rename_i r hq
            cases c with
            | true =>
              obtain ⟨u, hu, ht⟩ := zquiet_ok (C := r.1) (r := r.2) hτ hr hzi hq (hw.1 rfl).1
              exact take u (.inl ⟨hwant, fun w' hs => hu w' hs⟩) (same _ _ (hr.putQ (.wh _ _ _ (fun _ => ht.strip (hw.1 rfl).2) (fun q => by cases q)) hdst) o3 hw.2)
            | false => exact take Go.undef (.inr ⟨hwant, rfl⟩) (same _ _ (hr.putQ (TVR.undef κ _ _ _ rfl rfl) hdst) o3 hw.2)
          · exact hw.elim
        · exact hw.elim
    | false =>
      simp only [ordB, Bool.and_eq_true, decide_eq_true_eq] at ho
      obtain ⟨o1, o3⟩ := ho
      refine wpAnyH_all o1 (by simp) (fun i' hi' => ?_)
      obtain rfl : i' = i := by simpa using hi'
      unfold wpOp
      simp only [hia]
      split at hw
      · rename_i hg
        simp only [cond_false] at hw
        rw [if_pos (by simp [Region.wanted, hg])]
        exact .inl (exec o3 hw)
      · rename_i j want hg
        split at hw
        · rename_i c hgc
          have hslot : ∃ d, gslot all j = some d ∧ gcond (st.get d) want = some c := by
            cases hs : gslot all j with
            | none => rw [hs] at hgc; cases hgc
            | some d => rw [hs] at hgc; exact ⟨d, rfl, hgc⟩
          obtain ⟨d, hsl, hgc'⟩ := hslot
          have hwant := guard_ok hr hsl hgc' hg
          simp only [cond_false] at hw
          simp only [hwant]
          cases c with
          | true =>
            rw [if_pos rfl]
            exact .inl (exec o3 (hw.1 rfl))
          | false =>
            rw [if_neg (by simp)]
            exact next κ _ _ (hr.putQ (.any _) hdst) (Ext.refl κ) (Keep.refl m κ hm) o3 (hw.2 rfl)
        · exact hw.elim

theorem look?_zIn (zs : List Nat) : ∀ (l : List (Nat × Ob)) (k : Nat), look? (zIn zs l) k = if k ∈ zs then look? l k else none
  | [], k => by simp [zIn, look?]
  | (j, o) :: l, k => by
    simp only [zIn]
    cases hm : memN j zs
    · simp only [cond_false, look?_zIn zs l k, look?]
      cases hk : k == j
      · simp
      · have e : k = j := by simpa using hk
        subst e
        rw [if_neg ((memN_false k zs).1 hm), if_neg ((memN_false k zs).1 hm)]
    · simp only [cond_true, look?, look?_zIn zs l k]
      cases hk : k == j
      · simp
      · have e : k = j := by simpa using hk
        subst e
        simp [(memN_iff k zs).1 hm]
theorem look?_zOut (zs : List Nat) : ∀ (l : List (Nat × Ob)) (k : Nat), look? (zOut zs l) k = if k ∈ zs then none else look? l k
  | [], k => by simp [zOut, look?]
  | (j, o) :: l, k => by
    simp only [zOut]
    cases hm : memN j zs
    · simp only [cond_false, look?_zOut zs l k, look?]
      cases hk : k == j
      · simp
      · have e : k = j := by simpa using hk
        subst e
        simp [(memN_false k zs).1 hm]
    · simp only [cond_true, look?_zOut zs l k, look?]
      cases hk : k == j
      · simp
      · have e : k = j := by simpa using hk
        subst e
        rw [if_pos ((memN_iff k zs).1 hm), if_pos ((memN_iff k zs).1 hm)]
theorem keysNd_zIn (zs : List Nat) : ∀ (l : List (Nat × Ob)), keysNd l → keysNd (zIn zs l)
  | [], h => h
  | (j, o) :: l, h => by
    simp only [zIn]
    cases hm : memN j zs
    · exact keysNd_zIn zs l h.2
    · refine ⟨?_, keysNd_zIn zs l h.2⟩
      rw [look?_zIn, h.1]; simp
theorem keysNd_zOut (zs : List Nat) : ∀ (l : List (Nat × Ob)), keysNd l → keysNd (zOut zs l)
  | [], h => h
  | (j, o) :: l, h => by
    simp only [zOut]
    cases hm : memN j zs
    · refine ⟨?_, keysNd_zOut zs l h.2⟩
      rw [look?_zOut, h.1]; simp
    · exact keysNd_zOut zs l h.2
/-- An object's meaning hangs on the fence only in that its block is none of it. -/
theorem ObR.fence {κ : Kx} {F' : Fz} {k : Nat} {o : Ob} (h : ObR κ k o) (hF : ∀ b, Own (κ.tk k) b → ¬ F' b) : ObR { κ with F := F' } k o := by
  have hT : ∀ t v, TVR κ t v → TVR { κ with F := F' } t v := fun t v h => TVR.monoP (κ := κ) (κ' := { κ with F := F' }) (h := h) (fun a ha => ⟨ha, rfl⟩) (Nat.le_refl _) (fun _ _ => rfl)
  cases o with
  | box ty cs =>
    obtain ⟨b, us, e1, e2, e3, e4, e5, e6, e7⟩ := h
    exact ⟨b, us, e1, e2, e3, fun j c u hc hu => hT _ _ (e4 j c u hc hu), e5, hF b (by rw [e1]; rfl), e7⟩
  | row e sz =>
    rcases h with h0 | ⟨b, n, c, cur, e1, e2, e3, e4, e5, e6, e7⟩
    · exact .inl h0
    · exact .inr ⟨b, n, c, cur, e1, e2, e3, e4, e5, hF b (by rw [e1]; rfl), e7⟩
  | map kt vt es =>
    obtain ⟨b, ms, clock, e1, e2, e3, e4, e5, e6⟩ := h
    exact ⟨b, ms, clock, e1, e2, e3, fun j p e hp' he => ⟨(e4 j p e hp' he).1, hT _ _ (e4 j p e hp' he).2⟩, hF b (by rw [e1]; rfl), e6⟩
  | mrow e sz xs =>
    obtain ⟨A, c, us, e1, e2, e3, e4, e5, hm⟩ := h
    refine ⟨A, c, us, e1, e2, e3, e4, e5, ?_⟩
    rcases hm with hm | ⟨b, cur, rfl, f1, f2, f3, f4, f5, f6, f7⟩
    · exact .inl hm
    · exact .inr ⟨b, cur, rfl, f1, f2, f3, f4, f5, hF b (by rw [e1]; rfl), f7⟩
  | lrow e sz v xs =>
    obtain ⟨e0, ei, h⟩ := h
    refine ⟨e0, ei, ?_⟩
    rcases h with h0 | ⟨b, n, c, cur, e1, e2, e3, e4, e5, e6, e7⟩
    · exact .inl h0
    · exact .inr ⟨b, n, c, cur, e1, e2, e3, e4, e5, hF b (by rw [e1]; rfl), e7⟩
  | pins e rs =>
    obtain ⟨e1, e2, e3⟩ := h
    refine ⟨e1, e2, fun b xs hx => ?_⟩
    obtain ⟨us, g1, g2, g3, g4, g5, g6⟩ := e3 b xs hx
    exact ⟨us, g1, g2, g3, g4, hF b (by rw [e1]; exact (own_pins rs b).2 ⟨xs, hx⟩), g6⟩
  | lp s ps as bd env =>
    obtain ⟨b, d, fn, tmps, e1, e2, e3, e6, e7⟩ := h
    exact ⟨b, d, fn, tmps, e1, e2, ⟨e3.1, fun i => hT _ _ (e3.2 i)⟩, hF b (by rw [e1]; rfl), e7⟩

/-- A region that draws its order: the variables zs are only looked at; π is the order that is walked. -/
theorem PWp.drawZ {id : Nat} {τ : Nat → TD} (hτ : TOK P τ) (hmx : P.follows .mixedOrders = true) {l : List Oper} {Q : Exit → St → Prop} {st : St} (zs : List Nat) (π : List (Bool × Nat)) (hd : dstOK N l = true) (hB : ordOK l.toArray π = true)
    (hz : zOK st.nx (zIn zs st.obj) = true) (hm : m ≤ st.nx) (h : ∀ K : St → Prop, (∀ st', Q .normal ⟨st'.env, zIn zs st.obj ++ st'.obj, st'.nx⟩ → K st') → wpZ (PGd P st.nx) τ (zIn zs st.obj) l π ⟨st.env, zOut zs st.obj, st.nx⟩ K) : PWp P N m (.region id l.toArray true) Q st := by
  intro κ a hr hmκ
  simp only [ordOK, Bool.and_eq_true, decide_eq_true_eq] at hB
  obtain ⟨⟨hsel, hlen⟩, hord⟩ := hB
  refine wpIn_wide.2 ?_
  -- the variables are fenced off
  let zb : Nat → Prop := fun b => ∃ k o, look? (zIn zs st.obj) k = some o ∧ Own (κ.tk k) b
  let W : World := { κ.w with drawn := κ.w.drawn + 1 }
  let κz : Kx := ⟨W, κ.prot, ⟨fun b => κ.F b ∨ zb b, κ.F.bd⟩, κ.tk, κ.n⟩
  have hW : ∀ x, W.cell? x = κ.w.cell? x := fun _ => rfl
  have hTW : ∀ (F' : Fz) t v, TVR κ t v → TVR ⟨W, κ.prot, F', κ.tk, κ.n⟩ t v := fun F' t v h => TVR.monoP (κ := κ) (κ' := ⟨W, κ.prot, F', κ.tk, κ.n⟩) (h := h) (fun a ha => ⟨ha, rfl⟩) (Nat.le_refl _) (fun _ _ => rfl)
  have hIn : ∀ k o, look? (zIn zs st.obj) k = some o → k ∈ zs ∧ look? st.obj k = some o := by
    intro k o hk
    rw [look?_zIn] at hk
    split at hk
    · exact ⟨by assumption, hk⟩
    · cases hk
  have hOut : ∀ k o, look? (zOut zs st.obj) k = some o → k ∉ zs ∧ look? st.obj k = some o := by
    intro k o hk
    rw [look?_zOut] at hk
    split at hk
    · cases hk
    · exact ⟨by assumption, hk⟩
  have hobW : ∀ (F' : Fz) k o, look? st.obj k = some o → ObR κ k o → (∀ b, Own (κ.tk k) b → ¬ F' b) → ObR ⟨W, κ.prot, F', κ.tk, κ.n⟩ k o := by
    intro F' k o hst ho hF
    have h1 := ho.fence hF
    have e : Ext { κ with F := F' } ⟨W, κ.prot, F', κ.tk, κ.n⟩ := ⟨rfl, rfl, rfl, Nat.le_refl _, ⟨fun _ h => h, rfl⟩, fun _ _ => rfl, fun _ h => ⟨h, rfl⟩, fun _ h => .inl h⟩
    exact ObR.keep (κ := { κ with F := F' }) (κ' := ⟨W, κ.prot, F', κ.tk, κ.n⟩) e (fun _ h => h) (Nat.le_refl _) (fun _ _ => rfl) (hr.o.obs k _ hst).1 (fun _ _ => rfl) (fun a ha => .inl ha) h1
  have hn : κ.n = st.nx := hr.nx
  have hrz : Rel κz N ⟨st.env, zOut zs st.obj, st.nx⟩ a := by
    refine ⟨⟨fun k o hk => ?_, fun k o k' o' hk hk' => hr.o.dis k o k' o' (hOut k o hk).2 (hOut k' o' hk').2, keysNd_zOut zs _ hr.o.nd, hr.o.prot, fun b hb => ?_⟩, fun i => hTW _ _ _ (hr.env i), hr.size, ?_, hr.nx⟩
    · obtain ⟨k1, k2⟩ := hOut k o hk
      obtain ⟨q1, q2⟩ := hr.o.obs k o k2
      refine ⟨q1, hobW _ k o k2 q2 (fun b hb hF => ?_)⟩
      rcases hF with hF | ⟨k', o', hk', hb'⟩
      · exact (q2.lt hb).2 hF
      · obtain ⟨j1, j2⟩ := hIn k' o' hk'
        exact hr.o.dis k o k' o' k2 j2 (fun e => k1 (by rw [e]; exact j1)) b hb hb'
    · rcases hb with hb | ⟨k', o', hk', hb'⟩
      · exact hr.o.fr b hb
      · exact ((hr.o.obs k' o' (hIn k' o' hk').2).2.lt hb').1
    · obtain ⟨hb0, Ds, hds, hnd, hDD⟩ := hr.nodef
      exact ⟨hb0, Ds, hds, hnd, fun D hD => ⟨.inl (hDD D hD).1, (hDD D hD).2.1, (hDD D hD).2.2⟩⟩
  have hzi : ZInv κz st.nx (zIn zs st.obj) := by
    refine ⟨⟨fun k o hk => ?_, fun k o k' o' hk hk' => hr.o.dis k o k' o' (hIn k o hk).2 (hIn k' o' hk').2, keysNd_zIn zs _ hr.o.nd, hr.o.prot, fun b hb => hb.elim⟩, fun k o b hk hb => .inr ⟨k, o, hk, hb⟩, fun k o hk => by rw [← hn]; exact (hr.o.obs k o (hIn k o hk).2).1⟩
    obtain ⟨q1, q2⟩ := hr.o.obs k o (hIn k o hk).2
    exact ⟨q1, hobW noF k o (hIn k o hk).2 q2 (fun _ _ hF => hF)⟩
  have key := wpZ_ok hτ hz hd hsel (Q := fun a' w' => ∃ κ' st', κ'.w = w' ∧ Rel κ' N st' a' ∧ Ext κ κ' ∧ Keep m κ κ' ∧ Q .normal st') π _ κz _ a hrz (by show st.nx ≤ κ.n; rw [hn]; exact Nat.le_refl _) hzi hord (h _ (fun _ q => q)) ?_
  · rw [hlen] at key
    exact wp_mono (wp_region_held hmx key) (fun e a' w' hh => by obtain ⟨rfl, hh⟩ := hh; exact hh)
  · intro κ' st' a' h' he hk hzi' hK
    let zb' : Nat → Prop := fun b => ∃ k o, look? (zIn zs st.obj) k = some o ∧ Own (κ'.tk k) b
    have ztk : ∀ k o, look? (zIn zs st.obj) k = some o → ∃ b, κ.tk k = .pointer (some ⟨b, 0, none⟩) ∧ κ'.tk k = .pointer (some ⟨b, 0, none⟩) := by
      intro k o hko
      obtain ⟨ty, cs, rfl, _⟩ := zOK_get _ hz k o hko
      obtain ⟨b, us, e1, _⟩ := (hzi.o.obs k _ hko).2
      have e1' : κ.tk k = .pointer (some ⟨b, 0, none⟩) := e1
      exact ⟨b, e1', by rw [hk.tk k (hzi.lt k _ hko) (by show isPtr (κ.tk k) = true; rw [e1']; rfl)]; exact e1'⟩
    let Ff : Fz := ⟨fun b => κ'.F b ∧ ¬ zb' b, κ'.F.bd⟩
    let κf : Kx := { κ' with F := Ff }
    have hTf : ∀ t v, TVR κ' t v → TVR κf t v := fun t v h => TVR.monoP (κ := κ') (κ' := κf) (h := h) (fun a ha => ⟨ha, rfl⟩) (Nat.le_refl _) (fun _ _ => rfl)
    have hzs : ∀ k o k' o' b, look? (zIn zs st.obj) k = some o → look? st'.obj k' = some o' → Own (κ'.tk k) b → Own (κ'.tk k') b → False := by
      intro k o k' o' b hk1 hk2 hb1 hb2
      exact ((h'.o.obs k' o' hk2).2.lt hb2).2 (hzi'.fz k o b hk1 hb1)
    have hx : Ext κ κf := by
      refine ⟨he.os, he.tape, he.output, he.size, ⟨fun b hb => ⟨he.F.1 b (.inl hb), fun ⟨k, o, hk1, hb1⟩ => ?_⟩, he.F.2⟩, fun b hb => he.fr b (.inl hb), he.prot, fun a ha => (he.np a ha).elim .inl (fun hn => .inr (fun hF => hn (.inl hF)))⟩
      obtain ⟨b', t1, t2⟩ := ztk k o hk1
      have hbe : b = b' := by rw [t2] at hb1; injection hb1 with hb1; exact hb1.symm
      subst hbe
      exact ((hr.o.obs k o (hIn k o hk1).2).2.lt (by rw [t1]; rfl)).2 hb
    refine ⟨κf, ⟨st'.env, zIn zs st.obj ++ st'.obj, st'.nx⟩, rfl, ⟨⟨fun k o hk1 => ?_, fun k o k' o' hk1 hk2 hne b hb1 hb2 => ?_, ?_, h'.o.prot, fun b hb => h'.o.fr b hb.1⟩, fun i => hTf _ _ (h'.env i), h'.size, ?_, h'.nx⟩, hx, ⟨Nat.le_trans hm hk.n, fun j hj hp => hk.tk j (Nat.lt_of_lt_of_le hj hm) hp⟩, hK⟩
    · rw [look?_append] at hk1
      cases hzk : look? (zIn zs st.obj) k with
      | some oz =>
        rw [hzk] at hk1
        simp only [Option.some_or, Option.some.injEq] at hk1
        subst hk1
        obtain ⟨q1, q2⟩ := hzi'.o.obs k _ hzk
        exact ⟨q1, ObR.fence (κ := { κ' with F := noF }) (F' := Ff) q2 (fun b hb hF => hF.2 ⟨k, _, hzk, hb⟩)⟩
      | none =>
        rw [hzk] at hk1
        simp only [Option.none_or] at hk1
        obtain ⟨q1, q2⟩ := h'.o.obs k _ hk1
        exact ⟨q1, q2.fence (fun b hb hF => (q2.lt hb).2 hF.1)⟩
    · rw [look?_append] at hk1 hk2
      cases hzk : look? (zIn zs st.obj) k with
      | some oz =>
        cases hzk' : look? (zIn zs st.obj) k' with
        | some oz' => exact hzi'.o.dis k oz k' oz' hzk hzk' hne b hb1 hb2
        | none =>
          rw [hzk'] at hk2
          exact hzs k oz k' o' b hzk (by simpa using hk2) hb1 hb2
      | none =>
        rw [hzk] at hk1
        have hk1' : look? st'.obj k = some o := by simpa using hk1
        cases hzk' : look? (zIn zs st.obj) k' with
        | some oz' => exact hzs k' oz' k o b hzk' hk1' hb2 hb1
        | none =>
          rw [hzk'] at hk2
          exact h'.o.dis k o k' o' hk1' (by simpa using hk2) hne b hb1 hb2
    · refine keysNd_app _ _ (keysNd_zIn zs _ hr.o.nd) h'.o.nd (fun k o hk1 => ?_)
      cases hs : look? st'.obj k with
      | none => rfl
      | some o' =>
        obtain ⟨b, t1, t2⟩ := ztk k o hk1
        exact (hzs k o k o' b hk1 hs (by rw [t2]; rfl) (by rw [t2]; rfl)).elim
    · obtain ⟨hb0, Ds, hds, hnd, hDD⟩ := h'.nodef
      refine ⟨hb0, Ds, hds, hnd, fun D hD => ⟨⟨(hDD D hD).1, fun ⟨k, o, hk1, hb1⟩ => ?_⟩, (hDD D hD).2.1, (hDD D hD).2.2⟩⟩
      obtain ⟨ty, cs, rfl, _⟩ := zOK_get _ hz k o hk1
      obtain ⟨b, us, e1, e2, _⟩ := (hzi'.o.obs k _ hk1).2
      have e1' : κ'.tk k = .pointer (some ⟨b, 0, none⟩) := e1
      rw [e1'] at hb1
      injection hb1 with hb1
      have h3 := (hDD D hD).2.2
      rw [← hb1] at h3
      have e2' : κ'.w.heap[b]? = _ := e2
      have h3' : κ'.w.heap[b]? = some (.deferred (some [])) := h3
      rw [e2'] at h3'
      cases h3'
end
end Go.PL
namespace Go.PL
/-! ### How the evaluation goes on -/
section
variable (G : Cal → List TV → St → (TV → St → Prop) → Prop) (τ : Nat → TD) (z : List (Nat × Ob)) (all : List Oper) (l : List (Bool × Nat)) (K : St → Prop) (d : Option Nat)
def wpZK (t : TV) (st : St) : Prop := wpZ G τ z all l (st.put d t) K
def wpZX (st : St) : Res → Prop
  | .ok C t st' => C ∧ wpZ G τ z all l (st'.put d t) K
  | .call C f args => C ∧ G f args st (wpZK G τ z all l K d)
  | .no => False
def wpZq (st : St) : Option (Prop × TV) → Prop
  | some r => r.1 ∧ wpZ G τ z all l (st.put d r.2) K
  | none => False
def wpZqg (st : St) (c : Bool) : Option (Prop × TV) → Prop
  | some r => (c = true → r.1 ∧ r.2.pre) ∧ wpZ G τ z all l (st.put d (.wh c r.2.strip)) K
  | none => False
def wpZh (q : Bool) (st : St) (o : Oper) : Option Bool → Prop
  | some c => bif q then wpZqg G τ z all l K o.dst st c (quiet τ ⟨st.env, z, st.nx⟩ o.op) else (c = true → wpZX G τ z all l K o.dst st (step τ st o)) ∧ (c = false → wpZ G τ z all l (st.put o.dst .any) K)
  | none => False
def wpZg (q : Bool) (st : St) (o : Oper) : Option (Nat × Bool) → Prop
  | none => bif q then wpZq G τ z all l K o.dst st (quiet τ ⟨st.env, z, st.nx⟩ o.op) else wpZX G τ z all l K o.dst st (step τ st o)
  | some (j, want) => wpZh G τ z all l K q st o (gval st want (gslot all j))
def wpZo (q : Bool) (st : St) : Option Oper → Prop
  | some o => wpZg G τ z all l K q st o o.guard
  | none => False
theorem wpZ_nil (st : St) : wpZ G τ z all [] st K = K st := rfl
theorem exO_eq_wpZX (st : St) (o : Oper) : exO G τ o st (fun st' => wpZ G τ z all l st' K) = wpZX G τ z all l K o.dst st (step τ st o) := by
  unfold exO
  cases step τ st o <;> rfl
theorem wpZ_cons (st : St) (q : Bool) (i : Nat) : wpZ G τ z all ((q, i) :: l) st K = wpZo G τ z all l K q st all[i]? := by
  conv => lhs; unfold wpZ
  cases all[i]? with
  | none => rfl
  | some o =>
    simp only [wpZo]
    cases hg : o.guard with
    | none =>
      simp only [wpZg, exO_eq_wpZX]
      cases q
      · rfl
      · simp only [cond_true]
        cases quiet τ ⟨st.env, z, st.nx⟩ o.op <;> rfl
    | some p =>
      obtain ⟨j, want⟩ := p
      simp only [wpZg, exO_eq_wpZX]
      have hgv : (match gslot all j with | some d => gcond (st.get d) want | none => none) = gval st want (gslot all j) := by
        cases gslot all j <;> rfl
      rw [hgv]
      cases gval st want (gslot all j) with
      | none => rfl
      | some c =>
        simp only [wpZh]
        cases q
        · rfl
        · simp only [cond_true]
          cases quiet τ ⟨st.env, z, st.nx⟩ o.op <;> rfl
theorem wpZo_some (q : Bool) (st : St) (o : Oper) : wpZo G τ z all l K q st (some o) = wpZg G τ z all l K q st o o.guard := rfl
theorem wpZg_q (st : St) (o : Oper) : wpZg G τ z all l K true st o none = wpZq G τ z all l K o.dst st (quiet τ ⟨st.env, z, st.nx⟩ o.op) := rfl
theorem wpZg_x (st : St) (o : Oper) : wpZg G τ z all l K false st o none = wpZX G τ z all l K o.dst st (step τ st o) := rfl
theorem wpZg_some (q : Bool) (st : St) (o : Oper) (j : Nat) (want : Bool) : wpZg G τ z all l K q st o (some (j, want)) = wpZh G τ z all l K q st o (gval st want (gslot all j)) := rfl
theorem wpZh_q (st : St) (o : Oper) (c : Bool) : wpZh G τ z all l K true st o (some c) = wpZqg G τ z all l K o.dst st c (quiet τ ⟨st.env, z, st.nx⟩ o.op) := rfl
theorem wpZh_x (st : St) (o : Oper) (c : Bool) : wpZh G τ z all l K false st o (some c) = ((c = true → wpZX G τ z all l K o.dst st (step τ st o)) ∧ (c = false → wpZ G τ z all l (st.put o.dst .any) K)) := rfl
theorem wpZq_some (st : St) (r : Prop × TV) : wpZq G τ z all l K d st (some r) = (r.1 ∧ wpZ G τ z all l (st.put d r.2) K) := rfl
theorem wpZqg_some (st : St) (c : Bool) (r : Prop × TV) : wpZqg G τ z all l K d st c (some r) = ((c = true → r.1 ∧ r.2.pre) ∧ wpZ G τ z all l (st.put d (.wh c r.2.strip)) K) := rfl
theorem wpZX_ok (st st' : St) (C : Prop) (t : TV) : wpZX G τ z all l K d st (.ok C t st') = (C ∧ wpZ G τ z all l (st'.put d t) K) := rfl
theorem wpZX_call (st : St) (C : Prop) (f : Cal) (args : List TV) : wpZX G τ z all l K d st (.call C f args) = (C ∧ G f args st (wpZK G τ z all l K d)) := rfl
theorem wpZX_no (st : St) : wpZX G τ z all l K d st .no = False := rfl
end
attribute [push_cast] wpZ_nil wpZ_cons wpZo_some wpZg_q wpZg_x wpZg_some wpZh_q wpZh_x wpZq_some wpZqg_some wpZX_ok wpZX_call wpZX_no wpZK PGd zIn zOut zOK
end Go.PL
