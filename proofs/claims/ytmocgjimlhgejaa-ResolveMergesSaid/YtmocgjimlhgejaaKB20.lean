/- REGIONS THAT DRAW THEIR ORDER: where several operations may come up, each is followed. -/
import Derived.Test.YtmocgjimlhgejaaKB19
namespace Go.PL
open Go.RowKit (Below)
set_option linter.unusedSimpArgs false
set_option linter.unusedVariables false
/-- Orders: an operation that only looks comes first; one that is taken in its turn; or one of several. -/
inductive Od where
  | nil
  | q (i : Nat) (t : Od)
  | x (i : Nat) (t : Od)
  | alt (i : Nat) (t r : Od)
def Od.heads : Od → List Nat
  | .x i _ => [i]
  | .alt i _ r => i :: r.heads
  | _ => []
def Od.len : Od → Nat → Bool
  | .nil, 0 => true
  | .q _ t, n + 1 => t.len n
  | .x _ t, n + 1 => t.len n
  | .alt _ t r, n + 1 => t.len n && r.len (n + 1)
  | _, _ => false
def ordT (ops : Array Oper) : Od → Bool → Array Bool → Bool
  | .nil, top, listed => top && (Region.ready .any ops listed).isEmpty
  | .q i t, top, listed => top && (Region.ready .any ops listed).contains i && Region.free .any ops listed i && ordT ops t true (listed.setIfInBounds i true)
  | .x i t, top, listed => (!top || decide (Region.ready .any ops listed = [i])) && ordT ops t true (listed.setIfInBounds i true)
  | .alt i t r, top, listed => (!top || decide (Region.ready .any ops listed = i :: r.heads)) && ordT ops t true (listed.setIfInBounds i true) && ordT ops r false listed
def ordTK (ops : Array Oper) (π : Od) : Bool := Region.noSelect ops && π.len ops.size && ordT ops π true (Array.replicate ops.size false)
section
variable (G : Cal → List TV → St → (TV → St → Prop) → Prop) (τ : Nat → TD) (z : List (Nat × Ob)) (all : List Oper)
/-- One operation, looked at. -/
def wtQ (W : St → Prop) (d : Option Nat) (st : St) : Option (Prop × TV) → Prop
  | some r => r.1 ∧ W (st.put d r.2)
  | none => False
def wtQg (W : St → Prop) (d : Option Nat) (st : St) (c : Bool) : Option (Prop × TV) → Prop
  | some r => (c = true → r.1 ∧ r.2.pre) ∧ W (st.put d (.wh c r.2.strip))
  | none => False
def wtX (W : St → Prop) (d : Option Nat) (st : St) : Res → Prop
  | .ok C t st' => C ∧ W (st'.put d t)
  | .call C f args => C ∧ G f args st (fun t st' => W (st'.put d t))
  | .no => False
def wtQh (W : St → Prop) (st : St) (o : Oper) : Option Bool → Prop
  | some c => wtQg W o.dst st c (quiet τ ⟨st.env, z, st.nx⟩ o.op)
  | none => False
def wtXh (W : St → Prop) (st : St) (o : Oper) : Option Bool → Prop
  | some c => (c = true → wtX G W o.dst st (step τ st o)) ∧ (c = false → W (st.put o.dst .any))
  | none => False
def wtQo (W : St → Prop) (st : St) (o : Oper) : Option (Nat × Bool) → Prop
  | none => wtQ W o.dst st (quiet τ ⟨st.env, z, st.nx⟩ o.op)
  | some (j, want) => wtQh τ z W st o (gval st want (gslot all j))
def wtXo (W : St → Prop) (st : St) (o : Oper) : Option (Nat × Bool) → Prop
  | none => wtX G W o.dst st (step τ st o)
  | some (j, want) => wtXh G τ W st o (gval st want (gslot all j))
def wtQi (W : St → Prop) (st : St) : Option Oper → Prop
  | some o => wtQo τ z all W st o o.guard
  | none => False
def wtXi (W : St → Prop) (st : St) : Option Oper → Prop
  | some o => wtXo G τ all W st o o.guard
  | none => False
def wpT : Od → (St → Prop) → St → Prop
  | .nil, K, st => K st
  | .q i t, K, st => wtQi τ z all (wpT t K) st all[i]?
  | .x i t, K, st => wtXi G τ all (wpT t K) st all[i]?
  | .alt i t r, K, st => wtXi G τ all (wpT t K) st all[i]? ∧ wpT r K st
end
section
variable {P : Program} {N m : Nat}
theorem gval_slot {st : St} {all : List Oper} {j : Nat} {want c : Bool} (h : gval st want (gslot all j) = some c) : ∃ d, gslot all j = some d ∧ gcond (st.get d) want = some c := by
  cases hs : gslot all j with
  | none => rw [hs] at h; cases h
  | some d => rw [hs] at h; exact ⟨d, rfl, h⟩
theorem dst_lt {all : List Oper} (hd : dstOK N all = true) {i : Nat} {o : Oper} (hi : all[i]? = some o) : ∀ d, o.dst = some d → d < N := by
  intro d hdd
  have : ∀ (l : List Oper), dstOK N l = true → ∀ o ∈ l, ∀ d, o.dst = some d → d < N := by
    intro l
    induction l with
    | nil => intro _ o ho; cases ho
    | cons x l ih =>
      intro h o ho d hod
      simp only [dstOK, Bool.and_eq_true] at h
      rcases List.mem_cons.1 ho with rfl | ho
      · have := h.1; rw [hod] at this; simpa using this
      · exact ih h.2 o ho d hod
  exact this all hd o (List.mem_of_getElem? hi) d hdd
/-- An operation in its turn. -/
theorem wtXi_ok {τ : Nat → TD} (hτ : TOK P τ) {all : List Oper} {z : List (Nat × Ob)} (hz : zOK m z = true) (hd : dstOK N all = true) {W : St → Prop} {Q : Exit → Act → World → Prop} {F : Act → World → Prop} {i : Nat} {κ : Kx} {st : St} {a : Act}
    (hr : Rel κ N st a) (hm : m ≤ κ.n) (hzi : ZInv κ m z) (hw : wtXi (PGd P m) τ all W st all[i]?)
    (hF : ∀ κ1 st1 a1, Rel κ1 N st1 a1 → Ext κ κ1 → Keep m κ κ1 → W st1 → F a1 κ1.w) : wpOp P all.toArray Q i F a κ.w := by
  unfold wtXi at hw
  split at hw
  rotate_left
  · exact hw.elim
  rename_i o hi
  have hdst := dst_lt hd hi
  have hia : all.toArray[i]? = some o := by simpa using hi
  have exec : wtX (PGd P m) W o.dst st (step τ st o) → o.wp P a κ.w F Q := by
    intro hx
    cases hs : step τ st o with
    | ok C t st' =>
      rw [hs] at hx
      obtain ⟨κ1, v, hrun, h1, he, hk⟩ := step_ok hτ hr hs hx.1 hdst
      exact hrun.wp _ _ (hF κ1 _ _ h1 he (hk m hm) hx.2)
    | call C f args =>
      rw [hs] at hx
      obtain ⟨hC, hG0⟩ := hx
      obtain ⟨fo, xs, ts, hop, ⟨g, caps, hf, rfl, rfl, rfl⟩ | ⟨k, hf, rfl, rfl, rfl⟩⟩ | ⟨t, x, y, k, e, e', sz, xs, n, hop, hkd, hx, hl, hy, rfl, rfl⟩ | ⟨t, n, c, e, i, j, K', rs, hop, hkd, hn, hc, hp, rfl, rfl⟩ | ⟨t, u, x, y, e, sy, ys, k, sz, v, v', xs, hop, hkd, hx, hyr, hp, rfl, rfl⟩ := step_call hs
      · exact dcall_ok hr hm hop hf hC hG0 (fun κ1 v t st1 h1 he hk ht hK => hF κ1 _ _ (h1.putQ ht hdst) he hk hK)
      · exact hG0.elim
      · obtain ⟨κ1, v, hex, hrel, he, hk, ht⟩ := cut_step hτ hr hop hkd hx hl hy hC
        exact (Ex.wp (.inl hex)) _ _ (hF κ1 _ _ (hrel.putQ ht hdst) he (hk m hm) hG0)
      · exact hG0.elim
      · obtain ⟨κ1, q, hq, hex, hrel, he, hk⟩ := la_step hτ hr hop hkd hx hyr hp hC
        exact (Ex.wp (.inl hex)) _ _ (hF κ1 _ _ (hrel.putQ (.iv _ _ (.lit _)) hdst) he (hk m hm) (hG0 q hq))
    | no => rw [hs] at hx; exact hx.elim
  unfold wpOp
  simp only [hia]
  unfold wtXo at hw
  split at hw
  · rename_i hg
    rw [if_pos (by simp [Region.wanted, hg])]
    exact .inl (exec hw)
  · rename_i j want hg
    unfold wtXh at hw
    split at hw
    · rename_i c hgc
      obtain ⟨d, hsl, hgc'⟩ := gval_slot hgc
      have hwant := guard_ok hr hsl hgc' hg
      simp only [hwant]
      cases c with
      | true =>
        rw [if_pos rfl]
        exact .inl (exec (hw.1 rfl))
      | false =>
        rw [if_neg (by simp)]
        exact hF κ _ _ (hr.putQ (.any _) hdst) (Ext.refl κ) (Keep.refl m κ hm) (hw.2 rfl)
    · exact hw.elim
theorem wpT_ok {τ : Nat → TD} (hτ : TOK P τ) {all : List Oper} {z : List (Nat × Ob)} (hz : zOK m z = true) (hd : dstOK N all = true) (hsel : Region.noSelect all.toArray = true) {K : St → Prop} {Q : Act → World → Prop} : ∀ (π : Od) (n : Nat) (listed : Array Bool) (κ : Kx) (st : St) (a : Act), Rel κ N st a → m ≤ κ.n → ZInv κ m z → π.len n = true →
    wpT (PGd P m) τ z all π K st → (∀ κ' st' a', Rel κ' N st' a' → Ext κ κ' → Keep m κ κ' → ZInv κ' m z → K st' → Q a' κ'.w) →
    (ordT all.toArray π true listed = true → wpAnyH P .any all.toArray (fun e a w => e = .normal ∧ Q a w) (Sees κ z) n listed a κ.w) ∧
    (ordT all.toArray π false listed = true → ∀ i ∈ π.heads, ∃ n', n = n' + 1 ∧ wpOp P all.toArray (fun e a w => e = .normal ∧ Q a w) i (fun a' w' => Sees κ z w' ∧ wpAnyH P .any all.toArray (fun e a w => e = .normal ∧ Q a w) (Sees κ z) n' (listed.setIfInBounds i true) a' w') a κ.w)
  | .nil, n, listed, κ, st, a, hr, hm, hzi, hl, hw, hQ => by
    refine ⟨fun ho => ?_, fun ho => ?_⟩
    · simp only [ordT, Bool.true_and, List.isEmpty_iff] at ho
      exact wpAnyH_done ho ⟨rfl, hQ κ st a hr (Ext.refl κ) (Keep.refl m κ hm) hzi hw⟩ n
    · simp [ordT] at ho
  | .q i t, 0, listed, κ, st, a, hr, hm, hzi, hl, hw, hQ => by simp [Od.len] at hl
  | .q i t, n + 1, listed, κ, st, a, hr, hm, hzi, hl, hw, hQ => by
    refine ⟨fun ho => ?_, fun ho => by simp [ordT] at ho⟩
    simp only [Od.len] at hl
    simp only [ordT, Bool.true_and, Bool.and_eq_true] at ho
    obtain ⟨⟨o1, o2⟩, o3⟩ := ho
    unfold wpT wtQi at hw
    split at hw
    rotate_left
    · exact hw.elim
    rename_i o hi
    have hdst := dst_lt hd hi
    have hia : all.toArray[i]? = some o := by simpa using hi
    have same : ∀ st1 a1, Rel κ N st1 a1 → wpT (PGd P m) τ z all t K st1 → wpAnyH P .any all.toArray (fun e a w => e = .normal ∧ Q a w) (Sees κ z) n (listed.setIfInBounds i true) a1 κ.w :=
      fun st1 a1 h1 hw1 => (wpT_ok hτ hz hd hsel t n _ κ st1 a1 h1 hm hzi hl hw1 hQ).1 o3
    have take : ∀ v, YieldsIf P all.toArray (Sees κ z) o v a → wpAnyH P .any all.toArray (fun e a w => e = .normal ∧ Q a w) (Sees κ z) n (listed.setIfInBounds i true) (a.put o.dst v) κ.w → wpAnyH P .any all.toArray (fun e a w => e = .normal ∧ Q a w) (Sees κ z) (n + 1) listed a κ.w :=
      fun v hy hn => wpAnyH_take hia hsel o2 o1 (fun c a w hh => by cases hh.1) hy (Sees.refl _ _) hn
    unfold wtQo at hw
    split at hw
    · rename_i hg
      unfold wtQ at hw
      split at hw
      · rename_i r hq
        obtain ⟨u, hu, ht⟩ := zquiet_ok (C := r.1) (r := r.2) hτ hr hzi hq hw.1
        exact take u (.inl ⟨by simp [Region.wanted, hg], fun w' hs => hu w' hs⟩) (same _ _ (hr.putQ ht hdst) hw.2)
      · exact hw.elim
    · rename_i j want hg
      unfold wtQh at hw
      split at hw
      · rename_i c hgc
        obtain ⟨d, hsl, hgc'⟩ := gval_slot hgc
        have hwant := guard_ok hr hsl hgc' hg
        unfold wtQg at hw
        split at hw
        · rename_i r hq
          cases c with
          | true =>
            obtain ⟨u, hu, ht⟩ := zquiet_ok (C := r.1) (r := r.2) hτ hr hzi hq (hw.1 rfl).1
            exact take u (.inl ⟨hwant, fun w' hs => hu w' hs⟩) (same _ _ (hr.putQ (.wh _ _ _ (fun _ => ht.strip (hw.1 rfl).2) (fun q => by cases q)) hdst) hw.2)
          | false => exact take Go.undef (.inr ⟨hwant, rfl⟩) (same _ _ (hr.putQ (TVR.undef κ _ _ _ rfl rfl) hdst) hw.2)
        · exact hw.elim
      · exact hw.elim
  | .x i t, 0, listed, κ, st, a, hr, hm, hzi, hl, hw, hQ => by simp [Od.len] at hl
  | .x i t, n + 1, listed, κ, st, a, hr, hm, hzi, hl, hw, hQ => by
    simp only [Od.len] at hl
    unfold wpT at hw
    have key : ordT all.toArray t true (listed.setIfInBounds i true) = true → wpOp P all.toArray (fun e a w => e = .normal ∧ Q a w) i (fun a' w' => Sees κ z w' ∧ wpAnyH P .any all.toArray (fun e a w => e = .normal ∧ Q a w) (Sees κ z) n (listed.setIfInBounds i true) a' w') a κ.w := by
      intro ho1
      refine wtXi_ok hτ hz hd hr hm hzi hw (fun κ1 st1 a1 h1 he hk hw1 => ?_)
      obtain ⟨z1, z2⟩ := hzi.next hz he hk h1.o.prot
      exact ⟨z2 _ (Sees.refl _ _), wpAnyH_mono z2 _ _ _ _ ((wpT_ok hτ hz hd hsel t n _ κ1 st1 a1 h1 hk.n z1 hl hw1 (fun κ' st' a' h' he' hk' hz' hK => hQ κ' st' a' h' (he.trans he') (hk.trans hk') hz' hK)).1 ho1)⟩
    refine ⟨fun ho => ?_, fun ho i' hi' => ?_⟩
    · simp only [ordT, Bool.not_true, Bool.false_or, Bool.and_eq_true, decide_eq_true_eq] at ho
      refine wpAnyH_all ho.1 (by simp) (fun i' hi' => ?_)
      obtain rfl : i' = i := by simpa using hi'
      exact key ho.2
    · simp only [ordT, Bool.not_false, Bool.true_or, Bool.true_and] at ho
      obtain rfl : i' = i := by simpa [Od.heads] using hi'
      exact ⟨n, rfl, key ho⟩
  | .alt i t r, 0, listed, κ, st, a, hr, hm, hzi, hl, hw, hQ => by simp [Od.len] at hl
  | .alt i t r, n + 1, listed, κ, st, a, hr, hm, hzi, hl, hw, hQ => by
    simp only [Od.len, Bool.and_eq_true] at hl
    unfold wpT at hw
    have key : ordT all.toArray t true (listed.setIfInBounds i true) = true → wpOp P all.toArray (fun e a w => e = .normal ∧ Q a w) i (fun a' w' => Sees κ z w' ∧ wpAnyH P .any all.toArray (fun e a w => e = .normal ∧ Q a w) (Sees κ z) n (listed.setIfInBounds i true) a' w') a κ.w := by
      intro ho1
      refine wtXi_ok hτ hz hd hr hm hzi hw.1 (fun κ1 st1 a1 h1 he hk hw1 => ?_)
      obtain ⟨z1, z2⟩ := hzi.next hz he hk h1.o.prot
      exact ⟨z2 _ (Sees.refl _ _), wpAnyH_mono z2 _ _ _ _ ((wpT_ok hτ hz hd hsel t n _ κ1 st1 a1 h1 hk.n z1 hl.1 hw1 (fun κ' st' a' h' he' hk' hz' hK => hQ κ' st' a' h' (he.trans he') (hk.trans hk') hz' hK)).1 ho1)⟩
    have rest := (wpT_ok hτ hz hd hsel r (n + 1) listed κ st a hr hm hzi hl.2 hw.2 hQ).2
    have both : ordT all.toArray t true (listed.setIfInBounds i true) = true → ordT all.toArray r false listed = true → ∀ i' ∈ (Od.alt i t r).heads, ∃ n', n + 1 = n' + 1 ∧ wpOp P all.toArray (fun e a w => e = .normal ∧ Q a w) i' (fun a' w' => Sees κ z w' ∧ wpAnyH P .any all.toArray (fun e a w => e = .normal ∧ Q a w) (Sees κ z) n' (listed.setIfInBounds i' true) a' w') a κ.w := by
      intro h1 h2 i' hi'
      rcases List.mem_cons.1 (by simpa [Od.heads] using hi' : i' ∈ i :: r.heads) with rfl | hi'
      · exact ⟨n, rfl, key h1⟩
      · exact rest h2 i' hi'
    refine ⟨fun ho => ?_, fun ho => ?_⟩
    · simp only [ordT, Bool.not_true, Bool.false_or, Bool.and_eq_true, decide_eq_true_eq] at ho
      refine wpAnyH_all ho.1.1 (by simp) (fun i' hi' => ?_)
      obtain ⟨n', e, h⟩ := both ho.1.2 ho.2 i' (by simpa [Od.heads] using hi')
      obtain rfl : n = n' := by omega
      exact h
    · simp only [ordT, Bool.not_false, Bool.true_or, Bool.true_and, Bool.and_eq_true] at ho
      exact both ho.1 ho.2

/-- A region that draws its order: the variables zs are only looked at; π is the order that is walked. -/
theorem PWp.drawT {id : Nat} {τ : Nat → TD} (hτ : TOK P τ) (hmx : P.follows .mixedOrders = true) {l : List Oper} {Q : Exit → St → Prop} {st : St} (zs : List Nat) (π : Od) (hd : dstOK N l = true) (hB : ordTK l.toArray π = true)
    (hz : zOK st.nx (zIn zs st.obj) = true) (hm : m ≤ st.nx) (h : ∀ K : St → Prop, (∀ st', Q .normal ⟨st'.env, zIn zs st.obj ++ st'.obj, st'.nx⟩ → K st') → wpT (PGd P st.nx) τ (zIn zs st.obj) l π K ⟨st.env, zOut zs st.obj, st.nx⟩) : PWp P N m (.region id l.toArray true) Q st := by
  intro κ a hr hmκ
  simp only [ordTK, Bool.and_eq_true, decide_eq_true_eq] at hB
  obtain ⟨⟨hsel, hlen⟩, hord⟩ := hB
  refine wpIn_wide.2 ?_
  -- the variables are fenced off
  let zb : Nat → Prop := fun b => ∃ k o, look? (zIn zs st.obj) k = some o ∧ Own (κ.tk k) b
  let W : World := { κ.w with drawn := κ.w.drawn + 1 }
  let κz : Kx := ⟨W, κ.prot, ⟨fun b => κ.F b ∨ zb b, κ.F.bd⟩, κ.tk, κ.n⟩
  have hW : ∀ x, W.cell? x = κ.w.cell? x := fun _ => rfl
  have hTW : ∀ (F' : Fz) t v, TVR κ t v → TVR ⟨W, κ.prot, F', κ.tk, κ.n⟩ t v := fun F' t v h => TVR.monoP (κ := κ) (κ' := ⟨W, κ.prot, F', κ.tk, κ.n⟩) (h := h) (fun a ha => ⟨ha, rfl⟩) (Nat.le_refl _) (fun _ _ => rfl)
  have hIn : ∀ k o, look? (zIn zs st.obj) k = some o → k ∈ zs ∧ look? st.obj k = some o := by
    intro k o hk
    rw [look?_zIn] at hk
    split at hk
    · exact ⟨by assumption, hk⟩
    · cases hk
  have hOut : ∀ k o, look? (zOut zs st.obj) k = some o → k ∉ zs ∧ look? st.obj k = some o := by
    intro k o hk
    rw [look?_zOut] at hk
    split at hk
    · cases hk
    · exact ⟨by assumption, hk⟩
  have hobW : ∀ (F' : Fz) k o, look? st.obj k = some o → ObR κ k o → (∀ b, Own (κ.tk k) b → ¬ F' b) → ObR ⟨W, κ.prot, F', κ.tk, κ.n⟩ k o := by
    intro F' k o hst ho hF
    have h1 := ho.fence hF
    have e : Ext { κ with F := F' } ⟨W, κ.prot, F', κ.tk, κ.n⟩ := ⟨rfl, rfl, rfl, Nat.le_refl _, ⟨fun _ h => h, rfl⟩, fun _ _ => rfl, fun _ h => ⟨h, rfl⟩, fun _ h => .inl h⟩
    exact ObR.keep (κ := { κ with F := F' }) (κ' := ⟨W, κ.prot, F', κ.tk, κ.n⟩) e (fun _ h => h) (Nat.le_refl _) (fun _ _ => rfl) (hr.o.obs k _ hst).1 (fun _ _ => rfl) (fun a ha => .inl ha) h1
  have hn : κ.n = st.nx := hr.nx
  have hrz : Rel κz N ⟨st.env, zOut zs st.obj, st.nx⟩ a := by
    refine ⟨⟨fun k o hk => ?_, fun k o k' o' hk hk' => hr.o.dis k o k' o' (hOut k o hk).2 (hOut k' o' hk').2, keysNd_zOut zs _ hr.o.nd, hr.o.prot, fun b hb => ?_⟩, fun i => hTW _ _ _ (hr.env i), hr.size, ?_, hr.nx⟩
    · obtain ⟨k1, k2⟩ := hOut k o hk
      obtain ⟨q1, q2⟩ := hr.o.obs k o k2
      refine ⟨q1, hobW _ k o k2 q2 (fun b hb hF => ?_)⟩
      rcases hF with hF | ⟨k', o', hk', hb'⟩
      · exact (q2.lt hb).2 hF
      · obtain ⟨j1, j2⟩ := hIn k' o' hk'
        exact hr.o.dis k o k' o' k2 j2 (fun e => k1 (by rw [e]; exact j1)) b hb hb'
    · rcases hb with hb | ⟨k', o', hk', hb'⟩
      · exact hr.o.fr b hb
      · exact ((hr.o.obs k' o' (hIn k' o' hk').2).2.lt hb').1
    · obtain ⟨hb0, Ds, hds, hnd, hDD⟩ := hr.nodef
      exact ⟨hb0, Ds, hds, hnd, fun D hD => ⟨.inl (hDD D hD).1, (hDD D hD).2.1, (hDD D hD).2.2⟩⟩
  have hzi : ZInv κz st.nx (zIn zs st.obj) := by
    refine ⟨⟨fun k o hk => ?_, fun k o k' o' hk hk' => hr.o.dis k o k' o' (hIn k o hk).2 (hIn k' o' hk').2, keysNd_zIn zs _ hr.o.nd, hr.o.prot, fun b hb => hb.elim⟩, fun k o b hk hb => .inr ⟨k, o, hk, hb⟩, fun k o hk => by rw [← hn]; exact (hr.o.obs k o (hIn k o hk).2).1⟩
    obtain ⟨q1, q2⟩ := hr.o.obs k o (hIn k o hk).2
    exact ⟨q1, hobW noF k o (hIn k o hk).2 q2 (fun _ _ hF => hF)⟩
  have key := (wpT_ok hτ hz hd hsel (Q := fun a' w' => ∃ κ' st', κ'.w = w' ∧ Rel κ' N st' a' ∧ Ext κ κ' ∧ Keep m κ κ' ∧ Q .normal st') π _ _ κz _ a hrz (by show st.nx ≤ κ.n; rw [hn]; exact Nat.le_refl _) hzi hlen (h _ (fun _ q => q)) ?_).1 hord
  · exact wp_mono (wp_region_held hmx key) (fun e a' w' hh => by obtain ⟨rfl, hh⟩ := hh; exact hh)
  · intro κ' st' a' h' he hk hzi' hK
    let zb' : Nat → Prop := fun b => ∃ k o, look? (zIn zs st.obj) k = some o ∧ Own (κ'.tk k) b
    have ztk : ∀ k o, look? (zIn zs st.obj) k = some o → ∃ b, κ.tk k = .pointer (some ⟨b, 0, none⟩) ∧ κ'.tk k = .pointer (some ⟨b, 0, none⟩) := by
      intro k o hko
      obtain ⟨ty, cs, rfl, _⟩ := zOK_get _ hz k o hko
      obtain ⟨b, us, e1, _⟩ := (hzi.o.obs k _ hko).2
      have e1' : κ.tk k = .pointer (some ⟨b, 0, none⟩) := e1
      exact ⟨b, e1', by rw [hk.tk k (hzi.lt k _ hko) (by show isPtr (κ.tk k) = true; rw [e1']; rfl)]; exact e1'⟩
    let Ff : Fz := ⟨fun b => κ'.F b ∧ ¬ zb' b, κ'.F.bd⟩
    let κf : Kx := { κ' with F := Ff }
    have hTf : ∀ t v, TVR κ' t v → TVR κf t v := fun t v h => TVR.monoP (κ := κ') (κ' := κf) (h := h) (fun a ha => ⟨ha, rfl⟩) (Nat.le_refl _) (fun _ _ => rfl)
    have hzs : ∀ k o k' o' b, look? (zIn zs st.obj) k = some o → look? st'.obj k' = some o' → Own (κ'.tk k) b → Own (κ'.tk k') b → False := by
      intro k o k' o' b hk1 hk2 hb1 hb2
      exact ((h'.o.obs k' o' hk2).2.lt hb2).2 (hzi'.fz k o b hk1 hb1)
    have hx : Ext κ κf := by
      refine ⟨he.os, he.tape, he.output, he.size, ⟨fun b hb => ⟨he.F.1 b (.inl hb), fun ⟨k, o, hk1, hb1⟩ => ?_⟩, he.F.2⟩, fun b hb => he.fr b (.inl hb), he.prot, fun a ha => (he.np a ha).elim .inl (fun hn => .inr (fun hF => hn (.inl hF)))⟩
      obtain ⟨b', t1, t2⟩ := ztk k o hk1
      have hbe : b = b' := by rw [t2] at hb1; injection hb1 with hb1; exact hb1.symm
      subst hbe
      exact ((hr.o.obs k o (hIn k o hk1).2).2.lt (by rw [t1]; rfl)).2 hb
    refine ⟨κf, ⟨st'.env, zIn zs st.obj ++ st'.obj, st'.nx⟩, rfl, ⟨⟨fun k o hk1 => ?_, fun k o k' o' hk1 hk2 hne b hb1 hb2 => ?_, ?_, h'.o.prot, fun b hb => h'.o.fr b hb.1⟩, fun i => hTf _ _ (h'.env i), h'.size, ?_, h'.nx⟩, hx, ⟨Nat.le_trans hm hk.n, fun j hj hp => hk.tk j (Nat.lt_of_lt_of_le hj hm) hp⟩, hK⟩
    · rw [look?_append] at hk1
      cases hzk : look? (zIn zs st.obj) k with
      | some oz =>
        rw [hzk] at hk1
        simp only [Option.some_or, Option.some.injEq] at hk1
        subst hk1
        obtain ⟨q1, q2⟩ := hzi'.o.obs k _ hzk
        exact ⟨q1, ObR.fence (κ := { κ' with F := noF }) (F' := Ff) q2 (fun b hb hF => hF.2 ⟨k, _, hzk, hb⟩)⟩
      | none =>
        rw [hzk] at hk1
        simp only [Option.none_or] at hk1
        obtain ⟨q1, q2⟩ := h'.o.obs k _ hk1
        exact ⟨q1, q2.fence (fun b hb hF => (q2.lt hb).2 hF.1)⟩
    · rw [look?_append] at hk1 hk2
      cases hzk : look? (zIn zs st.obj) k with
      | some oz =>
        cases hzk' : look? (zIn zs st.obj) k' with
        | some oz' => exact hzi'.o.dis k oz k' oz' hzk hzk' hne b hb1 hb2
        | none =>
          rw [hzk'] at hk2
          exact hzs k oz k' o' b hzk (by simpa using hk2) hb1 hb2
      | none =>
        rw [hzk] at hk1
        have hk1' : look? st'.obj k = some o := by simpa using hk1
        cases hzk' : look? (zIn zs st.obj) k' with
        | some oz' => exact hzs k' oz' k o b hzk' hk1' hb2 hb1
        | none =>
          rw [hzk'] at hk2
          exact h'.o.dis k o k' o' hk1' (by simpa using hk2) hne b hb1 hb2
    · refine keysNd_app _ _ (keysNd_zIn zs _ hr.o.nd) h'.o.nd (fun k o hk1 => ?_)
      cases hs : look? st'.obj k with
      | none => rfl
      | some o' =>
        obtain ⟨b, t1, t2⟩ := ztk k o hk1
        exact (hzs k o k o' b hk1 hs (by rw [t2]; rfl) (by rw [t2]; rfl)).elim
    · obtain ⟨hb0, Ds, hds, hnd, hDD⟩ := h'.nodef
      refine ⟨hb0, Ds, hds, hnd, fun D hD => ⟨⟨(hDD D hD).1, fun ⟨k, o, hk1, hb1⟩ => ?_⟩, (hDD D hD).2.1, (hDD D hD).2.2⟩⟩
      obtain ⟨ty, cs, rfl, _⟩ := zOK_get _ hz k o hk1
      obtain ⟨b, us, e1, e2, _⟩ := (hzi'.o.obs k _ hk1).2
      have e1' : κ'.tk k = .pointer (some ⟨b, 0, none⟩) := e1
      rw [e1'] at hb1
      injection hb1 with hb1
      have h3 := (hDD D hD).2.2
      rw [← hb1] at h3
      have e2' : κ'.w.heap[b]? = _ := e2
      have h3' : κ'.w.heap[b]? = some (.deferred (some [])) := h3
      rw [e2'] at h3'
      cases h3'
end
end Go.PL
namespace Go.PL
section
variable (G : Cal → List TV → St → (TV → St → Prop) → Prop) (τ : Nat → TD) (z : List (Nat × Ob)) (all : List Oper) (K W : St → Prop) (d : Option Nat)
theorem wpT_nil (st : St) : wpT G τ z all .nil K st = K st := rfl
theorem wpT_q (i : Nat) (t : Od) (st : St) : wpT G τ z all (.q i t) K st = wtQi τ z all (wpT G τ z all t K) st all[i]? := rfl
theorem wpT_x (i : Nat) (t : Od) (st : St) : wpT G τ z all (.x i t) K st = wtXi G τ all (wpT G τ z all t K) st all[i]? := rfl
theorem wpT_alt (i : Nat) (t r : Od) (st : St) : wpT G τ z all (.alt i t r) K st = (wtXi G τ all (wpT G τ z all t K) st all[i]? ∧ wpT G τ z all r K st) := rfl
theorem wtQi_some (st : St) (o : Oper) : wtQi τ z all W st (some o) = wtQo τ z all W st o o.guard := rfl
theorem wtXi_some (st : St) (o : Oper) : wtXi G τ all W st (some o) = wtXo G τ all W st o o.guard := rfl
theorem wtQo_none (st : St) (o : Oper) : wtQo τ z all W st o none = wtQ W o.dst st (quiet τ ⟨st.env, z, st.nx⟩ o.op) := rfl
theorem wtQo_some (st : St) (o : Oper) (j : Nat) (want : Bool) : wtQo τ z all W st o (some (j, want)) = wtQh τ z W st o (gval st want (gslot all j)) := rfl
theorem wtXo_none (st : St) (o : Oper) : wtXo G τ all W st o none = wtX G W o.dst st (step τ st o) := rfl
theorem wtXo_some (st : St) (o : Oper) (j : Nat) (want : Bool) : wtXo G τ all W st o (some (j, want)) = wtXh G τ W st o (gval st want (gslot all j)) := rfl
theorem wtQh_some (st : St) (o : Oper) (c : Bool) : wtQh τ z W st o (some c) = wtQg W o.dst st c (quiet τ ⟨st.env, z, st.nx⟩ o.op) := rfl
theorem wtXh_some (st : St) (o : Oper) (c : Bool) : wtXh G τ W st o (some c) = ((c = true → wtX G W o.dst st (step τ st o)) ∧ (c = false → W (st.put o.dst .any))) := rfl
theorem wtQ_some (st : St) (r : Prop × TV) : wtQ W d st (some r) = (r.1 ∧ W (st.put d r.2)) := rfl
theorem wtQg_some (st : St) (c : Bool) (r : Prop × TV) : wtQg W d st c (some r) = ((c = true → r.1 ∧ r.2.pre) ∧ W (st.put d (.wh c r.2.strip))) := rfl
theorem wtX_ok (st st' : St) (C : Prop) (t : TV) : wtX G W d st (.ok C t st') = (C ∧ W (st'.put d t)) := rfl
def wtK (t : TV) (st : St) : Prop := W (st.put d t)
theorem wtX_call (st : St) (C : Prop) (f : Cal) (args : List TV) : wtX G W d st (.call C f args) = (C ∧ G f args st (wtK W d)) := rfl
theorem wtX_no (st : St) : wtX G W d st .no = False := rfl
end
attribute [push_cast] wpT_nil wpT_q wpT_x wpT_alt wtQi_some wtXi_some wtQo_none wtQo_some wtXo_none wtXo_some wtQh_some wtXh_some wtQ_some wtQg_some wtX_ok wtX_call wtX_no wtK
end Go.PL
