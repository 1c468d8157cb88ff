/- WHAT MAY BE FORGOTTEN, UNDER NEW NAMES: objects that have moved get their old names back. -/
import Derived.Test.YtmocgjimlhgejaaKB17
namespace Go.PL
open Go.RowKit (Below)
set_option linter.unusedSimpArgs false
set_option linter.unusedVariables false
/-- The new names' list: the j-th new name is the old name at j. -/
def envleR (σ : List Nat) (st : St) : List (Nat × TV) → Prop
  | [] => True
  | (i, t) :: l => TVle (st.get i) (t.ren (sig σ 0)) ∧ t.okN σ.length = true ∧ envleR σ st l
def cellsleR (σ : List Nat) : List TV → List TV → Prop
  | [], [] => True
  | t :: l, t' :: l' => TVle t (t'.ren (sig σ 0)) ∧ t'.okN σ.length = true ∧ cellsleR σ l l'
  | _, _ => False
def mapsleR (σ : List Nat) : List (Int × TV) → List (Int × TV) → Prop
  | [], [] => True
  | (a, t) :: l, (a', t') :: l' => a = a' ∧ TVle t (t'.ren (sig σ 0)) ∧ t'.okN σ.length = true ∧ mapsleR σ l l'
  | _, _ => False
def obsleR (σ : List Nat) (st : St) : List (Nat × Ob) → Prop
  | [] => True
  | (k, o) :: l => (match look? st.obj (sig σ 0 k), o with
      | some (.box ty cs), .box ty' cs' => ty = ty' ∧ cellsleR σ cs cs'
      | some (.row e sz), .row e' sz' => e = e' ∧ sz = sz'
      | some (.mrow e sz xs), .mrow e' sz' xs' => e = e' ∧ sz = sz' ∧ xs = xs'
      | some (.pins e rs), .pins e' rs' => e = e' ∧ rs = rs'
      | some (.lrow e sz v xs), .lrow e' sz' v' xs' => e = e' ∧ sz = sz' ∧ v = v' ∧ xs = xs'
      | some (.map kt vt es), .map kt' vt' es' => kt = kt' ∧ vt = vt' ∧ mapsleR σ es es'
      | _, _ => False) ∧ k < σ.length ∧ obsleR σ st l
def allLt (n : Nat) : List Nat → Prop
  | [] => True
  | k :: l => k < n ∧ allLt n l
def fixL (m : Nat) (σ : List Nat) : Bool := σ.take m == List.range m && decide (m ≤ σ.length)
def St.leR (m : Nat) (σ : List Nat) (st st' : St) : Prop := st'.nx = σ.length ∧ envleR σ st st'.env ∧ obsleR σ st st'.obj ∧ keysNd st'.obj ∧ ndN σ ∧ allLt st.nx σ ∧ fixL m σ = true
section
variable {P : Program} {κ : Kx} {N m : Nat}
theorem envleR_get {σ : List Nat} {st : St} : ∀ (l : List (Nat × TV)), envleR σ st l → ∀ i, look? l i = none ∨ ∃ t, look? l i = some t ∧ TVle (st.get i) (t.ren (sig σ 0)) ∧ t.okN σ.length = true
  | [], _, i => .inl rfl
  | (j, t) :: l, h, i => by
    simp only [look?]
    cases hb : i == j
    · exact envleR_get l h.2.2 i
    · have e : i = j := by simpa using hb
      subst e
      exact .inr ⟨t, rfl, h.1, h.2.1⟩
theorem cellsleR_get {σ : List Nat} : ∀ (l l' : List TV), cellsleR σ l l' → l'.length = l.length ∧ ∀ (j : Nat) (t' : TV), l'[j]? = some t' → ∃ t, l[j]? = some t ∧ TVle t (t'.ren (sig σ 0)) ∧ t'.okN σ.length = true
  | [], [], _ => ⟨rfl, by simp⟩
  | [], _ :: _, h => h.elim
  | _ :: _, [], h => h.elim
  | t :: l, t' :: l', h => by
    obtain ⟨h1, h2⟩ := cellsleR_get l l' h.2.2
    refine ⟨by simp [h1], fun j u hu => ?_⟩
    cases j with
    | zero => simp at hu; subst hu; exact ⟨t, rfl, h.1, h.2.1⟩
    | succ j => simp at hu; simpa using h2 j u hu
theorem mapsleR_get {σ : List Nat} : ∀ (l l' : List (Int × TV)), mapsleR σ l l' → l'.length = l.length ∧ ∀ (j : Nat) (t' : Int × TV), l'[j]? = some t' → ∃ t, l[j]? = some t ∧ t.1 = t'.1 ∧ TVle t.2 (t'.2.ren (sig σ 0)) ∧ t'.2.okN σ.length = true
  | [], [], _ => ⟨rfl, by simp⟩
  | [], _ :: _, h => h.elim
  | _ :: _, [], h => h.elim
  | (a, t) :: l, (a', t') :: l', h => by
    obtain ⟨h1, h2⟩ := mapsleR_get l l' h.2.2.2
    refine ⟨by simp [h1], fun j u hu => ?_⟩
    cases j with
    | zero => simp at hu; subst hu; exact ⟨(a, t), rfl, h.1, h.2.1, h.2.2.1⟩
    | succ j => simp at hu; simpa using h2 j u hu
def obleR (σ : List Nat) : Ob → Ob → Prop
  | .box ty cs, .box ty' cs' => ty = ty' ∧ cellsleR σ cs cs'
  | .row e sz, .row e' sz' => e = e' ∧ sz = sz'
  | .mrow e sz xs, .mrow e' sz' xs' => e = e' ∧ sz = sz' ∧ xs = xs'
  | .map kt vt es, .map kt' vt' es' => kt = kt' ∧ vt = vt' ∧ mapsleR σ es es'
  | .pins e rs, .pins e' rs' => e = e' ∧ rs = rs'
  | .lrow e sz v xs, .lrow e' sz' v' xs' => e = e' ∧ sz = sz' ∧ v = v' ∧ xs = xs'
  | _, _ => False
theorem obsleR_get {σ : List Nat} {st : St} : ∀ (l : List (Nat × Ob)), obsleR σ st l → ∀ k o', look? l k = some o' → k < σ.length ∧ ∃ o, look? st.obj (sig σ 0 k) = some o ∧ obleR σ o o'
  | [], _, k, o', hk => by cases hk
  | (j, o2) :: l, h, k, o', hk => by
    simp only [look?] at hk
    cases hb : k == j
    · rw [hb] at hk
      exact obsleR_get l h.2.2 k o' hk
    · have e : k = j := by simpa using hb
      subst e
      rw [hb] at hk
      simp only [cond_true, Option.some.injEq] at hk
      subst hk
      refine ⟨h.2.1, ?_⟩
      have h1 := h.1
      cases ho : look? st.obj (sig σ 0 k) with
      | none => rw [ho] at h1; exact h1.elim
      | some o =>
        rw [ho] at h1
        refine ⟨o, rfl, ?_⟩
        cases o <;> cases o2 <;> first | exact h1 | exact h1.elim
theorem Gh.leX {st st' : St} (σ : List Nat) (hnx : st'.nx = σ.length) (henv : envleR σ st st'.env) (hobs : obsleR σ st st'.obj) (hnd : keysNd st'.obj)
    (hinj : ∀ k o k' o', look? st'.obj k = some o → look? st'.obj k' = some o' → sig σ 0 k = sig σ 0 k' → k = k') (hfix : fixL m σ = true) : Gh m st st' := by
  intro κ N a h hm
  simp only [fixL, Bool.and_eq_true, beq_iff_eq, decide_eq_true_eq] at hfix
  obtain ⟨hf1, hf2⟩ := hfix
  let κ' : Kx := ⟨κ.w, κ.prot, κ.F, fun j => κ.tk (sig σ 0 j), σ.length⟩
  have hT : ∀ {t : TV} {v : Value}, TVR κ (t.ren (sig σ 0)) v → t.okN σ.length = true → TVR κ' t v := fun h hok => TVR.unren (f := sig σ 0) (κ := κ) (κc := κ') rfl rfl rfl (fun _ _ => rfl) h hok
  have hsig : ∀ j, j < m → sig σ 0 j = j := by
    intro j hj
    rw [sig_lt (by omega)]
    have h1 : (σ.take m)[j]? = (List.range m)[j]? := by rw [hf1]
    rw [List.getElem?_take, if_pos hj, List.getElem?_eq_getElem (by omega), List.getElem?_range hj] at h1
    injection h1
  have he : Ext κ κ' := ⟨rfl, rfl, rfl, Nat.le_refl _, ⟨fun _ h => h, rfl⟩, fun _ _ => rfl, fun _ h => ⟨h, rfl⟩, fun _ h => .inl h⟩
  refine ⟨κ', rfl, ⟨⟨fun k o hk => ?_, fun k o k' o' hk hk' hne b hb => ?_, hnd, h.o.prot, h.o.fr⟩, fun i => ?_, h.size, h.nodef, hnx.symm⟩, he, ⟨hf2, fun k hk _ => by show κ.tk (sig σ 0 k) = κ.tk k; rw [hsig k hk]⟩⟩
  · obtain ⟨k1, o0, k2, k3⟩ := obsleR_get _ hobs k o hk
    obtain ⟨q1, q2⟩ := h.o.obs _ _ k2
    refine ⟨k1, ?_⟩
    cases o0 with
    | box ty cs =>
      cases o with
      | box ty' cs' =>
        obtain ⟨rfl, hc⟩ := k3
        obtain ⟨c1, c2⟩ := cellsleR_get _ _ hc
        obtain ⟨b, us, e1, e2, e3, e4, e5, e6, e7⟩ := q2
        refine ⟨b, us, e1, e2, by omega, fun j c u hcj hu => ?_, e5, e6, e7⟩
        obtain ⟨t, ht, hle, hok⟩ := c2 j c hcj
        exact hT ((e4 j t u ht hu).le hle) hok
      | _ => exact k3.elim
    | row e sz =>
      cases o with
      | row e' sz' => obtain ⟨rfl, rfl⟩ := k3; exact q2
      | _ => exact k3.elim
    | mrow e sz xs =>
      cases o with
      | mrow e' sz' xs' => obtain ⟨rfl, rfl, rfl⟩ := k3; exact q2
      | _ => exact k3.elim
    | map kt vt es =>
      cases o with
      | map kt' vt' es' =>
        obtain ⟨rfl, rfl, hc⟩ := k3
        obtain ⟨c1, c2⟩ := mapsleR_get _ _ hc
        obtain ⟨b, ms, clock, e1, e2, e3, e4, e6, e7⟩ := q2
        refine ⟨b, ms, clock, e1, e2, by omega, fun j p e hp he' => ?_, e6, e7⟩
        obtain ⟨t, ht, h1', hle, hok⟩ := c2 j p hp
        exact ⟨by rw [← h1']; exact (e4 j t e ht he').1, hT ((e4 j t e ht he').2.le hle) hok⟩
      | _ => exact k3.elim
    | pins e rs =>
      cases o with
      | pins e' rs' => obtain ⟨rfl, rfl⟩ := k3; exact q2
      | _ => exact k3.elim
    | lrow e sz v xs =>
      cases o with
      | lrow e' sz' v' xs' => obtain ⟨rfl, rfl, rfl, rfl⟩ := k3; exact q2
      | _ => exact k3.elim
    | lp s ps as bd env => cases o <;> exact k3.elim
  · obtain ⟨k1, o0, k2, _⟩ := obsleR_get _ hobs k o hk
    obtain ⟨k1', o0', k2', _⟩ := obsleR_get _ hobs k' o' hk'
    exact h.o.dis _ o0 _ o0' k2 k2' (fun e => hne (hinj k o k' o' hk hk' e)) b hb
  · simp only [St.get, look_eq]
    rcases envleR_get _ henv i with h0 | ⟨t, h0, hle, hok⟩
    · rw [h0]; exact .any _
    · rw [h0]
      exact hT ((h.env i).le hle) hok
theorem Gh.leR {st st' : St} (σ : List Nat) (hle : st.leR m σ st') : Gh m st st' := by
  obtain ⟨hnx, henv, hobs, hnd, hσ, hlt, hfix⟩ := hle
  refine Gh.leX σ hnx henv hobs hnd (fun k o k' o' hk hk' e => ?_) hfix
  obtain ⟨h1, _⟩ := obsleR_get _ hobs k o hk
  obtain ⟨h2, _⟩ := obsleR_get _ hobs k' o' hk'
  rw [sig_lt h1, sig_lt h2] at e
  exact ndN_inj σ hσ k k' h1 h2 (by rw [List.getElem?_eq_getElem h1, List.getElem?_eq_getElem h2, e])
/-- The old names of what goes on. -/
def oldK (σ : List Nat) : List (Nat × Ob) → List Nat
  | [] => []
  | (k, _) :: l => sig σ 0 k :: oldK σ l
theorem oldK_mem {σ : List Nat} : ∀ (l : List (Nat × Ob)) (k : Nat) (o : Ob), look? l k = some o → sig σ 0 k ∈ oldK σ l
  | [], k, o, h => by cases h
  | (j, q) :: l, k, o, h => by
    simp only [look?] at h
    cases hb : k == j
    · rw [hb] at h
      exact List.mem_cons_of_mem _ (oldK_mem l k o h)
    · have e : k = j := by simpa using hb
      subst e
      exact List.mem_cons_self ..
theorem oldK_inj {σ : List Nat} : ∀ (l : List (Nat × Ob)), ndN (oldK σ l) → ∀ k o k' o', look? l k = some o → look? l k' = some o' → sig σ 0 k = sig σ 0 k' → k = k'
  | [], _, k, o, _, _, h, _, _ => by cases h
  | (j, q) :: l, hnd, k, o, k', o', h, h', e => by
    simp only [look?] at h h'
    have hj := (memN_false _ _).1 hnd.1
    cases hb : k == j <;> cases hb' : k' == j
    · rw [hb] at h
      rw [hb'] at h'
      exact oldK_inj l hnd.2 k o k' o' h h' e
    · rw [hb] at h
      have e' : k' = j := by simpa using hb'
      subst e'
      exact absurd (e ▸ oldK_mem l k o h) hj
    · rw [hb'] at h'
      have e' : k = j := by simpa using hb
      subst e'
      exact absurd (e.symm ▸ oldK_mem l k' o' h') hj
    · have e1 : k = j := by simpa using hb
      have e2 : k' = j := by simpa using hb'
      rw [e1, e2]
def St.leD (m : Nat) (σ : List Nat) (st st' : St) : Prop := st'.nx = σ.length ∧ envleR σ st st'.env ∧ obsleR σ st st'.obj ∧ keysNd st'.obj ∧ ndN (oldK σ st'.obj) ∧ fixL m σ = true
/-- The same; an object may go on under a new name, though its old one is bespoken. -/
theorem Gh.leD {st st' : St} (σ : List Nat) (hle : st.leD m σ st') : Gh m st st' := by
  obtain ⟨hnx, henv, hobs, hnd, hσ, hfix⟩ := hle
  exact Gh.leX σ hnx henv hobs hnd (oldK_inj _ hσ) hfix
end
attribute [push_cast] St.leD oldK
attribute [push_cast] St.leR envleR cellsleR obsleR mapsleR allLt
theorem lens_map {α : Type} {f : α → IV} {n : Nat} (h : ∀ a, (f a).one ∧ (f a).cells.length = n) : ∀ (l : List α), lens? n (l.map f)
  | [] => trivial
  | x :: l => ⟨h x, lens_map h l⟩
end Go.PL
