/- MAPS OF WHOLE NUMBERS: what a look finds, and what is there behind a store. -/
import Derived.Test.YtmocgjimlhgejaaKB4
import Derived.MapKept
namespace Go.PL
open Go.RowKit (Below)
set_option linter.unusedSimpArgs false
set_option linter.unusedVariables false
section
variable {P : Program} {κ : Kx}

theorem findNow_ok (n : Int) (x : TV) : ∀ (es : List (Int × TV)) (ms : List MapEntry) (i : Nat), ms.length = es.length →
    (∀ (j : Nat) (p : Int × TV) (e : MapEntry), es[j]? = some p → ms[j]? = some e → e.key = .int .i64 p.1 ∧ TVR κ p.2 e.val) →
    (mapFind es n = none ∧ Instr.findNow (.int .i64) (.int .i64 n) ms i = some none ∧ mapPut es n x = es ++ [(n, x)] ∧ mapDel es n = es) ∨
    ∃ j y e, mapFind es n = some y ∧ Instr.findNow (.int .i64) (.int .i64 n) ms i = some (some (i + j, e.val)) ∧ TVR κ y e.val ∧ ms[j]? = some e ∧ e.key = .int .i64 n ∧ j < es.length ∧ mapPut es n x = es.set j (n, x) ∧ mapDel es n = es.eraseIdx j
  | [], [], i, _, _ => .inl ⟨rfl, rfl, rfl, rfl⟩
  | [], _ :: _, i, h, _ => by simp at h
  | _ :: _, [], i, h, _ => by simp at h
  | (a, y) :: es, e :: ms, i, hl, h => by
    obtain ⟨hk, hv⟩ := h 0 _ _ rfl rfl
    by_cases hn : n = a
    · subst hn
      refine .inr ⟨0, y, e, by simp [mapFind], ?_, hv, rfl, hk, by simp, by simp [mapPut], by simp [mapDel]⟩
      simp [Instr.findNow, Instr.sameNow, hk]
    · have hb : (n == a) = false := beq_eq_false_iff_ne.2 hn
      rcases findNow_ok n x es ms (i + 1) (by simpa using hl) (fun j p e hp he => h (j + 1) p e (by simpa using hp) (by simpa using he)) with ⟨h1, h2, h3, h3'⟩ | ⟨j, y', e', h1, h2, h3, h4, h5, h6, h7, h7'⟩
      · exact .inl ⟨by simp [mapFind, hb, h1], by simp [Instr.findNow, Instr.sameNow, hk, hb, h2], by simp [mapPut, hb, h3], by simp [mapDel, hb, h3']⟩
      · refine .inr ⟨j + 1, y', e', by simp [mapFind, hb, h1], ?_, h3, by simpa using h4, h5, by simpa using h6, by simp [mapPut, hb, h7], by simp [mapDel, hb, h7']⟩
        simp only [Instr.findNow, Instr.sameNow, hk, if_true, hb]
        rw [h2]
        congr 3
        omega

theorem lookup_ok {τ : Nat → TD} (hτ : TOK P τ) {st : St} (hO : RelO κ st.obj) {t : TypeId} (hk : (τ t).known = true) {x : TV} {v : Value} (hx : TVR κ x v) {n : Int} {ok : Bool} {C : Prop} {r : TV} (hq : lookQ τ st (τ t) x n ok = some (C, r)) (hC : C) :
    ∃ u, (∀ w', Sees κ st.obj w' → (Instr.lookup t v (.int .i64 n) ok).run P w' = .ok u w') ∧ TVR κ r u := by
  obtain ⟨i, desc, z, hi, hu, _, _, _, hko, _⟩ := hτ t hk
  unfold lookQ at hq
  split at hq
  · rename_i kt vt k hkd
    rw [hkd] at hko
    simp only [KOK] at hko
    subst hko
    split at hq
    · rename_i kt' vt' es hl hki
      simp only [Option.some.injEq, Prod.mk.injEq] at hq
      obtain ⟨rfl, rfl⟩ := hq
      obtain ⟨hC1, hC2, hC3⟩ := hC
      obtain ⟨i1, d1, z1, hi1, hu1, _, _, _, hko1, _⟩ := hτ kt hC1
      obtain ⟨i2, d2, z2, hi2, hu2, hs2, _, ha2, hko2, hz2, hzc2, hz12, hzl2, _, hNA⟩ := hτ vt hC2
      rw [hki] at hko1
      simp only [KOK] at hko1
      subst hko1
      cases hx with
      | mptr _ b hkn hb =>
        obtain ⟨_, b', ms, clock, hb', hh, hlen, hes, _, hp0⟩ := hO.obs k _ hl
        rw [hb] at hb'
        simp only [Value.map.injEq, Option.some.injEq] at hb'
        subst hb'
        have hlt : b < κ.w.heap.size := (Array.getElem?_eq_some_iff.1 hh).1
        have hh' : ∀ w', Sees κ st.obj w' → w'.heap[b]? = some (.map ms clock) := fun w' hs => by rw [hs.2 b ⟨k, _, hl, by rw [hb]; rfl⟩]; exact hh
        have hchk : ∀ w' : World, (Instr.checkKey ms.isEmpty 10000 kt (.int .i64 n)).run P w' = .ok () w' := fun w' => MapKept.run_checkKey hu1 (by simp [MapKept.IsKey]) _ 9999
        have hms : ∀ (j : Nat) (p : Int × TV) (e : MapEntry), es[j]? = some p → ms.toList[j]? = some e → e.key = .int .i64 p.1 ∧ TVR κ p.2 e.val := fun j p e h1 h2 => hes j p e h1 (by simpa using h2)
        rcases findNow_ok n .any es ms.toList 0 (by simpa using hlen) hms with ⟨h1, h2, _, _⟩ | ⟨j, y, e, h1, h2, h3, _, _, _, _, _⟩
        · have hfind : ∀ w' : World, (Instr.findKey kt (.int .i64 n) ms.toList).run P w' = .ok none w' := fun w' => by simp [Instr.findKey, run_underlying hu1, h2]
          have hzero : ∀ w' : World, (zeroValue vt).run P w' = .ok z2 w' := fun w' => by simp [zeroValue, typeInfo, hi2, hz2]
          have hzr : TVR κ ((zTVs (τ vt).zero).getD 0 .any) z2 := by
            rw [hNA hC3]
            show TVR κ (cTV z2) z2
            unfold cTV
            split
            · exact .nilsl
            · exact .iv _ _ (.lit _)
          cases ok with
          | false => exact ⟨z2, fun w' hb => by simp [Instr.lookup, run_underlying hu, MapKept.run_getObj_map (hh' w' hb), hchk w', hfind w', hzero w'], by simp only [h1, cond_false]; exact hzr⟩
          | true =>
            refine ⟨.tuple #[z2, .bool false], fun w' hb => by simp [Instr.lookup, run_underlying hu, MapKept.run_getObj_map (hh' w' hb), hchk w', hfind w', hzero w'], ?_⟩
            simp only [h1, cond_true]
            exact .tup _ [z2, .bool false] rfl (fun j c u hc hu => by
              match j with
              | 0 => simp at hc hu; subst hc; subst hu; exact hzr
              | 1 => simp at hc hu; subst hc; subst hu; exact .iv _ _ (.lit _)
              | j + 2 => simp at hc)
        · have hfind : ∀ w' : World, (Instr.findKey kt (.int .i64 n) ms.toList).run P w' = .ok (some (0 + j, e.val)) w' := fun w' => by simp [Instr.findKey, run_underlying hu1, h2]
          cases ok with
          | false => exact ⟨e.val, fun w' hb => by simp [Instr.lookup, run_underlying hu, MapKept.run_getObj_map (hh' w' hb), hchk w', hfind w'], by simp only [h1, cond_false]; exact h3⟩
          | true =>
            refine ⟨.tuple #[e.val, .bool true], fun w' hb => by simp [Instr.lookup, run_underlying hu, MapKept.run_getObj_map (hh' w' hb), hchk w', hfind w'], ?_⟩
            simp only [h1, cond_true]
            exact .tup _ [e.val, .bool true] rfl (fun j c u hc hu => by
              match j with
              | 0 => simp at hc hu; subst hc; subst hu; exact h3
              | 1 => simp at hc hu; subst hc; subst hu; exact .iv _ _ (.lit _)
              | j + 2 => simp at hc)
    · cases hq
  · cases hq
end
end Go.PL
