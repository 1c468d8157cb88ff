/- THE STATEMENT ResolveSettles, in its second form: where what it reads is small, the law answers true, and its input reads as it did. -/
import Derived.Test.YtmocgjimlhgejaaU17
import Derived.Test.YtmocgjimlhgejaaLC
import Derived.JoinedCond
namespace Go.Proofs.Ytmocgjimlhgejaa
open Go.PL Go.ChangeShapes Go.WideShapes Go.ChangeAt Go.RowKit
set_option maxRecDepth 100000
set_option linter.unusedSimpArgs false
set_option linter.unusedVariables false
theorem ResolveSettles_lifted (os : Os) (started : os.Started) (H : Type) (enc : TypeId × Value → H) (F : Stop.Interp) :
    ReturnsInHanded {} Try.checked os 4 .any ((Rows.OpenSpec.upto Rows.resolveSettlesSpec).pre6 enc Try.prog Try.f4 Rows.resolveSettlesUptoRow.domain false) (((Rows.OpenSpec.upto Rows.resolveSettlesSpec).at F).post enc Try.prog Try.f4 false true false false) := by
  refine returnsInHanded_of_cond (C := Try.checked) (s := Rows.OpenSpec.upto Rows.resolveSettlesSpec) (k := Rows.uptoSmall) rfl own started (by kernel_rfl) Try.func4
    (OpenSpec.witness (enc := enc) (C := Try.checked) (s := Rows.OpenSpec.upto Rows.resolveSettlesSpec) (k := Rows.uptoSmall) rfl false ⟨#[], #[.slice none 0 0, .slice none 0 0], []⟩ 8 (by kernel_rfl) (by kernel_rfl) (by kernel_rfl)
      (x := ([.nil, .nil], [], [])) (by kernel_rfl) rfl (by kernel_rfl)) ?_
  intro W base args ds gs before hval0 hW _ hk _
  have hval : ∀ (j : Nat) t v, Try.f4.params[j]? = some t → args[j]? = some v → Value.okWide Try.prog W .any base t v := hval0
  have hW' := hW
  obtain ⟨p, q, hA0, hV, rfl, hfz, hnd⟩ := hW
  have hA : DataW.TrodAll enc Try.prog W 0 (fun _ => true) true Try.f4.params.toList args.toList ds p := hA0
  rw [Try.params4] at hA hval
  obtain ⟨v0, vs0, d0, ds0, p0, q0, hargs, rfl, rfl, h0, r0⟩ := trodAll_cons hA
  obtain ⟨v1, vs1, d1, ds1, p1, q1, rfl, rfl, rfl, h1, r1⟩ := trodAll_cons r0
  obtain ⟨rfl, rfl, rfl⟩ := trodAll_nil r1
  obtain rfl : args = #[v0, v1] := by cases args; simp_all
  have hbulk : Rows.uptoBulkAll ([d0, d1] ++ gs) ≤ 1048576 := of_decide_eq_true hk
  have g0 : small H 23 d0 := Nat.le_trans (part_le (by simp)) hbulk
  have g1 : small H 30 d1 := Nat.le_trans (part_le (by simp)) hbulk
  obtain ⟨x0, ⟨P0, ⟨e0, f0⟩, rfl⟩, i0⟩ := (open_regsU).arg Try.underlying23 rfl (hval 0 23 v0 rfl rfl) h0 g0 (by rintro _ ⟨_, _, rfl⟩; rfl)
  obtain ⟨x1, ⟨P1, f1, rfl⟩, i1⟩ := (open_chU).arg Try.underlying30 rfl (hval 1 30 v1 rfl rfl) h1 g1 (by rintro _ ⟨_, _, rfl⟩; rfl)
  have hcall := law_calls (W := W) (vs := [v0, v1]) (ResolveSettles_walk P0 P1 e0 f1 f0) (b := true) (fun t o h => h.1) rfl (fun j t v ht hv => by
    match j with
    | 0 => simp at ht hv; subst ht; subst hv; exact ⟨_, rfl, i0⟩
    | 1 => simp at ht hv; subst ht; subst hv; exact ⟨_, rfl, i1⟩
    | j + 2 => simp at ht)
  refine hcall.mono fun e W' ⟨he, hb⟩ => ?_
  subst he
  obtain ⟨rfl, rfl⟩ := trodVars_none hV
  exact ⟨_, rfl, law_post laidOut rfl (by kernel_rfl) Try.underlying4 (by
    rw [Try.params4]
    intro t ht
    simp at ht
    rcases ht with rfl | rfl <;> exact ⟨by kernel_rfl, of_decide_eq_true (by kernel_rfl)⟩) hW' hb (fun ds' hl => by
    rw [show Try.f4.params.size = 2 by kernel_rfl] at hl
    match ds', hl with
    | [a0, a1], _ => rfl)⟩

/-- THE STATEMENT. -/
theorem ResolveSettlesUpto_proved : Rows.ResolveSettlesUptoSaid :=
  OpenClaim.holds_of_cond 4 Try.f4 rfl rfl rfl rfl rfl rfl rfl ⟨rfl, rfl, rfl, rfl, rfl⟩ rfl rfl rfl rfl rfl (by kernel_rfl) Try.func4 (by kernel_rfl)
    (of_decide_eq_true (by kernel_rfl)) (by unfold Func.isWrapper; first | (rw [if_pos (by decide +kernel)]; kernel_rfl) | (rw [if_neg (by decide +kernel)]; exact ⟨rfl, rfl⟩))
    (fun os started H enc _ F => ResolveSettles_lifted os started H enc F)
#print axioms ResolveSettlesUpto_proved
end Go.Proofs.Ytmocgjimlhgejaa
