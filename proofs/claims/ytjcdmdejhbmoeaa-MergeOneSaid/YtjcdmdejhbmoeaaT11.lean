/- Plain laws of merges: both others changed for one another. -/
import Derived.Test.YtjcdmdejhbmoeaaT9
namespace Go.Proofs.Ytjcdmdejhbmoeaa
open Go.PL
set_option maxRecDepth 100000
set_option linter.unusedSimpArgs false
set_option linter.unusedVariables false
def turnS (x : Int) : Int := if x = 2 then 3 else if x = 3 then 2 else x
def turnP (p : Pc) : Pc := ⟨turnS p.side, swapC p.c⟩
theorem side_turn (o a b : List Ln) (c : Ck) : sideF o b a (swapC c) = turnS (sideF o a b c) := by
  unfold sideF turnS swapC
  simp only
  by_cases h1 : c.s = true
  · simp [h1]
  · by_cases h2 : segN a c.a c.an = segN b c.b c.bn
    · simp [h2]
    · have h2' : ¬ segN b c.b c.bn = segN a c.a c.an := fun e => h2 e.symm
      by_cases h3 : segN a c.a c.an = segN o c.o c.on
      · have h4 : ¬ segN b c.b c.bn = segN o c.o c.on := fun e => h2 (h3.trans e.symm)
        rw [if_neg (show ¬ (c.s = true ∨ segN b c.b c.bn = segN a c.a c.an) from fun h => h.elim h1 h2'), if_neg h4, if_pos h3, if_neg (show ¬ (c.s = true ∨ segN a c.a c.an = segN b c.b c.bn) from fun h => h.elim h1 h2), if_pos h3]
        rfl
      · by_cases h4 : segN b c.b c.bn = segN o c.o c.on
        · rw [if_neg (show ¬ (c.s = true ∨ segN b c.b c.bn = segN a c.a c.an) from fun h => h.elim h1 h2'), if_pos h4, if_neg (show ¬ (c.s = true ∨ segN a c.a c.an = segN b c.b c.bn) from fun h => h.elim h1 h2), if_neg h3, if_pos h4]
          rfl
        · rw [if_neg (show ¬ (c.s = true ∨ segN b c.b c.bn = segN a c.a c.an) from fun h => h.elim h1 h2'), if_neg h4, if_neg h3, if_neg (show ¬ (c.s = true ∨ segN a c.a c.an = segN b c.b c.bn) from fun h => h.elim h1 h2), if_neg h3, if_neg h4]
          rfl
theorem pcs_turn (o a b : List Ln) (l : List Ck) : pcs o b a (l.map swapC) = (pcs o a b l).map turnP := by
  unfold pcs
  rw [List.map_map, List.map_map]
  refine List.map_congr_left fun c _ => ?_
  simp only [Function.comp, side_turn]
  rfl
theorem mof_turn {o a b : List Ln} {oa ob : List (Int × Int)} (ho : o.length ≤ 400) (ha : a.length ≤ 400) (hb : b.length ≤ 400) (h1 : matchP o a oa) (h2 : matchP o b ob) : mofL o b a ob oa = (mofL o a b oa ob).map turnP := by
  rw [(match_mof ho ha hb h1 h2).2, (match_mof ho hb ha h2 h1).2, ofL_comm ob oa, pcs_turn]
theorem turn_clash (p : Pc) : clashB (turnP p) = clashB p := by
  unfold clashB turnP turnS
  simp only
  split
  · rename_i h; rw [h]; rfl
  · split
    · rename_i h; rw [h]; rfl
    · rfl
theorem turn_clean (l : List Pc) : cleanB (l.map turnP) = cleanB l := by
  unfold cleanB
  rw [List.any_map]
  congr 2
  funext p
  exact turn_clash p
/-- Lines of a stable chunk are the same lines. -/
theorem stable_seg {o a b : List Ln} {oa ob : List (Int × Int)} (ho : o.length ≤ 400) (ha : a.length ≤ 400) (hb : b.length ≤ 400) (h1 : matchP o a oa) (h2 : matchP o b ob) {c : Ck} (hc : c ∈ ofL oa ob o.length a.length b.length) (hs : c.s = true) (hin : inT o a b c) :
    segN a c.a c.an = segN b c.b c.bn ∧ segN a c.a c.an = segN o c.o c.on := by
  have hok := match_ok ho ha hb h1 h2
  have hr := ofL_right hok
  have hst : ∀ k : Nat, (k : Int) < c.on → toI oa (c.o + k) = some (c.a + k) ∧ toI ob (c.o + k) = some (c.b + k) := by
    unfold ofL at hc
    rw [hok, if_pos rfl] at hc
    exact chunksF_stable _ _ _ _ c hc hs
  have hn : c.on = c.an ∧ c.an = c.bn := by
    have : ∀ (l : List Ck) (x y z : Int), rightC o.length a.length b.length l x y z = true → ∀ d ∈ l, d.s = true → d.on = d.an ∧ d.an = d.bn := by
      intro l
      induction l with
      | nil => intro x y z _ d hd; cases hd
      | cons e l ih =>
        intro x y z h d hd hds
        simp only [rightC, Bool.and_eq_true, decide_eq_true_eq] at h
        rcases List.mem_cons.1 hd with rfl | hd
        · have := h.1
          unfold okC at this
          exact this.2.2.2.2.2.2.2.1 hds
        · exact ih _ _ _ h.2 d hd hds
    exact this _ _ _ _ hr c hc hs
  obtain ⟨i1, i2, i3⟩ := hin
  have b1 := i1
  have b2 := i2
  have b3 := i3
  unfold inL at b1 b2 b3
  have ga : ∀ k : Nat, (k : Int) < c.on → o.getD (c.o + k).toNat default = a.getD (c.a + k).toNat default := fun k hk => by
    obtain ⟨j, hj, e1, e2⟩ := toI_mem (hst k hk).1
    have := h1.2.2 _ (getD_mem hj)
    rw [e1, e2] at this
    exact this
  have gb : ∀ k : Nat, (k : Int) < c.on → o.getD (c.o + k).toNat default = b.getD (c.b + k).toNat default := fun k hk => by
    obtain ⟨j, hj, e1, e2⟩ := toI_mem (hst k hk).2
    have := h2.2.2 _ (getD_mem hj)
    rw [e1, e2] at this
    exact this
  have la := segN_length i2
  have lb := segN_length i3
  have lo := segN_length i1
  refine ⟨lists_eq (by omega) fun k hk => ?_, lists_eq (by omega) fun k hk => ?_⟩
  · rw [segN_get i2 (by omega), segN_get i3 (by omega), ← ga k (by omega), ← gb k (by omega)]
  · rw [segN_get i2 (by omega), segN_get i1 (by omega), ← ga k (by omega)]
/-- What a piece of a merge is. -/
def goodPc (o a b : List Ln) (p : Pc) : Prop := p.side = sideF o a b p.c ∧ inT o a b p.c ∧ (p.c.s = true → segN a p.c.a p.c.an = segN b p.c.b p.c.bn ∧ segN a p.c.a p.c.an = segN o p.c.o p.c.on)
theorem mof_good {o a b : List Ln} {oa ob : List (Int × Int)} (ho : o.length ≤ 400) (ha : a.length ≤ 400) (hb : b.length ≤ 400) (h1 : matchP o a oa) (h2 : matchP o b ob) : ∀ p ∈ mofL o a b oa ob, goodPc o a b p := by
  intro p hp
  have hin := (fits_in (by omega) (by omega) (by omega) (match_fits ho ha hb h1 h2) p hp).1
  rw [(match_mof ho ha hb h1 h2).2] at hp
  unfold pcs at hp
  obtain ⟨c, hc, rfl⟩ := List.mem_map.1 hp
  exact ⟨rfl, hin, fun hs => stable_seg ho ha hb h1 h2 hc hs hin⟩
theorem piece_turn {o a b : List Ln} {p : Pc} (h : goodPc o a b p) (h4 : p.side ≠ 4) : pieceL o b a (turnP p) = pieceL o a b p := by
  obtain ⟨hs, hin, hst⟩ := h
  unfold pieceL turnP turnS swapC
  simp only
  by_cases e2 : p.side = 2
  · simp [e2]
  · by_cases e3 : p.side = 3
    · simp [e3]
    · rw [if_neg e2, if_neg e3, if_neg e2, if_neg h4, if_neg e2, if_neg h4]
      unfold sideF at hs
      split at hs
      · rename_i h
        rcases h with h | h
        · exact (hst h).1
        · exact h
      · split at hs
        · exact absurd hs e3
        · split at hs
          · exact absurd hs e2
          · exact absurd hs h4
theorem flat_turn {o a b : List Ln} : ∀ {l : List Pc}, (∀ p ∈ l, goodPc o a b p) → cleanB l = true → flatP o b a (l.map turnP) = flatP o a b l
  | [], _, _ => rfl
  | p :: l, h, hc => by
    have hc' : p.side ≠ 4 ∧ cleanB l = true := by
      simp only [cleanB, List.any_cons, clashB, Bool.not_eq_true', Bool.or_eq_false_iff, beq_eq_false_iff_ne] at hc ⊢
      exact hc
    rw [List.map_cons, flatP_cons, flatP_cons, piece_turn (h p (List.mem_cons_self ..)) hc'.1, flat_turn (fun q hq => h q (List.mem_cons_of_mem _ hq)) hc'.2]
end Go.Proofs.Ytjcdmdejhbmoeaa
