/- MergeMarks: plain laws and walk. -/
import Derived.Test.YtjcdmdejhbmoeaaT6
namespace Go.Proofs.Ytjcdmdejhbmoeaa
open Go.PL
set_option maxRecDepth 100000
set_option linter.unusedSimpArgs false
set_option linter.unusedVariables false
theorem match_any {a b : List Ln} {p : List (Int × Int)} (h : matchP a b p) : p.any (diff1 a b) = false := by
  rw [← Bool.not_eq_true, List.any_eq_true]
  rintro ⟨q, hq, hd⟩
  have := h.2.2 q hq
  unfold diff1 at hd
  rw [this] at hd
  simp at hd
theorem match_ok {o a b : List Ln} {oa ob : List (Int × Int)} (ho : o.length ≤ 400) (ha : a.length ≤ 400) (hb : b.length ≤ 400) (h1 : matchP o a oa) (h2 : matchP o b ob) : okOf oa ob o.length a.length b.length = true := by
  simp only [okOf, Bool.and_eq_true, decide_eq_true_eq]
  exact ⟨⟨⟨⟨⟨⟨⟨by omega, by omega⟩, by omega⟩, by omega⟩, by omega⟩, by omega⟩, h1.1⟩, h2.1⟩
theorem match_mof {o a b : List Ln} {oa ob : List (Int × Int)} (ho : o.length ≤ 400) (ha : a.length ≤ 400) (hb : b.length ≤ 400) (h1 : matchP o a oa) (h2 : matchP o b ob) :
    mofE o a b oa ob = 0 ∧ mofL o a b oa ob = pcs o a b (ofL oa ob o.length a.length b.length) := by
  have hok := match_ok ho ha hb h1 h2
  have hE : ofE oa ob o.length a.length b.length = 0 := by unfold ofE; rw [hok]; rfl
  have h0 : mofE o a b oa ob = 0 := by
    unfold mofE
    rw [if_neg (by rw [hE]; decide), match_any h1, match_any h2]
    rfl
  exact ⟨h0, by unfold mofL; rw [if_neg (by rw [h0]; decide)]⟩
theorem sideF_ok (o a b : List Ln) (c : Ck) : 1 ≤ sideF o a b c ∧ sideF o a b c ≤ 4 := by
  unfold sideF
  split
  · omega
  · split
    · omega
    · split <;> omega
theorem match_fits {o a b : List Ln} {oa ob : List (Int × Int)} (ho : o.length ≤ 400) (ha : a.length ≤ 400) (hb : b.length ≤ 400) (h1 : matchP o a oa) (h2 : matchP o b ob) : fitsB o a b (mofL o a b oa ob) = true := by
  have hok := match_ok ho ha hb h1 h2
  rw [(match_mof ho ha hb h1 h2).2]
  unfold fitsB
  rw [Bool.and_eq_true, List.all_eq_true]
  refine ⟨fun p hp => ?_, ?_⟩
  · unfold pcs at hp
    obtain ⟨c, _, rfl⟩ := List.mem_map.1 hp
    have := sideF_ok o a b c
    simp only [sideOk, Bool.and_eq_true, decide_eq_true_eq]
    exact this
  · have : (pcs o a b (ofL oa ob o.length a.length b.length)).map (·.c) = ofL oa ob o.length a.length b.length := by
      unfold pcs
      rw [List.map_map]
      exact List.map_id' _
    rw [this]
    exact ofL_right hok
/-- How many lines a piece has. -/
def cntP (p : Pc) : Int := if p.side = 2 then p.c.an else if p.side = 4 then p.c.an + p.c.on + p.c.bn + 4 else p.c.bn
def cntL : List Pc → Int
  | [] => 0
  | p :: l => cntP p + cntL l
theorem cntL_app (l k : List Pc) : cntL (l ++ k) = cntL l + cntL k := by
  induction l with
  | nil => simp [cntL]
  | cons p l ih => simp only [List.cons_append, cntL, ih]; omega
theorem pieceL_cnt {o a b : List Ln} {p : Pc} (h : inT o a b p.c) : ((pieceL o a b p).length : Int) = cntP p := by
  have l1 := segN_length h.1
  have l2 := segN_length h.2.1
  have l3 := segN_length h.2.2
  unfold pieceL cntP
  split
  · exact l2
  · split
    · simp [markL, mkL]; omega
    · exact l3
theorem flatP_cnt {o a b : List Ln} : ∀ {l : List Pc}, (∀ p ∈ l, inT o a b p.c) → ((flatP o a b l).length : Int) = cntL l
  | [], _ => rfl
  | p :: l, h => by
    have e : flatP o a b (p :: l) = pieceL o a b p ++ flatP o a b l := by simp [flatP]
    have h1 := pieceL_cnt (h p (List.mem_cons_self ..))
    have h2 := flatP_cnt (l := l) (fun q hq => h q (List.mem_cons_of_mem _ hq))
    rw [e, List.length_append, cntL]
    push_cast
    omega
theorem cnt_small {o a b : List Ln} {p : Pc} (h : inT o a b p.c) (ho : o.length ≤ 40) (ha : a.length ≤ 40) (hb : b.length ≤ 40) : 0 ≤ cntP p ∧ cntP p ≤ 124 ∧ 0 ≤ p.c.on ∧ p.c.on ≤ 40 ∧ 0 ≤ p.c.an ∧ p.c.an ≤ 40 ∧ 0 ≤ p.c.bn ∧ p.c.bn ≤ 40 := by
  obtain ⟨h1, h2, h3⟩ := h
  unfold inL at h1 h2 h3
  unfold cntP
  split
  · omega
  · split <;> omega
theorem cntL_b {o a b : List Ln} (ho : o.length ≤ 40) (ha : a.length ≤ 40) (hb : b.length ≤ 40) : ∀ {l : List Pc}, (∀ p ∈ l, inT o a b p.c) → 0 ≤ cntL l ∧ cntL l ≤ 124 * (l.length : Int)
  | [], _ => by simp [cntL]
  | p :: l, h => by
    have h1 := cnt_small (h p (List.mem_cons_self ..)) ho ha hb
    have h2 := cntL_b ho ha hb (l := l) (fun q hq => h q (List.mem_cons_of_mem _ hq))
    rw [cntL, List.length_cons]
    push_cast
    omega
theorem MergeMarks_walk (o a b : List Ln) (hto : okT o) (hta : okT a) (htb : okT b) : PC Try.prog 3 [iL o, iL a, iL b] [] 0 900 (fun t obs => t = iB true ∧ obs = []) := by
  refine PC.body [6] Try.func3 rfl (by rfl) (Nat.le_of_ble_eq_true (by rfl)) rfl ?_; simp only [enumA]
  ((repeat refine PWp.seq ?_); refine PWp.region TT (by rfl) (fun K hK => ?_); simp only [push_cast, seval, Nat.reduceEqDiff, Nat.reduceLeDiff, reduceCtorEq]; (repeat refine sk ?_); refine hK _ ?_; clear hK K)
  ((repeat refine PWp.seq ?_); refine PWp.region TT (by rfl) (fun K hK => ?_); simp only [push_cast, seval, Nat.reduceEqDiff, Nat.reduceLeDiff, reduceCtorEq])
  ((repeat refine sk ?_); refine PCall.quse (few14_q o) (by simp [push_cast]) (by simp [push_cast]) ?_)
  (simp only [push_cast, seval, Nat.reduceEqDiff, Nat.reduceLeDiff, reduceCtorEq])
  ((repeat refine sk ?_); refine PCall.quse (few14_q a) (by simp [push_cast]) (by simp [push_cast]) ?_)
  (simp only [push_cast, seval, Nat.reduceEqDiff, Nat.reduceLeDiff, reduceCtorEq])
  ((repeat refine sk ?_); refine PCall.quse (few14_q b) (by simp [push_cast]) (by simp [push_cast]) ?_)
  (simp only [push_cast, seval, Nat.reduceEqDiff, Nat.reduceLeDiff, reduceCtorEq]; (repeat refine sk ?_); refine hK _ ?_; clear hK K)
  have ho := few_len o
  have ha := few_len a
  have hb := few_len b
  have hto : okT (o.take 40) := fun x hx => hto x (List.mem_of_mem_take hx)
  have hta : okT (a.take 40) := fun x hx => hta x (List.mem_of_mem_take hx)
  have htb : okT (b.take 40) := fun x hx => htb x (List.mem_of_mem_take hx)
  generalize o.take 40 = o at *
  generalize a.take 40 = a at *
  generalize b.take 40 = b at *
  ((repeat refine PWp.seq ?_); refine PWp.region TT (by rfl) (fun K hK => ?_); simp only [push_cast, seval, Nat.reduceEqDiff, Nat.reduceLeDiff, reduceCtorEq])
  ((repeat refine sk ?_); refine PCall.use (ref01_Right o (by omega) hto) [] rfl (by simp [push_cast]) (by simp) (by simp [push_cast]) (by simp [push_cast]) (by simp [push_cast]) (by simp [push_cast]) ?_)
  rintro _ _ ⟨rfl, rfl⟩
  cases hr1 : rightB o with
  | false =>
    (simp only [push_cast, seval, Nat.reduceEqDiff, Nat.reduceLeDiff, reduceCtorEq])
    ((repeat refine sk ?_); refine hK _ ?_; clear hK K)
    ((repeat refine PWp.seq ?_); refine PWp.cond (by simp only [push_cast, seval, Nat.reduceEqDiff, Nat.reduceLeDiff, reduceCtorEq]; rfl) (fun hc => ?_) (fun hc => ?_))
    · clear hc
      ((repeat refine PWp.seq ?_); refine PWp.region TT (by rfl) (fun K hK => ?_); simp only [push_cast, seval, Nat.reduceEqDiff, Nat.reduceLeDiff, reduceCtorEq])
      ((repeat refine sk ?_); refine PCall.use (live14) [] rfl (by simp [push_cast]) (by simp) (by simp [push_cast]) (by simp [push_cast]) (by simp [push_cast]) (by simp [push_cast]) ?_)
      rintro _ _ ⟨rfl, rfl⟩
      (simp only [push_cast, seval, Nat.reduceEqDiff, Nat.reduceLeDiff, reduceCtorEq]; (repeat refine sk ?_); refine hK _ ?_; clear hK K)
      ((repeat refine PWp.seq ?_); refine PWp.ret ?_)
      refine ⟨.inr rfl, by omega, _, [], ?_, rfl, rfl⟩
      (simp [push_cast, -List.getD_eq_getElem?_getD])
    · cases hc
  | true =>
    (simp only [push_cast, seval, Nat.reduceEqDiff, Nat.reduceLeDiff, reduceCtorEq])
    ((repeat refine sk ?_); refine PCall.use (ref01_Right a (by omega) hta) [] rfl (by simp [push_cast]) (by simp) (by simp [push_cast]) (by simp [push_cast]) (by simp [push_cast]) (by simp [push_cast]) ?_)
    rintro _ _ ⟨rfl, rfl⟩
    cases hr2 : rightB a with
    | false =>
      (simp only [push_cast, seval, Nat.reduceEqDiff, Nat.reduceLeDiff, reduceCtorEq])
      ((repeat refine sk ?_); refine hK _ ?_; clear hK K)
      ((repeat refine PWp.seq ?_); refine PWp.cond (by simp only [push_cast, seval, Nat.reduceEqDiff, Nat.reduceLeDiff, reduceCtorEq]; rfl) (fun hc => ?_) (fun hc => ?_))
      · clear hc
        ((repeat refine PWp.seq ?_); refine PWp.region TT (by rfl) (fun K hK => ?_); simp only [push_cast, seval, Nat.reduceEqDiff, Nat.reduceLeDiff, reduceCtorEq])
        ((repeat refine sk ?_); refine PCall.use (live14) [] rfl (by simp [push_cast]) (by simp) (by simp [push_cast]) (by simp [push_cast]) (by simp [push_cast]) (by simp [push_cast]) ?_)
        rintro _ _ ⟨rfl, rfl⟩
        (simp only [push_cast, seval, Nat.reduceEqDiff, Nat.reduceLeDiff, reduceCtorEq]; (repeat refine sk ?_); refine hK _ ?_; clear hK K)
        ((repeat refine PWp.seq ?_); refine PWp.ret ?_)
        refine ⟨.inr rfl, by omega, _, [], ?_, rfl, rfl⟩
        (simp [push_cast, -List.getD_eq_getElem?_getD])
      · cases hc
    | true =>
      (simp only [push_cast, seval, Nat.reduceEqDiff, Nat.reduceLeDiff, reduceCtorEq])
      ((repeat refine sk ?_); refine PCall.use (ref01_Right b (by omega) htb) [] rfl (by simp [push_cast]) (by simp) (by simp [push_cast]) (by simp [push_cast]) (by simp [push_cast]) (by simp [push_cast]) ?_)
      rintro _ _ ⟨rfl, rfl⟩
      (simp only [push_cast, seval, Nat.reduceEqDiff, Nat.reduceLeDiff, reduceCtorEq]; (repeat refine sk ?_); refine hK _ ?_; clear hK K)
      ((repeat refine PWp.seq ?_); refine PWp.cond (by simp only [push_cast, seval, Nat.reduceEqDiff, Nat.reduceLeDiff, reduceCtorEq]; rfl) (fun hc => ?_) (fun hc => ?_))
      · clear hc
        ((repeat refine PWp.seq ?_); refine PWp.region TT (by rfl) (fun K hK => ?_); simp only [push_cast, seval, Nat.reduceEqDiff, Nat.reduceLeDiff, reduceCtorEq])
        ((repeat refine sk ?_); refine PCall.use (live14) [] rfl (by simp [push_cast]) (by simp) (by simp [push_cast]) (by simp [push_cast]) (by simp [push_cast]) (by simp [push_cast]) ?_)
        rintro _ _ ⟨rfl, rfl⟩
        (simp only [push_cast, seval, Nat.reduceEqDiff, Nat.reduceLeDiff, reduceCtorEq]; (repeat refine sk ?_); refine hK _ ?_; clear hK K)
        ((repeat refine PWp.seq ?_); refine PWp.ret ?_)
        refine ⟨.inr rfl, by omega, _, [], ?_, rfl, rfl⟩
        (simp [push_cast, -List.getD_eq_getElem?_getD])
      · clear hc
        ((repeat refine PWp.seq ?_); refine PWp.skip ?_)
        ((repeat refine PWp.seq ?_); refine PWp.region TT (by rfl) (fun K hK => ?_); simp only [push_cast, seval, Nat.reduceEqDiff, Nat.reduceLeDiff, reduceCtorEq])
        ((repeat refine sk ?_); refine PCall.use (law14_pairs o a (by omega) (by omega)) [] rfl (by simp [push_cast]) (by simp) (by simp [push_cast]) (by simp [push_cast]) (by simp [push_cast]) (by simp [push_cast]) ?_)
        rintro _ _ ⟨⟨oa, hoa, rfl⟩, rfl⟩
        (simp only [push_cast, seval, Nat.reduceEqDiff, Nat.reduceLeDiff, reduceCtorEq])
        ((repeat refine sk ?_); refine PCall.use (law14_pairs o b (by omega) (by omega)) [] rfl (by simp [push_cast]) (by simp) (by simp [push_cast]) (by simp [push_cast]) (by simp [push_cast]) (by simp [push_cast]) ?_)
        rintro _ _ ⟨⟨ob, hob, rfl⟩, rfl⟩
        (simp only [push_cast, seval, Nat.reduceEqDiff, Nat.reduceLeDiff, reduceCtorEq])
        ((repeat refine sk ?_); refine PCall.use (merge_Of o a b oa ob hoa.2.1 hob.2.1) [] rfl (by simp [push_cast]) (by simp) (by simp [push_cast]) (by simp [push_cast]) (by simp [push_cast]) (by simp [push_cast]) ?_)
        rintro _ _ ⟨rfl, rfl⟩
        have hml := mofL_length (o := o) (a := a) (b := b) (oa := oa) (ob := ob)
        have hm0 := (match_mof (by omega) (by omega) (by omega) hoa hob).1
        have hfit := match_fits (by omega) (by omega) (by omega) hoa hob
        rw [hm0]
        generalize mofL o a b oa ob = l at *
        have hin := fits_in (by omega) (by omega) (by omega) hfit
        have hinT : ∀ p ∈ l, inT o a b p.c := fun p hp => (hin p hp).1
        have e1 : mkE l o a b = 0 := by unfold mkE; rw [hfit]; rfl
        have e2 : mkR l o a b = evenL (flatP o a b l) := by unfold mkR; rw [hfit]; rfl
        have e3 : (cleanB l = true ∧ lnE l o a b = 0 ∧ lnR l o a b = evenL (flatP o a b l)) ∨ (cleanB l = false ∧ lnE l o a b = 10) := by
          cases h : cleanB l
          · exact .inr ⟨rfl, by unfold lnE; rw [hfit, h]; rfl⟩
          · exact .inl ⟨rfl, by unfold lnE; rw [hfit, h]; rfl, by unfold lnR; rw [hfit, h]; rfl⟩
        have hfl : ((evenL (flatP o a b l)).length : Int) = cntL l := by rw [evenL_length]; exact flatP_cnt hinT
        have hfb := cntL_b ho ha hb hinT
        (simp only [push_cast, seval, Nat.reduceEqDiff, Nat.reduceLeDiff, reduceCtorEq]; (repeat refine sk ?_); refine hK _ ?_; clear hK K)
        ((repeat refine PWp.seq ?_); refine PWp.region TT (by rfl) (fun K hK => ?_); simp only [push_cast, seval, Nat.reduceEqDiff, Nat.reduceLeDiff, reduceCtorEq])
        ((repeat refine sk ?_); refine PCall.use (merge_Marked l o a b (by omega) (by omega) (by omega) (by omega)) [] rfl (by simp [push_cast]) (by simp) (by simp [push_cast]) (by simp [push_cast]) (by simp [push_cast]) (by simp [push_cast]) ?_)
        rintro _ _ ⟨rfl, rfl⟩
        rw [e1, e2]
        (simp only [push_cast, seval, Nat.reduceEqDiff, Nat.reduceLeDiff, reduceCtorEq]; (repeat refine sk ?_); refine hK _ ?_; clear hK K)
        ((repeat refine PWp.seq ?_); refine PWp.region TT (by rfl) (fun K hK => ?_); simp only [push_cast, seval, Nat.reduceEqDiff, Nat.reduceLeDiff, reduceCtorEq])
        ((repeat refine sk ?_); refine PCall.use (merge_Lines l o a b (by omega) (by omega) (by omega) (by omega)) [] rfl (by simp [push_cast]) (by simp) (by simp [push_cast]) (by simp [push_cast]) (by simp [push_cast]) (by simp [push_cast]) ?_)
        rintro _ _ ⟨rfl, rfl⟩
        generalize lnE l o a b = E at *
        generalize lnR l o a b = z at *
        generalize evenL (flatP o a b l) = y at *
        (simp only [push_cast, seval, Nat.reduceEqDiff, Nat.reduceLeDiff, reduceCtorEq]; (repeat refine sk ?_); refine hK _ ?_; clear hK K)
        ((repeat refine PWp.seq ?_); refine PWp.region TT (by rfl) (fun K hK => ?_); simp only [push_cast, seval, Nat.reduceEqDiff, Nat.reduceLeDiff, reduceCtorEq]; (repeat refine sk ?_); refine hK _ ?_; clear hK K)
        ((repeat refine PWp.seq ?_); refine PWp.cond (by simp only [push_cast, seval, Nat.reduceEqDiff, Nat.reduceLeDiff, reduceCtorEq]; rfl) (fun hc => ?_) (fun hc => ?_))
        · cases hc
        · clear hc
          ((repeat refine PWp.seq ?_); refine PWp.skip ?_)
          ((repeat refine PWp.seq ?_); refine PWp.region TT (by rfl) (fun K hK => ?_); simp only [push_cast, seval, Nat.reduceEqDiff, Nat.reduceLeDiff, reduceCtorEq]; (repeat refine sk ?_); refine hK _ ?_; clear hK K)
          ((repeat refine PWp.seq ?_); refine PWp.region TT (by rfl) (fun K hK => ?_); simp only [push_cast, seval, Nat.reduceEqDiff, Nat.reduceLeDiff, reduceCtorEq]; (repeat refine sk ?_); refine hK _ ?_; clear hK K)
          ((repeat refine PWp.seq ?_); refine PWp.block ?_)
          refine PWp.loop (fun c st => ∃ k : Nat, c = l.length - k ∧ k ≤ l.length ∧
            st = ⟨[(7, iPc l), (9, iL y), (11, iL z), (12, iI E), (13, iI (cntL (l.take k))), (14, iI k)], [], 0⟩) _ _ ⟨0, rfl, Nat.zero_le _, rfl⟩ (Gh.le (by simp [push_cast, -List.getD_eq_getElem?_getD, cntL]) (by simp)) ?_
          rintro c st ⟨k, rfl, hk, rfl⟩
          ((repeat refine PWp.seq ?_); refine PWp.region TT (by rfl) (fun K hK => ?_); simp only [push_cast, seval, Nat.reduceEqDiff, Nat.reduceLeDiff, reduceCtorEq]; (repeat refine sk ?_); refine hK _ ?_; clear hK K)
          ((repeat refine PWp.seq ?_); refine PWp.cond (by simp only [push_cast, seval, Nat.reduceEqDiff, Nat.reduceLeDiff, reduceCtorEq]; rfl) (fun hc => ?_) (fun hc => ?_))
          · have hlt : k < l.length := by simpa using hc
            clear hc
            have hg : (l.map encPc).getD k .any = encPc (l.getD k default) := getD_map hlt
            have hcs : cntL (l.take (k + 1)) = cntL (l.take k) + cntP (l.getD k default) := by rw [take_succ_getD hlt, cntL_app]; simp [cntL]
            have hsm := cnt_small (hinT _ (getD_mem hlt)) ho ha hb
            have hcb := cntL_b ho ha hb (l := l.take k) (fun p hp => hinT p (List.mem_of_mem_take hp))
            rw [List.length_take] at hcb
            generalize l.getD k default = p at *
            generalize hC : cntP p = C at *
            unfold cntP at hC
            ((repeat refine PWp.seq ?_); refine PWp.skip ?_)
            ((repeat refine PWp.seq ?_); refine PWp.block ?_)
            ((repeat refine PWp.seq ?_); refine PWp.region TT (by rfl) (fun K hK => ?_); simp only [push_cast, seval, Nat.reduceEqDiff, Nat.reduceLeDiff, reduceCtorEq, hg]; (repeat refine sk ?_); refine hK _ ?_; clear hK K)
            ((repeat refine PWp.seq ?_); refine PWp.block ?_)
            ((repeat refine PWp.seq ?_); refine PWp.region TT (by rfl) (fun K hK => ?_); simp only [push_cast, seval, Nat.reduceEqDiff, Nat.reduceLeDiff, reduceCtorEq]; (repeat refine sk ?_); refine hK _ ?_; clear hK K)
            ((repeat refine PWp.seq ?_); refine PWp.cond (by simp only [push_cast, seval, Nat.reduceEqDiff, Nat.reduceLeDiff, reduceCtorEq]; rfl) (fun hc => ?_) (fun hc => ?_))
            · have hs : p.side = 2 := by simpa using hc
              rw [if_pos hs] at hC
              subst hC
              ((repeat refine PWp.seq ?_); refine PWp.region TT (by rfl) (fun K hK => ?_); simp only [push_cast, seval, Nat.reduceEqDiff, Nat.reduceLeDiff, reduceCtorEq, hg, wrap64_id (n := cntL (l.take k) + p.c.an) (by omega) (by omega)]; (repeat refine sk ?_); refine hK _ ?_; clear hK K)
              ((repeat refine PWp.seq ?_); refine PWp.region TT (by rfl) (fun K hK => ?_); simp only [push_cast, seval, Nat.reduceEqDiff, Nat.reduceLeDiff, reduceCtorEq, wrap64_id (n := (k : Int) + 1) (by omega) (by omega)]; (repeat refine sk ?_); refine hK _ ?_; clear hK K)
              refine ⟨_, _, ?_, ⟨k + 1, rfl, by omega, rfl⟩, Gh.le (by simp [push_cast, -List.getD_eq_getElem?_getD, hcs]) (by simp)⟩
              omega
            · have hs2 : p.side ≠ 2 := by simpa using hc
              clear hc
              rw [if_neg hs2] at hC
              ((repeat refine PWp.seq ?_); refine PWp.region TT (by rfl) (fun K hK => ?_); simp only [push_cast, seval, Nat.reduceEqDiff, Nat.reduceLeDiff, reduceCtorEq]; (repeat refine sk ?_); refine hK _ ?_; clear hK K)
              ((repeat refine PWp.seq ?_); refine PWp.cond (by simp only [push_cast, seval, Nat.reduceEqDiff, Nat.reduceLeDiff, reduceCtorEq]; rfl) (fun hc => ?_) (fun hc => ?_))
              · have hs : p.side = 4 := by simpa using hc
                rw [if_pos hs] at hC
                subst hC
                ((repeat refine PWp.seq ?_); refine PWp.draw TT (by kernel_rfl) (by kernel_rfl) (by rfl) (by rfl) (fun K hK => ?_); simp only [push_cast, seval, Nat.reduceEqDiff, Nat.reduceLeDiff, reduceCtorEq, hg, wrap64_id (n := p.c.an + p.c.on) (by omega) (by omega), wrap64_id (n := p.c.an + p.c.on + p.c.bn) (by omega) (by omega), wrap64_id (n := p.c.an + p.c.on + p.c.bn + 4) (by omega) (by omega), wrap64_id (n := cntL (l.take k) + (p.c.an + p.c.on + p.c.bn + 4)) (by omega) (by omega)]; (repeat refine sk ?_); refine hK _ ?_; clear hK K)
                ((repeat refine PWp.seq ?_); refine PWp.region TT (by rfl) (fun K hK => ?_); simp only [push_cast, seval, Nat.reduceEqDiff, Nat.reduceLeDiff, reduceCtorEq, wrap64_id (n := (k : Int) + 1) (by omega) (by omega)]; (repeat refine sk ?_); refine hK _ ?_; clear hK K)
                refine ⟨_, _, ?_, ⟨k + 1, rfl, by omega, rfl⟩, Gh.le (by simp [push_cast, -List.getD_eq_getElem?_getD, hcs]) (by simp)⟩
                omega
              · have hs4 : p.side ≠ 4 := by simpa using hc
                rw [if_neg hs4] at hC
                subst hC
                ((repeat refine PWp.seq ?_); refine PWp.region TT (by rfl) (fun K hK => ?_); simp only [push_cast, seval, Nat.reduceEqDiff, Nat.reduceLeDiff, reduceCtorEq, hg, wrap64_id (n := cntL (l.take k) + p.c.bn) (by omega) (by omega)]; (repeat refine sk ?_); refine hK _ ?_; clear hK K)
                ((repeat refine PWp.seq ?_); refine PWp.region TT (by rfl) (fun K hK => ?_); simp only [push_cast, seval, Nat.reduceEqDiff, Nat.reduceLeDiff, reduceCtorEq, wrap64_id (n := (k : Int) + 1) (by omega) (by omega)]; (repeat refine sk ?_); refine hK _ ?_; clear hK K)
                refine ⟨_, _, ?_, ⟨k + 1, rfl, by omega, rfl⟩, Gh.le (by simp [push_cast, -List.getD_eq_getElem?_getD, hcs]) (by simp)⟩
                omega
          · have hk' : k = l.length := by simp at hc; omega
            subst hk'
            rw [List.take_length] at *
            have hyl : y.length ≤ 1000000 := by omega
            (repeat refine PWp.seq ?_); refine PWp.exit (iteT rfl ?_)
            ((repeat refine PWp.seq ?_); refine PWp.region TT (by rfl) (fun K hK => ?_); simp only [push_cast, seval, Nat.reduceEqDiff, Nat.reduceLeDiff, reduceCtorEq])
            ((repeat refine sk ?_); refine PCall.use (live14) [] rfl (by simp [push_cast]) (by simp) (by simp [push_cast]) (by simp [push_cast]) (by simp [push_cast]) (by simp [push_cast]) ?_)
            rintro _ _ ⟨rfl, rfl⟩
            have h00 : ((0 : Int) != 0) = false := rfl
            have h10 : ((10 : Int) != 0) = true := rfl
            rcases e3 with ⟨hcl, rfl, rfl⟩ | ⟨hcl, rfl⟩
            · (simp only [push_cast, seval, Nat.reduceEqDiff, Nat.reduceLeDiff, reduceCtorEq, hfl])
              ((repeat refine sk ?_); refine PCall.use (merge_Clean l (by omega)) [] rfl (by simp [push_cast]) (by simp) (by simp [push_cast]) (by simp [push_cast]) (by simp [push_cast]) (by simp [push_cast]) ?_)
              rintro _ _ ⟨rfl, rfl⟩
              rw [hcl]
              (simp only [push_cast, seval, Nat.reduceEqDiff, Nat.reduceLeDiff, reduceCtorEq, hfl, h00])
              ((repeat refine sk ?_); refine PCall.use (ref01_Same z z hyl) [] rfl (by simp [push_cast]) (by simp) (by simp [push_cast]) (by simp [push_cast]) (by simp [push_cast]) (by simp [push_cast]) ?_)
              rintro _ _ ⟨rfl, rfl⟩
              rw [decide_eq_true (rfl : z = z)]
              (simp only [push_cast, seval, Nat.reduceEqDiff, Nat.reduceLeDiff, reduceCtorEq, h00]; (repeat refine sk ?_); refine hK _ ?_; clear hK K)
              ((repeat refine PWp.seq ?_); refine PWp.ret ?_)
              refine ⟨.inr rfl, by omega, _, [], ?_, rfl, rfl⟩
              (simp [push_cast, -List.getD_eq_getElem?_getD])
            · (simp only [push_cast, seval, Nat.reduceEqDiff, Nat.reduceLeDiff, reduceCtorEq, hfl])
              ((repeat refine sk ?_); refine PCall.use (merge_Clean l (by omega)) [] rfl (by simp [push_cast]) (by simp) (by simp [push_cast]) (by simp [push_cast]) (by simp [push_cast]) (by simp [push_cast]) ?_)
              rintro _ _ ⟨rfl, rfl⟩
              rw [hcl]
              (simp only [push_cast, seval, Nat.reduceEqDiff, Nat.reduceLeDiff, reduceCtorEq, hfl, h10]; (repeat refine sk ?_); refine hK _ ?_; clear hK K)
              ((repeat refine PWp.seq ?_); refine PWp.ret ?_)
              refine ⟨.inr rfl, by omega, _, [], ?_, rfl, rfl⟩
              (simp [push_cast, -List.getD_eq_getElem?_getD])
end Go.Proofs.Ytjcdmdejhbmoeaa
