/- find.parse. -/
import Derived.Test.YtjlnialglahdoaaH2
namespace Go.Proofs.Ytjlnialglahdoaa
open Go.PL
set_option maxRecDepth 100000
set_option linter.unusedSimpArgs false
set_option linter.unusedVariables false
/-- A part of a pattern: any bytes (0), each byte (1), one (2), or one of a set (3). -/
structure Pt where
  k : Nat
  c : UInt8
  s : List UInt8
  deriving DecidableEq, Inhabited
def ptAny : Pt := ⟨0, 0, []⟩
def ptAll : Pt := ⟨1, 0, []⟩
def ptOne (c : UInt8) : Pt := ⟨2, c, []⟩
def ptSet (s : List UInt8) : Pt := ⟨3, 0, s⟩
def atP (p : Pt) : At := if p.k = 0 then ⟨true, fun _ => false⟩ else if p.k = 1 then allF else if p.k = 2 then oneF p.c.toNat else classF p.s
def encP (p : Pt) : IV := encA (atP p)
theorem encP_one (p : Pt) : (encP p).one ∧ (encP p).cells.length = 257 := ⟨trivial, by show (_ :: setI _).length = 257; rw [List.length_cons, setI_len]⟩
theorem encP_any : encP ptAny = .agg (.lit (.bool true) :: setI (fun _ => false)) := rfl
theorem encP_all : encP ptAll = encA allF := rfl
theorem encP_byte (c : UInt8) : encP (ptOne c) = encA (oneF c.toNat) := rfl
theorem encP_set (s : List UInt8) : encP (ptSet s) = encA (classF s) := rfl
def parN : Nat → List UInt8 → List Pt → Option (List Pt)
  | 0, _, acc => some acc
  | _ + 1, [], acc => some acc
  | f + 1, x :: r, acc =>
    if x = 42 then parN f r (acc ++ [ptAny])
    else if x = 63 then parN f r (acc ++ [ptAll])
    else if x = 92 then match r with
      | [] => none
      | c :: r' => parN f r' (acc ++ [ptOne c])
    else if x = 91 then
      if Lib.indexByte r 93 < 0 ∨ r.take (Lib.indexByte r 93).toNat = [] ∨ r.take (Lib.indexByte r 93).toNat = [33] then none
      else parN f (r.drop ((Lib.indexByte r 93).toNat + 1)) (acc ++ [ptSet (r.take (Lib.indexByte r 93).toNat)])
    else parN f r (acc ++ [ptOne x])
def parO (p : List UInt8) : Option (List Pt) := parN (p.length + 1) p []
def parE (p : List UInt8) : Int := if p.length > 200 then 4 else match parO p with
  | none => 3
  | some _ => 0
def parL (p : List UInt8) : List Pt := if p.length > 200 then [] else (parO p).getD []
def iP (l : List Pt) : TV := .iv (.sl 257 (l.map encP))
attribute [push_cast] iP
theorem zIVs_rep (n : Nat) (v : Value) : zIVs (List.replicate n v) = List.replicate n (zIV v) := by
  induction n with
  | zero => rfl
  | succ n ih => rw [List.replicate_succ, List.replicate_succ, zIVs, ih]
theorem setI_no : setI (fun _ => false) = List.replicate 256 (.lit (.bool false)) := by
  unfold setI
  rw [List.map_const', List.length_range]
theorem zi70 : zIVs zbig70 = .lit (.bool false) :: setI (fun _ => false) := by
  unfold zbig70
  rw [zIVs_rep, setI_no]
  rfl
attribute [push_cast] zi70
theorem u8t {x c : UInt8} (h : ((x.toNat : Int) == (c.toNat : Int)) = true) : x = c := by
  apply UInt8.toNat_inj.1
  have := beq_iff_eq.1 h
  omega
theorem u8f {x c : UInt8} (h : ((x.toNat : Int) == (c.toNat : Int)) = false) : x ≠ c := by
  intro e
  subst e
  simp at h
theorem index_lt (l : List UInt8) (c : UInt8) : Lib.indexByte l c < l.length := by
  induction l with
  | nil => simp [Lib.indexByte]
  | cons b l ih =>
    unfold Lib.indexByte
    rw [List.length_cons]
    split
    · push_cast; omega
    · split
      · push_cast; omega
      · push_cast; omega
theorem parN_len : ∀ (f : Nat) (r : List UInt8) (acc out : List Pt), parN f r acc = some out → out.length ≤ acc.length + r.length
  | 0, r, acc, out, h => by simp [parN] at h; subst h; omega
  | f + 1, [], acc, out, h => by simp [parN] at h; subst h; omega
  | f + 1, x :: r, acc, out, h => by
    simp only [parN] at h
    rw [List.length_cons]
    split at h
    · have := parN_len f _ _ _ h; rw [List.length_append] at this; simp at this; omega
    · split at h
      · have := parN_len f _ _ _ h; rw [List.length_append] at this; simp at this; omega
      · split at h
        · cases r with
          | nil => simp at h
          | cons c r => have := parN_len f _ _ _ h; rw [List.length_append] at this; simp at this; simp; omega
        · split at h
          · split at h
            · simp at h
            · have := parN_len f _ _ _ h; rw [List.length_append, List.length_drop] at this; simp at this; omega
          · have := parN_len f _ _ _ h; rw [List.length_append] at this; simp at this; omega
set_option maxHeartbeats 1000000 in
theorem find_parse (p : List UInt8) (hp : p.length ≤ 9223372036854775807) : PC Try.prog 26 [iS p] [] 0 9 (fun t obs => t = .tup [iP (parL p), iI (parE p)] ∧ obs = []) := by
  refine PC.body [2, 3] Try.func26 rfl (by rfl) (Nat.le_of_ble_eq_true (by rfl)) rfl ?_; simp only [enumA]
  ((repeat refine PWp.seq ?_); refine PWp.region TT (by rfl) (fun K hK => ?_); simp only [push_cast, seval, Nat.reduceEqDiff, Nat.reduceLeDiff, reduceCtorEq]; (repeat refine sk ?_); refine hK _ ?_; clear hK K)
  ((repeat refine PWp.seq ?_); refine PWp.region TT (by rfl) (fun K hK => ?_); simp only [push_cast, seval, Nat.reduceEqDiff, Nat.reduceLeDiff, reduceCtorEq]; (repeat refine sk ?_); refine hK _ ?_; clear hK K)
  ((repeat refine PWp.seq ?_); refine PWp.cond (by simp only [push_cast, seval, Nat.reduceEqDiff, Nat.reduceLeDiff, reduceCtorEq]; rfl) (fun hc => ?_) (fun hc => ?_))
  · have hl : p.length > 200 := by have := of_decide_eq_true hc; omega
    have e1 : parL p = [] := by unfold parL; rw [if_pos hl]
    have e2 : parE p = 4 := by unfold parE; rw [if_pos hl]
    ((repeat refine PWp.seq ?_); refine PWp.region TT (by rfl) (fun K hK => ?_); simp only [push_cast, seval, Nat.reduceEqDiff, Nat.reduceLeDiff, reduceCtorEq]; (repeat refine sk ?_); refine hK _ ?_; clear hK K)
    ((repeat refine PWp.seq ?_); refine PWp.ret ?_)
    refine ⟨.inr rfl, by omega, _, [], ?_, rfl, rfl⟩
    rw [e1, e2]
    (simp [push_cast, -List.getD_eq_getElem?_getD])
  · have hl : ¬ p.length > 200 := by have := of_decide_eq_false hc; omega
    have bad : parO p = none → parL p = [] ∧ parE p = 3 := fun h => ⟨by unfold parL; rw [if_neg hl, h]; rfl, by unfold parE; rw [if_neg hl, h]⟩
    clear hc
    ((repeat refine PWp.seq ?_); refine PWp.skip ?_)
    ((repeat refine PWp.seq ?_); refine PWp.region TT (by rfl) (fun K hK => ?_); simp only [push_cast, seval, Nat.reduceEqDiff, Nat.reduceLeDiff, reduceCtorEq]; (repeat refine sk ?_); refine hK _ ?_; clear hK K)
    refine PWp.gh (Gh.row 4 70 257 (by rfl)) ?_
    ((repeat refine PWp.seq ?_); refine PWp.region TT (by rfl) (fun K hK => ?_); simp only [push_cast, seval, Nat.reduceEqDiff, Nat.reduceLeDiff, reduceCtorEq]; (repeat refine sk ?_); refine hK _ ?_; clear hK K)
    ((repeat refine PWp.seq ?_); refine PWp.block ?_)
    refine PWp.loop (fun c st => ∃ (i f : Nat) (acc : List Pt), c = p.length - i ∧ i ≤ p.length ∧ p.length - i + 1 ≤ f ∧ acc.length ≤ i ∧ parO p = parN f (p.drop i) acc ∧
      st = ⟨[(0, iS p), (4, .acc 0 257 (acc.map encP)), (5, iI i)], [(0, .row 70 257)], 1⟩) _ _ ⟨0, p.length + 1, [], rfl, Nat.zero_le _, by omega, Nat.zero_le _, rfl, rfl⟩ (Gh.le (by simp [push_cast, -List.getD_eq_getElem?_getD]) (by simp)) ?_
    rintro c st ⟨i, f, acc, rfl, hi, hf, hal, hN, rfl⟩
    ((repeat refine PWp.seq ?_); refine PWp.region TT (by rfl) (fun K hK => ?_); simp only [push_cast, seval, Nat.reduceEqDiff, Nat.reduceLeDiff, reduceCtorEq]; (repeat refine sk ?_); refine hK _ ?_; clear hK K)
    ((repeat refine PWp.seq ?_); refine PWp.cond (by simp only [push_cast, seval, Nat.reduceEqDiff, Nat.reduceLeDiff, reduceCtorEq]; rfl) (fun hc => ?_) (fun hc => ?_))
    · have hlt : i < p.length := by have := of_decide_eq_true hc; omega
      clear hc
      obtain ⟨g, rfl⟩ : ∃ g, f = g + 1 := ⟨f - 1, by omega⟩
      rw [drop_getD hlt] at hN
      have hN' : parO p = parN (g + 1) (p.getD i 0 :: p.drop (i + 1)) acc := hN
      clear hN
      have hrl : (p.drop (i + 1)).length = p.length - (i + 1) := List.length_drop
      have hdr : ∀ n, (p.drop (i + 1)).drop n = p.drop (i + 1 + n) := fun n => List.drop_drop
      have hr0 : (p.drop (i + 1)).head? = p[i + 1]? := by simp
      have t1 : ((i : Int) + 1).toNat = i + 1 := by omega
      have hx := (p.getD i 0).toNat_lt
      simp only [parN] at hN'
      ((repeat refine PWp.seq ?_); refine PWp.skip ?_)
      ((repeat refine PWp.seq ?_); refine PWp.block ?_)
      ((repeat refine PWp.seq ?_); refine PWp.region TT (by rfl) (fun K hK => ?_); simp only [push_cast, seval, Nat.reduceEqDiff, Nat.reduceLeDiff, reduceCtorEq]; (repeat refine sk ?_); refine hK _ ?_; clear hK K)
      ((repeat refine PWp.seq ?_); refine PWp.block ?_)
      ((repeat refine PWp.seq ?_); refine PWp.region TT (by rfl) (fun K hK => ?_); simp only [push_cast, seval, Nat.reduceEqDiff, Nat.reduceLeDiff, reduceCtorEq]; (repeat refine sk ?_); refine hK _ ?_; clear hK K)
      ((repeat refine PWp.seq ?_); refine PWp.cond (by simp only [push_cast, seval, Nat.reduceEqDiff, Nat.reduceLeDiff, reduceCtorEq]; rfl) (fun hc => ?_) (fun hc => ?_))
      · have hx1 := u8t (c := 42) hc
        clear hc
        rw [if_pos hx1] at hN'
        have hen := encP_any
        ((repeat refine PWp.seq ?_); refine PWp.region TT (by rfl) (fun K hK => ?_); simp only [push_cast, seval, Nat.reduceEqDiff, Nat.reduceLeDiff, reduceCtorEq]; (repeat refine sk ?_); refine hK _ ?_; clear hK K)
        ((repeat refine PWp.seq ?_); refine PWp.region TT (by rfl) (fun K hK => ?_); simp only [push_cast, seval, Nat.reduceEqDiff, Nat.reduceLeDiff, reduceCtorEq, wrap64_id (n := (i : Int) + 1) (by omega) (by omega)]; (repeat refine sk ?_); refine hK _ ?_; clear hK K)
        refine ⟨_, _, ?_, ⟨i + 1, g, acc ++ [ptAny], rfl, by omega, by omega, by simp; omega, hN', rfl⟩, Gh.le (by simp [push_cast, -List.getD_eq_getElem?_getD, hen]) (by simp)⟩
        omega
      · have hx1 := u8f (c := 42) hc
        clear hc
        rw [if_neg hx1] at hN'
        ((repeat refine PWp.seq ?_); refine PWp.region TT (by rfl) (fun K hK => ?_); simp only [push_cast, seval, Nat.reduceEqDiff, Nat.reduceLeDiff, reduceCtorEq]; (repeat refine sk ?_); refine hK _ ?_; clear hK K)
        ((repeat refine PWp.seq ?_); refine PWp.cond (by simp only [push_cast, seval, Nat.reduceEqDiff, Nat.reduceLeDiff, reduceCtorEq]; rfl) (fun hc => ?_) (fun hc => ?_))
        · have hx2 := u8t (c := 63) hc
          clear hc
          rw [if_pos hx2] at hN'
          have hen := encP_all
          ((repeat refine PWp.seq ?_); refine PWp.region TT (by rfl) (fun K hK => ?_); simp only [push_cast, seval, Nat.reduceEqDiff, Nat.reduceLeDiff, reduceCtorEq])
          ((repeat refine sk ?_); refine PCall.use (find_all) [] rfl (by simp [push_cast]) (by simp) (by simp [push_cast]) (by simp [push_cast]) (by simp [push_cast]) (by simp [push_cast]) ?_)
          rintro _ _ ⟨rfl, rfl⟩
          (simp only [push_cast, seval, Nat.reduceEqDiff, Nat.reduceLeDiff, reduceCtorEq]; (repeat refine sk ?_); refine hK _ ?_; clear hK K)
          ((repeat refine PWp.seq ?_); refine PWp.region TT (by rfl) (fun K hK => ?_); simp only [push_cast, seval, Nat.reduceEqDiff, Nat.reduceLeDiff, reduceCtorEq, wrap64_id (n := (i : Int) + 1) (by omega) (by omega)]; (repeat refine sk ?_); refine hK _ ?_; clear hK K)
          refine ⟨_, _, ?_, ⟨i + 1, g, acc ++ [ptAll], rfl, by omega, by omega, by simp; omega, hN', rfl⟩, Gh.le (by simp [push_cast, -List.getD_eq_getElem?_getD, hen]) (by simp)⟩
          omega
        · have hx2 := u8f (c := 63) hc
          clear hc
          rw [if_neg hx2] at hN'
          ((repeat refine PWp.seq ?_); refine PWp.region TT (by rfl) (fun K hK => ?_); simp only [push_cast, seval, Nat.reduceEqDiff, Nat.reduceLeDiff, reduceCtorEq]; (repeat refine sk ?_); refine hK _ ?_; clear hK K)
          ((repeat refine PWp.seq ?_); refine PWp.cond (by simp only [push_cast, seval, Nat.reduceEqDiff, Nat.reduceLeDiff, reduceCtorEq]; rfl) (fun hc => ?_) (fun hc => ?_))
          · have hx3 := u8t (c := 92) hc
            clear hc
            rw [if_pos hx3] at hN'
            ((repeat refine PWp.seq ?_); refine PWp.region TT (by rfl) (fun K hK => ?_); simp only [push_cast, seval, Nat.reduceEqDiff, Nat.reduceLeDiff, reduceCtorEq, wrap64_id (n := (i : Int) + 1) (by omega) (by omega)]; (repeat refine sk ?_); refine hK _ ?_; clear hK K)
            ((repeat refine PWp.seq ?_); refine PWp.region TT (by rfl) (fun K hK => ?_); simp only [push_cast, seval, Nat.reduceEqDiff, Nat.reduceLeDiff, reduceCtorEq]; (repeat refine sk ?_); refine hK _ ?_; clear hK K)
            ((repeat refine PWp.seq ?_); refine PWp.cond (by simp only [push_cast, seval, Nat.reduceEqDiff, Nat.reduceLeDiff, reduceCtorEq]; rfl) (fun hc => ?_) (fun hc => ?_))
            · have hil : i + 1 = p.length := by have := beq_iff_eq.1 hc; omega
              have hd0 : p.drop (i + 1) = [] := List.drop_eq_nil_of_le (by omega)
              rw [hd0] at hN'
              obtain ⟨b1, b2⟩ := bad hN'
              ((repeat refine PWp.seq ?_); refine PWp.region TT (by rfl) (fun K hK => ?_); simp only [push_cast, seval, Nat.reduceEqDiff, Nat.reduceLeDiff, reduceCtorEq]; (repeat refine sk ?_); refine hK _ ?_; clear hK K)
              ((repeat refine PWp.seq ?_); refine PWp.ret ?_)
              refine ⟨.inr rfl, by omega, _, [], ?_, rfl, rfl⟩
              rw [b1, b2]
              (simp [push_cast, -List.getD_eq_getElem?_getD])
            · have hil : i + 1 < p.length := by
                have := beq_eq_false_iff_ne.1 hc
                omega
              clear hc
              rw [drop_getD hil] at hN'
              have hN2 : parO p = parN g (p.drop (i + 1 + 1)) (acc ++ [ptOne (p.getD (i + 1) 0)]) := hN'
              have hx4 := (p.getD (i + 1) 0).toNat_lt
              have hen := encP_byte (p.getD (i + 1) 0)
              ((repeat refine PWp.seq ?_); refine PWp.skip ?_)
              ((repeat refine PWp.seq ?_); refine PWp.region TT (by rfl) (fun K hK => ?_); simp only [push_cast, seval, Nat.reduceEqDiff, Nat.reduceLeDiff, reduceCtorEq, t1])
              ((repeat refine sk ?_); refine PCall.use (find_one (p.getD (i + 1) 0).toNat (by omega)) [] rfl (by simp [push_cast]) (by simp) (by simp [push_cast]) (by simp [push_cast]) (by simp [push_cast]) (by simp [push_cast]) ?_)
              rintro _ _ ⟨rfl, rfl⟩
              (simp only [push_cast, seval, Nat.reduceEqDiff, Nat.reduceLeDiff, reduceCtorEq]; (repeat refine sk ?_); refine hK _ ?_; clear hK K)
              ((repeat refine PWp.seq ?_); refine PWp.region TT (by rfl) (fun K hK => ?_); simp only [push_cast, seval, Nat.reduceEqDiff, Nat.reduceLeDiff, reduceCtorEq, wrap64_id (n := (i : Int) + 1 + 1) (by omega) (by omega)]; (repeat refine sk ?_); refine hK _ ?_; clear hK K)
              refine ⟨_, _, ?_, ⟨i + 1 + 1, g, acc ++ [ptOne (p.getD (i + 1) 0)], rfl, by omega, by omega, by simp; omega, hN2, rfl⟩, Gh.le (by simp [push_cast, -List.getD_eq_getElem?_getD, hen]) (by simp)⟩
              omega
          · have hx3 := u8f (c := 92) hc
            clear hc
            rw [if_neg hx3] at hN'
            ((repeat refine PWp.seq ?_); refine PWp.region TT (by rfl) (fun K hK => ?_); simp only [push_cast, seval, Nat.reduceEqDiff, Nat.reduceLeDiff, reduceCtorEq]; (repeat refine sk ?_); refine hK _ ?_; clear hK K)
            ((repeat refine PWp.seq ?_); refine PWp.cond (by simp only [push_cast, seval, Nat.reduceEqDiff, Nat.reduceLeDiff, reduceCtorEq]; rfl) (fun hc => ?_) (fun hc => ?_))
            · have hx4 := u8t (c := 91) hc
              clear hc
              rw [if_pos hx4] at hN'
              have hlo := Lib.indexByte_ge (p.drop (i + 1)) 93
              have hhi := index_lt (p.drop (i + 1)) 93
              have ha1 : (p.take p.length).drop (i + 1) = p.drop (i + 1) := by rw [List.take_length]
              ((repeat refine PWp.seq ?_); refine PWp.region TT (by rfl) (fun K hK => ?_); simp only [push_cast, seval, Nat.reduceEqDiff, Nat.reduceLeDiff, reduceCtorEq, t1, ha1, wrap64_id (n := (i : Int) + 1) (by omega) (by omega)])
              ((repeat refine sk ?_); refine PCall.use (IndexByte1 (p.drop (i + 1)) 93) [] rfl (by simp [push_cast, ha1]) (by simp) (by simp [push_cast, ha1]) (by simp [push_cast, ha1]) (by simp [push_cast, ha1]) (by simp [push_cast, ha1]) ?_)
              rintro _ _ ⟨rfl, rfl⟩
              have h93 : (93 : Nat).toUInt8 = 93 := rfl
              rw [h93]
              generalize hn : Lib.indexByte (p.drop (i + 1)) 93 = n at *
              (simp only [push_cast, seval, Nat.reduceEqDiff, Nat.reduceLeDiff, reduceCtorEq]; (repeat refine sk ?_); refine hK _ ?_; clear hK K)
              by_cases hn0 : n < 0
              · have hd : decide (n < 0) = true := decide_eq_true hn0
                rw [if_pos (.inl hn0)] at hN'
                obtain ⟨b1, b2⟩ := bad hN'
                ((repeat refine PWp.seq ?_); refine PWp.region TT (by rfl) (fun K hK => ?_); simp only [push_cast, seval, Nat.reduceEqDiff, Nat.reduceLeDiff, reduceCtorEq, hd]; (repeat refine sk ?_); refine hK _ ?_; clear hK K)
                ((repeat refine PWp.seq ?_); refine PWp.cond (by simp only [push_cast, seval, Nat.reduceEqDiff, Nat.reduceLeDiff, reduceCtorEq]; rfl) (fun hc => ?_) (fun hc => ?_))
                · ((repeat refine PWp.seq ?_); refine PWp.region TT (by rfl) (fun K hK => ?_); simp only [push_cast, seval, Nat.reduceEqDiff, Nat.reduceLeDiff, reduceCtorEq]; (repeat refine sk ?_); refine hK _ ?_; clear hK K)
                  ((repeat refine PWp.seq ?_); refine PWp.ret ?_)
                  refine ⟨.inr rfl, by omega, _, [], ?_, rfl, rfl⟩
                  rw [b1, b2]
                  (simp [push_cast, -List.getD_eq_getElem?_getD])
                · cases hc
              · have hd : decide (n < 0) = false := decide_eq_false hn0
                have t2 : ((i : Int) + 1 + n).toNat = i + 1 + n.toNat := by omega
                have hsl : (p.take (i + 1 + n.toNat)).drop (i + 1) = (p.drop (i + 1)).take n.toNat := by rw [List.drop_take, show i + 1 + n.toNat - (i + 1) = n.toNat by omega]
                rw [hrl] at hhi
                ((repeat refine PWp.seq ?_); refine PWp.region TT (by rfl) (fun K hK => ?_); simp only [push_cast, seval, Nat.reduceEqDiff, Nat.reduceLeDiff, reduceCtorEq, hd, t1, t2, hsl, wrap64_id (n := (i : Int) + 1) (by omega) (by omega), wrap64_id (n := (i : Int) + 1 + n) (by omega) (by omega)]; (repeat refine sk ?_); refine hK _ ?_; clear hK K)
                have hfin : decide (n < 0) = false := hd
                ((repeat refine PWp.seq ?_); refine PWp.cond (by simp only [push_cast, seval, Nat.reduceEqDiff, Nat.reduceLeDiff, reduceCtorEq]; rfl) (fun hc => ?_) (fun hc => ?_))
                · have hbad : n < 0 ∨ List.take n.toNat (List.drop (i + 1) p) = [] ∨ List.take n.toNat (List.drop (i + 1) p) = [33] := by
                    rcases Bool.or_eq_true _ _ ▸ hc with h | h
                    · exact .inr (.inl (beq_iff_eq.1 h))
                    · exact .inr (.inr (beq_iff_eq.1 h))
                  rw [if_pos hbad] at hN'
                  obtain ⟨b1, b2⟩ := bad hN'
                  ((repeat refine PWp.seq ?_); refine PWp.region TT (by rfl) (fun K hK => ?_); simp only [push_cast, seval, Nat.reduceEqDiff, Nat.reduceLeDiff, reduceCtorEq]; (repeat refine sk ?_); refine hK _ ?_; clear hK K)
                  ((repeat refine PWp.seq ?_); refine PWp.ret ?_)
                  refine ⟨.inr rfl, by omega, _, [], ?_, rfl, rfl⟩
                  rw [b1, b2]
                  (simp [push_cast, -List.getD_eq_getElem?_getD])
                · have hok : ¬ (n < 0 ∨ List.take n.toNat (List.drop (i + 1) p) = [] ∨ List.take n.toNat (List.drop (i + 1) p) = [33]) := by
                    rintro (h | h | h)
                    · exact hn0 h
                    · rw [h] at hc; simp at hc
                    · rw [h] at hc; simp at hc
                  clear hc
                  rw [if_neg hok] at hN'
                  generalize hcl : List.take n.toNat (List.drop (i + 1) p) = cl at *
                  have hen := encP_set cl
                  have hcll : cl.length ≤ 100000 := by rw [← hcl, List.length_take, hrl]; omega
                  ((repeat refine PWp.seq ?_); refine PWp.skip ?_)
                  ((repeat refine PWp.seq ?_); refine PWp.region TT (by rfl) (fun K hK => ?_); simp only [push_cast, seval, Nat.reduceEqDiff, Nat.reduceLeDiff, reduceCtorEq, t1, t2, hsl, wrap64_id (n := (i : Int) + 1) (by omega) (by omega), wrap64_id (n := (i : Int) + 1 + n) (by omega) (by omega)])
                  ((repeat refine sk ?_); refine PCall.use (find_class cl hcll) [] rfl (by simp [push_cast]) (by simp) (by simp [push_cast]) (by simp [push_cast]) (by simp [push_cast]) (by simp [push_cast]) ?_)
                  rintro _ _ ⟨rfl, rfl⟩
                  (simp only [push_cast, seval, Nat.reduceEqDiff, Nat.reduceLeDiff, reduceCtorEq]; (repeat refine sk ?_); refine hK _ ?_; clear hK K)
                  ((repeat refine PWp.seq ?_); refine PWp.region TT (by rfl) (fun K hK => ?_); simp only [push_cast, seval, Nat.reduceEqDiff, Nat.reduceLeDiff, reduceCtorEq, wrap64_id (n := n + 1) (by omega) (by omega), wrap64_id (n := (i : Int) + (n + 1)) (by omega) (by omega)]; (repeat refine sk ?_); refine hK _ ?_; clear hK K)
                  ((repeat refine PWp.seq ?_); refine PWp.region TT (by rfl) (fun K hK => ?_); simp only [push_cast, seval, Nat.reduceEqDiff, Nat.reduceLeDiff, reduceCtorEq, wrap64_id (n := (i : Int) + (n + 1) + 1) (by omega) (by omega)]; (repeat refine sk ?_); refine hK _ ?_; clear hK K)
                  rw [hdr] at hN'
                  have hv : (i : Int) + (n + 1) + 1 = ((i + 1 + n.toNat + 1 : Nat) : Int) := by omega
                  rw [hv]
                  refine ⟨_, _, ?_, ⟨i + 1 + n.toNat + 1, g, acc ++ [ptSet cl], rfl, by omega, by omega, by simp; omega, hN', rfl⟩, Gh.le (by simp [push_cast, -List.getD_eq_getElem?_getD, hen]) (by simp)⟩
                  omega
            · have hx4 := u8f (c := 91) hc
              clear hc
              rw [if_neg hx4] at hN'
              have hen := encP_byte (p.getD i 0)
              ((repeat refine PWp.seq ?_); refine PWp.region TT (by rfl) (fun K hK => ?_); simp only [push_cast, seval, Nat.reduceEqDiff, Nat.reduceLeDiff, reduceCtorEq])
              ((repeat refine sk ?_); refine PCall.use (find_one (p.getD i 0).toNat (by omega)) [] rfl (by simp [push_cast]) (by simp) (by simp [push_cast]) (by simp [push_cast]) (by simp [push_cast]) (by simp [push_cast]) ?_)
              rintro _ _ ⟨rfl, rfl⟩
              (simp only [push_cast, seval, Nat.reduceEqDiff, Nat.reduceLeDiff, reduceCtorEq]; (repeat refine sk ?_); refine hK _ ?_; clear hK K)
              ((repeat refine PWp.seq ?_); refine PWp.region TT (by rfl) (fun K hK => ?_); simp only [push_cast, seval, Nat.reduceEqDiff, Nat.reduceLeDiff, reduceCtorEq, wrap64_id (n := (i : Int) + 1) (by omega) (by omega)]; (repeat refine sk ?_); refine hK _ ?_; clear hK K)
              refine ⟨_, _, ?_, ⟨i + 1, g, acc ++ [ptOne (p.getD i 0)], rfl, by omega, by omega, by simp; omega, hN', rfl⟩, Gh.le (by simp [push_cast, -List.getD_eq_getElem?_getD, hen]) (by simp)⟩
              omega
    · have hil : i = p.length := by have := of_decide_eq_false hc; omega
      subst hil
      clear hc
      obtain ⟨g, rfl⟩ : ∃ g, f = g + 1 := ⟨f - 1, by omega⟩
      have hN' : parO p = some acc := by
        rw [hN, List.drop_length]
        rfl
      clear hN
      have b1 : parL p = acc := by unfold parL; rw [if_neg hl, hN']; rfl
      have b2 : parE p = 0 := by unfold parE; rw [if_neg hl, hN']
      (repeat refine PWp.seq ?_); refine PWp.exit (iteT rfl ?_)
      ((repeat refine PWp.seq ?_); refine PWp.region TT (by rfl) (fun K hK => ?_); simp only [push_cast, seval, Nat.reduceEqDiff, Nat.reduceLeDiff, reduceCtorEq]; (repeat refine sk ?_); refine hK _ ?_; clear hK K)
      ((repeat refine PWp.seq ?_); refine PWp.ret ?_)
      refine ⟨.inr rfl, by omega, _, [], ?_, rfl, rfl⟩
      rw [b1, b2]
      (simp [push_cast, -List.getD_eq_getElem?_getD])
end Go.Proofs.Ytjlnialglahdoaa
