/- Values of chapter 29: lines, rows, bytes. -/
import Derived.Test.YtjajefphfhdfkaaTy
namespace Go.Proofs.Ytjajefphfhdfkaa
open Go.PL
set_option maxRecDepth 100000
set_option linter.unusedSimpArgs false
set_option linter.unusedVariables false
structure Ln where
  t : List UInt8
  b : Bool
  deriving DecidableEq, Inhabited
def encL (l : Ln) : IV := .agg [.lit (.string ⟨l.t.toArray⟩), .lit (.bool l.b)]
attribute [push_cast] encL
def iI (n : Int) : TV := .iv (.lit (.int .i64 n))
def iU (n : Nat) : TV := .iv (.lit (.int .u8 n))
def iB (b : Bool) : TV := .iv (.lit (.bool b))
def iS (l : List UInt8) : TV := .iv (.lit (.string ⟨l.toArray⟩))
def iL (l : List Ln) : TV := .iv (.sl 2 (l.map encL))
attribute [push_cast] iI iU iB iS iL
theorem take_succ_getD {α : Type} [Inhabited α] {l : List α} {k : Nat} (h : k < l.length) : l.take (k + 1) = l.take k ++ [l.getD k default] := by
  rw [List.take_succ_eq_append_getElem h]; simp [List.getD, h]
theorem drop_getD {α : Type} [Inhabited α] {l : List α} {k : Nat} (h : k < l.length) : l.drop k = l.getD k default :: l.drop (k + 1) := by
  rw [List.drop_eq_getElem_cons h]
  simp [List.getD, h]
theorem getD_mem {α : Type} [Inhabited α] {l : List α} {k : Nat} (h : k < l.length) : l.getD k default ∈ l := by simp [List.getD, h]
theorem wrapU8 {n : Int} (h0 : 0 ≤ n) (h1 : n ≤ 255) : IntKind.u8.wrap n = n := wrap_id (by simpa [IntKind.min, IntKind.signed, IntKind.bits] using h0) (by simpa [IntKind.max, IntKind.signed, IntKind.bits] using h1)
/-- A row: a sign, and what stands left and right. -/
structure Pr where
  g : Int
  l : List UInt8
  r : List UInt8
  deriving DecidableEq, Inhabited
def encP (p : Pr) : IV := .agg [.lit (.int .u8 p.g), .lit (.string ⟨p.l.toArray⟩), .lit (.string ⟨p.r.toArray⟩)]
def iR (l : List Pr) : TV := .iv (.sl 3 (l.map encP))
def encT (s : List UInt8) : IV := .lit (.string ⟨s.toArray⟩)
def iT (l : List (List UInt8)) : TV := .iv (.sl 1 (l.map encT))
def iBy (l : List UInt8) : TV := .iv (.sl 1 (l.map byteV))
theorem bs_empty : ByteArray.empty = ⟨#[]⟩ := rfl
attribute [push_cast] bs_empty encP iR encT iT iBy
theorem lensP (l : List Pr) : lens? 3 (l.map encP) := lens_map (f := encP) (fun a => ⟨trivial, rfl⟩) l
theorem lensT (l : List (List UInt8)) : lens? 1 (l.map encT) := lens_map (f := encT) (fun a => ⟨rfl, rfl⟩) l
theorem lens_byte (l : List UInt8) : lens? 1 (l.map byteV) := lens_map (f := byteV) (fun a => ⟨rfl, rfl⟩) l
end Go.Proofs.Ytjajefphfhdfkaa
