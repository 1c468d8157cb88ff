/- STRINGS AS ROWS OF BYTES. -/
import Derived.Test.YtmocgjimlhgejaaKB16
namespace Go.PL
theorem toList_loop (a : ByteArray) : ∀ (d i : Nat) (r : List UInt8), a.size - i = d → ByteArray.toList.loop a i r = r.reverse ++ a.data.toList.drop i
  | 0, i, r, h => by
    unfold ByteArray.toList.loop
    have hs : a.size = a.data.toList.length := by show a.data.size = _; rw [Array.length_toList]
    rw [if_neg (by omega), List.drop_eq_nil_of_le (by omega), List.append_nil]
  | d + 1, i, r, h => by
    unfold ByteArray.toList.loop
    have hs : a.size = a.data.toList.length := by show a.data.size = _; rw [Array.length_toList]
    have hi : i < a.data.toList.length := by omega
    rw [if_pos (by omega), toList_loop a d (i + 1) _ (by omega), List.drop_eq_getElem_cons hi]
    have hg : a.get! i = a.data.toList[i] := by
      have hi2 : i < a.data.size := by simpa using hi
      show a.data[i]! = _
      rw [getElem!_pos a.data i hi2]
      simp
    rw [hg]
    simp
theorem toList_data (a : ByteArray) : a.toList = a.data.toList := by
  unfold ByteArray.toList
  rw [toList_loop a _ 0 [] rfl]
  simp
theorem bs_toList (l : List UInt8) : (ByteArray.mk l.toArray).toList = l := by rw [toList_data]
theorem bs_size (l : List UInt8) : (ByteArray.mk l.toArray).size = l.length := by show l.toArray.size = _; simp
theorem bs_data (l : List UInt8) : (ByteArray.mk l.toArray).data.toList = l := rfl
theorem bs_ext {a b : ByteArray} (h : a.data = b.data) : a = b := by cases a; cases b; simp at h; rw [h]
theorem bs_extract (l : List UInt8) (i j : Nat) : (ByteArray.mk l.toArray).extract i j = ByteArray.mk ((l.take j).drop i).toArray := by
  apply bs_ext
  rw [ByteArray.data_extract]
  apply Array.ext'
  simp [List.drop_take]
theorem bs_append (l k : List UInt8) : ByteArray.mk l.toArray ++ ByteArray.mk k.toArray = ByteArray.mk (l ++ k).toArray := by
  apply bs_ext
  rw [ByteArray.data_append]
  simp
theorem bs_form (s : ByteArray) : ∃ l : List UInt8, s = ByteArray.mk l.toArray := ⟨s.data.toList, by apply bs_ext; simp⟩
attribute [push_cast] bs_toList bs_size bs_data bs_extract bs_append
theorem byteV_back (c : UInt8) : UInt8.ofNat (numI (byteV c)).toNat = c := by
  show UInt8.ofNat (Int.toNat (c.toNat : Int)) = c
  simp
theorem bytesI_map (l : List UInt8) : bytesI (l.map byteV) = l := by
  unfold bytesI
  rw [List.map_map]
  have : ((fun x => UInt8.ofNat (numI x).toNat) ∘ byteV) = id := funext byteV_back
  rw [this, List.map_id]
theorem bytesI_nil : bytesI [] = [] := rfl
theorem bytesI_cons (x : IV) (l : List IV) : bytesI (x :: l) = UInt8.ofNat (numI x).toNat :: bytesI l := rfl
theorem bytesOK_map (l : List UInt8) : bytesOK (l.map byteV) = True := eq_true (by
  induction l with
  | nil => trivial
  | cons c l ih => exact ih)
theorem strI_mk (l : List UInt8) : strI ⟨l.toArray⟩ = l.map byteV := rfl
attribute [push_cast] bytesI_map bytesI_nil bytesI_cons bytesOK_map strI_mk
end Go.PL
