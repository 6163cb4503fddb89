/-
  A string that is read as a list of bytes: what the walk makes of it. No program is named here.
-/
import Derived.Test.YtolahnnkdpbdfaaStr
import Derived.Laws.Strings
import Derived.Laws.Strings2
namespace Go.Sl
open Go.RowKit

@[go_sem] theorem bstr_size (l : List UInt8) : (bstr l).size = l.length := by simp [bstr, ByteArray.size]
@[go_sem] theorem bstr_toList (l : List UInt8) : (bstr l).toList = l := by rw [Go.ByteArray.toList_eq]; rfl
theorem bstr_of (s : ByteArray) : ∃ l, s = bstr l ∧ l = s.data.toList := ⟨s.data.toList, by cases s; simp [bstr], rfl⟩
@[go_sem] theorem bstr_get (l : List UInt8) (k : Nat) (h : k < (bstr l).size) : (bstr l)[k]'h = l[k]'(by rw [bstr_size] at h; exact h) := by
  have h1 : (bstr l)[k]'h = (bstr l).data[k]'h := rfl
  rw [h1]
  simp only [bstr, List.getElem_toArray]
@[go_sem] theorem bstr_extract (l : List UInt8) (a b : Nat) : (bstr l).extract a b = bstr ((l.drop a).take (b - a)) := by
  apply ByteArray.ext
  rw [ByteArray.data_extract]
  simp [bstr]
@[go_sem] theorem bstr_append (l m : List UInt8) : bstr l ++ bstr m = bstr (l ++ m) := by
  apply ByteArray.ext
  rw [ByteArray.data_append]
  simp [bstr]
@[go_sem] theorem bstr_from (l : List UInt8) (a : Nat) : bstr ((l.drop a).take (l.length - a)) = bstr (l.drop a) := by
  rw [List.take_of_length_le (by simp)]
@[go_sem] theorem bstr_from1 (l : List UInt8) : bstr (l.tail.take (l.length - 1)) = bstr l.tail := by
  rw [List.take_of_length_le (by simp)]
theorem bstr_nil : bstr [] = ByteArray.empty := rfl
/-- a constant text -/
theorem bstr_mk (l : List UInt8) : (⟨l.toArray⟩ : ByteArray) = bstr l := rfl
end Go.Sl
