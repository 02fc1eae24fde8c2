/-
  Strings as rows of bytes: what the walks over them lean on.
-/
import Derived.RangeFuncBox
import Derived.RangeFuncLeaves
import Derived.RangeFuncNested
import Derived.Shelf.Abstract
import Derived.WalkKit
import Derived.OwnWalkIn
import Derived.TacticsInMore
import Derived.LoopNIn
import Derived.LoopIn
import Derived.Maps.AppendAt
import Derived.Test.YtaoehdmdjplegaaGreatDoorScriptPlain
import Derived.Test.YtaoehdmdjplegaaGreatDoorWords
import Derived.Test.YtaoehdmdjplegaaGreatDoorShelf
import Derived.Test.YtaoehdmdjplegaaGreatDoorProg
namespace Go.Proofs.YtaoehdmdjplegaaGreatDoor
open Go.RowKit Go.Shelf

def mkB (l : List UInt8) : ByteArray := ⟨l.toArray⟩
theorem mkB_data (s : ByteArray) : mkB s.data.toList = s := rfl
theorem mkB_size (l : List UInt8) : (mkB l).size = l.length := by simp [mkB, ByteArray.size]
theorem mkB_toList (l : List UInt8) : (mkB l).data.toList = l := rfl
theorem byteArray_ext {a b : ByteArray} (h : a.data.toList = b.data.toList) : a = b := by
  obtain ⟨⟨a⟩⟩ := a
  obtain ⟨⟨b⟩⟩ := b
  simp at h
  rw [h]
theorem append_data (a b : ByteArray) : (a ++ b).data.toList = a.data.toList ++ b.data.toList := by simp
theorem mkB_append (a b : List UInt8) : mkB a ++ mkB b = mkB (a ++ b) := byteArray_ext (by rw [append_data]; rfl)
theorem size_len (s : ByteArray) : s.data.toList.length = s.size := by simp
theorem get_len {s : ByteArray} {k : Nat} (h : k < s.size) : s.data.toList[k]'(by simpa using h) = s[k] := by simp [ByteArray.getElem_eq_getElem_data]
theorem mkB_get {l : List UInt8} {k : Nat} (h : k < l.length) : (mkB l)[k]'(by rw [mkB_size]; exact h) = l[k] := by
  rw [← get_len (by rw [mkB_size]; exact h)]; rfl
theorem extract_list (s : ByteArray) (a b : Nat) : s.extract a b = mkB ((s.data.toList.drop a).take (b - a)) := byteArray_ext (by rw [Go.Lib.extract_data]; rfl)
theorem mkB_inj {a b : List UInt8} (h : mkB a = mkB b) : a = b := by
  have := congrArg (fun x : ByteArray => x.data.toList) h
  exact this
theorem mkB_eq {a b : List UInt8} : (mkB a = mkB b) = (a = b) := by
  apply propext
  exact ⟨mkB_inj, fun h => by rw [h]⟩

theorem extract_one {s : ByteArray} {k : Nat} (h : k < s.size) : s.extract k (k + 1) = mkB [s[k]] := by
  have h' : k < s.data.toList.length := by simpa using h
  rw [extract_list, List.drop_eq_getElem_cons h', get_len h, show k + 1 - k = 1 by omega]; rfl
theorem take_one {s : ByteArray} {k : Nat} (h : k < s.size) : s.data.toList.take (k + 1) = s.data.toList.take k ++ [s[k]] := by
  have h' : k < s.data.toList.length := by simpa using h
  rw [List.take_succ_eq_append_getElem h', get_len h]
theorem take_all_ (s : ByteArray) : s.data.toList.take s.size = s.data.toList := List.take_of_length_le (by simp)
theorem take_len (s : ByteArray) (k : Nat) : (s.data.toList.take k).length ≤ s.size := by
  rw [List.length_take, size_len]; omega
theorem neq8 {c : UInt8} {n : Nat} (h : c.toNat ≠ n) : (((c.toNat : Nat) : Int) == (n : Int)) = false := by
  rw [beq_eq_false_iff_ne]; omega
theorem eq8 {c : UInt8} {n : Nat} (h : c.toNat = n) : (((c.toNat : Nat) : Int) == (n : Int)) = true := by
  rw [beq_iff_eq]; omega

end Go.Proofs.YtaoehdmdjplegaaGreatDoor
