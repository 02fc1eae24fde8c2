/-
  What stands between quotes, read step by step.
-/
import Derived.Test.YtaoehdmdjplegaaGreatDoorOwnsY
namespace Go.Proofs.YtaoehdmdjplegaaGreatDoor
open Go.RowKit Go.Shelf

theorem drop_cons {S : ByteArray} {k : Nat} (h : k < S.size) : S.data.toList.drop k = S[k] :: S.data.toList.drop (k + 1) := by
  have h' : k < S.data.toList.length := by simpa using h
  rw [List.drop_eq_getElem_cons h', get_len h]
theorem drop_end {S : ByteArray} {k : Nat} (h : S.size ≤ k) : S.data.toList.drop k = [] := List.drop_of_length_le (by rw [size_len]; exact h)
theorem byte_ne {c : UInt8} {n : Nat} (h : c.toNat ≠ n) (m : UInt8) (hm : m.toNat = n) : c ≠ m := fun e => h (by rw [e, hm])
theorem byte_is {c : UInt8} {n : Nat} (h : c.toNat = n) (m : UInt8) (hm : m.toNat = n) : c = m := UInt8.toNat_inj.1 (by rw [h, hm])
theorem textGo_last : textGo [92] = [92] := (textGo.eq_def _).trans (if_pos rfl)
theorem textGo_hex {a b : UInt8} (h : hv a < 16 ∧ hv b < 16) (r : List UInt8) : textGo (92 :: 120 :: a :: b :: r) = UInt8.ofNat (hv a * 16 + hv b) :: textGo r :=
  (textGo.eq_def _).trans ((if_pos rfl).trans ((if_neg (by decide)).trans ((if_pos rfl).trans (if_pos h))))
theorem textGo_x {a b : UInt8} (h : ¬ (hv a < 16 ∧ hv b < 16)) (r : List UInt8) : textGo (92 :: 120 :: a :: b :: r) = 120 :: textGo (a :: b :: r) :=
  (textGo.eq_def _).trans ((if_pos rfl).trans ((if_neg (by decide)).trans ((if_pos rfl).trans (if_neg h))))
theorem textGo_x0 : textGo [92, 120] = 120 :: textGo [] := (textGo.eq_def _).trans ((if_pos rfl).trans ((if_neg (by decide)).trans (if_pos rfl)))
theorem textGo_x1 (a : UInt8) : textGo [92, 120, a] = 120 :: textGo [a] := (textGo.eq_def _).trans ((if_pos rfl).trans ((if_neg (by decide)).trans (if_pos rfl)))

section
variable {S : ByteArray} {k : Nat}
theorem st_plain (h : k < S.size) (h1 : S[k].toNat ≠ 92) : textGo (S.data.toList.drop k) = S[k] :: textGo (S.data.toList.drop (k + 1)) := by
  rw [drop_cons h, textGo_plain (byte_ne h1 92 rfl)]
theorem st_end (h : k < S.size) (h1 : S[k].toNat = 92) (h2 : S.size ≤ k + 1) : textGo (S.data.toList.drop k) = 92 :: textGo (S.data.toList.drop (k + 1)) := by
  rw [drop_cons h, drop_end h2, byte_is h1 92 rfl, textGo_last]; simp [textGo]
theorem st_line (h : k + 1 < S.size) (h1 : S[k].toNat = 92) (h2 : S[k + 1].toNat = 110) : textGo (S.data.toList.drop k) = 10 :: textGo (S.data.toList.drop (k + 2)) := by
  rw [drop_cons (show k < S.size by omega), drop_cons h, byte_is h1 92 rfl, byte_is h2 110 rfl, textGo_line]
theorem st_hex (h : k + 3 < S.size) (h1 : S[k].toNat = 92) (h2 : S[k + 1].toNat = 120) (h3 : hv S[k + 2] < 16) (h4 : hv S[k + 3] < 16) :
    textGo (S.data.toList.drop k) = UInt8.ofNat (hv S[k + 2] * 16 + hv S[k + 3]) :: textGo (S.data.toList.drop (k + 4)) := by
  rw [drop_cons (show k < S.size by omega), drop_cons (show k + 1 < S.size by omega), drop_cons (show k + 1 + 1 < S.size by omega), drop_cons (show k + 1 + 1 + 1 < S.size by omega), byte_is h1 92 rfl, byte_is h2 120 rfl]
  exact textGo_hex ⟨h3, h4⟩ _
theorem st_self (h : k + 1 < S.size) (h1 : S[k].toNat = 92) (h2 : S[k + 1].toNat ≠ 110) (h3 : S[k + 1].toNat = 120 → ∀ h : k + 3 < S.size, ¬ (hv S[k + 2] < 16 ∧ hv S[k + 3] < 16)) :
    textGo (S.data.toList.drop k) = S[k + 1] :: textGo (S.data.toList.drop (k + 2)) := by
  rw [drop_cons (show k < S.size by omega), drop_cons h, byte_is h1 92 rfl]
  by_cases hx : S[k + 1].toNat = 120
  · rw [byte_is hx 120 rfl]
    rcases Nat.lt_or_ge (k + 2) S.size with l2 | l2
    · rcases Nat.lt_or_ge (k + 3) S.size with l3 | l3
      · rw [drop_cons (show k + 1 + 1 < S.size by omega), drop_cons (show k + 1 + 1 + 1 < S.size by omega)]
        exact textGo_x (h3 hx l3) _
      · rw [drop_cons (show k + 1 + 1 < S.size by omega), drop_end (show S.size ≤ k + 1 + 1 + 1 by omega)]
        exact textGo_x1 _
    · rw [drop_end (show S.size ≤ k + 1 + 1 by omega)]
      exact textGo_x0
  · exact textGo_self (byte_ne h2 110 rfl) (byte_ne hx 120 rfl) _
theorem st_x (h : k + 1 < S.size) (h1 : S[k].toNat = 92) (h2 : S[k + 1].toNat = 120) (h3 : ∀ h : k + 3 < S.size, ¬ (hv S[k + 2] < 16 ∧ hv S[k + 3] < 16)) :
    textGo (S.data.toList.drop k) = 120 :: textGo (S.data.toList.drop (k + 2)) := by
  rw [st_self h h1 (by omega) (fun _ => h3), byte_is h2 120 rfl]
end
/-- A text in quotes, cut. -/
theorem inner_list (l : ByteArray) : (l.extract 1 (l.size - 1)).data.toList = l.data.toList.tail.dropLast := by
  rw [extract_list, mkB_toList, List.dropLast_eq_take, List.length_tail, size_len, List.drop_one]
theorem inner_size (l : ByteArray) : (l.extract 1 (l.size - 1)).size = l.size - 2 := by
  rw [← size_len, inner_list, List.length_dropLast, List.length_tail, size_len]; omega
theorem last_at {l : ByteArray} (h : 0 < l.size) : l.data.toList.getLast? = some (l[l.size - 1]'(by omega)) := by
  rw [List.getLast?_eq_getElem?, size_len, List.getElem?_eq_getElem (by rw [size_len]; omega), get_len (by omega)]
theorem head_at {l : ByteArray} (h : 0 < l.size) : l.data.toList.head? = some l[0] := by
  rw [List.head?_eq_getElem?, List.getElem?_eq_getElem (by rw [size_len]; omega), get_len h]

end Go.Proofs.YtaoehdmdjplegaaGreatDoor
