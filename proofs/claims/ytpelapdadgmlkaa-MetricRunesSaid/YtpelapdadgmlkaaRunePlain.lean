/-
  Plain: UTF-8 as the model has it: the encoding's last byte; the bytes of an ASCII text.
-/
import Derived.WalkKit
import Derived.Lib.Bytealg
namespace Go.Proofs.Ytpelapdadgmlkaa

/-- Is a text all below 128? -/
def Ascii (s : ByteArray) : Prop := ∀ b ∈ s.data.toList, b.toNat < 128
/-- Is a character one of a text's bytes? -/
def memb (l : List UInt8) (r : Int) : Bool := l.any fun b => ((b.toNat : Nat) : Int) == r

theorem memb_high {l : List UInt8} (h : ∀ b ∈ l, b.toNat < 128) {r : Int} (hr : 128 ≤ r) : memb l r = false := by
  unfold memb
  rw [List.any_eq_false]
  intro b hb
  have := h b hb
  simp
  omega

theorem ofNat_toNat {n : Nat} (h : n < 256) : (UInt8.ofNat n).toNat = n := by
  rw [UInt8.toNat_ofNat', Nat.mod_eq_of_lt (by omega)]

theorem last_of (a : Array UInt8) (m : Nat) (hs : a.size = m + 1) (x : Nat) (hx : a[m]? = some (UInt8.ofNat x)) (h1 : 128 ≤ x) (h2 : x < 256) :
    ∀ h : m < (⟨a⟩ : ByteArray).size, 128 ≤ ((⟨a⟩ : ByteArray)[m]'h).toNat := by
  intro h
  have e : (⟨a⟩ : ByteArray)[m]'h = a[m]'(by omega) := rfl
  rw [Array.getElem?_eq_getElem (by omega)] at hx
  injection hx with hx
  rw [e, hx, ofNat_toNat h2]
  exact h1

theorem encode_last (r : Int) (hv : Utf8.valid r = true) (h : 128 ≤ r) : ∃ m, m ≤ 3 ∧ (Utf8.encode r).size = m + 1 ∧ ∀ h : m < (Utf8.encode r).size, 128 ≤ ((Utf8.encode r)[m]'h).toNat := by
  have e : Utf8.encode r = if r.toNat < 0x800 then ⟨#[UInt8.ofNat (0xC0 + r.toNat / 64), UInt8.ofNat (0x80 + r.toNat % 64)]⟩
      else if r.toNat < 0x10000 then ⟨#[UInt8.ofNat (0xE0 + r.toNat / 4096), UInt8.ofNat (0x80 + r.toNat / 64 % 64), UInt8.ofNat (0x80 + r.toNat % 64)]⟩
      else ⟨#[UInt8.ofNat (0xF0 + r.toNat / 262144), UInt8.ofNat (0x80 + r.toNat / 4096 % 64), UInt8.ofNat (0x80 + r.toNat / 64 % 64), UInt8.ofNat (0x80 + r.toNat % 64)]⟩ := by
    unfold Utf8.encode
    rw [hv]
    simp only [if_true]
    rw [if_neg (by omega)]
  rw [e]
  split
  · exact ⟨1, by omega, rfl, last_of _ 1 rfl (0x80 + r.toNat % 64) rfl (by omega) (by omega)⟩
  · split
    · exact ⟨2, by omega, rfl, last_of _ 2 rfl (0x80 + r.toNat % 64) rfl (by omega) (by omega)⟩
    · exact ⟨3, by omega, rfl, last_of _ 3 rfl (0x80 + r.toNat % 64) rfl (by omega) (by omega)⟩

theorem indexByte_none (l : List UInt8) (c : UInt8) (h : ∀ b ∈ l, b ≠ c) : Lib.indexByte l c = -1 := by
  induction l with
  | nil => rfl
  | cons b l ih =>
    have hb : (b == c) = false := by simpa using h b (by simp)
    simp [Lib.indexByte, hb, ih fun x hx => h x (List.mem_cons_of_mem _ hx)]
theorem indexByte_memb (l : List UInt8) (c : UInt8) : (0 ≤ Lib.indexByte l c) ↔ c ∈ l := by
  induction l with
  | nil => simp [Lib.indexByte]
  | cons b l ih =>
    by_cases hb : b = c
    · subst hb; simp [Lib.indexByte]
    · have hb' : (b == c) = false := by simpa using hb
      have hge := Lib.indexByte_ge l c
      simp only [Lib.indexByte, hb', List.mem_cons]
      by_cases hm : c ∈ l
      · have := ih.2 hm
        have hne : (Lib.indexByte l c == -1) = false := by simp; omega
        simp [hne, hm]; omega
      · have h1 : Lib.indexByte l c = -1 := by
          have := (not_congr ih).2 hm; omega
        simp [h1, hm]; exact fun e => hb e.symm

theorem extract_mem (s : ByteArray) (a b : Nat) (x : UInt8) (h : x ∈ (s.extract a b).data.toList) : x ∈ s.data.toList := by
  rw [ByteArray.data_extract, Array.toList_extract] at h
  exact List.mem_of_mem_drop (List.mem_of_mem_take h)

theorem get_mem (s : ByteArray) (i : Nat) (h : i < s.size) : s[i] ∈ s.data.toList := by
  have : s[i] = s.data[i]'h := rfl
  rw [this]
  simp
end Go.Proofs.Ytpelapdadgmlkaa
