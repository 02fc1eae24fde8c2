/-
  Plain: the characters of a text made of one rune, and of a text made of one byte that opens no rune.
-/
import Derived.Test.YtpelapdadgmlkaaCodesPlain
namespace Go.Proofs.Ytpelapdadgmlkaa

/-- The rune that a text made of r holds. -/
def tidy (r : Int) : Int := if Utf8.valid r then r else 65533

theorem decode_enc (r : Int) : Utf8.decode (Utf8.encode r) 0 = ((tidy r).toNat, (Utf8.encode r).size) := by
  have hc : ∀ c : Nat, c ≤ 1114111 → (c < 55296 ∨ 57344 ≤ c) → ∀ s : ByteArray,
      s = (if c < 0x80 then ⟨#[UInt8.ofNat c]⟩
        else if c < 0x800 then ⟨#[UInt8.ofNat (0xC0 + c / 64), UInt8.ofNat (0x80 + c % 64)]⟩
        else if c < 0x10000 then ⟨#[UInt8.ofNat (0xE0 + c / 4096), UInt8.ofNat (0x80 + c / 64 % 64), UInt8.ofNat (0x80 + c % 64)]⟩
        else ⟨#[UInt8.ofNat (0xF0 + c / 262144), UInt8.ofNat (0x80 + c / 4096 % 64), UInt8.ofNat (0x80 + c / 64 % 64), UInt8.ofNat (0x80 + c % 64)]⟩ : ByteArray) →
      Utf8.decode s 0 = (c, s.size) := by
    intro c h1 h2 s hs
    have hv : Utf8.valid (c : Int) = true := by simp [Utf8.valid]; omega
    split at hs
    · subst hs
      have e0 : ((⟨#[UInt8.ofNat c]⟩ : ByteArray).get! 0).toNat = c := by
        show (UInt8.ofNat c).toNat = c
        simp; omega
      have es : (⟨#[UInt8.ofNat c]⟩ : ByteArray).size = 1 := rfl
      simp only [Utf8.decode, Nat.zero_add, e0, es]
      rw [if_pos (by omega)]
    · split at hs
      · have e0 : (s.get! 0).toNat = 192 + c / 64 := by
          subst hs
          show (UInt8.ofNat (192 + c / 64)).toNat = _
          simp; omega
        have e1 : (s.get! 1).toNat = 128 + c % 64 := by
          subst hs
          show (UInt8.ofNat (128 + c % 64)).toNat = _
          simp; omega
        have es : s.size = 2 := by subst hs; rfl
        clear hs
        have k1 : ((192 + c / 64) / 32 == 6) = true := by rw [beq_iff_eq]; omega
        have k2 : ((128 + c % 64) / 64 == 2) = true := by rw [beq_iff_eq]; omega
        simp only [Utf8.decode, Nat.zero_add, e0, e1, es, k1, k2]
        rw [if_neg (by omega), if_pos (by decide), if_pos (by omega)]
        exact Prod.ext (by show _ = c; omega) rfl
      · split at hs
        · have e0 : (s.get! 0).toNat = 224 + c / 4096 := by
            subst hs
            show (UInt8.ofNat (224 + c / 4096)).toNat = _
            simp; omega
          have e1 : (s.get! 1).toNat = 128 + c / 64 % 64 := by
            subst hs
            show (UInt8.ofNat (128 + c / 64 % 64)).toNat = _
            simp; omega
          have e2 : (s.get! 2).toNat = 128 + c % 64 := by
            subst hs
            show (UInt8.ofNat (128 + c % 64)).toNat = _
            simp; omega
          have es : s.size = 3 := by subst hs; rfl
          clear hs
          have k0 : ((224 + c / 4096) / 32 == 6) = false := by rw [beq_eq_false_iff_ne]; omega
          have k1 : ((224 + c / 4096) / 16 == 14) = true := by rw [beq_iff_eq]; omega
          have k2 : ((128 + c / 64 % 64) / 64 == 2) = true := by rw [beq_iff_eq]; omega
          have k3 : ((128 + c % 64) / 64 == 2) = true := by rw [beq_iff_eq]; omega
          have hc : (224 + c / 4096) % 16 * 4096 + (128 + c / 64 % 64) % 64 * 64 + (128 + c % 64) % 64 = c := by omega
          simp only [Utf8.decode, Nat.zero_add, e0, e1, e2, es, k0, k1, k2, k3, hc, hv]
          rw [if_neg (by omega), if_neg (by decide), if_pos (by decide), if_pos (by simp; omega)]
        · have e0 : (s.get! 0).toNat = 240 + c / 262144 := by
            subst hs
            show (UInt8.ofNat (240 + c / 262144)).toNat = _
            simp; omega
          have e1 : (s.get! 1).toNat = 128 + c / 4096 % 64 := by
            subst hs
            show (UInt8.ofNat (128 + c / 4096 % 64)).toNat = _
            simp; omega
          have e2 : (s.get! 2).toNat = 128 + c / 64 % 64 := by
            subst hs
            show (UInt8.ofNat (128 + c / 64 % 64)).toNat = _
            simp; omega
          have e3 : (s.get! 3).toNat = 128 + c % 64 := by
            subst hs
            show (UInt8.ofNat (128 + c % 64)).toNat = _
            simp; omega
          have es : s.size = 4 := by subst hs; rfl
          clear hs
          have k0 : ((240 + c / 262144) / 32 == 6) = false := by rw [beq_eq_false_iff_ne]; omega
          have k1 : ((240 + c / 262144) / 16 == 14) = false := by rw [beq_eq_false_iff_ne]; omega
          have k2 : ((240 + c / 262144) / 8 == 30) = true := by rw [beq_iff_eq]; omega
          have k3 : ((128 + c / 4096 % 64) / 64 == 2) = true := by rw [beq_iff_eq]; omega
          have k4 : ((128 + c / 64 % 64) / 64 == 2) = true := by rw [beq_iff_eq]; omega
          have k5 : ((128 + c % 64) / 64 == 2) = true := by rw [beq_iff_eq]; omega
          have hc : (240 + c / 262144) % 8 * 262144 + (128 + c / 4096 % 64) % 64 * 4096 + (128 + c / 64 % 64) % 64 * 64 + (128 + c % 64) % 64 = c := by omega
          simp only [Utf8.decode, Nat.zero_add, e0, e1, e2, e3, es, k0, k1, k2, k3, k4, k5, hc, hv]
          rw [if_neg (by omega), if_neg (by decide), if_neg (by decide), if_pos (by decide), if_pos (by simp; omega)]
  have hk : (tidy r).toNat ≤ 1114111 ∧ ((tidy r).toNat < 55296 ∨ 57344 ≤ (tidy r).toNat) ∧ (tidy r).toNat = (if Utf8.valid r then r.toNat else 65533) := by
    unfold tidy
    by_cases h : Utf8.valid r = true
    · have h' := h
      simp [Utf8.valid] at h'
      simp only [h, if_true]
      refine ⟨?_, ?_, trivial⟩ <;> omega
    · simp [h]
  refine hc _ hk.1 hk.2.1 _ ?_
  rw [hk.2.2]
  rfl
theorem enc_pos (r : Int) : 0 < (Utf8.encode r).size := by
  unfold Utf8.encode
  dsimp only
  repeat' split
  all_goals exact Nat.zero_lt_succ _
theorem tidy_nonneg (r : Int) : 0 ≤ tidy r := by
  unfold tidy
  split
  · rename_i h; simp [Utf8.valid] at h; omega
  · omega
theorem codes_enc (r : Int) : codes (Utf8.encode r) = [tidy r] := by
  rw [codes_eq, codesAt_step _ 0 (enc_pos r), decode_enc, codesAt_end _ _ (by simp)]
  rw [show (((tidy r).toNat : Nat) : Int) = tidy r from Int.toNat_of_nonneg (tidy_nonneg r)]
/-- One byte that stands for itself in no text. -/
theorem codes_loose (b : UInt8) (h : 128 ≤ b.toNat) : codes (⟨#[b]⟩ : ByteArray) = [65533] := by
  have e : Utf8.decode (⟨#[b]⟩ : ByteArray) 0 = (65533, 1) := by
    have e0 : ((⟨#[b]⟩ : ByteArray).get! 0).toNat = b.toNat := rfl
    have es : (⟨#[b]⟩ : ByteArray).size = 1 := rfl
    simp only [Utf8.decode, Nat.zero_add, es, e0]
    rw [if_neg (by omega)]
    simp [Utf8.runeError]
  rw [codes_eq, codesAt_step _ 0 (by show 0 < 1; omega), e, codesAt_end _ _ (by show ¬ 0 + 1 < 1; omega)]
  rfl
theorem codes_loose2 (b : UInt8) (h : 128 ≤ b.toNat) : codes (⟨#[b, b]⟩ : ByteArray) = [65533, 65533] := by
  have key : ∀ i, i < 2 → Utf8.decode (⟨#[b, b]⟩ : ByteArray) i = (65533, 1) := by
    intro i hi
    have e0 : ∀ k, i + k < 2 → ((⟨#[b, b]⟩ : ByteArray).get! (i + k)).toNat = b.toNat := by
      intro k hk
      obtain h | h : i + k = 0 ∨ i + k = 1 := by omega
      all_goals rw [h]; rfl
    have es : (⟨#[b, b]⟩ : ByteArray).size = 2 := rfl
    have f1 : (decide (i + 1 < 2) && ((⟨#[b, b]⟩ : ByteArray).get! (i + 1)).toNat / 64 == 2) = true → ¬ 192 ≤ b.toNat := by
      intro hh
      rw [Bool.and_eq_true, decide_eq_true_eq, beq_iff_eq] at hh
      rw [e0 1 hh.1] at hh
      omega
    simp only [Utf8.decode, es, e0 0 (by omega)]
    rw [if_neg (by omega), if_neg (by
      rw [Bool.and_eq_true, beq_iff_eq]
      intro hh
      exact f1 hh.2 (by omega)), if_neg (by
      rw [Bool.and_eq_true, Bool.and_eq_true, beq_iff_eq]
      intro hh
      exact f1 hh.1.2 (by omega)), if_neg (by
      rw [Bool.and_eq_true, Bool.and_eq_true, Bool.and_eq_true, beq_iff_eq]
      intro hh
      exact f1 hh.1.1.2 (by omega))]
    rfl
  rw [codes_eq, codesAt_step _ 0 (by show 0 < 2; omega), key 0 (by omega), codesAt_step _ _ (by show 0 + 1 < 2; omega), key _ (by omega), codesAt_end _ _ (by show ¬ 0 + 1 + 1 < 2; omega)]
  rfl
theorem or_high (n : Nat) (h : n < 256) : 128 ≤ n ||| 128 ∧ n ||| 128 < 256 := by
  refine ⟨Nat.right_le_or, Nat.or_lt_two_pow (n := 8) (by omega) (by omega)⟩
end Go.Proofs.Ytpelapdadgmlkaa
