/-
  Plain: the reference's own cut of a character is the model's.
-/
import Derived.WalkKit
namespace Go.Proofs.Ytpelapdadgmlkaa

/-- A character of n bytes off its first bytes, as the reference reckons it (len: how many bytes are left). -/
def nextR (len b0 b1 b2 b3 : Nat) : Nat × Nat :=
  if b0 < 128 then (b0, 1)
  else if 194 ≤ b0 ∧ b0 ≤ 223 then
    (if len < 2 then (65533, 1) else if b1 < 128 ∨ 191 < b1 then (65533, 1) else (64 * (b0 - 192) + (b1 - 128), 2))
  else if 224 ≤ b0 ∧ b0 ≤ 239 then
    (if len < 3 then (65533, 1) else if b1 < 128 ∨ 191 < b1 then (65533, 1) else if b2 < 128 ∨ 191 < b2 then (65533, 1)
     else if 64 * (64 * (b0 - 224) + (b1 - 128)) + (b2 - 128) < 2048 then (65533, 1)
     else if 55296 ≤ 64 * (64 * (b0 - 224) + (b1 - 128)) + (b2 - 128) ∧ 64 * (64 * (b0 - 224) + (b1 - 128)) + (b2 - 128) ≤ 57343 then (65533, 1)
     else (64 * (64 * (b0 - 224) + (b1 - 128)) + (b2 - 128), 3))
  else if 240 ≤ b0 ∧ b0 ≤ 244 then
    (if len < 4 then (65533, 1) else if b1 < 128 ∨ 191 < b1 then (65533, 1) else if b2 < 128 ∨ 191 < b2 then (65533, 1) else if b3 < 128 ∨ 191 < b3 then (65533, 1)
     else if 64 * (64 * (64 * (b0 - 240) + (b1 - 128)) + (b2 - 128)) + (b3 - 128) < 65536 then (65533, 1)
     else if 1114111 < 64 * (64 * (64 * (b0 - 240) + (b1 - 128)) + (b2 - 128)) + (b3 - 128) then (65533, 1)
     else (64 * (64 * (64 * (b0 - 240) + (b1 - 128)) + (b2 - 128)) + (b3 - 128), 4))
  else (65533, 1)

set_option maxRecDepth 100000 in
theorem next_eq (s : ByteArray) (p : Nat) (hp : p < s.size) :
    Utf8.decode s p = nextR (s.size - p) (s.get! p).toNat (s.get! (p + 1)).toNat (s.get! (p + 2)).toNat (s.get! (p + 3)).toNat := by
  have h0 := (s.get! p).toNat_lt
  have h1 := (s.get! (p + 1)).toNat_lt
  have h2 := (s.get! (p + 2)).toNat_lt
  have h3 := (s.get! (p + 3)).toNat_lt
  unfold Utf8.decode Utf8.runeError Utf8.valid
  dsimp only
  obtain ⟨b0, e0⟩ : ∃ b, (s.get! p).toNat = b := ⟨_, rfl⟩
  obtain ⟨b1, e1⟩ : ∃ b, (s.get! (p + 1)).toNat = b := ⟨_, rfl⟩
  obtain ⟨b2, e2⟩ : ∃ b, (s.get! (p + 2)).toNat = b := ⟨_, rfl⟩
  obtain ⟨b3, e3⟩ : ∃ b, (s.get! (p + 3)).toNat = b := ⟨_, rfl⟩
  obtain ⟨n, en⟩ : ∃ n, s.size = n := ⟨_, rfl⟩
  have e0' : (s.get! (p + 0)).toNat = b0 := e0
  simp only [e0, e0', e1, e2, e3, en] at *
  clear e0 e0' e1 e2 e3 en
  unfold nextR
  by_cases c1 : b0 < 128
  · rw [if_pos c1, if_pos c1]
  rw [if_neg c1, if_neg c1]
  by_cases c2 : (b0 / 32 == 6 && (decide (p + 1 < n) && b1 / 64 == 2)) = true
  · rw [if_pos c2]
    simp only [Bool.and_eq_true, beq_iff_eq, decide_eq_true_eq] at c2
    by_cases d : b0 < 194
    · rw [if_neg (by omega), if_neg (by omega), if_neg (by omega), if_neg (by omega)]
    · rw [if_pos (by omega), if_pos (by omega), if_neg (by omega), if_neg (by omega)]
      congr 1
      omega
  rw [if_neg c2]
  simp only [Bool.and_eq_true, beq_iff_eq, decide_eq_true_eq] at c2
  by_cases e2 : 194 ≤ b0 ∧ b0 ≤ 223
  · rw [if_pos e2, if_neg (by simp only [Bool.and_eq_true, beq_iff_eq, decide_eq_true_eq]; omega), if_neg (by simp only [Bool.and_eq_true, beq_iff_eq, decide_eq_true_eq]; omega)]
    by_cases l2 : n - p < 2
    · rw [if_pos l2]
    · rw [if_neg l2, if_pos (by omega)]
  rw [if_neg e2]
  by_cases c3 : (b0 / 16 == 14 && (decide (p + 1 < n) && b1 / 64 == 2) && (decide (p + 2 < n) && b2 / 64 == 2)) = true
  · rw [if_pos c3]
    simp only [Bool.and_eq_true, beq_iff_eq, decide_eq_true_eq] at c3
    rw [if_pos (show 224 ≤ b0 ∧ b0 ≤ 239 by omega), if_neg (show ¬ n - p < 3 by omega), if_neg (show ¬ (b1 < 128 ∨ 191 < b1) by omega), if_neg (show ¬ (b2 < 128 ∨ 191 < b2) by omega)]
    have e : 64 * (64 * (b0 - 224) + (b1 - 128)) + (b2 - 128) = b0 % 16 * 4096 + b1 % 64 * 64 + b2 % 64 := by omega
    rw [e]
    generalize b0 % 16 * 4096 + b1 % 64 * 64 + b2 % 64 = c at *
    have hc : c ≤ 65535 := by omega
    by_cases d1 : c < 2048
    · rw [if_pos d1, if_neg (by simp; omega)]
    · rw [if_neg d1]
      by_cases d2 : 55296 ≤ c ∧ c ≤ 57343
      · rw [if_pos d2, if_neg (by simp; omega)]
      · rw [if_neg d2, if_pos (by simp; omega)]
  rw [if_neg c3]
  simp only [Bool.and_eq_true, beq_iff_eq, decide_eq_true_eq] at c3
  by_cases e3 : 224 ≤ b0 ∧ b0 ≤ 239
  · rw [if_pos e3, if_neg (by simp only [Bool.and_eq_true, beq_iff_eq, decide_eq_true_eq]; omega)]
    by_cases l3 : n - p < 3
    · rw [if_pos l3]
    · rw [if_neg l3]
      by_cases g1 : b1 < 128 ∨ 191 < b1
      · rw [if_pos g1]
      · rw [if_neg g1, if_pos (by omega)]
  rw [if_neg e3]
  by_cases c4 : (b0 / 8 == 30 && (decide (p + 1 < n) && b1 / 64 == 2) && (decide (p + 2 < n) && b2 / 64 == 2) && (decide (p + 3 < n) && b3 / 64 == 2)) = true
  · rw [if_pos c4]
    simp only [Bool.and_eq_true, beq_iff_eq, decide_eq_true_eq] at c4
    by_cases e4 : b0 ≤ 244
    · rw [if_pos (show 240 ≤ b0 ∧ b0 ≤ 244 by omega), if_neg (show ¬ n - p < 4 by omega), if_neg (show ¬ (b1 < 128 ∨ 191 < b1) by omega), if_neg (show ¬ (b2 < 128 ∨ 191 < b2) by omega), if_neg (show ¬ (b3 < 128 ∨ 191 < b3) by omega)]
      have e : 64 * (64 * (64 * (b0 - 240) + (b1 - 128)) + (b2 - 128)) + (b3 - 128) = b0 % 8 * 262144 + b1 % 64 * 4096 + b2 % 64 * 64 + b3 % 64 := by omega
      rw [e]
      generalize b0 % 8 * 262144 + b1 % 64 * 4096 + b2 % 64 * 64 + b3 % 64 = c at *
      by_cases d1 : c < 65536
      · rw [if_pos d1, if_neg (by simp; omega)]
      · rw [if_neg d1]
        by_cases d2 : 1114111 < c
        · rw [if_pos d2, if_neg (by simp; omega)]
        · rw [if_neg d2, if_pos (by simp; omega)]
    · rw [if_neg (by simp; omega), if_neg (by omega)]
  rw [if_neg c4]
  simp only [Bool.and_eq_true, beq_iff_eq, decide_eq_true_eq] at c4
  by_cases e4 : 240 ≤ b0 ∧ b0 ≤ 244
  · rw [if_pos e4]
    by_cases l4 : n - p < 4
    · rw [if_pos l4]
    · rw [if_neg l4]
      by_cases g1 : b1 < 128 ∨ 191 < b1
      · rw [if_pos g1]
      · rw [if_neg g1]
        by_cases g2 : b2 < 128 ∨ 191 < b2
        · rw [if_pos g2]
        · rw [if_neg g2, if_pos (by omega)]
  · rw [if_neg e4]
end Go.Proofs.Ytpelapdadgmlkaa
