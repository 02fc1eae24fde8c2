/-
  Numbers' texts: read back as the numbers that they are of, both ways of reading.
-/
import Derived.Lib.ItoaNum
import Derived.Lib.AtoiAll
import Derived.WalkLawsBesides
namespace Go.Proofs.YtaoehdmdjplegaaGreatDoor

/-- A number's word, as it alone may stand. -/
def numP (w : List UInt8) : Option Int := match Lib.atoiAll w with
  | .ok v => if Lib.itoa v = w then some v else none
  | _ => none

/-- Digits, told one by one behind what stands ahead. -/
def toldGo (sg : Int) : Int → List UInt8 → Option Int
  | n, [] => some n
  | n, c :: r => if c.toNat < 48 ∨ 57 < c.toNat then none else toldGo sg (IntKind.i64.wrap (IntKind.i64.wrap (n * 10) + IntKind.i64.wrap (sg * ((c.toNat : Int) - 48)))) r
/-- What a word tells: a number, and whether it is wrong. -/
def toldR (w : List UInt8) : Int × Bool :=
  if (if w.head? = some 45 then w.tail else w) = [] ∨ 20 < w.length then (0, true)
  else match toldGo (if w.head? = some 45 then -1 else 1) 0 (if w.head? = some 45 then w.tail else w) with
    | none => (0, true)
    | some n => (n, decide (Lib.itoa n ≠ w))

theorem dig_nat {u : Nat} (h : u < 10) : (UInt8.ofNat (48 + u)).toNat = 48 + u := by
  rw [UInt8.toNat_ofNat']; omega
theorem decDigits_step {u : Nat} (h : ¬ u < 10) : Lib.decDigits u = Lib.decDigits (u / 10) ++ [UInt8.ofNat (48 + u % 10)] := by rw [Lib.decDigits, dif_neg h]
theorem decDigits_ne (u : Nat) : Lib.decDigits u ≠ [] := by
  intro h
  have := congrArg List.length h
  rw [Lib.decDigits_length] at this
  have := Lib.nDigits_pos u
  simp at *
  omega
/-- Each byte is a digit. -/
theorem decDigits_dig (u : Nat) : ∀ c ∈ Lib.decDigits u, 48 ≤ c.toNat ∧ c.toNat ≤ 57 := by
  induction u using Nat.strongRecOn with
  | _ u ih =>
    intro c hc
    by_cases h : u < 10
    · rw [Lib.decDigits_one h, List.mem_singleton] at hc
      rw [hc, dig_nat h]; omega
    · rw [decDigits_step h, List.mem_append, List.mem_singleton] at hc
      rcases hc with hc | hc
      · exact ih (u / 10) (by omega) c hc
      · rw [hc, dig_nat (by omega)]; omega
theorem decDigits_head (u : Nat) : ∃ c r, Lib.decDigits u = c :: r ∧ 48 ≤ c.toNat ∧ c.toNat ≤ 57 := by
  cases h : Lib.decDigits u with
  | nil => exact absurd h (decDigits_ne u)
  | cons c r => exact ⟨c, r, rfl, decDigits_dig u c (by rw [h]; simp)⟩
theorem parse_dec (u : Nat) : ∀ r : List UInt8, u < 18446744073709551616 → Lib.parseUint10 0 (Lib.decDigits u ++ r) = Lib.parseUint10 u r := by
  induction u using Nat.strongRecOn with
  | _ u ih =>
    intro r hu
    by_cases h : u < 10
    · rw [Lib.decDigits_one h, List.singleton_append, Lib.parseUint10, dig_nat h, if_pos (by omega), if_neg (by omega), if_neg (by omega)]
      congr 1; omega
    · rw [decDigits_step h, List.append_assoc, ih (u / 10) (by omega) _ (by omega), List.singleton_append, Lib.parseUint10, dig_nat (by omega), if_pos (by omega), if_neg (by omega), if_neg (by omega)]
      congr 1; omega
theorem atoi_itoa (n : Int) (h0 : -9223372036854775808 ≤ n) (h1 : n < 9223372036854775808) : Lib.atoiAll (Lib.itoa n) = .ok n := by
  by_cases hn : n < 0
  · have hi : Lib.itoa n = 45 :: Lib.decDigits n.natAbs := by unfold Lib.itoa; rw [if_pos hn]
    have hp := parse_dec n.natAbs [] (by omega)
    rw [List.append_nil] at hp
    rw [hi]
    simp only [Lib.atoiAll, Lib.parseMag, show ((45 : UInt8).toNat) = 45 from rfl, or_true, if_true, if_neg (decDigits_ne n.natAbs), hp, Lib.parseUint10]
    rw [if_neg (by simp), if_neg (by omega)]
    simp only [show -(n.natAbs : Int) = n by omega]
  · have hi : Lib.itoa n = Lib.decDigits n.toNat := by unfold Lib.itoa; rw [if_neg hn]
    obtain ⟨c, r, hc, h48, h57⟩ := decDigits_head n.toNat
    have hp := parse_dec n.toNat [] (by omega)
    rw [List.append_nil, hc] at hp
    rw [hi, hc]
    simp only [Lib.atoiAll, Lib.parseMag]
    have hc1 : ¬ (c.toNat = 43 ∨ c.toNat = 45) := by omega
    have hc2 : ¬ c.toNat = 45 := by omega
    rw [if_neg hc1, if_neg (by simp), hp]
    simp only [Lib.parseUint10]
    rw [if_neg (by omega), if_neg (fun h => hc2 h.1), if_neg hc2]
    simp only [show (n.toNat : Int) = n by omega]
theorem numP_itoa (n : Int) (h0 : -9223372036854775808 ≤ n) (h1 : n < 9223372036854775808) : numP (Lib.itoa n) = some n := by
  simp [numP, atoi_itoa n h0 h1]
theorem numP_some {w : List UInt8} {n : Int} (h : numP w = some n) : Lib.atoiAll w = .ok n ∧ Lib.itoa n = w := by
  unfold numP at h
  split at h
  · rename_i v hv
    split at h
    · rename_i hi
      injection h with h
      subst h
      exact ⟨hv, hi⟩
    · cases h
  · cases h
theorem atoi_range {w : List UInt8} {n : Int} (h : Lib.atoiAll w = .ok n) : -9223372036854775808 ≤ n ∧ n < 9223372036854775808 := by
  cases w with
  | nil => simp [Lib.atoiAll] at h
  | cons c r =>
    simp only [Lib.atoiAll] at h
    split at h
    · cases h
    · cases h
    · split at h
      · cases h
      · split at h
        · cases h
        · injection h with h
          split at h <;> omega

/-- Told digit by digit, no digit is lost. -/
theorem told_dec (sg : Int) (hs : sg = 1 ∨ sg = -1) (u : Nat) : ∀ r : List UInt8, u < 18446744073709551616 → (-9223372036854775808 ≤ sg * u ∧ sg * u < 9223372036854775808) → toldGo sg 0 (Lib.decDigits u ++ r) = toldGo sg (sg * u) r := by
  induction u using Nat.strongRecOn with
  | _ u ih =>
    intro r hu hb
    by_cases h : u < 10
    · rw [Lib.decDigits_one h, List.singleton_append, toldGo, dig_nat h, if_neg (by omega)]
      congr 1
      simp only [IntKind.wrap_i64]
      rcases hs with rfl | rfl <;> omega
    · have hb' : -9223372036854775808 ≤ sg * ((u / 10 : Nat) : Int) ∧ sg * ((u / 10 : Nat) : Int) < 9223372036854775808 := by
        rcases hs with rfl | rfl <;> omega
      rw [decDigits_step h, List.append_assoc, ih (u / 10) (by omega) _ (by omega) hb', List.singleton_append, toldGo, dig_nat (by omega), if_neg (by omega)]
      congr 1
      simp only [IntKind.wrap_i64]
      rcases hs with rfl | rfl <;> omega
theorem nDigits_small20 (u : Nat) (h : u < 10000000000000000000) : Lib.nDigits u ≤ 19 := by
  rcases Nat.lt_or_ge 19 (Lib.nDigits u) with hl | hl
  · exfalso
    have hall : ∀ (k v : Nat), k + 1 ≤ Lib.nDigits v → 10 ^ k ≤ v ∨ k = 0 := by
      intro k
      induction k with
      | zero => intro v _; exact Or.inr rfl
      | succ k ih =>
        intro v hv
        have hv10 : ¬ v < 10 := by
          intro hv10
          rw [Lib.nDigits_small hv10] at hv; omega
        rw [Lib.nDigits_big hv10] at hv
        rcases ih (v / 10) (by omega) with h1 | h1
        · left; rw [Nat.pow_succ]; omega
        · left; subst h1; simp; omega
    rcases hall 19 u (by omega) with h1 | h1 <;> omega
  · exact hl
theorem toldR_itoa (n : Int) (h0 : -9223372036854775808 ≤ n) (h1 : n < 9223372036854775808) : toldR (Lib.itoa n) = (n, false) := by
  by_cases hn : n < 0
  · have hi : Lib.itoa n = 45 :: Lib.decDigits n.natAbs := by unfold Lib.itoa; rw [if_pos hn]
    have hl := Lib.decDigits_length n.natAbs
    have hl2 := nDigits_small20 n.natAbs (by omega)
    have ht := told_dec (-1) (Or.inr rfl) n.natAbs [] (by omega) (by omega)
    rw [List.append_nil, toldGo, show (-1 : Int) * (n.natAbs : Int) = n by omega] at ht
    unfold toldR
    rw [hi]
    simp only [List.head?_cons, if_true, List.tail_cons, List.length_cons, ht]
    rw [if_neg (by
      rintro (h | h)
      · exact decDigits_ne _ h
      · omega), ← hi]
    simp
  · have hi : Lib.itoa n = Lib.decDigits n.toNat := by unfold Lib.itoa; rw [if_neg hn]
    have hl := Lib.decDigits_length n.toNat
    have hl2 := nDigits_small20 n.toNat (by omega)
    have ht := told_dec 1 (Or.inl rfl) n.toNat [] (by omega) (by omega)
    rw [List.append_nil, toldGo, show (1 : Int) * (n.toNat : Int) = n by omega] at ht
    have hh : (Lib.decDigits n.toNat).head? ≠ some 45 := by
      obtain ⟨c, r, hc, h48, _⟩ := decDigits_head n.toNat
      rw [hc]
      intro h
      simp at h
      subst h
      simp at h48
    unfold toldR
    rw [hi]
    simp only [if_neg hh, ht]
    rw [if_neg (by
      rintro (h | h)
      · exact decDigits_ne _ h
      · omega), ← hi]
    simp
/-- No blank, no quote stands in a number's text. -/
theorem itoa_clean (n : Int) : ∀ c ∈ Lib.itoa n, c ≠ 32 ∧ c ≠ 61 ∧ c ≠ 112 := by
  intro c hc
  have hd : ∀ u, c ∈ Lib.decDigits u → c ≠ 32 ∧ c ≠ 61 ∧ c ≠ 112 := by
    intro u hu
    have := decDigits_dig u c hu
    refine ⟨?_, ?_, ?_⟩ <;> rintro rfl <;> simp at this
  unfold Lib.itoa at hc
  split at hc
  · rcases List.mem_cons.1 hc with rfl | hc
    · decide
    · exact hd _ hc
  · exact hd _ hc
theorem itoa_ne (n : Int) : Lib.itoa n ≠ [] := by
  unfold Lib.itoa
  split
  · simp
  · exact decDigits_ne _

end Go.Proofs.YtaoehdmdjplegaaGreatDoor
