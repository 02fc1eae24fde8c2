/-
  The plain law of bits.Div64: one digit of the school division, base 2^32, of a number by a normalized one.
-/
namespace Go.Proofs.Ytbhdolghokhfnaa

theorem digit_hi {u d y q b : Nat} (hu : u < y) (hd : d < b) (hq : b ≤ q) : u * b + d < q * y := by
  have h1 : (u + 1) * b ≤ y * b := Nat.mul_le_mul_right b hu
  have h2 : y * b ≤ y * q := Nat.mul_le_mul_left y hq
  rw [Nat.mul_comm q y]
  rw [Nat.add_mul] at h1
  omega

theorem digit_mul {u d b n1 n0 q r : Nat} (hr : q * n1 + r = u) (h : b * r + d < q * n0) : u * b + d < q * (n1 * b + n0) := by
  subst hr
  rw [Nat.add_mul, Nat.mul_add, ← Nat.mul_assoc, Nat.mul_comm r b]
  omega

theorem digit_done {u d b n1 n0 q r : Nat} (hr : q * n1 + r = u) (h : q * n0 ≤ b * r + d) : q * (n1 * b + n0) ≤ u * b + d := by
  subst hr
  rw [Nat.add_mul, Nat.mul_add, ← Nat.mul_assoc, Nat.mul_comm r b]
  omega

theorem digit_brk {u d b n1 n0 q r : Nat} (hr : q * n1 + r = u) (hb : b ≤ r) (hq : q ≤ b) (h0 : n0 < b) : q * (n1 * b + n0) ≤ u * b + d := by
  refine digit_done hr ?_
  have h1 : q * n0 ≤ b * b := Nat.mul_le_mul hq (by omega)
  have h2 : b * b ≤ b * r := Nat.mul_le_mul_left b hb
  omega

/-- The first guess is not too little. -/
theorem digit_first {u d b n1 n0 : Nat} (hd : d < b) (h1 : 0 < n1) : u * b + d < (u / n1 + 1) * (n1 * b + n0) := by
  have h2 : u < (u / n1 + 1) * n1 := by
    have := Nat.lt_mul_div_succ u h1
    rwa [Nat.mul_comm] at this
  have h3 : (u + 1) * b ≤ (u / n1 + 1) * n1 * b := Nat.mul_le_mul_right b h2
  rw [Nat.mul_add, ← Nat.mul_assoc]
  rw [Nat.add_mul] at h3
  omega

/-- .. and is at most one above the base. -/
theorem digit_top {u b n1 n0 y : Nat} (hy : y = n1 * b + n0) (hu : u < y) (h0 : n0 < b) (h1 : b ≤ 2 * n1) : u / n1 ≤ b + 1 := by
  subst hy
  have h2 : n1 * b + n0 < (b + 2) * n1 := by
    rw [Nat.add_mul, Nat.mul_comm b n1]
    omega
  have h3 : u / n1 < b + 2 := Nat.div_lt_of_lt_mul (by rw [Nat.mul_comm]; omega)
  omega

theorem div_of {x y q : Nat} (h1 : q * y ≤ x) (h2 : x < (q + 1) * y) : x / y = q :=
  Nat.div_eq_of_lt_le h1 h2

/-- Two digits: what was divided, and what is left. -/
theorem digits_two {u d1 d0 b y q1 u2 q0 : Nat} (e1 : u * b + d1 = q1 * y + u2) (e0 : u2 * b + d0 = q0 * y + (u2 * b + d0 - q0 * y)) (h0 : u2 * b + d0 - q0 * y < y) :
    (u * (b * b) + d1 * b + d0) / y = q1 * b + q0 ∧ (u * (b * b) + d1 * b + d0) % y = u2 * b + d0 - q0 * y := by
  generalize u2 * b + d0 - q0 * y = r at *
  have e : u * (b * b) + d1 * b + d0 = r + (q1 * b + q0) * y := by
    have : (u * b + d1) * b = (q1 * y + u2) * b := by rw [e1]
    rw [Nat.add_mul, Nat.add_mul, Nat.mul_assoc] at this
    rw [Nat.add_mul, Nat.mul_right_comm]
    rw [Nat.mul_right_comm q1 y b] at this
    have c : q1 * y * b = q1 * b * y := Nat.mul_right_comm q1 y b
    omega
  rw [e]
  have hy : 0 < y := by omega
  rw [Nat.add_mul_div_right _ _ hy, Nat.div_eq_of_lt h0, Nat.add_mul_mod_self_right, Nat.mod_eq_of_lt h0]
  omega

end Go.Proofs.Ytbhdolghokhfnaa
