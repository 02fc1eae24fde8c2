/-
  Plain: the merging part of Go's stable sort: ranges exchanged, rotated.
-/
import Derived.Sort.LotA
namespace Go.Proofs.Ytbhdolghokhfnaa
open Go.Sort
variable {α : Type} [Inhabited α]

/-- swapRangeCmpFunc: n elements from a on against those from b on. -/
def swR (d : Array α) (a b : Nat) : Nat → Array α
  | 0 => d
  | n + 1 => swp (swR d a b n) (a + n) (b + n)
theorem swR_size (d : Array α) (a b : Nat) : ∀ n, (swR d a b n).size = d.size
  | 0 => rfl
  | n + 1 => by rw [swR, swp_size, swR_size d a b n]
theorem swR_get (d : Array α) {a b : Nat} : ∀ {n : Nat}, a + n ≤ b → b + n ≤ d.size → ∀ k, (swR d a b n)[k]! = if a ≤ k ∧ k < a + n then d[b + (k - a)]! else if b ≤ k ∧ k < b + n then d[a + (k - b)]! else d[k]!
  | 0, _, _, k => by
    rw [if_neg (by omega), if_neg (by omega)]
    rfl
  | n + 1, h1, h2, k => by
    rw [swR, swp_get _ (by rw [swR_size]; omega) (by rw [swR_size]; omega)]
    rw [swR_get d (n := n) (by omega) (by omega) (a + n), swR_get d (n := n) (by omega) (by omega) (b + n), swR_get d (n := n) (by omega) (by omega) k]
    repeat' split
    all_goals first | (exfalso; omega) | rfl | (congr 1; omega)
theorem swR_perm (d : Array α) {lo hi a b : Nat} : ∀ {n : Nat}, lo ≤ a → a + n ≤ b → b + n ≤ hi → hi ≤ d.size → PermIn lo hi d (swR d a b n)
  | 0, _, _, _, _ => permIn_refl _ _ _
  | n + 1, h1, h2, h3, h4 => permIn_trans _ _ _ _ _ (swR_perm d (n := n) h1 (by omega) (by omega) h4) (swp_permIn _ _ _ _ _ (by omega) (by omega) (by omega) (by omega) (by rw [swR_size]; exact h4))

/-- rotateCmpFunc's loop: i before m, j from m on, are still to be exchanged. -/
def rotL (m : Nat) : Nat → Nat → Nat → Array α → Array α
  | 0, _, _, d => d
  | f + 1, i, j, d => if i = j then swR d (m - i) m i else if j < i then rotL m f (i - j) j (swR d (m - i) m j) else rotL m f i (j - i) (swR d (m - i) (m + j - i) i)
theorem rotL_get {m : Nat} : ∀ {f i j : Nat} {d : Array α}, 0 < i → 0 < j → i + j ≤ f → i ≤ m → m + j ≤ d.size → ∀ k,
    (rotL m f i j d)[k]! = if m - i ≤ k ∧ k < m - i + j then d[k + i]! else if m - i + j ≤ k ∧ k < m + j then d[k - j]! else d[k]!
  | 0, i, j, d, h1, h2, h3, _, _, k => absurd h3 (by omega)
  | f + 1, i, j, d, h1, h2, h3, h4, h5, k => by
    rw [rotL]
    by_cases e : i = j
    · subst e
      rw [if_pos rfl, swR_get d (by omega) (by omega)]
      repeat' split
      all_goals first | (exfalso; omega) | rfl | (congr 1; omega)
    · rw [if_neg e]
      by_cases hl : j < i
      · rw [if_pos hl, rotL_get (f := f) (by omega) h2 (by omega) (by omega) (by rw [swR_size]; omega)]
        rw [swR_get d (by omega) (by omega) (k + (i - j)), swR_get d (by omega) (by omega) (k - j), swR_get d (by omega) (by omega) k]
        repeat' split
        all_goals first | (exfalso; omega) | rfl | (congr 1; omega)
      · rw [if_neg hl, rotL_get (f := f) h1 (by omega) (by omega) h4 (by rw [swR_size]; omega)]
        rw [swR_get d (by omega) (by omega) (k + i), swR_get d (by omega) (by omega) (k - (j - i)), swR_get d (by omega) (by omega) k]
        repeat' split
        all_goals first | (exfalso; omega) | rfl | (congr 1; omega)
theorem rotL_size {m : Nat} : ∀ (f i j : Nat) (d : Array α), (rotL m f i j d).size = d.size
  | 0, _, _, _ => rfl
  | f + 1, i, j, d => by
    rw [rotL]
    split
    · exact swR_size _ _ _ _
    · split
      · rw [rotL_size f, swR_size]
      · rw [rotL_size f, swR_size]
theorem rotL_perm {m lo hi : Nat} : ∀ {f i j : Nat} {d : Array α}, 0 < i → 0 < j → i + j ≤ f → i ≤ m → lo ≤ m - i → m + j ≤ hi → hi ≤ d.size → PermIn lo hi d (rotL m f i j d)
  | 0, i, j, d, h1, h2, h3, _, _, _, _ => absurd h3 (by omega)
  | f + 1, i, j, d, h1, h2, h3, h4, h5, h6, h7 => by
    rw [rotL]
    by_cases e : i = j
    · subst e
      rw [if_pos rfl]
      exact swR_perm d h5 (by omega) (by omega) h7
    · rw [if_neg e]
      by_cases hl : j < i
      · rw [if_pos hl]
        exact permIn_trans _ _ _ _ _ (swR_perm d h5 (by omega) (by omega) h7) (rotL_perm (f := f) (by omega) h2 (by omega) (by omega) (by omega) h6 (by rw [swR_size]; exact h7))
      · rw [if_neg hl]
        exact permIn_trans _ _ _ _ _ (swR_perm d h5 (by omega) (by omega) h7) (rotL_perm (f := f) h1 (by omega) (by omega) h4 h5 (by omega) (by rw [swR_size]; exact h7))

end Go.Proofs.Ytbhdolghokhfnaa
