/-
  Plain: characters' shares, as the program's rows say them and as the reference says them.
-/
import Derived.Test.YtpelapdadgmlkaaRunePlain
namespace Go.Proofs.Ytpelapdadgmlkaa

def thin : List UInt8 := [10, 32, 33, 39, 40, 41, 44, 46, 58, 59, 91, 93, 102, 105, 106, 108, 116, 124]
def thin' : List UInt8 := [33, 39, 40, 41, 44, 46, 58, 59, 91, 93, 102, 105, 106, 108, 116, 124]
def wide : List UInt8 := [37, 64, 77, 87, 109, 119]

/-- Row k of the shares: does it hold of a character, and what does it say? -/
def rowHolds (k : Nat) (r : Int) : Bool :=
  match k with
  | 0 => decide (768 ≤ r) && decide (r ≤ 879)
  | 1 => decide (0 ≤ r) && memb thin r
  | 2 => decide (-2147483648 ≤ r) && decide (r ≤ 31)
  | 3 => decide (0 ≤ r) && memb wide r
  | 4 => decide (65 ≤ r) && decide (r ≤ 90)
  | 5 => decide (32 ≤ r) && decide (r ≤ 4351)
  | 6 => decide (4352 ≤ r) && decide (r ≤ 2147483647)
  | _ => false
def rowShare (k : Nat) : Int := match k with | 0 => 0 | 1 => 16 | 2 => 0 | 3 => 48 | 4 => 40 | 5 => 32 | 6 => 64 | _ => 0

/-- The first row from k on that holds. -/
def shareFrom (r : Int) : Nat → Nat → Int
  | 0, _ => 0
  | n + 1, k => if rowHolds k r = true then rowShare k else shareFrom r n (k + 1)
def share (r : Int) : Int := shareFrom r 7 0

theorem shareFrom_hit (r : Int) (n k : Nat) (h : rowHolds k r = true) : shareFrom r (n + 1) k = rowShare k := if_pos h
theorem shareFrom_miss (r : Int) (n k : Nat) (h : rowHolds k r = false) : shareFrom r (n + 1) k = shareFrom r n (k + 1) := if_neg (by simp [h])

theorem memb_cons (b : UInt8) (l : List UInt8) (r : Int) : memb (b :: l) r = (decide (r = (b.toNat : Int)) || memb l r) := by
  simp only [memb, List.any_cons]
  congr 1
  rw [Bool.eq_iff_iff, beq_iff_eq, decide_eq_true_iff]
  exact eq_comm
theorem memb_thin (r : Int) : memb thin r = (decide (r = 10) || (decide (r = 32) || memb thin' r)) := by
  unfold thin thin'
  rw [memb_cons, memb_cons]
  rfl
theorem memb_thin'_bd (r : Int) (h : memb thin' r = true) : 32 < r ∧ r < 128 := by
  simp [memb, thin'] at h
  omega
theorem memb_wide_bd (r : Int) (h : memb wide r = true) : 32 < r ∧ r < 128 := by
  simp [memb, wide] at h
  omega

theorem share_bd (r : Int) : 0 ≤ share r ∧ share r ≤ 64 := by
  have : ∀ n k, 0 ≤ shareFrom r n k ∧ shareFrom r n k ≤ 64 := by
    intro n
    induction n with
    | zero => intro k; exact ⟨Int.le_refl _, by show (0 : Int) ≤ 64; decide⟩
    | succ n ih =>
      intro k
      unfold shareFrom
      split
      · unfold rowShare; split <;> omega
      · exact ih _
  exact this 7 0
/-- The shares as the reference tells them. -/
def share' (r : Int) : Int :=
  if 768 ≤ r ∧ r ≤ 879 then 0 else if r = 10 ∨ r = 32 ∨ memb thin' r = true then 16 else if r < 32 then 0 else if memb wide r = true then 48 else if 65 ≤ r ∧ r ≤ 90 then 40 else if 4352 ≤ r then 64 else 32
theorem share_eq (r : Int) (h1 : -2147483648 ≤ r) (h2 : r ≤ 2147483647) : share r = share' r := by
  unfold share share'
  by_cases g0 : 768 ≤ r ∧ r ≤ 879
  · rw [if_pos g0, shareFrom_hit _ _ _ (by simp [rowHolds, g0])]; rfl
  rw [if_neg g0, shareFrom_miss _ _ _ (by simp [rowHolds]; omega)]
  by_cases g1 : r = 10 ∨ r = 32 ∨ memb thin' r = true
  · have : 0 ≤ r := by
      rcases g1 with h | h | h
      · omega
      · omega
      · have := memb_thin'_bd r h; omega
    rw [if_pos g1, shareFrom_hit _ _ _ (by simp [rowHolds, this, memb_thin, g1])]; rfl
  rw [if_neg g1, shareFrom_miss _ _ _ (by simp only [rowHolds, memb_thin]; simp at g1 ⊢; exact fun _ => g1)]
  by_cases g2 : r < 32
  · rw [if_pos g2, shareFrom_hit _ _ _ (by simp [rowHolds]; omega)]; rfl
  rw [if_neg g2, shareFrom_miss _ _ _ (by simp [rowHolds]; omega)]
  by_cases g3 : memb wide r = true
  · rw [if_pos g3, shareFrom_hit _ _ _ (by simp [rowHolds, g3]; omega)]; rfl
  rw [if_neg g3, shareFrom_miss _ _ _ (by simp [rowHolds, g3])]
  by_cases g4 : 65 ≤ r ∧ r ≤ 90
  · rw [if_pos g4, shareFrom_hit _ _ _ (by simp [rowHolds, g4])]; rfl
  rw [if_neg g4, shareFrom_miss _ _ _ (by simp [rowHolds]; omega)]
  by_cases g5 : 4352 ≤ r
  · rw [if_pos g5, shareFrom_miss _ _ _ (by simp [rowHolds]; omega), shareFrom_hit _ _ _ (by simp [rowHolds, g5, h2])]; rfl
  · rw [if_neg g5, shareFrom_hit _ _ _ (by simp [rowHolds]; omega)]; rfl

/-- Something for each point of a font. -/
def timesR (n font : Int) : Int × Int := if font < 1 ∨ 1000 < font then (0, 2) else if 1099511627776 < n * font then (0, 10) else (n * font, 0)

end Go.Proofs.Ytpelapdadgmlkaa
