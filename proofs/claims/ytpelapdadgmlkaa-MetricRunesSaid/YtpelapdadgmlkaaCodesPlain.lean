/-
  Plain: the characters of a text, one behind the other, as Go's own cut gives them; widths.
-/
import Derived.Test.YtpelapdadgmlkaaMetricPlain
namespace Go.Proofs.Ytpelapdadgmlkaa

/-- The characters of a text from a place on, fuel by fuel: Go's own cut. -/
def codesF (s : ByteArray) : Nat → Nat → List Int
  | 0, _ => []
  | f + 1, pos => if pos < s.size then ((Utf8.decode s pos).1 : Int) :: codesF s f (pos + (Utf8.decode s pos).2) else []
def codes (s : ByteArray) : List Int := codesF s s.size 0

theorem decode_pos (s : ByteArray) (pos : Nat) : 1 ≤ (Utf8.decode s pos).2 := by
  simp only [Utf8.decode]
  repeat' split
  all_goals simp
theorem decode_pos4 (s : ByteArray) (pos : Nat) : (Utf8.decode s pos).2 ≤ 4 := by
  simp only [Utf8.decode]
  repeat' split
  all_goals simp
theorem codesF_fuel (s : ByteArray) : ∀ (f pos : Nat), s.size - pos ≤ f → codesF s f pos = codesF s (s.size - pos) pos := by
  have key : ∀ (f g pos : Nat), s.size - pos ≤ f → s.size - pos ≤ g → codesF s f pos = codesF s g pos := by
    intro f
    induction f with
    | zero =>
      intro g pos h1 _
      have hp : ¬ pos < s.size := by omega
      cases g with
      | zero => rfl
      | succ g => simp [codesF, hp]
    | succ f ih =>
      intro g pos h1 h2
      by_cases hp : pos < s.size
      · cases g with
        | zero => omega
        | succ g =>
          simp only [codesF, hp, if_true]
          have := decode_pos s pos
          rw [ih g _ (by omega) (by omega)]
      · cases g with
        | zero => simp [codesF, hp]
        | succ g => simp [codesF, hp]
  exact fun f pos h => key f _ pos h (Nat.le_refl _)
/-- What is left of the characters from a place on. -/
def codesAt (s : ByteArray) (pos : Nat) : List Int := codesF s (s.size - pos) pos
theorem codesAt_step (s : ByteArray) (pos : Nat) (h : pos < s.size) : codesAt s pos = ((Utf8.decode s pos).1 : Int) :: codesAt s (pos + (Utf8.decode s pos).2) := by
  unfold codesAt
  obtain ⟨f, hf⟩ : ∃ f, s.size - pos = f + 1 := ⟨s.size - pos - 1, by omega⟩
  rw [hf, codesF, if_pos h, codesF_fuel s f _ (by have := decode_pos s pos; omega)]
theorem codesAt_end (s : ByteArray) (pos : Nat) (h : ¬ pos < s.size) : codesAt s pos = [] := by
  unfold codesAt
  rw [show s.size - pos = 0 by omega]
  rfl
theorem codes_eq (s : ByteArray) : codes s = codesAt s 0 := rfl
theorem codesAt_len (s : ByteArray) : ∀ (n pos : Nat), s.size - pos ≤ n → (codesAt s pos).length ≤ s.size - pos := by
  intro n
  induction n with
  | zero => intro pos h; rw [codesAt_end s pos (by omega)]; simp
  | succ n ih =>
    intro pos h
    by_cases hp : pos < s.size
    · have := decode_pos s pos
      rw [codesAt_step s pos hp, List.length_cons]
      have := ih (pos + (Utf8.decode s pos).2) (by omega)
      omega
    · rw [codesAt_end s pos hp]; simp

/-- How wide characters are, for each point of a font. -/
def sumShare (l : List Int) : Int := (l.map share).sum
theorem sumShare_cons (a : Int) (l : List Int) : sumShare (a :: l) = share a + sumShare l := by simp [sumShare]
theorem sumShare_bd (l : List Int) : 0 ≤ sumShare l ∧ sumShare l ≤ 64 * l.length := by
  induction l with
  | nil => simp [sumShare]
  | cons a l ih =>
    rw [sumShare_cons, List.length_cons]
    have := share_bd a
    omega
def widthR (s : ByteArray) (font : Int) : Int × Int := timesR (sumShare (codes s)) font
end Go.Proofs.Ytpelapdadgmlkaa
