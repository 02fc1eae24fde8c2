/-
  Plain: the sizes of boxes that grow and shrink.
-/
import Derived.Test.YtbhdolghokhfnaaGivenPlain
namespace Go.Proofs.Ytbhdolghokhfnaa

/-- A box that grows and shrinks. -/
structure It where
  base : Int
  least : Int
  most : Int
  grow : Int
  shrink : Int
  outer : Int
deriving DecidableEq
def It.none_ : It := ⟨0, 0, 0, 0, 0, 0⟩
def firstR (x : It) : Int := clampR x.base x.least x.most
def badIt (x : It) : Bool := decide (x.base < 0 ∨ x.least < 0 ∨ x.most < 0 ∨ x.grow < 0 ∨ x.shrink < 0 ∨ 1000 < x.grow ∨ 1000 < x.shrink)
def fitIt (x : It) : Bool := fit x.base && fit x.least && fit x.most && fit x.outer
/-- Why boxes have no sizes. -/
def checkR (l : List It) (gap room : Int) : Int := if 2048 < l.length ∨ gap < 0 ∨ room < -1 then 2 else if l.any badIt = true then 2 else if (fit gap && fit room && l.all fitIt) = true then 0 else 10

/-- A box and, once it is settled, its size. -/
abbrev Bo := It × Option Int
def szOf (x : Bo) : Int := x.2.getD x.1.base
def wtOf (grow : Bool) (x : Bo) : Int := if x.2.isSome = true then 0 else if grow = true then x.1.grow else x.1.shrink * x.1.base
def leftR (room : Int) (s : List Bo) : Int := room - (s.map szOf).sum
def cutR (grow : Bool) (left : Int) : Int := if grow = true then (if 0 < left then left else 0) else (if 0 < left then 0 else left)
/-- What each is given of what is left. -/
def giveR (grow : Bool) (left : Int) (s : List Bo) : List Int := zsOf (cutR grow left) (s.map (wtOf grow))
def boAt (s : List Bo) (i : Nat) : Bo := s.getD i (It.none_, some 0)
def gotR (zs : List Int) (s : List Bo) (i : Nat) : Int := (boAt s i).1.base + zs.getD i 0
def goalR (zs : List Int) (s : List Bo) (i : Nat) : Int := clampR (gotR zs s i) (boAt s i).1.least (boAt s i).1.most
def chgR (zs : List Int) (s : List Bo) (i : Nat) : Int := if (boAt s i).2.isSome = true then 0 else goalR zs s i - gotR zs s i
/-- How much the boxes' bounds change, of the first k boxes. -/
def sumR (zs : List Int) (s : List Bo) : Nat → Int
  | 0 => 0
  | k + 1 => sumR zs s k + chgR zs s k
def settles (c ch : Int) : Bool := decide (c = 0 ∨ (0 < c ∧ 0 < ch) ∨ (c < 0 ∧ ch < 0))
def nextAt (zs : List Int) (s : List Bo) (c : Int) (i : Nat) : Bo := if (boAt s i).2.isSome = true then boAt s i else if settles c (chgR zs s i) = true then ((boAt s i).1, some (goalR zs s i)) else boAt s i
def nextR (zs : List Int) (s : List Bo) : List Bo := (List.range s.length).map (nextAt zs s (sumR zs s s.length))
def openR (s : List Bo) : Nat := s.countP (fun x => !x.2.isSome)
/-- Rounds until all are settled; none: what is left is no length. -/
def roundsR : Nat → Bool → Int → List Bo → Option (List Int)
  | 0, _, _, _ => none
  | f + 1, grow, room, s => if openR s = 0 then some (s.map szOf) else if fit (leftR room s) = true then roundsR f grow room (nextR (giveR grow (leftR room s) s) s) else none
def aroundR (l : List It) (gap : Int) : Int := (l.map It.outer).sum + ((l.length - 1 : Nat) : Int) * gap
def allR (l : List It) (gap : Int) : Int := (l.map firstR).sum + aroundR l gap
def startAt (grow : Bool) (x : It) : Bo := (x, if (if grow = true then decide (x.grow = 0 ∨ firstR x < x.base) else decide (x.shrink = 0 ∨ x.base < firstR x)) = true then some (firstR x) else none)
def lastR (o : Option (List Int)) : List Int × Int := match o with
  | none => ([], 10)
  | some out => if out.all fit = true then (out, 0) else ([], 10)
def growR (l : List It) (gap room : Int) : Bool := decide (allR l gap < room)
def sizesR (l : List It) (gap room : Int) : List Int × Int :=
  if checkR l gap room ≠ 0 then ([], checkR l gap room) else if room < 0 then (l.map firstR, 0) else
  lastR (roundsR (l.length + 1) (growR l gap room) (room - aroundR l gap) (l.map (startAt (growR l gap room))))

/-! ### rounds end -/
theorem boAt_at {s : List Bo} {i : Nat} (h : i < s.length) : boAt s i = s[i] := by simp [boAt, h]
theorem nextR_len (zs : List Int) (s : List Bo) : (nextR zs s).length = s.length := by simp [nextR]
theorem nextR_at {zs : List Int} {s : List Bo} {i : Nat} (h : i < (nextR zs s).length) : (nextR zs s)[i] = nextAt zs s (sumR zs s s.length) i := by simp [nextR]
theorem nextR_bo {zs : List Int} {s : List Bo} {i : Nat} (h : i < s.length) : boAt (nextR zs s) i = nextAt zs s (sumR zs s s.length) i := by
  rw [boAt_at (by rw [nextR_len]; exact h), nextR_at]
theorem nextAt_settled {zs : List Int} {s : List Bo} {c : Int} {i : Nat} (h : (boAt s i).2.isSome = true) : nextAt zs s c i = boAt s i := by simp [nextAt, h]
theorem nextAt_it (zs : List Int) (s : List Bo) (c : Int) (i : Nat) : (nextAt zs s c i).1 = (boAt s i).1 := by
  unfold nextAt
  split
  · rfl
  · split <;> rfl
theorem sumR_pos {zs : List Int} {s : List Bo} : ∀ {k : Nat}, 0 < sumR zs s k → ∃ i, i < k ∧ 0 < chgR zs s i
  | 0, h => by simp [sumR] at h
  | k + 1, h => by
    rw [sumR] at h
    by_cases hc : 0 < chgR zs s k
    · exact ⟨k, by omega, hc⟩
    · obtain ⟨i, hi, hp⟩ := sumR_pos (zs := zs) (s := s) (k := k) (by omega)
      exact ⟨i, by omega, hp⟩
theorem sumR_neg {zs : List Int} {s : List Bo} : ∀ {k : Nat}, sumR zs s k < 0 → ∃ i, i < k ∧ chgR zs s i < 0
  | 0, h => by simp [sumR] at h
  | k + 1, h => by
    rw [sumR] at h
    by_cases hc : chgR zs s k < 0
    · exact ⟨k, by omega, hc⟩
    · obtain ⟨i, hi, hp⟩ := sumR_neg (zs := zs) (s := s) (k := k) (by omega)
      exact ⟨i, by omega, hp⟩
theorem countP_range_le {p q : Nat → Bool} : ∀ {n : Nat}, (∀ i, i < n → p i = true → q i = true) → (List.range n).countP p ≤ (List.range n).countP q
  | 0, _ => by simp
  | n + 1, h => by
    have ih := countP_range_le (p := p) (q := q) (n := n) fun i hi => h i (by omega)
    rw [List.range_succ, List.countP_append, List.countP_append]
    have := h n (by omega)
    cases hp : p n <;> cases hq : q n <;> simp_all <;> omega
theorem countP_range_less {p q : Nat → Bool} {j : Nat} : ∀ {n : Nat}, (∀ i, i < n → p i = true → q i = true) → j < n → p j = false → q j = true → (List.range n).countP p < (List.range n).countP q
  | 0, _, h, _, _ => absurd h (by omega)
  | n + 1, h, hj, hp, hq => by
    rw [List.range_succ, List.countP_append, List.countP_append]
    rcases Nat.lt_or_eq_of_le (Nat.le_of_lt_succ hj) with h1 | rfl
    · have ih := countP_range_less (p := p) (q := q) (n := n) (fun i hi => h i (by omega)) h1 hp hq
      have := h n (by omega)
      cases hp' : p n <;> cases hq' : q n <;> simp_all <;> omega
    · have ih := countP_range_le (p := p) (q := q) (n := j) fun i hi => h i (by omega)
      simp [hp, hq]
      omega
theorem openR_range (s : List Bo) : openR s = (List.range s.length).countP (fun i => !(boAt s i).2.isSome) := by
  unfold openR
  have e : s = (List.range s.length).map (boAt s) := by
    refine List.ext_getElem (by simp) fun i h1 h2 => ?_
    simp [boAt_at h1]
  conv => lhs; rw [e]
  rw [List.countP_map]
  rfl
theorem openR_next {zs : List Int} {s : List Bo} (h : 0 < openR s) : openR (nextR zs s) < openR s := by
  rw [openR_range, openR_range, nextR_len]
  rw [openR_range] at h
  have hb : ∀ i, i < s.length → (!(boAt (nextR zs s) i).2.isSome) = true → (!(boAt s i).2.isSome) = true := fun i hi hn => by
    cases hs : (boAt s i).2.isSome with
    | false => rfl
    | true => rw [nextR_bo hi, nextAt_settled hs, hs] at hn; exact hn
  have hex : ∃ i, i < s.length ∧ (boAt s i).2.isSome = false ∧ settles (sumR zs s s.length) (chgR zs s i) = true := by
    have hopen : ∀ i, 0 < chgR zs s i ∨ chgR zs s i < 0 → (boAt s i).2.isSome = false := fun i hc => by
      cases hs : (boAt s i).2.isSome with
      | false => rfl
      | true => unfold chgR at hc; rw [if_pos hs] at hc; omega
    rcases Int.lt_trichotomy (sumR zs s s.length) 0 with hc | hc | hc
    · obtain ⟨i, hi, hp⟩ := sumR_neg hc
      exact ⟨i, hi, hopen i (Or.inr hp), by simp only [settles, decide_eq_true_eq]; exact Or.inr (Or.inr ⟨hc, hp⟩)⟩
    · obtain ⟨i, hi, ho⟩ : ∃ i, i < s.length ∧ (!(boAt s i).2.isSome) = true := by
        have := List.countP_pos_iff.1 h
        obtain ⟨i, hm, hp⟩ := this
        exact ⟨i, by simpa using hm, hp⟩
      exact ⟨i, hi, by simpa using ho, by simp only [settles, decide_eq_true_eq]; exact Or.inl hc⟩
    · obtain ⟨i, hi, hp⟩ := sumR_pos hc
      exact ⟨i, hi, hopen i (Or.inl hp), by simp only [settles, decide_eq_true_eq]; exact Or.inr (Or.inl ⟨hc, hp⟩)⟩
  obtain ⟨j, hj, ho, hset⟩ := hex
  refine countP_range_less hb hj ?_ (by simp [ho])
  rw [nextR_bo hj]
  simp [nextAt, ho, hset]

end Go.Proofs.Ytbhdolghokhfnaa
