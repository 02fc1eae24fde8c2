/-
  Plain: what flexible.Sizes adds up, and how its boxes start.
-/
import Derived.Test.YtbhdolghokhfnaaRoundPlain
namespace Go.Proofs.Ytbhdolghokhfnaa

def itAt (l : List It) (i : Nat) : It := l.getD i It.none_
theorem itAt_at {l : List It} {i : Nat} (h : i < l.length) : itAt l i = l[i] := by simp [itAt, h]
/-- A box that may be. -/
structure GoodI (x : It) : Prop where
  b0 : 0 ≤ x.base
  fb : fit x.base = true
  fl : fit x.least = true
  fm : fit x.most = true
  fo : fit x.outer = true
  g0 : 0 ≤ x.grow
  g1 : x.grow ≤ 1000
  s0 : 0 ≤ x.shrink
  s1 : x.shrink ≤ 1000
theorem GoodI.first {x : It} (h : GoodI x) : fit (firstR x) = true := clampR_bd h.fl h.fm
structure CheckOk (l : List It) (gap room : Int) : Prop where
  len : l.length ≤ 2048
  gap0 : 0 ≤ gap
  room0 : -1 ≤ room
  fgap : fit gap = true
  froom : fit room = true
  good : ∀ i, i < l.length → GoodI (itAt l i)
theorem check_ok {l : List It} {gap room : Int} (h : checkR l gap room = 0) : CheckOk l gap room := by
  unfold checkR at h
  split at h
  · omega
  · rename_i h1
    split at h
    · omega
    · rename_i h2
      split at h
      · rename_i h3
        simp only [Bool.and_eq_true] at h3
        obtain ⟨⟨h4, h5⟩, h6⟩ := h3
        refine ⟨by omega, by omega, by omega, h4, h5, fun i hi => ?_⟩
        have hb : badIt l[i] = false := by
          cases hb : badIt l[i] with
          | false => rfl
          | true => exact absurd (List.any_eq_true.2 ⟨l[i], List.getElem_mem hi, hb⟩) h2
        have hf : fitIt l[i] = true := List.all_eq_true.1 h6 _ (List.getElem_mem hi)
        rw [itAt_at hi]
        unfold badIt at hb
        simp only [decide_eq_false_iff_not] at hb
        unfold fitIt at hf
        simp only [Bool.and_eq_true] at hf
        exact ⟨by omega, hf.1.1.1, hf.1.1.2, hf.1.2, hf.2, by omega, by omega, by omega, by omega⟩
      · omega
/-- First sizes, and what is around, of the first k boxes. -/
def allTo (l : List It) : Nat → Int
  | 0 => 0
  | k + 1 => allTo l k + (firstR (itAt l k) + (itAt l k).outer)
def outTo (l : List It) : Nat → Int
  | 0 => 0
  | k + 1 => outTo l k + (itAt l k).outer
theorem allTo_bd {l : List It} (h : ∀ i, i < l.length → GoodI (itAt l i)) : ∀ k, k ≤ l.length → -(2199023255552 * (k : Int)) ≤ allTo l k ∧ allTo l k ≤ 2199023255552 * (k : Int)
  | 0, _ => by simp [allTo]
  | k + 1, hk => by
    have ih := allTo_bd h k (by omega)
    have h1 := (fit_iff _).1 (h k (by omega)).first
    have h2 := (fit_iff _).1 (h k (by omega)).fo
    rw [allTo]
    omega
theorem outTo_bd {l : List It} (h : ∀ i, i < l.length → GoodI (itAt l i)) : ∀ k, k ≤ l.length → -(1099511627776 * (k : Int)) ≤ outTo l k ∧ outTo l k ≤ 1099511627776 * (k : Int)
  | 0, _ => by simp [outTo]
  | k + 1, hk => by
    have ih := outTo_bd h k (by omega)
    have h2 := (fit_iff _).1 (h k (by omega)).fo
    rw [outTo]
    omega
theorem sum_to (f : It → Int) (l : List It) (g : Nat → Int) (h0 : g 0 = 0) (hs : ∀ k, g (k + 1) = g k + f (itAt l k)) : g l.length = (l.map f).sum := by
  have h : ∀ k, k ≤ l.length → g k = ((l.take k).map f).sum := by
    intro k
    induction k with
    | zero => intro _; simp [h0]
    | succ k ih =>
      intro hk
      rw [hs, ih (by omega), List.take_succ_eq_append_getElem (by omega), List.map_append, List.sum_append, itAt_at (by omega)]
      simp
  rw [h _ (Nat.le_refl _), List.take_of_length_le (Nat.le_refl _)]
theorem outTo_all (l : List It) : outTo l l.length = (l.map It.outer).sum := sum_to It.outer l (outTo l) rfl fun _ => rfl
theorem map_add (f g : It → Int) : ∀ l : List It, (l.map fun x => f x + g x).sum = (l.map f).sum + (l.map g).sum
  | [] => rfl
  | x :: l => by simp only [List.map_cons, List.sum_cons, map_add f g l]; omega
theorem allTo_all (l : List It) : allTo l l.length = (l.map firstR).sum + (l.map It.outer).sum := by
  rw [sum_to (fun x => firstR x + x.outer) l (allTo l) rfl fun _ => rfl, map_add]
def gapsR (l : List It) (gap : Int) : Int := ((l.length - 1 : Nat) : Int) * gap
theorem allR_eq (l : List It) (gap : Int) : allR l gap = gapsR l gap + allTo l l.length := by
  unfold allR aroundR gapsR
  rw [allTo_all]
  omega
theorem aroundR_eq (l : List It) (gap : Int) : aroundR l gap = gapsR l gap + outTo l l.length := by
  unfold aroundR gapsR
  rw [outTo_all]
  omega
theorem gapsR_bd {l : List It} {gap : Int} (h0 : 0 ≤ gap) (hf : fit gap = true) (hl : l.length ≤ 2048) : 0 ≤ gapsR l gap ∧ gapsR l gap ≤ 2251799813685248 := by
  rw [fit_iff] at hf
  unfold gapsR
  have h1 : (0 : Int) ≤ ((l.length - 1 : Nat) : Int) := by omega
  have h2 : ((l.length - 1 : Nat) : Int) ≤ 2048 := by omega
  have := Int.mul_nonneg h1 h0
  have := Int.mul_le_mul h2 hf.2 h0 (by omega : (0 : Int) ≤ 2048)
  omega
/-- The boxes as they start. -/
def startS (grow : Bool) (l : List It) : List Bo := l.map (startAt grow)
theorem startS_bo {grow : Bool} {l : List It} {i : Nat} (h : i < l.length) : boAt (startS grow l) i = startAt grow (itAt l i) := by
  unfold startS
  rw [boAt_at (by simpa using h), List.getElem_map, itAt_at h]
theorem startS_good {grow : Bool} {l : List It} (h : ∀ i, i < l.length → GoodI (itAt l i)) : GoodS (startS grow l) := fun i hi => by
  have hi' : i < l.length := by simpa [startS] using hi
  rw [startS_bo hi']
  have g := h i hi'
  unfold startAt
  refine ⟨g.b0, g.fb, g.fl, g.fm, g.g0, g.g1, g.s0, g.s1, ?_⟩
  unfold szOf
  dsimp only
  repeat' split
  all_goals first
  | exact g.first
  | exact g.fb

end Go.Proofs.Ytbhdolghokhfnaa
