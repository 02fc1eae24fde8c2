/-
  Plain: rows that are written place by place; what the reference's round works on.
-/
import Derived.Test.YtbhdolghokhfnaaSizesPlain
namespace Go.Proofs.Ytbhdolghokhfnaa

/-- A row of n places: f where k are done, g behind. -/
def mixI {α : Type} (n k : Nat) (f g : Nat → α) : List α := (List.range n).map fun j => if j < k then f j else g j
theorem mixI_len {α : Type} (n k : Nat) (f g : Nat → α) : (mixI n k f g).length = n := by simp [mixI]
theorem mixI_at {α : Type} {n k j : Nat} {f g : Nat → α} (h : j < (mixI n k f g).length) : (mixI n k f g)[j] = if j < k then f j else g j := by simp [mixI]
theorem mixI_step {α : Type} (n k : Nat) (f g : Nat → α) : mixI n (k + 1) f g = (mixI n k f g).set k (f k) := by
  refine List.ext_getElem (by simp [mixI]) fun i h1 h2 => ?_
  rw [List.getElem_set, mixI_at]
  by_cases e : k = i
  · subst e
    rw [if_pos (by omega), if_pos rfl]
  · rw [if_neg e, mixI_at]
    by_cases h : i < k
    · rw [if_pos h, if_pos (by omega)]
    · rw [if_neg h, if_neg (by omega)]
theorem mixI_same {α : Type} (n k : Nat) (f g : Nat → α) (h : k < n → f k = g k) : mixI n (k + 1) f g = mixI n k f g := by
  refine List.ext_getElem (by simp [mixI]) fun i h1 h2 => ?_
  rw [mixI_at, mixI_at]
  have hi : i < n := by simpa [mixI] using h1
  by_cases e : k = i
  · subst e
    rw [if_pos (by omega), if_neg (by omega), h hi]
  · by_cases h : i < k
    · rw [if_pos h, if_pos (by omega)]
    · rw [if_neg h, if_neg (by omega)]
theorem mixI_all {α : Type} (n : Nat) (f g : Nat → α) : mixI n n f g = (List.range n).map f := List.map_congr_left fun j hj => if_pos (by simpa using hj)
theorem mixI_none {α : Type} (n : Nat) (f g : Nat → α) : mixI n 0 f g = (List.range n).map g := List.map_congr_left fun j _ => if_neg (by omega)
theorem mixI_rep {α : Type} (n : Nat) (f : Nat → α) (x : α) : mixI n 0 f (fun _ => x) = List.replicate n x := by
  rw [mixI_none]
  exact List.ext_getElem (by simp) fun i h1 h2 => by simp
theorem range_at {α : Type} {l : List α} {n : Nat} {f : Nat → α} (hn : l.length = n) (h : ∀ i (hi : i < l.length), l[i] = f i) : l = (List.range n).map f := by
  subst hn
  exact List.ext_getElem (by simp) fun i h1 h2 => by rw [h i h1]; simp

/-! The reference's round. -/
def stB (s : List Bo) (i : Nat) : Bool := (boAt s i).2.isSome
/-- Where the boxes end, of what stands there: o. -/
def goO (zs : List Int) (s : List Bo) (o : Nat → Int) (i : Nat) : Int := if stB s i = true then o i else goalR zs s i
/-- What stands in the row of sizes is the size of what is settled. -/
def SzOk (s : List Bo) (o : Nat → Int) : Prop := ∀ i, i < s.length → stB s i = true → o i = szOf (boAt s i)
theorem SzOk.next {zs : List Int} {s : List Bo} {o : Nat → Int} (h : SzOk s o) : SzOk (nextR zs s) (goO zs s o) := fun i hi hs => by
  rw [nextR_len] at hi
  unfold stB at hs
  rw [nextR_bo hi] at hs ⊢
  unfold goO
  cases h0 : stB s i with
  | true =>
    rw [if_pos rfl, nextAt_settled h0]
    exact h i hi h0
  | false =>
    unfold stB at h0
    rw [if_neg (by simp)]
    unfold nextAt at hs ⊢
    rw [h0] at hs ⊢
    cases h1 : settles (sumR zs s s.length) (chgR zs s i) with
    | true => rfl
    | false => rw [h1] at hs; simp [h0] at hs
theorem stB_next {zs : List Int} {s : List Bo} {i : Nat} (hi : i < s.length) : stB (nextR zs s) i = (settles (sumR zs s s.length) (chgR zs s i) || stB s i) := by
  unfold stB
  rw [nextR_bo hi]
  unfold nextAt
  cases h0 : (boAt s i).2.isSome with
  | true => simp [h0]
  | false =>
    cases h1 : settles (sumR zs s s.length) (chgR zs s i) with
    | true => simp
    | false => simp [h0]
theorem flags_eq (s : List Bo) : (s.map fun x => x.2.isSome) = (List.range s.length).map (stB s) := range_at (by simp) fun i hi => by
  have hi' : i < s.length := by simpa using hi
  unfold stB
  rw [boAt_at hi']
  simp
theorem wts_eq (grow : Bool) (s : List Bo) : s.map (wtOf grow) = (List.range s.length).map fun i => wtOf grow (boAt s i) := range_at (by simp) fun i hi => by
  have hi' : i < s.length := by simpa using hi
  rw [boAt_at hi']
  simp
theorem every_open (s : List Bo) : ((s.map fun x => x.2.isSome).all id) = decide (openR s = 0) := by
  unfold openR
  rw [Bool.eq_iff_iff, decide_eq_true_eq, List.countP_eq_zero, List.all_map, List.all_eq_true]
  constructor
  · intro h x hx hn
    have h1 : x.2.isSome = true := h x hx
    rw [h1] at hn
    cases hn
  · intro h x hx
    have h1 := h x hx
    show x.2.isSome = true
    cases h2 : x.2.isSome with
    | true => rfl
    | false => rw [h2] at h1; exact absurd rfl h1
theorem all_settled {s : List Bo} (h : openR s = 0) {i : Nat} (hi : i < s.length) : stB s i = true := by
  unfold openR at h
  rw [List.countP_eq_zero] at h
  have h1 := h s[i] (List.getElem_mem hi)
  unfold stB
  rw [boAt_at hi]
  cases h2 : s[i].2.isSome with
  | true => rfl
  | false => rw [h2] at h1; exact absurd rfl h1
theorem SzOk.all {s : List Bo} {o : Nat → Int} (h : SzOk s o) (h0 : openR s = 0) : (List.range s.length).map o = s.map szOf := by
  refine (range_at (by simp) fun i hi => ?_).symm
  have hi' : i < s.length := by simpa using hi
  rw [h i hi' (all_settled h0 hi'), boAt_at hi']
  simp
theorem sumR_bd {zs : List Int} {s : List Bo} (h : GoodS s) (hz : ∀ i, -1099511627776 ≤ zs.getD i 0 ∧ zs.getD i 0 ≤ 1099511627776) : ∀ k, k ≤ s.length → -(8796093022208 * (k : Int)) ≤ sumR zs s k ∧ sumR zs s k ≤ 8796093022208 * (k : Int)
  | 0, _ => by simp [sumR]
  | k + 1, hk => by
    have ih := sumR_bd h hz k (by omega)
    have := (chg_bd h hz (i := k) (by omega)).2.2
    rw [sumR]
    omega

end Go.Proofs.Ytbhdolghokhfnaa
