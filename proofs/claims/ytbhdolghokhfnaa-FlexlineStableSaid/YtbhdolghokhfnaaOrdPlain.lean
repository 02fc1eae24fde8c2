/-
  Plain: the order of boxes of any Orders: the one list of places that is sorted; the least untold again and again is it.
-/
import Derived.Sort.LotA
namespace Go.Proofs.Ytbhdolghokhfnaa
open Go.Sort

/-- Place i stands before place j. -/
def bef (l : List Int) (i j : Nat) : Bool := decide (l.getD i 0 < l.getD j 0 ∨ (l.getD i 0 = l.getD j 0 ∧ i < j))
theorem bef_iff {l : List Int} {i j : Nat} : bef l i j = true ↔ (l.getD i 0 < l.getD j 0 ∨ (l.getD i 0 = l.getD j 0 ∧ i < j)) := by simp [bef]
theorem bef_irrefl (l : List Int) (i : Nat) : bef l i i = false := by simp [bef]
theorem bef_trans {l : List Int} {i j k : Nat} (h : bef l i j = true) (h' : bef l j k = true) : bef l i k = true := by
  rw [bef_iff] at *
  omega
theorem bef_total {l : List Int} {i j : Nat} (h : i ≠ j) : bef l i j = true ∨ bef l j i = true := by
  rw [bef_iff, bef_iff]
  omega
theorem bef_asymm {l : List Int} {i j : Nat} (h : bef l i j = true) : bef l j i = false := by
  rw [bef_iff] at h
  simp only [bef, decide_eq_false_iff_not]
  omega

/-- The order of the boxes. -/
structure IsOrd (l : List Int) (os : List Nat) : Prop where
  perm : os.Perm (List.range l.length)
  sorted : os.Pairwise (fun a b => bef l a b = true)
theorem IsOrd.len {l : List Int} {os : List Nat} (h : IsOrd l os) : os.length = l.length := by simpa using h.perm.length_eq
theorem IsOrd.lt {l : List Int} {os : List Nat} (h : IsOrd l os) {x : Nat} (hx : x ∈ os) : x < l.length := by simpa using h.perm.mem_iff.1 hx
theorem IsOrd.nodup {l : List Int} {os : List Nat} (h : IsOrd l os) : os.Nodup := h.perm.nodup_iff.2 List.nodup_range
theorem pair_unique {l : List Int} : ∀ {a b : List Nat}, a.Perm b → a.Pairwise (fun a b => bef l a b = true) → b.Pairwise (fun a b => bef l a b = true) → a = b
  | [], b, h, _, _ => (List.Perm.nil_eq h)
  | x :: a, [], h, _, _ => absurd h.length_eq (by simp)
  | x :: a, y :: b, h, h1, h2 => by
    rw [List.pairwise_cons] at h1 h2
    have e : x = y := by
      by_cases e : x = y
      · exact e
      · have m1 : y ∈ x :: a := h.mem_iff.2 (by simp)
        have m2 : x ∈ y :: b := h.mem_iff.1 (by simp)
        have p1 := h1.1 y (by simpa [Ne.symm e] using m1)
        have p2 := h2.1 x (by simpa [e] using m2)
        rw [bef_asymm p1] at p2
        cases p2
    subst e
    rw [pair_unique (List.Perm.cons_inv h) h1.2 h2.2]
theorem IsOrd.unique {l : List Int} {a b : List Nat} (h : IsOrd l a) (h' : IsOrd l b) : a = b := pair_unique (h.perm.trans h'.perm.symm) h.sorted h'.sorted

theorem nodup_rest : ∀ {a b : List Nat}, a.Nodup → (∀ x ∈ a, x ∈ b) → ∃ r, (a ++ r).Perm b
  | [], b, _, _ => ⟨b, List.Perm.refl _⟩
  | x :: a, b, hn, hs => by
    rw [List.nodup_cons] at hn
    have hx : x ∈ b := hs x (by simp)
    obtain ⟨r, hr⟩ := nodup_rest (a := a) (b := b.erase x) hn.2 fun y hy => (List.mem_erase_of_ne (fun e : y = x => hn.1 (by rw [← e]; exact hy))).2 (hs y (by simp [hy]))
    exact ⟨r, (List.Perm.cons x hr).trans (List.perm_cons_erase hx).symm⟩
theorem nodup_len {a b : List Nat} (h : a.Nodup) (hs : ∀ x ∈ a, x ∈ b) : a.length ≤ b.length := by
  obtain ⟨r, hr⟩ := nodup_rest h hs
  have := hr.length_eq
  simp at this
  omega
theorem nodup_perm {a b : List Nat} (h : a.Nodup) (hs : ∀ x ∈ a, x ∈ b) (hl : a.length = b.length) : a.Perm b := by
  obtain ⟨r, hr⟩ := nodup_rest h hs
  have := hr.length_eq
  simp at this
  obtain rfl : r = [] := List.eq_nil_of_length_eq_zero (by omega)
  simpa using hr

/-- So many have been told: each before each that has not. -/
structure Told (l : List Int) (os : List Nat) : Prop where
  nodup : os.Nodup
  lt : ∀ x ∈ os, x < l.length
  sorted : os.Pairwise (fun a b => bef l a b = true)
  after : ∀ x ∈ os, ∀ y, y < l.length → y ∉ os → bef l x y = true
theorem Told.nil (l : List Int) : Told l [] := ⟨List.nodup_nil, by simp, List.Pairwise.nil, by simp⟩
theorem Told.len {l : List Int} {os : List Nat} (h : Told l os) : os.length ≤ l.length := by
  have h1 := nodup_len (b := List.range l.length) h.nodup (fun x hx => by simpa using h.lt x hx)
  simpa using h1
theorem Told.done {l : List Int} {os : List Nat} (h : Told l os) (hn : os.length = l.length) : IsOrd l os := by
  exact ⟨nodup_perm h.nodup (fun x hx => by simpa using h.lt x hx) (by simp [hn]), h.sorted⟩
/-- Of the first m places x is the first untold one, if there is one. -/
def Least (l : List Int) (os : List Nat) (m : Nat) (b : Int) : Prop := (b = -1 ∧ ∀ j, j < m → j ∈ os) ∨ ∃ x : Nat, b = x ∧ x < m ∧ x ∉ os ∧ ∀ j, j < m → j ∉ os → j = x ∨ bef l x j = true
theorem Least.zero (l : List Int) (os : List Nat) : Least l os 0 (-1) := Or.inl ⟨rfl, fun j h => absurd h (by omega)⟩
theorem Least.skip {l : List Int} {os : List Nat} {m : Nat} {b : Int} (h : Least l os m b) (hm : m ∈ os) : Least l os (m + 1) b := by
  rcases h with ⟨h1, h2⟩ | ⟨x, h1, h2, h3, h4⟩
  · exact Or.inl ⟨h1, fun j hj => by rcases Nat.lt_or_eq_of_le (Nat.le_of_lt_succ hj) with h | rfl; exact h2 j h; exact hm⟩
  · exact Or.inr ⟨x, h1, by omega, h3, fun j hj hn => by
      rcases Nat.lt_or_eq_of_le (Nat.le_of_lt_succ hj) with h | rfl
      · exact h4 j h hn
      · exact absurd hm hn⟩
theorem Least.first {l : List Int} {os : List Nat} {m : Nat} (h : Least l os m (-1)) (hm : m ∉ os) : Least l os (m + 1) m := by
  rcases h with ⟨_, h2⟩ | ⟨x, h1, _⟩
  · exact Or.inr ⟨m, rfl, by omega, hm, fun j hj hn => by
      rcases Nat.lt_or_eq_of_le (Nat.le_of_lt_succ hj) with h | rfl
      · exact absurd (h2 j h) hn
      · exact Or.inl rfl⟩
  · omega
theorem Least.less {l : List Int} {os : List Nat} {m x : Nat} (h : Least l os m x) (hm : m ∉ os) (hl : l.getD m 0 < l.getD x 0) : Least l os (m + 1) m := by
  rcases h with ⟨h1, _⟩ | ⟨y, h1, h2, h3, h4⟩
  · omega
  · obtain rfl : x = y := by omega
    have hb : bef l m x = true := bef_iff.2 (Or.inl hl)
    exact Or.inr ⟨m, rfl, by omega, hm, fun j hj hn => by
      rcases Nat.lt_or_eq_of_le (Nat.le_of_lt_succ hj) with h | rfl
      · rcases h4 j h hn with rfl | h5
        · exact Or.inr hb
        · exact Or.inr (bef_trans hb h5)
      · exact Or.inl rfl⟩
theorem Least.more {l : List Int} {os : List Nat} {m x : Nat} (h : Least l os m x) (hl : ¬ l.getD m 0 < l.getD x 0) : Least l os (m + 1) x := by
  rcases h with ⟨h1, _⟩ | ⟨y, h1, h2, h3, h4⟩
  · omega
  · obtain rfl : x = y := by omega
    exact Or.inr ⟨x, rfl, by omega, h3, fun j hj hn => by
      rcases Nat.lt_or_eq_of_le (Nat.le_of_lt_succ hj) with h | rfl
      · exact h4 j h hn
      · exact Or.inr (bef_iff.2 (by omega))⟩
theorem Least.lt {l : List Int} {os : List Nat} {m : Nat} {b : Int} (h : Least l os m b) : b = -1 ∨ ∃ x : Nat, b = x ∧ x < m ∧ x ∉ os := by
  rcases h with ⟨h, _⟩ | ⟨x, h1, h2, h3, _⟩
  · exact Or.inl h
  · exact Or.inr ⟨x, h1, h2, h3⟩
/-- While not all are told there is a least one; told, it is the next. -/
theorem Told.next {l : List Int} {os : List Nat} {b : Int} (h : Told l os) (hn : os.length < l.length) (hb : Least l os l.length b) : ∃ x : Nat, b = x ∧ x < l.length ∧ x ∉ os ∧ Told l (os ++ [x]) := by
  rcases hb with ⟨_, h2⟩ | ⟨x, h1, h2, h3, h4⟩
  · have this := nodup_len (b := os) (List.nodup_range (n := l.length)) (fun x hx => h2 x (by simpa using hx))
    simp at this
    omega
  · refine ⟨x, h1, h2, h3, ⟨?_, ?_, ?_, ?_⟩⟩
    · rw [List.nodup_append]
      exact ⟨h.nodup, by simp, fun a ha b hb => by simp at hb; subst hb; exact fun e => h3 (e ▸ ha)⟩
    · intro y hy
      simp at hy
      rcases hy with hy | rfl
      · exact h.lt y hy
      · exact h2
    · rw [List.pairwise_append]
      exact ⟨h.sorted, by simp, fun a ha b hb => by simp at hb; subst hb; exact h.after a ha b h2 h3⟩
    · intro y hy z hz hnz
      simp at hy hnz
      rcases hy with hy | rfl
      · exact h.after y hy z hz hnz.1
      · rcases h4 z hz hnz.1 with e | e
        · exact absurd e hnz.2
        · exact e

/-! ### the sort's row -/
section Row
variable {N : Nat}
def zF (l : List Int) (x : Fin (N + 1)) : Int := l.getD x.1 0
def befF (l : List Int) (x y : Fin (N + 1)) : Bool := bef l x.1 y.1
theorem befF_swo (l : List Int) : SWO (befF (N := N) l) := by
  refine ⟨fun x => bef_irrefl l x.1, fun x y z h h' => bef_trans h h', fun x y z h h' => ?_⟩
  unfold befF bef at *
  simp only [decide_eq_false_iff_not] at *
  omega
theorem ord_of_row {l : List Int} (hn : l.length = N + 1) {d0 d' : Array (Fin (N + 1))} (h0 : d0.size = N + 1) (hid : ∀ i, i < N + 1 → (d0[i]!).1 = i) (hP : PermIn 0 (N + 1) d0 d') (hS : SortedIn (befF l) 0 (N + 1) d') : IsOrd l (d'.toList.map (·.1)) := by
  have hz : d'.size = N + 1 := hP.1.trans h0
  have e1 : (d'.extract 0 (N + 1)) = d' := by have := Array.extract_size (xs := d'); rw [hz] at this; exact this
  have e2 : (d0.extract 0 (N + 1)) = d0 := by have := Array.extract_size (xs := d0); rw [h0] at this; exact this
  have hp := hP.2.2
  rw [e1, e2] at hp
  have e3 : d0.toList.map (·.1) = List.range (N + 1) := by
    refine List.ext_getElem (by simp [h0]) fun i h1 h2 => ?_
    have hi : i < N + 1 := by simpa using h2
    have := hid i hi
    rw [getElem!_pos _ i (by omega)] at this
    simpa using this
  have hperm : (d'.toList.map (·.1)).Perm (List.range l.length) := by
    rw [hn, ← e3]
    exact hp.map _
  refine ⟨hperm, ?_⟩
  have hnd : (d'.toList.map (·.1)).Nodup := hperm.nodup_iff.2 List.nodup_range
  rw [List.pairwise_iff_getElem]
  intro i j hi hj hij
  have hi' : i < N + 1 := by simpa [hz] using hi
  have hj' : j < N + 1 := by simpa [hz] using hj
  have hne : (d'.toList.map (·.1))[i] ≠ (d'.toList.map (·.1))[j] := fun e => by
    have := (List.getElem_inj hnd).1 e
    omega
  have hs := hS i j (Nat.zero_le _) hij hj'
  rw [getElem!_pos _ i (by omega), getElem!_pos _ j (by omega)] at hs
  rcases bef_total (l := l) hne with h | h
  · exact h
  · simp only [List.getElem_map, Array.getElem_toList] at h
    unfold befF at hs
    rw [h] at hs
    cases hs
end Row

end Go.Proofs.Ytbhdolghokhfnaa
