/-
  Walks: script.fields: pointers to an event's numbers.
-/
import Derived.Test.YtaoehdmdjplegaaGreatDoorFieldsOf
namespace Go.Proofs.YtaoehdmdjplegaaGreatDoor
open Go.RowKit Go.Shelf

/-- Where an event's numbers lie, by its kinds. -/
def fldO (k c : Nat) : List Nat := if k = 1 ∧ c = 2 then [5] else if k = 1 then [5, 6, 7] else if k = 2 then [1, 2] else if k = 3 then [1] else if k = 8 then [2, 1] else if k = 4 then [] else [2]
/-- A row of pointers into a block, at a new block; nil, if it has none. -/
def PtrsAt (n0 g : Nat) (L : List Nat) (v : Value) (w : World) : Prop :=
  (L = [] ∧ v = .slice none 0 0) ∨ ∃ N t, n0 ≤ N ∧ v = .slice (some ⟨N, 0, none⟩) L.length L.length ∧ Blk w N t (ptrsC g 0 L)
def FldPost (g k c : Nat) (w : World) (e : Ending) (w' : World) : Prop := ∃ v, e = .returned v ∧ PtrsAt w.heap.size g (fldO k c) v w' ∧ Below w.heap.size w w'

set_option maxRecDepth 100000 in
set_option maxHeartbeats 4000000 in
theorem fields_of (g k c : Nat) (w : World) (hk : w.cell? ⟨g, 0, none⟩ = some (.int .u8 k)) (hc : w.cell? ⟨g, 4, none⟩ = some (.int .u8 c)) :
    Calls Tryz.prog 25 #[.pointer (some ⟨g, 0, none⟩)] w (FldPost g k c w) := by
  by_cases h1 : k = 1
  · subst h1
    by_cases h2 : c = 2
    · subst h2
      go_enter Tryz.func25, Tryz.ntmps25
      go_wp2_with fail
      go_ret
      exact ⟨_, rfl, .inr ⟨w.heap.size, _, Nat.le_refl _, rfl, Blk.new w _ _⟩, (Below.refl _ _).alloc (Nat.le_refl _) _⟩
    · have n2 : (((c : Nat) : Int) == 2) = false := by rw [beq_eq_false_iff_ne]; omega
      have HF := Lib.hid (show fldO 1 c = [5, 6, 7] by unfold fldO; rw [if_neg (by omega), if_pos rfl])
      go_enter Tryz.func25, Tryz.ntmps25
      go_wp2_with fail
      go_region
      go_wp2_with fail
      go_ret
      exact ⟨_, rfl, by rw [HF.out]; exact .inr ⟨w.heap.size, _, Nat.le_refl _, rfl, Blk.new w _ _⟩, below_box w _ 1⟩
  · have n1 : (((k : Nat) : Int) == 1) = false := by rw [beq_eq_false_iff_ne]; omega
    by_cases h2 : k = 2
    · subst h2
      go_enter Tryz.func25, Tryz.ntmps25
      go_wp2_with fail
      go_region
      go_wp2_with fail
      go_ret
      exact ⟨_, rfl, .inr ⟨w.heap.size, _, Nat.le_refl _, rfl, Blk.new w _ _⟩, below_box w _ 1⟩
    · have n2 : (((k : Nat) : Int) == 2) = false := by rw [beq_eq_false_iff_ne]; omega
      by_cases h3 : k = 3
      · subst h3
        go_enter Tryz.func25, Tryz.ntmps25
        go_wp2_with fail
        go_ret
        exact ⟨_, rfl, .inr ⟨w.heap.size, _, Nat.le_refl _, rfl, Blk.new w _ _⟩, (Below.refl _ _).alloc (Nat.le_refl _) _⟩
      · have n3 : (((k : Nat) : Int) == 3) = false := by rw [beq_eq_false_iff_ne]; omega
        by_cases h8 : k = 8
        · subst h8
          go_enter Tryz.func25, Tryz.ntmps25
          go_wp2_with fail
          go_region
          go_wp2_with fail
          go_ret
          exact ⟨_, rfl, .inr ⟨w.heap.size, _, Nat.le_refl _, rfl, Blk.new w _ _⟩, below_box w _ 1⟩
        · have n8 : (((k : Nat) : Int) == 8) = false := by rw [beq_eq_false_iff_ne]; omega
          by_cases h4 : k = 4
          · subst h4
            go_enter Tryz.func25, Tryz.ntmps25
            go_wp2_with fail
            go_ret
            exact ⟨_, rfl, .inl ⟨rfl, rfl⟩, Below.refl _ _⟩
          · have n4 : (((k : Nat) : Int) == 4) = false := by rw [beq_eq_false_iff_ne]; omega
            have HF := Lib.hid (show fldO k c = [2] by unfold fldO; rw [if_neg (by omega), if_neg h1, if_neg h2, if_neg h3, if_neg h8, if_neg h4])
            go_enter Tryz.func25, Tryz.ntmps25
            go_wp2_with fail
            go_ret
            exact ⟨_, rfl, by rw [HF.out]; exact .inr ⟨w.heap.size, _, Nat.le_refl _, rfl, Blk.new w _ _⟩, (Below.refl _ _).alloc (Nat.le_refl _) _⟩

end Go.Proofs.YtaoehdmdjplegaaGreatDoor
