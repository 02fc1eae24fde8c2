/-
  Walks: script.pickedOf, lengthsOf, numbersOf: pointers to a style's fields.
-/
import Derived.Laws.Rows
import Derived.Test.YtaoehdmdjplegaaGreatDoorPlain32
namespace Go.Proofs.YtaoehdmdjplegaaGreatDoor
open Go.RowKit Go.Shelf

/-- Pointers into a block, from a place on. -/
def ptrsC (g o : Nat) (L : List Nat) : Array Value := (L.map fun k => Value.pointer (some ⟨g, o + k, none⟩)).toArray
/-- Where a style's picked fields lie in it. -/
def pickO : List Nat := [0, 33, 34, 35, 36, 37, 39]

set_option maxRecDepth 100000 in
set_option maxHeartbeats 4000000 in
theorem picked_of (g o : Nat) (w : World) :
    Calls Tryz.prog 46 #[.pointer (some ⟨g, o, none⟩)] w fun e w' => e = .returned (.agg (ptrsC g o pickO)) ∧ Below w.heap.size w w' := by
  go_enter Tryz.func46, Tryz.ntmps46
  go_wp2_with fail
  go_region
  go_wp2_with fail
  refine bodyPost_ret (results_cell_row rfl _ _ w.heap.size 92 (ptrsC g o pickO) (0, 0) _ rfl ?_ Tryz.underlying92 rfl (by kernel_rfl)) rfl ⟨rfl, ?_⟩
  · exact heap_alloc_new w _
  · exact below_box w _ 1

def lensO : List Nat := [2, 4, 6, 8, 10, 12, 14, 16, 18, 20, 44]
def numsO : List Nat := [22, 23, 24, 25, 26, 27, 28, 29, 30, 31, 32, 40, 41, 42, 43, 46]
set_option maxRecDepth 100000 in
set_option maxHeartbeats 4000000 in
theorem lengths_of (g o : Nat) (w : World) :
    Calls Tryz.prog 56 #[.pointer (some ⟨g, o, none⟩)] w fun e w' => e = .returned (.agg (ptrsC g o lensO)) ∧ Below w.heap.size w w' := by
  go_enter Tryz.func56, Tryz.ntmps56
  go_wp2_with fail
  go_region
  go_wp2_with fail
  refine bodyPost_ret (results_cell_row rfl _ _ w.heap.size 107 (ptrsC g o lensO) (0, 0) _ rfl ?_ Tryz.underlying107 rfl (by kernel_rfl)) rfl ⟨rfl, ?_⟩
  · exact heap_alloc_new w _
  · exact below_box w _ 1
set_option maxRecDepth 100000 in
set_option maxHeartbeats 4000000 in
theorem numbers_of (g o : Nat) (w : World) :
    Calls Tryz.prog 57 #[.pointer (some ⟨g, o, none⟩)] w fun e w' => e = .returned (.agg (ptrsC g o numsO)) ∧ Below w.heap.size w w' := by
  go_enter Tryz.func57, Tryz.ntmps57
  go_wp2_with fail
  go_region
  go_wp2_with fail
  go_region
  go_wp2_with fail
  refine bodyPost_ret (results_cell_row rfl _ _ w.heap.size 110 (ptrsC g o numsO) (0, 0) _ rfl ?_ Tryz.underlying110 rfl (by kernel_rfl)) rfl ⟨rfl, ?_⟩
  · exact heap_alloc_new w _
  · exact below_box w _ 2

end Go.Proofs.YtaoehdmdjplegaaGreatDoor
