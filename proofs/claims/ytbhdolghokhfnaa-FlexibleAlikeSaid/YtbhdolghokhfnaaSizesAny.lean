/-
  Walks: flexible.Sizes at every input.
-/
import Derived.Test.YtbhdolghokhfnaaSizes16
namespace Go.Proofs.Ytbhdolghokhfnaa
open Go.RowKit

set_option maxRecDepth 100000 in
set_option maxHeartbeats 1000000 in
theorem sizes_bad (l : List It) (gap room : Int) (v : Value) (B : Nat) (w : World) (h : Items w B v l) (hB : B ≤ w.heap.size) (hok : checkR l gap room ≠ 0) :
    Calls Try.prog 23 #[v, .int .i64 gap, .int .i64 room] w (SizesPost l gap room w) := by
  have hch := check_any l gap room v B w h hB
  have HS := Lib.hid (show sizesR l gap room = ([], checkR l gap room) by unfold sizesR; rw [if_pos hok])
  obtain ⟨A, c, rfl, hc, hf⟩ := h
  clear hf
  obtain ⟨e0, he0⟩ : ∃ z, checkR l gap room = z := ⟨_, rfl⟩
  rw [he0] at hch HS hok
  have h1 : (e0 == 0) = false := by simp [hok]
  have h2 : (e0 != 0) = true := by simp [hok]
  clear he0
  go_enter Try.func23, Try.ntmps23
  go_wp2_with fail
  refine wp_scope_ghost 0 (fun _ _ _ => False) rfl ?_ (fun _ _ _ h => h.elim)
  go_wp2_with fail
  refine hch.mono ?_
  clear hch
  rintro e w1 ⟨rfl, hb1⟩
  go_wp2_with fail
  simp only [Exit.jump]
  go_ret2
  exact ⟨_, by rw [HS.out]; rfl, by rw [HS.out]; exact Owns.nil _ _, hb1⟩
theorem sizes_any (l : List It) (gap room : Int) (v : Value) (B : Nat) (w : World) (h : Items w B v l) (hB : B ≤ w.heap.size) :
    Calls Try.prog 23 #[v, .int .i64 gap, .int .i64 room] w (SizesPost l gap room w) := by
  by_cases hok : checkR l gap room = 0
  · exact sizes_good l gap room v B w h hB hok
  · exact sizes_bad l gap room v B w h hB hok

end Go.Proofs.Ytbhdolghokhfnaa
