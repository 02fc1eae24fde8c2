/-
  Walks: cmp.Compare, cmp.Or, and the comparison that fixed.Share sorts by.
-/
import Derived.Test.YtbhdolghokhfnaaInts
import Derived.Test.YtbhdolghokhfnaaSharePlain
import Derived.StillTailTactics
import Derived.Sort.Grow
namespace Go.Proofs.Ytbhdolghokhfnaa
open Go.RowKit

def cmpI (x y : Int) : Int := if x < y then -1 else if y < x then 1 else 0
theorem nan64 (x : Int) (w : World) : Calls Try.prog 57 #[.int .i64 x] w fun e w' => e = .returned (.bool false) ∧ w' = w := by
  go_enter Try.func57, Try.ntmps57
  go_wp2
  go_ret
  exact ⟨rfl, rfl⟩
theorem nanU (x : Int) (w : World) : Calls Try.prog 65 #[.int .u64 x] w fun e w' => e = .returned (.bool false) ∧ w' = w := by
  go_enter Try.func65, Try.ntmps65
  go_wp2
  go_ret
  exact ⟨rfl, rfl⟩
theorem compare_int (x y : Int) (w : World) : Calls Try.prog 31 #[.int .i64 x, .int .i64 y] w fun e w' => e = .returned (.int .i64 (cmpI x y)) ∧ w' = w := by
  rcases Int.lt_trichotomy x y with h1 | h1 | h1
  · have H := Lib.hid (show cmpI x y = -1 from if_pos h1)
    go_enter Try.func31, Try.ntmps31
    go_wp2_with (go_at_call 57; refine (nan64 _ _).mono ?_; rintro e w' ⟨rfl, rfl⟩)
    go_ret
    exact ⟨by rw [H.out]; rfl, rfl⟩
  · subst h1
    have H := Lib.hid (show cmpI x x = 0 by simp [cmpI])
    go_enter Try.func31, Try.ntmps31
    go_wp2_with (go_at_call 57; refine (nan64 _ _).mono ?_; rintro e w' ⟨rfl, rfl⟩)
    go_ret
    exact ⟨by rw [H.out]; rfl, rfl⟩
  · have H := Lib.hid (show cmpI x y = 1 by unfold cmpI; rw [if_neg (by omega), if_pos h1])
    have h2 : ¬ x < y := by omega
    go_enter Try.func31, Try.ntmps31
    go_wp2_with (go_at_call 57; refine (nan64 _ _).mono ?_; rintro e w' ⟨rfl, rfl⟩)
    go_ret
    exact ⟨by rw [H.out]; rfl, rfl⟩
theorem compare_u64 (x y : Int) (w : World) : Calls Try.prog 45 #[.int .u64 x, .int .u64 y] w fun e w' => e = .returned (.int .i64 (cmpI x y)) ∧ w' = w := by
  rcases Int.lt_trichotomy x y with h1 | h1 | h1
  · have H := Lib.hid (show cmpI x y = -1 from if_pos h1)
    go_enter Try.func45, Try.ntmps45
    go_wp2_with (go_at_call 65; refine (nanU _ _).mono ?_; rintro e w' ⟨rfl, rfl⟩)
    go_ret
    exact ⟨by rw [H.out]; rfl, rfl⟩
  · subst h1
    have H := Lib.hid (show cmpI x x = 0 by simp [cmpI])
    go_enter Try.func45, Try.ntmps45
    go_wp2_with (go_at_call 65; refine (nanU _ _).mono ?_; rintro e w' ⟨rfl, rfl⟩)
    go_ret
    exact ⟨by rw [H.out]; rfl, rfl⟩
  · have H := Lib.hid (show cmpI x y = 1 by unfold cmpI; rw [if_neg (by omega), if_pos h1])
    have h2 : ¬ x < y := by omega
    go_enter Try.func45, Try.ntmps45
    go_wp2_with (go_at_call 65; refine (nanU _ _).mono ?_; rintro e w' ⟨rfl, rfl⟩)
    go_ret
    exact ⟨by rw [H.out]; rfl, rfl⟩

def orI (x y : Int) : Int := if x = 0 then y else x
theorem or_two (x y : Int) (t : TypeId) (w : World) : Calls Try.prog 44 #[.slice (some ⟨w.heap.size, 0, none⟩) 2 2] (w.alloc (.cells #[.int .i64 x, .int .i64 y] t)) fun e w' => e = .returned (.int .i64 (orI x y)) ∧ w' = w.alloc (.cells #[.int .i64 x, .int .i64 y] t) := by
  by_cases h1 : x = 0
  · subst h1
    by_cases h2 : y = 0
    · subst h2
      have H := Lib.hid (show orI 0 0 = 0 from rfl)
      go_enter Try.func44, Try.ntmps44
      go_wp2
      refine wp_loop_rounds 3 ?_
      rw [rounds_succ]
      go_wp2
      rw [rounds_succ]
      go_wp2
      rw [rounds_succ]
      go_wp2
      go_ret
      exact ⟨by rw [H.out]; rfl, rfl⟩
    · have h2' : (y != 0) = true := by simp [h2]
      have H := Lib.hid (show orI 0 y = y from rfl)
      go_enter Try.func44, Try.ntmps44
      go_wp2
      refine wp_loop_rounds 3 ?_
      rw [rounds_succ]
      go_wp2
      rw [rounds_succ]
      go_wp2
      go_ret
      exact ⟨by rw [H.out]; rfl, rfl⟩
  · have h2' : (x != 0) = true := by simp [h1]
    have H := Lib.hid (show orI x y = x from if_neg h1)
    go_enter Try.func44, Try.ntmps44
    go_wp2
    refine wp_loop_rounds 3 ?_
    rw [rounds_succ]
    go_wp2
    go_ret
    exact ⟨by rw [H.out]; rfl, rfl⟩

set_option maxRecDepth 100000 in
set_option maxHeartbeats 1000000 in
theorem given_cmp (n1 a1 l1 n2 a2 l2 : Int) (w : World) :
    Calls Try.prog 43 #[.agg #[.int .i64 n1, .int .i64 a1, .int .u64 l1], .agg #[.int .i64 n2, .int .i64 a2, .int .u64 l2]] w fun e w' => e = .returned (.int .i64 (orI (cmpI l2 l1) (cmpI a1 a2))) ∧ ∃ q os, w' = Sort.grow (w.drewN q) os := by
  have h1 := fun w => compare_u64 l2 l1 w
  have h2 := fun w => compare_int a1 a2 w
  generalize cmpI l2 l1 = x at *
  generalize cmpI a1 a2 = y at *
  have h3 := fun w => or_two x y 3 w
  generalize orI x y = r at *
  obtain ⟨W, hW⟩ : ∃ W, ((w.alloc (.cells #[.int .i64 n1, .int .i64 a1, .int .u64 l1] 64)).alloc (.cells #[.int .i64 n2, .int .i64 a2, .int .u64 l2] 64)).drew = W := ⟨_, rfl⟩
  have c1 : W.cell? ⟨w.heap.size, 1, none⟩ = some (.int .i64 a1) := by rw [← hW]; simp
  have c2 : W.cell? ⟨w.heap.size, 2, none⟩ = some (.int .u64 l1) := by rw [← hW]; simp
  have c3 : W.cell? ⟨w.heap.size + 1, 1, none⟩ = some (.int .i64 a2) := by rw [← hW]; simp
  have c4 : W.cell? ⟨w.heap.size + 1, 2, none⟩ = some (.int .u64 l2) := by rw [← hW]; simp
  have hz : W.heap.size = w.heap.size + 2 := by rw [← hW]; simp
  have HZ := Lib.hid hz; clear hz
  have HW := Lib.hid hW; clear hW
  go_enter Try.func43, Try.ntmps43
  go_wp2_with fail
  refine wp_region_still_tail 10 (by kernel_rfl) (by kernel_rfl) ?_
  simp only [List.take_succ_cons, List.take_zero, List.drop_succ_cons, List.drop_zero]
  change wpStill _ _ (World.drew _) _ _ _
  rw [HW.out]
  still_step
  still_step
  still_step
  still_step
  still_call (h1 _)
  still_step
  still_step
  still_step
  still_step
  still_call (h2 _)
  refine wpStill_nil ?_
  change wpList _ _ _ _ _ (World.drew _)
  rw [HW.out]
  clear c1 c2 c3 c4 h1 h2
  go_wp2_with fail
  refine (h3 _).mono ?_
  rintro e w' ⟨rfl, rfl⟩
  go_wp2_with fail
  go_ret
  refine ⟨rfl, 1, #[.cells #[.int .i64 n1, .int .i64 a1, .int .u64 l1] 64, .cells #[.int .i64 n2, .int .i64 a2, .int .u64 l2] 64, .cells #[.int .i64 x, .int .i64 y] 3], ?_⟩
  rw [← HW.out, ← World.alloc_drew, ← World.alloc_drew, Sort.alloc_eq_grow, Sort.alloc_eq_grow, Sort.alloc_eq_grow, Sort.grow_grow, Sort.grow_grow]
  rfl

end Go.Proofs.Ytbhdolghokhfnaa
