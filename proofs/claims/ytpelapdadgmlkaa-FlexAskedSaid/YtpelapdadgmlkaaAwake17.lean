/-
  Walks: windowpanelaw17.told and awake: the chapter's examples.
-/
import Derived.Test.YtpelapdadgmlkaaFlexMain2
import Derived.Test.YtpelapdadgmlkaaCross
import Derived.Test.YtpelapdadgmlkaaAwake01
namespace Go.Proofs.Ytpelapdadgmlkaa
open Go.RowKit

set_option maxRecDepth 100000 in
set_option maxHeartbeats 4000000 in
theorem told_yes17 (room : Int) (j : Nat) (hj : j < 256) (back : Bool) (a b : Int) (hR : mainR [10, 20] 5 room j back = ([a, b], 0)) (w : World) :
    Calls Try.prog 122 #[.int .i64 room, .int .u8 j, .bool back, .int .i64 a, .int .i64 b] w fun e w' => e = .returned (.bool true) ∧ Below w.heap.size w w' := by
  have fm := flexMain_any [10, 20] 5 room j hj back _ _ (w.alloc (.cells #[.int .i64 10, .int .i64 20] 3)) (Ints.built w [10, 20] 3) (by simp) (by simp)
  unfold MainPost at fm
  rw [hR] at fm
  clear hR
  simp only [List.length_cons, List.length_nil, Nat.zero_add, Nat.reduceAdd] at fm
  go_enter Try.func122, Try.ntmps122
  go_wp2_with fail
  refine fm.mono ?_
  rintro e w1 ⟨v1, rfl, ho1, hb1⟩
  obtain ⟨g, cap, rfl, hcap, _, hl, hc, _⟩ := ho1.open_ (by simp)
  have c0 : w1.cell? ⟨g, 0, none⟩ = some (.int .i64 a) := hc 0 (by simp)
  have c1 : w1.cell? ⟨g, 1, none⟩ = some (.int .i64 b) := hc 1 (by simp)
  simp only [List.length_cons, List.length_nil, Nat.zero_add, Nat.reduceAdd] at hcap ⊢
  clear hc ho1 fm
  go_wp2_with fail
  go_ret
  exact ⟨by simp, below_alloc hb1⟩

set_option maxRecDepth 100000 in
set_option maxHeartbeats 4000000 in
theorem awake17 (w : World) : Calls Try.prog 84 #[] w fun e w' => e = .returned (.bool true) ∧ Below w.heap.size w w' := by
  have m1 := fun W => flexMain_any [10, 20] 5 65 5 (by decide) false _ _ _ (Ints.built W [10, 20] 3) (by simp) (by simp)
  have m2 := fun W => flexMain_any [10, 20] (-1) 65 0 (by decide) false _ _ _ (Ints.built W [10, 20] 3) (by simp) (by simp)
  have m3 := fun W => flexMain_any [] 5 65 4 (by decide) true _ 0 W (Ints.nil _ _) (by simp) (by simp)
  unfold MainPost at m1 m2 m3
  rw [show mainR [10, 20] 5 65 5 false = ([], 2) from by decide] at m1
  rw [show mainR [10, 20] (-1) 65 0 false = ([], 2) from by decide] at m2
  rw [show mainR [] 5 65 4 true = ([], 0) from by decide] at m3
  have c1 := fun W => cross_any 10 25 1 W
  rw [show crossR 10 25 1 = (15, 0) from by decide] at c1
  have c2 := fun W => cross_any 10 25 2 W
  rw [show crossR 10 25 2 = (7, 0) from by decide] at c2
  have c3 := fun W => cross_any 10 25 5 W
  rw [show crossR 10 25 5 = (0, 0) from by decide] at c3
  have c4 := fun W => cross_any 10 25 3 W
  rw [show crossR 10 25 3 = (0, 2) from by decide] at c4
  have t0 := fun W => told_yes17 65 0 (by decide) false 0 15 (by decide +kernel) W
  have t1 := fun W => told_yes17 65 1 (by decide) false 30 45 (by decide +kernel) W
  have t2 := fun W => told_yes17 65 2 (by decide) false 15 30 (by decide +kernel) W
  have t3 := fun W => told_yes17 65 3 (by decide) false 0 45 (by decide +kernel) W
  have t4 := fun W => told_yes17 65 4 (by decide) false 10 35 (by decide +kernel) W
  have t5 := fun W => told_yes17 65 0 (by decide) true 55 30 (by decide +kernel) W
  have t6 := fun W => told_yes17 65 3 (by decide) true 55 0 (by decide +kernel) W
  have t7 := fun W => told_yes17 20 2 (by decide) false (-7) 8 (by decide +kernel) W
  have t8 := fun W => told_yes17 20 3 (by decide) false 0 15 (by decide +kernel) W
  simp only [List.length_cons, List.length_nil, Nat.zero_add, Nat.reduceAdd, List.map_cons, List.map_nil] at m1 m2
  go_enter Try.func84, Try.ntmps84
  go_wp2_with fail
  refine (m1 _).mono ?_
  rintro e w1 ⟨v1, rfl, _, h1⟩
  go_wp2_with fail
  refine (m2 _).mono ?_
  rintro e w2 ⟨v2, rfl, _, h2⟩
  go_wp2_with fail
  refine (m3 _).mono ?_
  rintro e w3 ⟨v3, rfl, o3, h3⟩
  obtain ⟨A3, k3, rfl⟩ := o3.form
  clear o3
  go_wp2_with fail
  refine (c1 _).mono ?_
  rintro e w4 ⟨rfl, h4⟩
  go_wp2_with fail
  refine (c2 _).mono ?_
  rintro e w5 ⟨rfl, h5⟩
  go_wp2_with fail
  refine (c3 _).mono ?_
  rintro e w6 ⟨rfl, h6⟩
  go_wp2_with fail
  refine (c4 _).mono ?_
  rintro e w7 ⟨rfl, h7⟩
  go_wp2_with fail
  refine (t0 _).mono ?_
  rintro e w8 ⟨rfl, h8⟩
  go_wp2_with fail
  refine (t1 _).mono ?_
  rintro e w9 ⟨rfl, h9⟩
  go_wp2_with fail
  refine (t2 _).mono ?_
  rintro e w10 ⟨rfl, h10⟩
  go_wp2_with fail
  refine (t3 _).mono ?_
  rintro e w11 ⟨rfl, h11⟩
  go_wp2_with fail
  refine (t4 _).mono ?_
  rintro e w12 ⟨rfl, h12⟩
  go_wp2_with fail
  refine (t5 _).mono ?_
  rintro e w13 ⟨rfl, h13⟩
  go_wp2_with fail
  refine (t6 _).mono ?_
  rintro e w14 ⟨rfl, h14⟩
  go_wp2_with fail
  refine (t7 _).mono ?_
  rintro e w15 ⟨rfl, h15⟩
  go_wp2_with fail
  refine (t8 _).mono ?_
  rintro e w16 ⟨rfl, h16⟩
  go_wp2_with fail
  go_ret
  exact ⟨by simp, (below2 (below2 (below2 (below2 (below2 (below2 (below2 (below2 (below2 (below2 (below2 (below2 (below2 (below2 (below2 (below_alloc h1) (below_alloc h2)) h3) h4) h5) h6) h7) h8) h9) h10) h11) h12) h13) h14) h15) h16)⟩

end Go.Proofs.Ytpelapdadgmlkaa
