/-
  Walk: the chapter's examples of metric.
-/
import Derived.Test.YtpelapdadgmlkaaWidth
import Derived.Test.YtpelapdadgmlkaaBesidePlain
namespace Go.Proofs.Ytpelapdadgmlkaa
open Go.RowKit

theorem awake08 (w : World) : Calls Try.prog 71 #[] w fun e w' => e = .returned (.bool true) ∧ Below w.heap.size w w' := by
  have a1 := fun w => width_any ⟨#[87, 105, 32, 97]⟩ 10 w (by decide)
  have a2 := fun w => width_any ⟨#[255, 254]⟩ 1 w (by decide)
  have a3 := fun w => width_any ⟨#[]⟩ 0 w (by decide)
  have a4 := fun w => up_any 16 w
  have a5 := fun w => down_any 16 w
  have s1 := fun w => share_any 105 w
  have s2 := fun w => share_any 97 w
  have s3 := fun w => share_any 87 w
  have s4 := fun w => share_any 81 w
  have s5 := fun w => share_any 26085 w
  have s6 := fun w => share_any 769 w
  have c1 := fun w => count_any ⟨#[255, 254]⟩ w (by decide)
  rw [show widthR ⟨#[87, 105, 32, 97]⟩ 10 = (1120, 0) by decide +kernel] at a1
  rw [show widthR ⟨#[255, 254]⟩ 1 = (128, 0) by decide +kernel] at a2
  rw [show widthR ⟨#[]⟩ 0 = (0, 2) by decide +kernel] at a3
  rw [show timesR 60 16 = (960, 0) by decide +kernel] at a4
  rw [show timesR 20 16 = (320, 0) by decide +kernel] at a5
  rw [show share 105 = 16 by decide +kernel] at s1
  rw [show share 97 = 32 by decide +kernel] at s2
  rw [show share 87 = 48 by decide +kernel] at s3
  rw [show share 81 = 40 by decide +kernel] at s4
  rw [show share 26085 = 64 by decide +kernel] at s5
  rw [show share 769 = 0 by decide +kernel] at s6
  rw [show (codes ⟨#[255, 254]⟩).length = 2 by decide +kernel] at c1
  go_enter Try.func71, Try.ntmps71
  go_wp2_with fail
  refine (a1 _).mono ?_
  rintro e w1 ⟨rfl, h1⟩
  go_wp2_with fail
  refine (a2 _).mono ?_
  rintro e w2 ⟨rfl, h2⟩
  go_wp2_with fail
  refine (a3 _).mono ?_
  rintro e w3 ⟨rfl, h3⟩
  go_wp2_with fail
  refine (a4 _).mono ?_
  rintro e w4 ⟨rfl, rfl⟩
  go_wp2_with fail
  refine (a5 _).mono ?_
  rintro e w4 ⟨rfl, rfl⟩
  go_wp2_with fail
  refine (s1 _).mono ?_
  rintro e w4 ⟨rfl, h4⟩
  go_wp2_with fail
  refine (s2 _).mono ?_
  rintro e w5 ⟨rfl, h5⟩
  go_wp2_with fail
  refine (s3 _).mono ?_
  rintro e w6 ⟨rfl, h6⟩
  go_wp2_with fail
  refine (s4 _).mono ?_
  rintro e w7 ⟨rfl, h7⟩
  go_wp2_with fail
  refine (s5 _).mono ?_
  rintro e w8 ⟨rfl, h8⟩
  go_wp2_with fail
  refine (s6 _).mono ?_
  rintro e w9 ⟨rfl, h9⟩
  go_wp2_with fail
  refine (c1 _).mono ?_
  rintro e w10 ⟨rfl, h10⟩
  go_wp2_with fail
  go_ret
  exact ⟨rfl, below2 (below2 (below2 (below2 (below2 (below2 (below2 (below2 (below2 h1 h2) h3) h4) h5) h6) h7) h8) h9) h10⟩
end Go.Proofs.Ytpelapdadgmlkaa
