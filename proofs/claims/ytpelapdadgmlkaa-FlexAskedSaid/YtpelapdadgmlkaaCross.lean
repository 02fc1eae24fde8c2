/-
  Walks: flex.Cross, its reference, and the law FlexCross.
-/
import Derived.Test.YtpelapdadgmlkaaFixed
namespace Go.Proofs.Ytpelapdadgmlkaa
open Go.RowKit

/-- Where a box begins across its line, if it does: what is left, by the way it is aligned. -/
def crossAt (outer room a : Int) : Int := if a = 1 then room - outer else if a = 2 then (room - outer).tdiv 2 else 0
def crossR (outer room a : Int) : Int × Int :=
  if room < 0 ∨ ¬ (a = 0 ∨ a = 1 ∨ a = 2 ∨ a = 5) then (0, 2) else told (crossAt outer room a) [outer, room]

theorem cross_bad (outer room a : Int) (h : room < 0 ∨ ¬ (a = 0 ∨ a = 1 ∨ a = 2 ∨ a = 5)) : crossR outer room a = (0, 2) := if_pos h
theorem cross_ok (outer room a : Int) (h : ¬ (room < 0 ∨ ¬ (a = 0 ∨ a = 1 ∨ a = 2 ∨ a = 5))) : crossR outer room a = told (crossAt outer room a) [outer, room] := if_neg h

theorem cross_any (outer room a : Int) (w : World) :
    Calls Try.prog 44 #[.int .i64 outer, .int .i64 room, .int .u8 a] w fun e w' => e = .returned (.tuple #[.int .i64 (crossR outer room a).1, .int .i64 (crossR outer room a).2]) ∧ Below w.heap.size w w' := by
  by_cases hbad : a = 0 ∨ a = 1 ∨ a = 2 ∨ a = 5
  case neg =>
    have H := Lib.hid (cross_bad outer room a (.inr hbad))
    have n0 : (a == 0) = false := by simp; omega
    have n1 : (a == 1) = false := by simp; omega
    have n2 : (a == 2) = false := by simp; omega
    have n5 : (a == 5) = false := by simp; omega
    clear hbad
    go_enter Try.func44, Try.ntmps44
    go_wp2_with fail
    go_ret2
    exact ⟨by rw [H.out]; rfl, Below.refl _ _⟩
  by_cases hr : room < 0
  · have H := fun a => Lib.hid (cross_bad outer room a (.inl hr))
    rcases hbad with rfl | rfl | rfl | rfl
    all_goals
      go_enter Try.func44, Try.ntmps44
      go_wp2_with fail
      go_ret2
      exact ⟨by rw [(H _).out]; rfl, Below.refl _ _⟩
  have hf := fits_two outer room 3 w
  have H : crossR outer room a = told (crossAt outer room a) [outer, room] := cross_ok _ _ _ (by omega)
  cases h2 : (fit outer && fit room) with
  | false =>
    have H0 := Lib.hid (H.trans (told_no1 (by simpa using h2)))
    rw [h2] at hf
    clear h2 H
    rcases hbad with rfl | rfl | rfl | rfl
    all_goals
      go_enter Try.func44, Try.ntmps44
      go_wp2_with (go_at_call 41; with_reducible refine hf.mono ?_; rintro e w' ⟨rfl, rfl⟩)
      go_ret2
      exact ⟨by rw [H0.out]; rfl, (Below.refl _ _).alloc (Nat.le_refl _) _⟩
  | true =>
    rw [h2] at hf
    have hfo := (fit_iff outer).1 (by simp at h2; exact h2.1)
    have hfr := (fit_iff room).1 (by simp at h2; exact h2.2)
    have h2' : [outer, room].all fit = true := by simpa using h2
    have hg := fun n => fits_one n 3 (w.alloc (.cells #[.int .i64 outer, .int .i64 room] 3))
    clear h2
    cases h3 : fit (crossAt outer room a) with
    | false =>
      have H0 := Lib.hid (H.trans (told_no2 h3))
      have hg := hg (crossAt outer room a)
      rw [h3] at hg
      clear h3 H h2'
      rcases hbad with rfl | rfl | rfl | rfl
      all_goals
        simp only [crossAt] at hg
        simp at hg
        go_enter Try.func44, Try.ntmps44
        go_wp2_with (first | (go_at_call 41; with_reducible refine hf.mono ?_; rintro e w' ⟨rfl, rfl⟩) | (go_at_call 41; with_reducible refine hg.mono ?_; rintro e w' ⟨rfl, rfl⟩))
        go_ret2
        exact ⟨by rw [H0.out]; rfl, ((Below.refl _ _).alloc (Nat.le_refl _) _).alloc (by simp) _⟩
    | true =>
      have H0 := Lib.hid (H.trans (told_yes h2' h3))
      have hg := hg (crossAt outer room a)
      rw [h3] at hg
      clear h3 H h2'
      rcases hbad with rfl | rfl | rfl | rfl
      all_goals
        simp only [crossAt] at hg
        simp at hg
        go_enter Try.func44, Try.ntmps44
        go_wp2_with (first | (go_at_call 41; with_reducible refine hf.mono ?_; rintro e w' ⟨rfl, rfl⟩) | (go_at_call 41; with_reducible refine hg.mono ?_; rintro e w' ⟨rfl, rfl⟩))
        go_ret2
        exact ⟨by rw [H0.out]; rfl, ((Below.refl _ _).alloc (Nat.le_refl _) _).alloc (by simp) _⟩

theorem rcross (outer room a : Int) (w : World) :
    Calls Try.prog 45 #[.int .i64 outer, .int .i64 room, .int .u8 a] w fun e w' => e = .returned (.tuple #[.int .i64 (crossR outer room a).1, .int .i64 (crossR outer room a).2]) ∧ w = w' := by
  by_cases hr : room < 0
  · have H := Lib.hid (cross_bad outer room a (.inl hr))
    go_enter Try.func45, Try.ntmps45
    go_wp2_with fail
    go_ret2
    exact ⟨by rw [H.out]; rfl, rfl⟩
  by_cases hbad : a = 0 ∨ a = 1 ∨ a = 2 ∨ a = 5
  case neg =>
    have H := Lib.hid (cross_bad outer room a (.inr hbad))
    have n0 : (a != 0) = true := by simp; omega
    have n1 : (a != 1) = true := by simp; omega
    have n2 : (a != 2) = true := by simp; omega
    have n5 : (a != 5) = true := by simp; omega
    clear hbad
    go_enter Try.func45, Try.ntmps45
    go_wp2_with fail
    go_ret2
    exact ⟨by rw [H.out]; rfl, rfl⟩
  have ho := rfits outer w
  have hm := rfits room w
  have H : crossR outer room a = told (crossAt outer room a) [outer, room] := cross_ok _ _ _ (by omega)
  cases h1 : fit outer with
  | false =>
    have H0 := Lib.hid (H.trans (told_no1 (by simp [h1])))
    rw [h1] at ho
    clear h1 H
    rcases hbad with rfl | rfl | rfl | rfl
    all_goals
      go_enter Try.func45, Try.ntmps45
      go_wp2_with fail
      refine ho.mono ?_
      rintro e w' ⟨rfl, rfl⟩
      go_wp2_with fail
      go_ret2
      exact ⟨by rw [H0.out]; rfl, rfl⟩
  | true =>
  cases h2 : fit room with
  | false =>
    have H0 := Lib.hid (H.trans (told_no1 (by simp [h2])))
    rw [h1] at ho
    rw [h2] at hm
    clear h1 h2 H
    rcases hbad with rfl | rfl | rfl | rfl
    all_goals
      go_enter Try.func45, Try.ntmps45
      go_wp2_with fail
      refine ho.mono ?_
      rintro e w' ⟨rfl, rfl⟩
      go_wp2_with fail
      refine hm.mono ?_
      rintro e w' ⟨rfl, rfl⟩
      go_wp2_with fail
      go_ret2
      exact ⟨by rw [H0.out]; rfl, rfl⟩
  | true =>
    have hfo := (fit_iff outer).1 h1
    have hfr := (fit_iff room).1 h2
    have h2' : [outer, room].all fit = true := by simp [h1, h2]
    rw [h1] at ho
    rw [h2] at hm
    clear h1 h2
    have hg := rfits (crossAt outer room a) w
    cases h3 : fit (crossAt outer room a) with
    | false =>
      have H0 := Lib.hid (H.trans (told_no2 h3))
      rw [h3] at hg
      clear h3 H h2'
      rcases hbad with rfl | rfl | rfl | rfl
      all_goals
        simp only [crossAt] at hg
        simp at hg
        go_enter Try.func45, Try.ntmps45
        go_wp2_with fail
        refine ho.mono ?_
        rintro e w' ⟨rfl, rfl⟩
        go_wp2_with fail
        refine hm.mono ?_
        rintro e w' ⟨rfl, rfl⟩
        go_wp2_with fail
        refine hg.mono ?_
        rintro e w' ⟨rfl, rfl⟩
        go_wp2_with fail
        go_ret2
        exact ⟨by rw [H0.out]; rfl, rfl⟩
    | true =>
      have H0 := Lib.hid (H.trans (told_yes h2' h3))
      rw [h3] at hg
      clear h3 H h2'
      rcases hbad with rfl | rfl | rfl | rfl
      all_goals
        simp only [crossAt] at hg
        simp at hg
        go_enter Try.func45, Try.ntmps45
        go_wp2_with fail
        refine ho.mono ?_
        rintro e w' ⟨rfl, rfl⟩
        go_wp2_with fail
        refine hm.mono ?_
        rintro e w' ⟨rfl, rfl⟩
        go_wp2_with fail
        refine hg.mono ?_
        rintro e w' ⟨rfl, rfl⟩
        go_wp2_with fail
        go_ret2
        exact ⟨by rw [H0.out]; rfl, rfl⟩

theorem flexCross_walk (outer room a : Int) (w : World) :
    LawReturns 4 #[.int .i64 outer, .int .i64 room, .int .u8 a] w := by
  unfold LawReturns
  have h1 := cross_any outer room a w
  have h2 := fun w => rcross outer room a w
  generalize crossR outer room a = r at *
  obtain ⟨r1, r2⟩ := r
  go_enter Try.func4, Try.ntmps4
  go_wp2_with fail
  refine h1.mono ?_
  rintro e w1 ⟨rfl, hb1⟩
  go_wp2_with fail
  refine (h2 _).mono ?_
  rintro e w2 ⟨rfl, rfl⟩
  go_wp2_with fail
  go_ret
  exact ⟨rfl, hb1⟩

end Go.Proofs.Ytpelapdadgmlkaa
