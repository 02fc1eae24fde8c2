/-
  The program's head as signs: the facts 'make', 'liftsFinal', 'mayEnter' of a row, without a run of String.toList in the kernel (at a head of many roots that run takes more than 10 GB).
-/
import Derived.Test.YtbhdolghokhfnaaRows
import Derived.ProofKit
namespace Go.Proofs.Ytbhdolghokhfnaa
set_option maxRecDepth 100000
def headSigns : List Char := [Char.ofNat 104, Char.ofNat 97, Char.ofNat 114, Char.ofNat 110, Char.ofNat 101, Char.ofNat 115, Char.ofNat 115, Char.ofNat 32, Char.ofNat 101, Char.ofNat 54, Char.ofNat 98, Char.ofNat 51, Char.ofNat 51, Char.ofNat 51, Char.ofNat 99, Char.ofNat 49, Char.ofNat 99, Char.ofNat 50, Char.ofNat 56, Char.ofNat 101, Char.ofNat 53, Char.ofNat 49, Char.ofNat 51, Char.ofNat 101, Char.ofNat 54, Char.ofNat 49, Char.ofNat 98, Char.ofNat 51, Char.ofNat 52, Char.ofNat 50, Char.ofNat 52, Char.ofNat 57, Char.ofNat 98, Char.ofNat 100, Char.ofNat 97, Char.ofNat 55, Char.ofNat 53, Char.ofNat 100, Char.ofNat 99, Char.ofNat 49, Char.ofNat 101, Char.ofNat 99, Char.ofNat 97, Char.ofNat 102, Char.ofNat 56, Char.ofNat 100, Char.ofNat 48, Char.ofNat 55, Char.ofNat 48, Char.ofNat 98, Char.ofNat 49, Char.ofNat 48, Char.ofNat 101, Char.ofNat 56, Char.ofNat 100, Char.ofNat 101, Char.ofNat 101, Char.ofNat 51, Char.ofNat 97, Char.ofNat 48, Char.ofNat 57, Char.ofNat 49, Char.ofNat 49, Char.ofNat 97, Char.ofNat 51, Char.ofNat 55, Char.ofNat 54, Char.ofNat 50, Char.ofNat 98, Char.ofNat 54, Char.ofNat 54, Char.ofNat 48, Char.ofNat 32, Char.ofNat 99, Char.ofNat 117, Char.ofNat 116, Char.ofNat 32, Char.ofNat 97, Char.ofNat 116, Char.ofNat 32, Char.ofNat 119, Char.ofNat 105, Char.ofNat 110, Char.ofNat 100, Char.ofNat 111, Char.ofNat 119, Char.ofNat 112, Char.ofNat 97, Char.ofNat 110, Char.ofNat 101, Char.ofNat 47, Char.ofNat 119, Char.ofNat 105, Char.ofNat 110, Char.ofNat 100, Char.ofNat 111, Char.ofNat 119, Char.ofNat 112, Char.ofNat 97, Char.ofNat 110, Char.ofNat 101, Char.ofNat 108, Char.ofNat 97, Char.ofNat 119, Char.ofNat 49, Char.ofNat 53, Char.ofNat 46, Char.ofNat 70, Char.ofNat 108, Char.ofNat 101, Char.ofNat 120, Char.ofNat 108, Char.ofNat 105, Char.ofNat 110, Char.ofNat 101, Char.ofNat 79, Char.ofNat 114, Char.ofNat 100, Char.ofNat 101, Char.ofNat 114, Char.ofNat 115, Char.ofNat 32, Char.ofNat 119, Char.ofNat 105, Char.ofNat 110, Char.ofNat 100, Char.ofNat 111, Char.ofNat 119, Char.ofNat 112, Char.ofNat 97, Char.ofNat 110, Char.ofNat 101, Char.ofNat 47, Char.ofNat 119, Char.ofNat 105, Char.ofNat 110, Char.ofNat 100, Char.ofNat 111, Char.ofNat 119, Char.ofNat 112, Char.ofNat 97, Char.ofNat 110, Char.ofNat 101, Char.ofNat 108, Char.ofNat 97, Char.ofNat 119, Char.ofNat 49, Char.ofNat 53, Char.ofNat 46, Char.ofNat 70, Char.ofNat 108, Char.ofNat 101, Char.ofNat 120, Char.ofNat 108, Char.ofNat 105, Char.ofNat 110, Char.ofNat 101, Char.ofNat 83, Char.ofNat 116, Char.ofNat 97, Char.ofNat 98, Char.ofNat 108, Char.ofNat 101, Char.ofNat 32, Char.ofNat 119, Char.ofNat 105, Char.ofNat 110, Char.ofNat 100, Char.ofNat 111, Char.ofNat 119, Char.ofNat 112, Char.ofNat 97, Char.ofNat 110, Char.ofNat 101, Char.ofNat 47, Char.ofNat 119, Char.ofNat 105, Char.ofNat 110, Char.ofNat 100, Char.ofNat 111, Char.ofNat 119, Char.ofNat 112, Char.ofNat 97, Char.ofNat 110, Char.ofNat 101, Char.ofNat 108, Char.ofNat 97, Char.ofNat 119, Char.ofNat 48, Char.ofNat 49, Char.ofNat 46, Char.ofNat 70, Char.ofNat 105, Char.ofNat 120, Char.ofNat 101, Char.ofNat 100, Char.ofNat 71, Char.ofNat 105, Char.ofNat 118, Char.ofNat 101, Char.ofNat 110, Char.ofNat 32, Char.ofNat 119, Char.ofNat 105, Char.ofNat 110, Char.ofNat 100, Char.ofNat 111, Char.ofNat 119, Char.ofNat 112, Char.ofNat 97, Char.ofNat 110, Char.ofNat 101, Char.ofNat 47, Char.ofNat 119, Char.ofNat 105, Char.ofNat 110, Char.ofNat 100, Char.ofNat 111, Char.ofNat 119, Char.ofNat 112, Char.ofNat 97, Char.ofNat 110, Char.ofNat 101, Char.ofNat 108, Char.ofNat 97, Char.ofNat 119, Char.ofNat 49, Char.ofNat 54, Char.ofNat 46, Char.ofNat 70, Char.ofNat 108, Char.ofNat 101, Char.ofNat 120, Char.ofNat 105, Char.ofNat 98, Char.ofNat 108, Char.ofNat 101, Char.ofNat 83, Char.ofNat 105, Char.ofNat 122, Char.ofNat 101, Char.ofNat 115, Char.ofNat 32, Char.ofNat 119, Char.ofNat 105, Char.ofNat 110, Char.ofNat 100, Char.ofNat 111, Char.ofNat 119, Char.ofNat 112, Char.ofNat 97, Char.ofNat 110, Char.ofNat 101, Char.ofNat 47, Char.ofNat 119, Char.ofNat 105, Char.ofNat 110, Char.ofNat 100, Char.ofNat 111, Char.ofNat 119, Char.ofNat 112, Char.ofNat 97, Char.ofNat 110, Char.ofNat 101, Char.ofNat 108, Char.ofNat 97, Char.ofNat 119, Char.ofNat 49, Char.ofNat 54, Char.ofNat 46, Char.ofNat 70, Char.ofNat 108, Char.ofNat 101, Char.ofNat 120, Char.ofNat 105, Char.ofNat 98, Char.ofNat 108, Char.ofNat 101, Char.ofNat 70, Char.ofNat 117, Char.ofNat 108, Char.ofNat 108, Char.ofNat 32, Char.ofNat 119, Char.ofNat 105, Char.ofNat 110, Char.ofNat 100, Char.ofNat 111, Char.ofNat 119, Char.ofNat 112, Char.ofNat 97, Char.ofNat 110, Char.ofNat 101, Char.ofNat 47, Char.ofNat 119, Char.ofNat 105, Char.ofNat 110, Char.ofNat 100, Char.ofNat 111, Char.ofNat 119, Char.ofNat 112, Char.ofNat 97, Char.ofNat 110, Char.ofNat 101, Char.ofNat 108, Char.ofNat 97, Char.ofNat 119, Char.ofNat 49, Char.ofNat 54, Char.ofNat 46, Char.ofNat 70, Char.ofNat 108, Char.ofNat 101, Char.ofNat 120, Char.ofNat 105, Char.ofNat 98, Char.ofNat 108, Char.ofNat 101, Char.ofNat 87, Char.ofNat 97, Char.ofNat 121, Char.ofNat 32, Char.ofNat 119, Char.ofNat 105, Char.ofNat 110, Char.ofNat 100, Char.ofNat 111, Char.ofNat 119, Char.ofNat 112, Char.ofNat 97, Char.ofNat 110, Char.ofNat 101, Char.ofNat 47, Char.ofNat 119, Char.ofNat 105, Char.ofNat 110, Char.ofNat 100, Char.ofNat 111, Char.ofNat 119, Char.ofNat 112, Char.ofNat 97, Char.ofNat 110, Char.ofNat 101, Char.ofNat 108, Char.ofNat 97, Char.ofNat 119, Char.ofNat 49, Char.ofNat 54, Char.ofNat 46, Char.ofNat 70, Char.ofNat 108, Char.ofNat 101, Char.ofNat 120, Char.ofNat 105, Char.ofNat 98, Char.ofNat 108, Char.ofNat 101, Char.ofNat 83, Char.ofNat 116, Char.ofNat 105, Char.ofNat 102, Char.ofNat 102, Char.ofNat 32, Char.ofNat 119, Char.ofNat 105, Char.ofNat 110, Char.ofNat 100, Char.ofNat 111, Char.ofNat 119, Char.ofNat 112, Char.ofNat 97, Char.ofNat 110, Char.ofNat 101, Char.ofNat 47, Char.ofNat 119, Char.ofNat 105, Char.ofNat 110, Char.ofNat 100, Char.ofNat 111, Char.ofNat 119, Char.ofNat 112, Char.ofNat 97, Char.ofNat 110, Char.ofNat 101, Char.ofNat 108, Char.ofNat 97, Char.ofNat 119, Char.ofNat 49, Char.ofNat 54, Char.ofNat 46, Char.ofNat 70, Char.ofNat 108, Char.ofNat 101, Char.ofNat 120, Char.ofNat 105, Char.ofNat 98, Char.ofNat 108, Char.ofNat 101, Char.ofNat 79, Char.ofNat 117, Char.ofNat 116, Char.ofNat 101, Char.ofNat 114, Char.ofNat 32, Char.ofNat 119, Char.ofNat 105, Char.ofNat 110, Char.ofNat 100, Char.ofNat 111, Char.ofNat 119, Char.ofNat 112, Char.ofNat 97, Char.ofNat 110, Char.ofNat 101, Char.ofNat 47, Char.ofNat 119, Char.ofNat 105, Char.ofNat 110, Char.ofNat 100, Char.ofNat 111, Char.ofNat 119, Char.ofNat 112, Char.ofNat 97, Char.ofNat 110, Char.ofNat 101, Char.ofNat 108, Char.ofNat 97, Char.ofNat 119, Char.ofNat 49, Char.ofNat 54, Char.ofNat 46, Char.ofNat 70, Char.ofNat 108, Char.ofNat 101, Char.ofNat 120, Char.ofNat 105, Char.ofNat 98, Char.ofNat 108, Char.ofNat 101, Char.ofNat 65, Char.ofNat 108, Char.ofNat 105, Char.ofNat 107, Char.ofNat 101]
/-- A row of the seat. -/
abbrev headRow : OpenClaim := Rows.flexlineOrdersRow
theorem head_list : Try.prog.initOrder.toList = headSigns := by
  conv =>
    lhs
    arg 1
    whnf
  exact String.toList_ofList
theorem head_words : behindMainWord (wordsSigns headSigns) = "cut".toList :: (behindMainWord (wordsSigns headSigns)).tail := by kernel_rfl
theorem head_cut : behindMainWord (wordsSigns Try.prog.initOrder.toList) = "cut".toList :: (behindMainWord (wordsSigns headSigns)).tail :=
  (congrArg (fun l => behindMainWord (wordsSigns l)) head_list).trans head_words
theorem strip_cut (rest : List (List Char)) : stripLifts liftWords ("cut".toList :: rest) = ([], "cut".toList :: rest) := by
  have h : ∀ os : List String, (∀ o ∈ os, ("cut".toList == o.toList) = false) → stripLifts os ("cut".toList :: rest) = ([], "cut".toList :: rest) := by
    intro os
    induction os with
    | nil => intro _; rfl
    | cons o os ih =>
      intro ho
      have h1 := ho o (by simp)
      simp only [stripLifts, h1]
      exact ih fun o' h' => ho o' (List.mem_cons_of_mem _ h')
  exact h _ (by decide +kernel)
theorem make_of {P : Program} {rest : List (List Char)} (h : behindMainWord (wordsSigns P.initOrder.toList) = "cut".toList :: rest) : P.make = some .cut := by
  unfold Program.make
  rw [h]
  rfl
theorem lifts_of {P : Program} {rest : List (List Char)} (h : behindMainWord (wordsSigns P.initOrder.toList) = "cut".toList :: rest) : P.liftsFinal = false := by
  unfold Program.liftsFinal Program.headLifts
  rw [h, strip_cut]
  simp
theorem enter_of {P : Program} {rest : List (List Char)} (h : behindMainWord (wordsSigns P.initOrder.toList) = "cut".toList :: rest) (hd : P.doorFits [] = true) (hl : P.laysLater = false) (hr : P.bearsReflect = false) : P.mayEnter = true := by
  unfold Program.mayEnter
  rw [h]
  have e := strip_cut rest
  simp only [String.reduceToList] at e ⊢
  simp [e, hd, hl, hr]
theorem make_eq : Try.prog.make = some headRow.make := (make_of head_cut).trans (by kernel_rfl)
theorem liftsFinal_eq : Try.prog.liftsFinal = headRow.lifted := (lifts_of head_cut).trans (by kernel_rfl)
theorem mayEnter_eq : Try.prog.mayEnter = true := enter_of head_cut (by kernel_rfl) (by kernel_rfl) (by kernel_rfl)
end Go.Proofs.Ytbhdolghokhfnaa
