/-
  Walks: the law FixedShares.
-/
import Derived.Test.YtbhdolghokhfnaaRShare
import Derived.Test.YtbhdolghokhfnaaShareWalk
import Derived.Test.YtbhdolghokhfnaaBack
import Derived.Deep.RegionHeld3
namespace Go.Proofs.Ytbhdolghokhfnaa
open Go.RowKit

theorem shareR_len (t : Int) (ws : List Int) : (shareR t ws).1.length ≤ ws.length := by
  unfold shareR
  split
  · simp
  · split <;> simp [shares]

def ShaA (W0 : World) (base : Nat) (i : Value) (wr : World) : Prop :=
  ∃ k : Nat, k ≤ 2 ∧ i = .int .i64 k ∧ Below base W0 wr
def ShaB (n g base : Nat) (W0 : World) (i : Value) (wr : World) : Prop :=
  ∃ k : Nat, k ≤ n ∧ i = .int .i64 k ∧ (∀ j, j < n → ∃ x, wr.cell? ⟨g, j, none⟩ = some x) ∧ (∀ j, j < n → wr.frozen? ⟨g, j, none⟩ = false) ∧ Below base W0 wr

end Go.Proofs.Ytbhdolghokhfnaa
