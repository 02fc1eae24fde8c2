/-
  Regions that draw their order, whose operations only read, and whose callees may make memory of their own: one walk, in the order of the text, over the class of the worlds that are as before below a bound.
-/
import Derived.Test.YtbhdolghokhfnaaInts
import Derived.Deep.QuietTactic
import Derived.BigQuiet
namespace Go.Proofs.Ytbhdolghokhfnaa
open Go.RowKit

/-- A world that is as w0 below B. -/
structure BW (B : Nat) (w0 : World) where
  val : World
  ok : Below B w0 val
instance bwNonempty (B : Nat) (w0 : World) : Nonempty (BW B w0) := ⟨⟨w0, Below.refl _ _⟩⟩
theorem held_calls {P : Program} {B : Nat} {w0 : World} {f : FuncId} {args : Array Value} {v : Value} (hB : B ≤ w0.heap.size) (hc : ∀ W, Calls P f args W fun e w' => e = .returned v ∧ Below W.heap.size W w') (W : BW B w0) :
    Calls P f args W.val fun e w'' => e = .returned v ∧ ∃ W' : BW B w0, w'' = W'.val :=
  (hc W.val).mono fun _ w'' ⟨he, hb⟩ => ⟨he, ⟨w'', W.ok.trans (hb.mono (Nat.le_trans hB W.ok.size))⟩, rfl⟩
theorem held_same {P : Program} {B : Nat} {w0 : World} {f : FuncId} {args : Array Value} {v : Value} (hc : ∀ W, Calls P f args W fun e w' => e = .returned v ∧ W = w') (W : BW B w0) :
    Calls P f args W.val fun e w'' => e = .returned v ∧ ∃ W' : BW B w0, w'' = W'.val :=
  (hc W.val).mono fun _ w'' ⟨he, hb⟩ => ⟨he, ⟨w'', hb ▸ W.ok⟩, rfl⟩
theorem wp_region_heldq {P : Program} {id : Nat} {Q : Exit → Act → World → Prop} {a : Act} {w : World} {l : List Oper} (B : Nat) (hm : P.follows .mixedOrders = true) (hB : Region.lexB .any l.toArray = true)
    (h : wpQuiet P l.toArray (fun w' => ∃ W : BW B w, w' = W.val) (fun a' => ∀ w', (∃ W : BW B w, w' = W.val) → Q .normal a' w') l a) : (Code.region id l.toArray true).wp P Q a w :=
  wp_region_quiet (C := fun w' => ∃ W : BW B w, w' = W.val) hm hB ⟨⟨w.drew, (Below.refl _ _).drew⟩, rfl⟩ (by simpa using h)

end Go.Proofs.Ytbhdolghokhfnaa
