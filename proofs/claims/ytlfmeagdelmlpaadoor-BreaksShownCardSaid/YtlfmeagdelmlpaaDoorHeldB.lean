/-
  Regions whose operations only read, and whose callees may make memory of their own: one walk, in the order of the text, over the class of the worlds that are as before below a bound; for regions that draw their order and for those that do not.
-/
import Derived.Test.YtlfmeagdelmlpaaDoorWords
import Derived.Deep.QuietTactic
import Derived.BigQuiet
namespace Go.Proofs.YtlfmeagdelmlpaaDoor
open Go.RowKit

/-- A world that is as w0 below B. -/
structure BW (B : Nat) (w0 : World) where
  val : World
  ok : Below B w0 val
instance bwNonempty (B : Nat) (w0 : World) : Nonempty (BW B w0) := ⟨⟨w0, Below.refl _ _⟩⟩
theorem held_calls {P : Program} {B : Nat} {w0 : World} {f : FuncId} {args : Array Value} {v : Value} (hB : B ≤ w0.heap.size) (W : BW B w0) (hc : Calls P f args W.val fun e w' => e = .returned v ∧ Below W.val.heap.size W.val w') :
    Calls P f args W.val fun e w'' => e = .returned v ∧ ∃ W' : BW B w0, w'' = W'.val :=
  hc.mono fun _ w'' ⟨he, hb⟩ => ⟨he, ⟨w'', W.ok.trans (hb.mono (Nat.le_trans hB W.ok.size))⟩, rfl⟩
theorem held_same {P : Program} {B : Nat} {w0 : World} {f : FuncId} {args : Array Value} {v : Value} (W : BW B w0) (hc : Calls P f args W.val fun e w' => e = .returned v ∧ W.val = w') :
    Calls P f args W.val fun e w'' => e = .returned v ∧ ∃ W' : BW B w0, w'' = W'.val :=
  hc.mono fun _ w'' ⟨he, hb⟩ => ⟨he, ⟨w'', hb ▸ W.ok⟩, rfl⟩
theorem wp_region_heldq {P : Program} {id : Nat} {Q : Exit → Act → World → Prop} {a : Act} {w : World} {l : List Oper} (B : Nat) (hm : P.follows .mixedOrders = true) (hB : Region.lexB .any l.toArray = true)
    (h : wpQuiet P l.toArray (fun w' => ∃ W : BW B w, w' = W.val) (fun a' => ∀ w', (∃ W : BW B w, w' = W.val) → Q .normal a' w') l a) : (Code.region id l.toArray true).wp P Q a w :=
  wp_region_quiet (C := fun w' => ∃ W : BW B w, w' = W.val) hm hB ⟨⟨w.drew, (Below.refl _ _).drew⟩, rfl⟩ (by simpa using h)
theorem wpList_of_quiet {P : Program} {ops : Array Oper} {C : World → Prop} {Q : Exit → Act → World → Prop} : ∀ (l : List Oper) (a : Act) (w : World), C w → wpQuiet P ops C (fun a' => ∀ w', C w' → Q .normal a' w') l a → wpList P ops Q l a w
  | [], _, w, hw, h => h w hw
  | o :: rest, a, w, hw, h => by
    unfold wpQuiet at h
    unfold wpList
    split
    · rename_i hc
      rw [if_pos hc] at h
      exact .inl (Oper.wp_of_quiet hw (fun a' w' hw' h' => wpList_of_quiet rest a' w' hw' h') h)
    · rename_i hc
      rw [if_neg hc] at h
      exact wpList_of_quiet rest _ w hw h
/-- The same for a region that keeps the text's order. -/
theorem wp_region_heldp {P : Program} {id : Nat} {Q : Exit → Act → World → Prop} {a : Act} {w : World} {l : List Oper} (B : Nat)
    (h : wpQuiet P l.toArray (fun w' => ∃ W : BW B w, w' = W.val) (fun a' => ∀ w', (∃ W : BW B w, w' = W.val) → Q .normal a' w') l a) : (Code.region id l.toArray false).wp P Q a w :=
  wp_region_lit (wpList_of_quiet _ _ _ ⟨⟨w, Below.refl _ _⟩, rfl⟩ h)

end Go.Proofs.YtlfmeagdelmlpaaDoor
