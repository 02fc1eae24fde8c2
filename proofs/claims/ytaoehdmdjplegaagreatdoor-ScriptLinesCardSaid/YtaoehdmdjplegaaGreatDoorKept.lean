/-
  Two worlds that are alike but for some blocks: what a method that writes into its own struct leaves.
-/
import Derived.Test.YtaoehdmdjplegaaGreatDoorQuoted
namespace Go.Proofs.YtaoehdmdjplegaaGreatDoor
open Go.RowKit Go.Shelf

/-- All but some blocks stand. -/
structure Kept (gs : List Nat) (w w' : World) : Prop where
  os : w'.os = w.os
  tape : w'.tape = w.tape
  output : w'.output = w.output
  size : w.heap.size ≤ w'.heap.size
  block : ∀ b, b < w.heap.size → b ∉ gs → w'.heap[b]? = w.heap[b]?
theorem Kept.refl (gs : List Nat) (w : World) : Kept gs w w := ⟨rfl, rfl, rfl, Nat.le_refl _, fun _ _ _ => rfl⟩
theorem Kept.of_below {gs : List Nat} {w w' : World} (h : Below w.heap.size w w') : Kept gs w w' := ⟨h.os, h.tape, h.output, h.size, fun b hb _ => h.block b hb⟩
theorem Kept.trans {gs : List Nat} {a b c : World} (h : Kept gs a b) (k : Kept gs b c) : Kept gs a c :=
  ⟨k.os.trans h.os, k.tape.trans h.tape, k.output.trans h.output, Nat.le_trans h.size k.size, fun i hi hn => (k.block i (Nat.lt_of_lt_of_le hi h.size) hn).trans (h.block i hi hn)⟩
theorem Kept.drewN {gs : List Nat} {a b : World} (h : Kept gs a b) (n : Nat) : Kept gs a (b.drewN n) := ⟨h.os, h.tape, h.output, h.size, h.block⟩
theorem Kept.setCell {gs : List Nat} {a b : World} (h : Kept gs a b) {p : Addr} (hp : p.block ∈ gs) (u : Value) : Kept gs a (b.setCell p u) :=
  ⟨h.os, h.tape, h.output, by simpa [World.setCell] using h.size, fun i hi hn => (Below.heap_setCell b p u i (fun e => hn (e ▸ hp))).trans (h.block i hi hn)⟩
theorem Kept.to_below {gs : List Nat} {w w' : World} {B : Nat} (h : Kept gs w w') (hB : B ≤ w.heap.size) (hg : ∀ g ∈ gs, B ≤ g) : Below B w w' :=
  ⟨h.os, h.tape, h.output, h.size, fun b hb => h.block b (by omega) (fun hm => by have := hg b hm; omega)⟩
theorem Blk.kept {gs : List Nat} {w w' : World} {g : Nat} {t : TypeId} {cs : Array Value} (h : Blk w g t cs) (hk : Kept gs w w') (hg : g ∉ gs) : Blk w' g t cs := (hk.block g h.lt hg).trans h
theorem Kept.drew {gs : List Nat} {a b : World} (h : Kept gs a b) : Kept gs a b.drew := h.drewN 1
theorem Kept.more {gs hs : List Nat} {a b : World} (h : Kept gs a b) (hm : ∀ g ∈ gs, g ∈ hs) : Kept hs a b := ⟨h.os, h.tape, h.output, h.size, fun k hk hn => h.block k hk fun hg => hn (hm k hg)⟩

end Go.Proofs.YtaoehdmdjplegaaGreatDoor
