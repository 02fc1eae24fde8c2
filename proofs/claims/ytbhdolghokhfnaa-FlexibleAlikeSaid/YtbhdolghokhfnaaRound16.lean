/-
  Walks: a round of sizes.
-/
import Derived.Test.YtbhdolghokhfnaaOpen16
import Derived.Test.YtbhdolghokhfnaaRoundPlain
import Derived.StillTailTactics
import Derived.Deep.DeepCutAuto
namespace Go.Proofs.Ytbhdolghokhfnaa
open Go.RowKit

/-- A box in memory. -/
def boxC (x : It) (sz go : Int) (st : Bool) : Array Value := #[.int .i64 x.base, .int .i64 x.least, .int .i64 x.most, .int .i64 x.grow, .int .i64 x.shrink, .int .i64 x.outer, .int .i64 sz, .int .i64 go, .bool st]
def BoxB (w : World) (g : Nat) (x : It) (sz go : Int) (st : Bool) : Prop := Blk w g 79 (boxC x sz go st)
def LineB (w : World) (L : Nat) (v : Value) (room : Int) (grow : Bool) : Prop := Blk w L 76 #[v, .int .i64 room, .bool grow]
theorem BoxB.cells {w : World} {g : Nat} {x : It} {sz go : Int} {st : Bool} (h : BoxB w g x sz go st) :
    w.cell? ⟨g, 0, none⟩ = some (.int .i64 x.base) ∧ w.cell? ⟨g, 1, none⟩ = some (.int .i64 x.least) ∧ w.cell? ⟨g, 2, none⟩ = some (.int .i64 x.most) ∧ w.cell? ⟨g, 3, none⟩ = some (.int .i64 x.grow) ∧ w.cell? ⟨g, 4, none⟩ = some (.int .i64 x.shrink) ∧
    w.cell? ⟨g, 6, none⟩ = some (.int .i64 sz) ∧ w.cell? ⟨g, 7, none⟩ = some (.int .i64 go) ∧ w.cell? ⟨g, 8, none⟩ = some (.bool st) :=
  ⟨Blk.cell h 0, Blk.cell h 1, Blk.cell h 2, Blk.cell h 3, Blk.cell h 4, Blk.cell h 6, Blk.cell h 7, Blk.cell h 8⟩
theorem LineB.cells {w : World} {L : Nat} {v : Value} {room : Int} {grow : Bool} (h : LineB w L v room grow) : w.cell? ⟨L, 0, none⟩ = some v ∧ w.cell? ⟨L, 1, none⟩ = some (.int .i64 room) ∧ w.cell? ⟨L, 2, none⟩ = some (.bool grow) :=
  ⟨Blk.cell h 0, Blk.cell h 1, Blk.cell h 2⟩
theorem BoxB.size {w : World} {g : Nat} {x : It} {sz go : Int} {st : Bool} (h : BoxB w g x sz go st) (z : Int) : BoxB (w.setCell ⟨g, 6, none⟩ (.int .i64 z)) g x z go st := by
  have h2 := Blk.set_ h 6 (.int .i64 z)
  simpa [BoxB, boxC] using h2
theorem BoxB.goal {w : World} {g : Nat} {x : It} {sz go : Int} {st : Bool} (h : BoxB w g x sz go st) (z : Int) : BoxB (w.setCell ⟨g, 7, none⟩ (.int .i64 z)) g x sz z st := by
  have h2 := Blk.set_ h 7 (.int .i64 z)
  simpa [BoxB, boxC] using h2
theorem BoxB.settle {w : World} {g : Nat} {x : It} {sz go : Int} {st : Bool} (h : BoxB w g x sz go st) (b : Bool) : BoxB (w.setCell ⟨g, 8, none⟩ (.bool b)) g x sz go b := by
  have h2 := Blk.set_ h 8 (.bool b)
  simpa [BoxB, boxC] using h2

/-- A slice of the call's own that is not empty, written out. -/
theorem Owns.openI {w : World} {base : Nat} {v : Value} {zs : List Int} (h : Owns w base v zs) (h0 : 0 < zs.length) :
    ∃ g cap, v = .slice (some ⟨g, 0, none⟩) zs.length cap ∧ zs.length ≤ cap ∧ base ≤ g ∧ g < w.heap.size ∧ (∀ k (hk : k < zs.length), w.cell? ⟨g, k, none⟩ = some (.int .i64 zs[k])) ∧ ∀ k, w.frozen? ⟨g, k, none⟩ = false := by
  rcases h.2 with ⟨_, e⟩ | ⟨g, cap, cur, rfl, hg, hb, hc, _, _, ht⟩
  · omega
  · refine ⟨g, cap, rfl, hc, hg, (Array.getElem?_eq_some_iff.1 hb).1, fun k hk => ?_, fun k => by simp [World.frozen?, hb]⟩
    rw [cell_of_row w g k cur _ _ hb, ← Array.getElem?_toList]
    have h1 : (cur.toList.take (zs.length * 1))[k]? = some (.int .i64 zs[k]) := by rw [ht]; simp [hk]
    rw [List.getElem?_take_of_lt (by omega)] at h1
    exact h1

/-- All but some blocks stand. -/
structure Kept (gs : List Nat) (w w' : World) : Prop where
  os : w'.os = w.os
  tape : w'.tape = w.tape
  output : w'.output = w.output
  size : w.heap.size ≤ w'.heap.size
  block : ∀ b, b < w.heap.size → b ∉ gs → w'.heap[b]? = w.heap[b]?
theorem Kept.refl (gs : List Nat) (w : World) : Kept gs w w := ⟨rfl, rfl, rfl, Nat.le_refl _, fun _ _ _ => rfl⟩
theorem Kept.of_below {gs : List Nat} {w w' : World} (h : Below w.heap.size w w') : Kept gs w w' := ⟨h.os, h.tape, h.output, h.size, fun b hb _ => h.block b hb⟩
theorem Kept.trans {gs : List Nat} {a b c : World} (h : Kept gs a b) (k : Kept gs b c) : Kept gs a c :=
  ⟨k.os.trans h.os, k.tape.trans h.tape, k.output.trans h.output, Nat.le_trans h.size k.size, fun i hi hn => (k.block i (Nat.lt_of_lt_of_le hi h.size) hn).trans (h.block i hi hn)⟩
theorem Kept.drewN {gs : List Nat} {a b : World} (h : Kept gs a b) (n : Nat) : Kept gs a (b.drewN n) := ⟨h.os, h.tape, h.output, h.size, h.block⟩
theorem Kept.setCell {gs : List Nat} {a b : World} (h : Kept gs a b) {p : Addr} (hp : p.block ∈ gs) (u : Value) : Kept gs a (b.setCell p u) :=
  ⟨h.os, h.tape, h.output, by simpa [World.setCell] using h.size, fun i hi hn => (Below.heap_setCell b p u i (fun e => hn (e ▸ hp))).trans (h.block i hi hn)⟩
theorem Kept.to_below {gs : List Nat} {w w' : World} {B : Nat} (h : Kept gs w w') (hB : B ≤ w.heap.size) (hg : ∀ g ∈ gs, B ≤ g) : Below B w w' :=
  ⟨h.os, h.tape, h.output, h.size, fun b hb => h.block b (by omega) (fun hm => by have := hg b hm; omega)⟩
theorem Blk.kept {gs : List Nat} {w w' : World} {g : Nat} {t : TypeId} {cs : Array Value} (h : Blk w g t cs) (hk : Kept gs w w') (hg : g ∉ gs) : Blk w' g t cs := (hk.block g h.lt hg).trans h
theorem Owns.keptG {gs : List Nat} {w w' : World} {base : Nat} {v : Value} {zs : List Int} (h : Owns w base v zs) (hk : Kept gs w w') (hg : ∀ k, v.ownBlock = some k → k ∉ gs) : Owns w' base v zs := by
  obtain ⟨h1, h2⟩ := h
  refine ⟨h1, ?_⟩
  rcases h2 with h2 | ⟨g, cap, cur, rfl, hb, hh, r⟩
  · exact .inl h2
  · exact .inr ⟨g, cap, cur, rfl, hb, (hk.block g (Array.getElem?_eq_some_iff.1 hh).1 (hg g rfl)).trans hh, r⟩
theorem Ptrs.kept {ks : List Nat} {w w' : World} {B : Nat} {v : Value} {gs : List Nat} (h : Ptrs w B v gs) (hk : Kept ks w w') (hB : B ≤ w.heap.size) (hg : ∀ k, v.ownBlock = some k → k ∉ ks) : Ptrs w' B v gs := by
  obtain ⟨A, c, rfl, hc, hf⟩ := h
  refine ⟨A, c, rfl, hc, fun h0 => ?_⟩
  obtain ⟨g, rfl, hb, hh⟩ := hf h0
  exact ⟨g, rfl, hb, fun j hj => (World.cell?_of_block (a := ⟨g, j, none⟩) (hk.block g (by omega) (hg g rfl))).trans (hh j hj)⟩

set_option maxRecDepth 100000 in
set_option maxHeartbeats 400000 in
theorem weight_any (g : Nat) (x : It) (sz go : Int) (st grow : Bool) (w : World) (h : BoxB w g x sz go st) (hb : 0 ≤ x.base) (hb2 : x.base ≤ 1099511627776) (hs : 0 ≤ x.shrink) (hs2 : x.shrink ≤ 1000) :
    Calls Try.prog 71 #[ptrV g, .bool grow] w fun e w' => e = .returned (.int .i64 (if grow = true then x.grow else x.shrink * x.base)) ∧ Quiet w w' := by
  obtain ⟨c0, _, _, c3, c4, _⟩ := h.cells
  show Calls Try.prog 71 #[.pointer (some ⟨g, 0, none⟩), .bool grow] w _
  have h1 := Int.mul_nonneg hs hb
  have h2 := Int.mul_le_mul hs2 hb2 hb (by omega : (0 : Int) ≤ 1000)
  have hw : IntKind.i64.wrap (x.shrink * x.base) = x.shrink * x.base := by rw [IntKind.wrap_i64]; omega
  have hw2 : wrap64 (x.shrink * x.base) = x.shrink * x.base := by unfold wrap64; omega
  clear h
  generalize x.base = b at *
  generalize x.grow = gr at *
  generalize x.shrink = sh at *
  clear h1 h2
  cases grow with
  | true =>
    go_enter Try.func71, Try.ntmps71
    go_wp2_with fail
    go_ret
    exact ⟨rfl, Quiet.refl _⟩
  | false =>
    go_enter Try.func71, Try.ntmps71
    go_wp2_with fail
    go_quiet (fail)
    go_wp2_with fail
    go_ret
    exact ⟨rfl, nq, rfl⟩

/-! ### loop 3 -/
/-- The i-th box's block. -/
def gAt (gs : List Nat) (i : Nat) : Nat := gs.getD i 0
/-- The boxes between two rounds. -/
def Boxes (w : World) (gs : List Nat) (s : List Bo) : Prop := ∀ i, i < s.length → ∃ go, BoxB w (gAt gs i) (boAt s i).1 (szOf (boAt s i)) go (boAt s i).2.isSome
/-- .. while what they are given is told (k open ones are done). -/
def Box3 (w : World) (gs : List Nat) (s : List Bo) (zs : List Int) (k : Nat) : Prop := ∀ i, i < s.length →
  if (boAt s i).2.isSome = false ∧ i ∈ (opI s).take k then BoxB w (gAt gs i) (boAt s i).1 (chgR zs s i) (goalR zs s i) false else ∃ go, BoxB w (gAt gs i) (boAt s i).1 (szOf (boAt s i)) go (boAt s i).2.isSome
/-- .. while they are settled. -/
def Box4 (w : World) (gs : List Nat) (s : List Bo) (zs : List Int) (c : Int) (k : Nat) : Prop := ∀ i, i < s.length →
  if (boAt s i).2.isSome = false ∧ ¬ i ∈ (opI s).take k then BoxB w (gAt gs i) (boAt s i).1 (chgR zs s i) (goalR zs s i) false else ∃ go, BoxB w (gAt gs i) (boAt s i).1 (szOf (nextAt zs s c i)) go (nextAt zs s c i).2.isSome
theorem Boxes.start3 {w : World} {gs : List Nat} {s : List Bo} {zs : List Int} (h : Boxes w gs s) : Box3 w gs s zs 0 := fun i hi => by
  rw [if_neg (by simp)]
  exact h i hi
theorem Box3.to4 {w : World} {gs : List Nat} {s : List Bo} {zs : List Int} {c : Int} (h : Box3 w gs s zs (opI s).length) : Box4 w gs s zs c 0 := fun i hi => by
  have h1 := h i hi
  rw [List.take_of_length_le (Nat.le_refl _)] at h1
  cases hs : (boAt s i).2.isSome with
  | false =>
    rw [if_pos ⟨hs, (opI_mem hi).2 hs⟩] at h1
    rw [if_pos ⟨rfl, by simp⟩]
    exact h1
  | true =>
    rw [if_neg (by simp [hs])] at h1
    rw [if_neg (by simp), nextAt_settled hs]
    rw [hs] at h1 ⊢
    exact h1
theorem Box4.end_ {w : World} {gs : List Nat} {s : List Bo} {zs : List Int} (h : Box4 w gs s zs (sumR zs s s.length) (opI s).length) : Boxes w gs (nextR zs s) := fun i hi => by
  rw [nextR_len] at hi
  have h1 := h i hi
  rw [List.take_of_length_le (Nat.le_refl _), if_neg (fun hc => hc.2 ((opI_mem hi).2 hc.1))] at h1
  rw [nextR_bo hi]
  rw [nextAt_it]
  exact h1
/-- One box more. -/
theorem take_mem {l : List Nat} {k i : Nat} (hk : k < l.length) : i ∈ l.take (k + 1) ↔ (i ∈ l.take k ∨ i = l[k]) := by
  rw [List.take_succ_eq_append_getElem hk, List.mem_append, List.mem_singleton]
theorem take_not {l : List Nat} (hn : l.Nodup) {k : Nat} (hk : k < l.length) : l[k] ∉ l.take k := fun hm => by
  obtain ⟨j, hj, e⟩ := List.getElem_of_mem hm
  have hjk : j < k := by simp at hj; omega
  rw [List.getElem_take] at e
  have := (List.getElem_inj hn).1 e
  omega
theorem gAt_ne {gs : List Nat} (hn : gs.Nodup) {i j : Nat} (hi : i < gs.length) (hj : j < gs.length) (h : i ≠ j) : gAt gs i ≠ gAt gs j := fun e => by
  unfold gAt at e
  simp [hi, hj] at e
  exact h ((List.getElem_inj hn).1 e)
theorem Box3.step {w w' : World} {gs : List Nat} {s : List Bo} {zs : List Int} {k : Nat} (h : Box3 w gs s zs k) (hn : gs.Nodup) (hl : gs.length = s.length) (hk : k < (opI s).length)
    (hb : BoxB w' (gAt gs (opI s)[k]) (boAt s (opI s)[k]).1 (chgR zs s (opI s)[k]) (goalR zs s (opI s)[k]) false) (ho : ∀ g, g < w.heap.size → g ≠ gAt gs (opI s)[k] → w'.heap[g]? = w.heap[g]?) : Box3 w' gs s zs (k + 1) := fun i hi => by
  have hx := opI_lt (List.getElem_mem hk)
  by_cases e : i = (opI s)[k]
  · subst e
    rw [if_pos ⟨opI_open (List.getElem_mem hk), (take_mem hk).2 (Or.inr rfl)⟩]
    exact hb
  · have h1 := h i hi
    have hm : (i ∈ (opI s).take (k + 1)) ↔ i ∈ (opI s).take k := by rw [take_mem hk]; simp [e]
    have hne := gAt_ne hn (by omega : i < gs.length) (by omega : (opI s)[k] < gs.length) e
    by_cases hc : (boAt s i).2.isSome = false ∧ i ∈ (opI s).take k
    · rw [if_pos hc] at h1
      rw [if_pos ⟨hc.1, hm.2 hc.2⟩]
      exact (ho _ (Blk.lt h1) hne).trans h1
    · rw [if_neg hc] at h1
      rw [if_neg (fun h' => hc ⟨h'.1, hm.1 h'.2⟩)]
      obtain ⟨go, h1⟩ := h1
      exact ⟨go, (ho _ (Blk.lt h1) hne).trans h1⟩
theorem Box4.step {w w' : World} {gs : List Nat} {s : List Bo} {zs : List Int} {c : Int} {k : Nat} (h : Box4 w gs s zs c k) (hn : gs.Nodup) (hl : gs.length = s.length) (hk : k < (opI s).length)
    (hb : ∃ go, BoxB w' (gAt gs (opI s)[k]) (boAt s (opI s)[k]).1 (szOf (nextAt zs s c (opI s)[k])) go (nextAt zs s c (opI s)[k]).2.isSome) (ho : ∀ g, g < w.heap.size → g ≠ gAt gs (opI s)[k] → w'.heap[g]? = w.heap[g]?) : Box4 w' gs s zs c (k + 1) := fun i hi => by
  have hx := opI_lt (List.getElem_mem hk)
  by_cases e : i = (opI s)[k]
  · subst e
    rw [if_neg (fun hc => hc.2 ((take_mem hk).2 (Or.inr rfl)))]
    exact hb
  · have h1 := h i hi
    have hm : (i ∈ (opI s).take (k + 1)) ↔ i ∈ (opI s).take k := by rw [take_mem hk]; simp [e]
    have hne := gAt_ne hn (by omega : i < gs.length) (by omega : (opI s)[k] < gs.length) e
    by_cases hc : (boAt s i).2.isSome = false ∧ ¬ i ∈ (opI s).take k
    · rw [if_pos hc] at h1
      rw [if_pos ⟨hc.1, fun h' => hc.2 (hm.1 h')⟩]
      exact (ho _ (Blk.lt h1) hne).trans h1
    · rw [if_neg hc] at h1
      rw [if_neg (fun h' => hc ⟨h'.1, fun h'' => h'.2 (hm.2 h'')⟩)]
      obtain ⟨go, h1⟩ := h1
      exact ⟨go, (ho _ (Blk.lt h1) hne).trans h1⟩
theorem Boxes.keep {w w' : World} {gs : List Nat} {s : List Bo} (h : Boxes w gs s) (hb : Below w.heap.size w w') : Boxes w' gs s := fun i hi => by
  obtain ⟨go, h1⟩ := h i hi
  exact ⟨go, (hb.block _ (Blk.lt h1)).trans h1⟩

end Go.Proofs.Ytbhdolghokhfnaa
