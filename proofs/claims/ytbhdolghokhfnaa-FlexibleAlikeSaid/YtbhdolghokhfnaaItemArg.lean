/-
  An argument that is a slice of boxes, or a box: what a walk is told of it.
-/
import Derived.Test.YtbhdolghokhfnaaItems
import Derived.Test.YtbhdolghokhfnaaArgs
import Derived.Deep.Slices
namespace Go.Proofs.Ytbhdolghokhfnaa
open Go.ChangeShapes Go.WideShapes Go.ChangeAt Go.RowKit

theorem Try.cellsItem : Try.prog.cellsOf 39 = 6 := by kernel_rfl
theorem Try.cellsIntI : Try.prog.cellsOf 3 = 1 := by kernel_rfl
theorem listOf {α : Type} {p : Nat → α → Prop} : ∀ {n : Nat}, (∀ i, i < n → ∃ x, p i x) → ∃ L : List α, L.length = n ∧ ∀ i (h : i < L.length), p i L[i]
  | 0, _ => ⟨[], rfl, fun i h => absurd h (by simp)⟩
  | n + 1, h => by
    obtain ⟨L, hl, hp⟩ := listOf (n := n) fun i hi => h i (by omega)
    obtain ⟨x, hx⟩ := h n (by omega)
    refine ⟨L ++ [x], by simp [hl], fun i hi => ?_⟩
    rcases Nat.lt_or_ge i L.length with h1 | h1
    · rw [List.getElem_append_left h1]
      exact hp i h1
    · have : i = n := by simp at hi; omega
      subst this
      rw [List.getElem_append_right h1]
      simpa using hx

set_option maxRecDepth 100000 in
theorem item_cells {H : Type} {enc : TypeId × Value → H} {W : World} {base n : Nat} {sp : Nat → Bool} {held : Bool} {P : Addr} {cs : List Value} {x : DataW H × List MemPlace}
    (h1 : W.cells? base P 6 = some cs) (h2 : DataW.trod enc Try.prog W base sp held n 39 cs = some x) : ∃ f : It, ItemAt W P f := by
  obtain ⟨hb, hl, hc⟩ := World.cells?_some h1
  obtain ⟨xs, m, rfl, _, _, hxl, hf⟩ := DataW.trod_struct Try.underlying39 h2
  match cs, hl with
  | [c0, c1, c2, c3, c4, c5], _ =>
    match xs, hxl with
    | [y0, y1, y2, y3, y4, y5], _ =>
      have g0 := hf 0 _ rfl
      have g1 := hf 1 _ rfl
      have g2 := hf 2 _ rfl
      have g3 := hf 3 _ rfl
      have g4 := hf 4 _ rfl
      have g5 := hf 5 _ rfl
      simp [Try.cellsIntI] at g0 g1 g2 g3 g4 g5
      obtain ⟨n0, e0, _, _⟩ := DataW.trod_int Try.underlying3 g0
      obtain ⟨n1, e1, _, _⟩ := DataW.trod_int Try.underlying3 g1
      obtain ⟨n2, e2, _, _⟩ := DataW.trod_int Try.underlying3 g2
      obtain ⟨n3, e3, _, _⟩ := DataW.trod_int Try.underlying3 g3
      obtain ⟨n4, e4, _, _⟩ := DataW.trod_int Try.underlying3 g4
      obtain ⟨n5, e5, _, _⟩ := DataW.trod_int Try.underlying3 g5
      simp at e0 e1 e2 e3 e4 e5
      subst e0 e1 e2 e3 e4 e5
      exact ⟨⟨n0, n1, n2, n3, n4, n5⟩, hc 0 (by omega), hc 1 (by omega), hc 2 (by omega), hc 3 (by omega), hc 4 (by omega), hc 5 (by omega)⟩

set_option maxRecDepth 100000 in
theorem arg_items {H : Type} {enc : TypeId × Value → H} {W : World} {base : Nat} {v : Value} {d : DataW H} {p : List MemPlace}
    (hv : Value.okWide Try.prog W .any base 33 v) (ht : DataW.Trod enc Try.prog W 0 (fun _ => true) true 33 v d p) (hlt : ∀ x ∈ p, x.block < W.heap.size) :
    ∃ fs, Items W W.heap.size v fs := by
  obtain ⟨a0, len, cap, rfl⟩ := okWide_slice Try.underlying33 hv
  obtain ⟨fuel, hf⟩ := ht
  rcases Go.Deep.open_slice Try.underlying33 hf with ⟨hcs, hx⟩ | ⟨a, len', cap', m, n, D, Pl, hcs, hb, hl, hm, hmm, hx, hi⟩
  · simp [Value.cells] at hcs
    obtain ⟨rfl, rfl, rfl⟩ := hcs
    exact ⟨[], none, 0, rfl, Nat.le_refl _, fun h => absurd h (by simp)⟩
  · simp [Value.cells] at hcs
    obtain ⟨rfl, rfl, rfl⟩ := hcs
    simp only [Prod.mk.injEq] at hx
    obtain ⟨rfl, rfl⟩ := hx
    simp only [if_true] at hmm
    rw [Try.cellsItem] at hi hlt
    obtain ⟨fs, hfl, hfs⟩ := listOf (p := fun i f => ItemAt W (a.add (i * 6)) f) (n := len) fun i h => by
      obtain ⟨cs, h1, h2⟩ := hi i (by omega)
      exact item_cells h1 h2
    subst hfl
    refine ⟨fs, some a, cap, rfl, hl, fun h0 => ⟨a, rfl, ?_, hfs⟩⟩
    have hs : a.spot = none := by
      have := (hfs 0 h0).1
      have := World.cell?_spot this
      simpa [Addr.add] using this
    obtain ⟨b, off, spot⟩ := a
    simp at hs
    subst hs
    exact hlt (.cell b off) (List.mem_append_left _ (MemPlace.mem_row.2 ⟨0, by omega, by simp⟩))

end Go.Proofs.Ytbhdolghokhfnaa
