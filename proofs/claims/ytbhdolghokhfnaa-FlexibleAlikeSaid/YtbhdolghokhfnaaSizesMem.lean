/-
  The memory while flexible.Sizes makes its boxes.
-/
import Derived.Test.YtbhdolghokhfnaaRoundWalk
import Derived.Test.YtbhdolghokhfnaaSizesPlain
namespace Go.Proofs.Ytbhdolghokhfnaa
open Go.RowKit

/-- Whether the box in a block is settled. -/
def pS (gs : List Nat) (s : List Bo) (g : Nat) : Bool := (List.range gs.length).any fun i => gAt gs i == g && (boAt s i).2.isSome
theorem pS_at {gs : List Nat} {s : List Bo} (hn : gs.Nodup) {i : Nat} (hi : i < gs.length) : pS gs s (gAt gs i) = (boAt s i).2.isSome := by
  unfold pS
  rw [Bool.eq_iff_iff, List.any_eq_true]
  constructor
  · rintro ⟨j, hj, h⟩
    have hj' : j < gs.length := by simpa using hj
    simp only [Bool.and_eq_true, beq_iff_eq] at h
    by_cases e : j = i
    · rw [← e]
      exact h.2
    · exact absurd h.1 (gAt_ne hn hj' hi e)
  · intro h
    exact ⟨i, by simpa using hi, by simp [h]⟩
theorem gs_range (gs : List Nat) : gs = (List.range gs.length).map (gAt gs) := List.ext_getElem (by simp) fun i h1 h2 => by simp [gAt, h1]
theorem open_filter {gs : List Nat} {s : List Bo} (hn : gs.Nodup) (hl : gs.length = s.length) : (gs.filter fun g => !pS gs s g) = (opI s).map (gAt gs) := by
  refine (congrArg (List.filter fun g => !pS gs s g) (gs_range gs)).trans ?_
  rw [List.filter_map]
  unfold opI keptI
  rw [← hl]
  congr 1
  refine List.filter_congr fun i hi => ?_
  have hi' : i < gs.length := by simpa using hi
  show (!pS gs s (gAt gs i)) = _
  rw [pS_at hn hi']
theorem pS_cells {w : World} {gs : List Nat} {s : List Bo} (hn : gs.Nodup) (hl : gs.length = s.length) (hb : Boxes w gs s) (hi : ∀ g ∈ gs, g < w.heap.size) : ∀ g ∈ gs, g < w.heap.size ∧ w.cell? ⟨g, 8, none⟩ = some (.bool (pS gs s g)) := fun g hg => by
  obtain ⟨i, h, rfl⟩ := List.getElem_of_mem hg
  have e : gs[i] = gAt gs i := by simp [gAt, h]
  obtain ⟨go, hx⟩ := hb i (by omega)
  refine ⟨hi _ hg, ?_⟩
  rw [e, pS_at hn h]
  exact hx.cells.2.2.2.2.2.2.2
/-- k boxes have been made. -/
structure SzM2 (l : List It) (grow : Bool) (R : Int) (L : Nat) (w0 : World) (k : Nat) (vb : Value) (gs : List Nat) (W : World) : Prop where
  len : gs.length = k
  nodup : gs.Nodup
  lo : ∀ g ∈ gs, L < g
  hi : ∀ g ∈ gs, g < W.heap.size
  line : LineB W L vb R grow
  row : OwnsP W (L + 1) vb gs
  rout : ∀ j, vb.ownBlock = some j → j ∉ gs
  bx : ∀ j, j < k → ∃ go, BoxB W (gAt gs j) (itAt l j) (szOf (startAt grow (itAt l j))) go (startAt grow (itAt l j)).2.isSome
  below : Below L w0 W
section
variable {l : List It} {grow : Bool} {R : Int} {L : Nat} {w0 : World} {k : Nat} {vb : Value} {gs : List Nat} {W : World}
theorem SzM2.lt (h : SzM2 l grow R L w0 k vb gs W) : L < W.heap.size := Blk.lt h.line
theorem SzM2.alloc (h : SzM2 l grow R L w0 k vb gs W) (o : Obj) : SzM2 l grow R L w0 k vb gs (W.alloc o) := by
  have hb : Below W.heap.size W (W.alloc o) := (Below.refl _ _).alloc (Nat.le_refl _) _
  exact ⟨h.len, h.nodup, h.lo, fun g hg => by have := h.hi g hg; rw [World.size_alloc]; omega, Blk.alloc h.line o, h.row.below hb, h.rout,
    fun j hj => by obtain ⟨go, hx⟩ := h.bx j hj; exact ⟨go, Blk.alloc hx o⟩, h.below.trans (hb.mono (Nat.le_of_lt h.lt))⟩
theorem SzM2.drewN (h : SzM2 l grow R L w0 k vb gs W) (n : Nat) : SzM2 l grow R L w0 k vb gs (W.drewN n) :=
  ⟨h.len, h.nodup, h.lo, h.hi, h.line, h.row, h.rout, h.bx, below_drewN h.below n⟩
theorem gAt_mem {gs : List Nat} {j : Nat} (h : j < gs.length) : gAt gs j ∈ gs := by
  unfold gAt
  simp [h]
theorem SzM2.setCell (h : SzM2 l grow R L w0 k vb gs W) {p : Addr} (hL : L < p.block) (hg : p.block ∉ gs) (hr : ∀ j, vb.ownBlock = some j → j ≠ p.block) (u : Value) : SzM2 l grow R L w0 k vb gs (W.setCell p u) :=
  ⟨h.len, h.nodup, h.lo, fun g hg => by simpa [World.setCell] using h.hi g hg, Blk.far h.line (by omega) u, h.row.setCell (fun j e => hr j e) u, h.rout,
    fun j hj => by
      obtain ⟨go, hx⟩ := h.bx j hj
      exact ⟨go, Blk.far hx (fun e => hg (e ▸ gAt_mem (by rw [h.len]; exact hj))) u⟩, h.below.setCell (p := p) (by omega) u⟩
theorem SzM2.room (h : SzM2 l grow R L w0 k vb gs W) (z : Int) : SzM2 l grow z L w0 k vb gs (W.setCell ⟨L, 1, none⟩ (.int .i64 z)) := by
  have h2 := Blk.set_ h.line 1 (.int .i64 z)
  refine ⟨h.len, h.nodup, h.lo, fun g hg => by simpa [World.setCell] using h.hi g hg, by simpa [LineB] using h2, h.row.setCell (fun j e => by have := (h.row.lt j e).1; show j ≠ L; omega) _, h.rout,
    fun j hj => ?_, h.below.setCell (p := ⟨L, 1, none⟩) (Nat.le_refl _) _⟩
  obtain ⟨go, hx⟩ := h.bx j hj
  exact ⟨go, Blk.far hx (by have := h.lo _ (gAt_mem (by rw [h.len]; exact hj)); show gAt gs j ≠ L; omega) _⟩
/-- One more box. -/
theorem SzM2.push (h : SzM2 l grow R L w0 k vb gs W) {gb : Nat} {v' : Value} {w' : World} (hgl : L < gb) (hgh : gb < W.heap.size) (hgn : gb ∉ gs) (hvg : ∀ j, vb.ownBlock = some j → j ≠ gb)
    {sz go : Int} {st : Bool} (hb : BoxB W gb (itAt l k) sz go st) (hsz : szOf (startAt grow (itAt l k)) = sz) (hst : (startAt grow (itAt l k)).2.isSome = st)
    (hown : OwnsP w' (L + 1) v' (gs ++ [gb])) (hgr : W.grownBy w' vb.ownBlock) (hv : v'.ownBlock = vb.ownBlock ∨ ∀ j, v'.ownBlock = some j → W.heap.size ≤ j) :
    SzM2 l grow R L w0 (k + 1) v' (gs ++ [gb]) (w'.setCell ⟨L, 0, none⟩ v') := by
  have hne : ∀ g, g ∈ gs ++ [gb] → some g ≠ vb.ownBlock := fun g hg e => by
    rcases List.mem_append.1 hg with hg | hg
    · exact h.rout g e.symm hg
    · obtain rfl : g = gb := by simpa using hg
      exact hvg g e.symm rfl
  have hLne : some L ≠ vb.ownBlock := fun e => by have := (h.row.lt L e.symm).1; omega
  have hline : Blk w' L 76 #[vb, .int .i64 R, .bool grow] := Blk.grown h.line hgr hLne
  have hl2 := Blk.set_ hline 0 v'
  have hbelow : Below L w0 w' := h.below.trans (below_of_grown rfl hgr (Nat.le_of_lt h.lt) (fun j e => by have := (h.row.lt j e).1; omega))
  refine ⟨by simp [h.len], ?_, fun g hg => ?_, fun g hg => ?_, by simpa [LineB] using hl2, hown.setCell (fun j e => by have := (hown.lt j e).1; show j ≠ L; omega) _, fun j e hm => ?_, fun j hj => ?_, hbelow.setCell (p := ⟨L, 0, none⟩) (Nat.le_refl _) _⟩
  · rw [List.nodup_append]
    exact ⟨h.nodup, by simp, fun a ha b hb e => by simp at hb; subst hb; subst e; exact hgn ha⟩
  · rcases List.mem_append.1 hg with hg | hg
    · exact h.lo g hg
    · obtain rfl : g = gb := by simpa using hg
      exact hgl
  · have hs := hgr.size
    have : g < W.heap.size := by
      rcases List.mem_append.1 hg with hg | hg
      · exact h.hi g hg
      · obtain rfl : g = gb := by simpa using hg
        exact hgh
    simp [World.setCell]
    omega
  · rcases hv with hv | hv
    · exact hne j hm (by rw [← hv, e])
    · have := hv j e
      have : j < W.heap.size := by
        rcases List.mem_append.1 hm with hg | hg
        · exact h.hi j hg
        · obtain rfl : j = gb := by simpa using hg
          exact hgh
      omega
  · rcases Nat.lt_or_eq_of_le (Nat.le_of_lt_succ hj) with hj | rfl
    · obtain ⟨go', hx⟩ := h.bx j hj
      have hm := gAt_mem (gs := gs) (j := j) (by rw [h.len]; exact hj)
      have e : gAt (gs ++ [gb]) j = gAt gs j := by
        unfold gAt
        simp [List.getElem?_append_left (show j < gs.length by rw [h.len]; exact hj)]
      rw [e]
      exact ⟨go', Blk.far (Blk.grown hx hgr (hne _ (List.mem_append_left _ hm))) (by have := h.lo _ hm; show gAt gs j ≠ L; omega) _⟩
    · have e : gAt (gs ++ [gb]) j = gb := by
        unfold gAt
        rw [← h.len]
        simp
      rw [e, hsz, hst]
      exact ⟨go, Blk.far (Blk.grown hb hgr (hne _ (by simp))) (by show gb ≠ L; omega) _⟩
end

end Go.Proofs.Ytbhdolghokhfnaa
