/-
  Rows of what fixed.Share gives, in the call's own memory: appended to; sorted; read.
-/
import Derived.Test.YtbhdolghokhfnaaGiven
import Derived.Laws.OwnMore
import Derived.Shelf.GgSortFunc.RowK
namespace Go.Proofs.Ytbhdolghokhfnaa
open Go.RowKit

theorem Try.infoGiven : (Try.prog.info? 64).map (fun i => (i.zero, i.size, i.bytes)) = some (some (.agg #[.int .i64 0, .int .i64 0, .int .u64 0]), 3, 24) := by kernel_rfl

def encG (q l : Nat → Nat) (i : Nat) : List Value := [.int .i64 (q i : Nat), .int .i64 (i : Nat), .int .u64 (l i : Nat)]
def rowG (q l : Nat → Nat) (k : Nat) : List Value := (List.range k).flatMap (encG q l)
theorem encG_len (q l : Nat → Nat) (i : Nat) : (encG q l i).length = 3 := rfl
theorem rowG_succ (q l : Nat → Nat) (k : Nat) : rowG q l (k + 1) = rowG q l k ++ encG q l k := by
  unfold rowG
  rw [List.range_succ, List.flatMap_append]
  simp
theorem rowG_len (q l : Nat → Nat) : ∀ k, (rowG q l k).length = k * 3
  | 0 => rfl
  | k + 1 => by rw [rowG_succ, List.length_append, rowG_len q l k, encG_len]; omega
theorem rowG_get (q l : Nat → Nat) : ∀ k j, j < k * 3 → (rowG q l k)[j]? = some ((encG q l (j / 3))[j % 3]!)
  | 0, j, h => by omega
  | k + 1, j, h => by
    rw [rowG_succ]
    rcases Nat.lt_or_ge j (k * 3) with h1 | h1
    · rw [List.getElem?_append_left (by rw [rowG_len]; exact h1)]
      exact rowG_get q l k j h1
    · rw [List.getElem?_append_right (by rw [rowG_len]; exact h1), rowG_len]
      obtain ⟨d, rfl⟩ : ∃ d, j = k * 3 + d := ⟨j - k * 3, by omega⟩
      have hd : d < 3 := by omega
      rw [show (k * 3 + d) / 3 = k by omega, show (k * 3 + d) % 3 = d by omega, show k * 3 + d - k * 3 = d by omega]
      rcases (show d = 0 ∨ d = 1 ∨ d = 2 by omega) with rfl | rfl | rfl <;> rfl

def OwnsG (w : World) (base : Nat) (v : Value) (q l : Nat → Nat) (k : Nat) : Prop := w.ownsRow base 64 3 v k (rowG q l k)
theorem OwnsG.nil (w : World) (base : Nat) (q l : Nat → Nat) : OwnsG w base (.slice none 0 0) q l 0 := World.ownsRow_nil _ _ _ _
theorem OwnsG.below {w w' : World} {base : Nat} {v : Value} {q l : Nat → Nat} {k : Nat} (h : OwnsG w base v q l k) (hb : Below w.heap.size w w') : OwnsG w' base v q l k := by
  refine World.ownsRow.kept (row := none) h ⟨hb.os, hb.tape, hb.output, hb.size, fun k hk _ => hb.block k hk⟩ ?_
  cases hv : v.ownBlock with
  | none => exact .inl rfl
  | some g => exact .inr (by simp)
theorem OwnsG.form {w : World} {base : Nat} {v : Value} {q l : Nat → Nat} {k : Nat} (h : OwnsG w base v q l k) (hk : 0 < k) : ∃ g cap, v = .slice (some ⟨g, 0, none⟩) k cap ∧ base ≤ g ∧ g < w.heap.size ∧ k ≤ cap ∧
    Sort.HoldsK (encG q l) 3 w g 0 (Array.range k) := by
  rcases h.2 with ⟨_, h0⟩ | ⟨g, cap, cur, rfl, hg, hb, hc, _, hs, ht⟩
  · omega
  · refine ⟨g, cap, rfl, hg, (Array.getElem?_eq_some_iff.1 hb).1, hc, fun j hj => ?_⟩
    rw [Sort.size_flatK, Array.size_range] at hj
    rw [Sort.get_flatK _ _ _ _ (by simpa using hj), Nat.zero_add]
    refine ⟨?_, by simp [World.frozen?, hb]⟩
    have h1 := rowG_get q l k j hj
    rw [← ht, List.getElem?_take_of_lt hj] at h1
    have h2 : w.cell? ⟨g, j, none⟩ = cur[j]? := cell_of_row w g j cur _ _ hb
    rw [h2, ← Array.getElem?_toList, h1]
    have h3 : (Array.range k)[j / 3]! = j / 3 := by
      rw [getElem!_pos _ _ (by simp; omega)]
      simp
    rw [h3]
    rfl

/-- 'all = append(all, given{..})': the one element lies in a new block of its own. -/
theorem append_given {ops : Array Oper} {rest : List Oper} {o : Oper} {a : Act} {Q : Exit → Act → World → Prop} (w : World) (q l : Nat → Nat) (k : Nat) (hgd : o.guard = none) (s x : Operand)
    (ho : o.op = .call { callee := .builtin .append, args := #[s, x], argTypes := #[58, 58] })
    (base : Nat) (v : Value) (hs : a.eval s = v) (hown : OwnsG w base v q l k)
    (hx : a.eval x = .slice (some ⟨w.heap.size, 0, none⟩) 1 1)
    (h47 : k < 1000000) (hbase : base ≤ w.heap.size)
    (c1 c2 c3 : Value) (e1 : c1 = .int .i64 (q k : Nat)) (e2 : c2 = .int .i64 (k : Nat)) (e3 : c3 = .int .u64 (l k : Nat))
    (h : ∀ v' w', OwnsG w' base v' q l (k + 1) → w.grownBy w' v.ownBlock → wpList Try.prog ops Q rest (a.put o.dst v') w') : wpList Try.prog ops Q (o :: rest) a (w.alloc (.cells #[c1, c2, c3] 64)) := by
  subst e1 e2 e3
  obtain ⟨i0, hi0, hz0, hz1, hz2⟩ := info_parts Try.infoGiven
  refine wpList_append_any _ hgd s x _ ho base 64 i0 _ 3 24 Try.underlying58 hi0 hz0 hz1 hz2 rfl (by omega) v _ _ hs (World.ownsRow.alloc hown _) (w.heap.size + 1) _ 1 1 (encG q l k) hx ?_ ?_ (by simp only [maxLen]; omega) (by omega) (by simp; omega) ?_
  · refine ⟨rfl, fun _ => ⟨_, rfl, by simp, fun j u hu => ?_⟩⟩
    have e : (⟨w.heap.size, 0, none⟩ : Addr).add j = ⟨w.heap.size, j, none⟩ := by unfold Addr.add; split <;> simp_all
    rw [e, (Blk.new w 64 #[.int .i64 (q k : Nat), .int .i64 (k : Nat), .int .u64 (l k : Nat)]).cell j]
    simpa [encG] using hu
  · intro u hu
    simp [encG] at hu
    rcases hu with rfl | rfl | rfl <;> rfl
  · intro v' w' h1 h2 _
    refine h v' w' (by unfold OwnsG; rw [rowG_succ]; exact h1) ?_
    exact ⟨h2.os, h2.tape, h2.output, Nat.le_trans (by simp) h2.size, fun i hi hne => (h2.block i (by simp; omega) hne).trans (Below.heap_alloc w _ i hi)⟩

/-- .. sorted: read where they stand. -/
theorem sorted_cells {w : World} {g : Nat} {q l : Nat → Nat} {L : List Nat} (h : Sort.HoldsK (encG q l) 3 w g 0 L.toArray) {k : Nat} (hk : k < L.length) :
    w.cell? ⟨g, k * 3, none⟩ = some (.int .i64 (q L[k] : Nat)) ∧ w.cell? ⟨g, k * 3 + 1, none⟩ = some (.int .i64 (L[k] : Nat)) ∧ w.cell? ⟨g, k * 3 + 2, none⟩ = some (.int .u64 (l L[k] : Nat)) := by
  have hh : ∀ c, c < 3 → w.cell? ⟨g, k * 3 + c, none⟩ = some ((encG q l L[k])[c]!) := fun c hc => by
    have hb : k * 3 + c < L.toArray.size * 3 := by simp; omega
    have h1 := (h (k * 3 + c) (by rw [Sort.size_flatK]; exact hb)).1
    rw [Sort.get_flatK _ _ _ _ hb, Nat.zero_add, show (k * 3 + c) / 3 = k by omega, show (k * 3 + c) % 3 = c by omega] at h1
    rw [h1, getElem!_pos L.toArray k (by simpa using hk)]
    simp
  exact ⟨hh 0 (by omega), hh 1 (by omega), hh 2 (by omega)⟩
theorem HoldsG.block {w w' : World} {g : Nat} {q l : Nat → Nat} {L : List Nat} (h : Sort.HoldsK (encG q l) 3 w g 0 L.toArray) (hb : w'.heap[g]? = w.heap[g]?) : Sort.HoldsK (encG q l) 3 w' g 0 L.toArray :=
  fun j hj => ⟨(World.cell?_of_block (a := ⟨g, 0 + j, none⟩) hb).trans (h j hj).1, (World.frozen?_of_block (a := ⟨g, 0 + j, none⟩) hb).trans (h j hj).2⟩

/-- A slice made of so many zeros, and its row as it is written. -/
theorem owns_of_blk {w : World} {g base : Nat} {zs : List Int} (h : Blk w g 3 (zs.map (Value.int .i64)).toArray) (hb : base ≤ g) (hm : zs.length ≤ 1000000) : Owns w base (.slice (some ⟨g, 0, none⟩) zs.length zs.length) zs := by
  refine ⟨by simp, .inr ⟨g, zs.length, _, rfl, hb, h, Nat.le_refl _, by unfold maxLen; omega, by simp, ?_⟩⟩
  rw [List.take_of_length_le (by simp)]
theorem made_zeros (n : Nat) : madeCells #[.int .i64 0] n = ((List.replicate n (0 : Int)).map (Value.int .i64)).toArray := by
  apply Array.ext'
  rw [toList_madeCells_one]
  simp

end Go.Proofs.Ytbhdolghokhfnaa
