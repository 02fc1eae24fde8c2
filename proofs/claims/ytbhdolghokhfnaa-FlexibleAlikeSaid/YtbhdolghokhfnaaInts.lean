/-
  Slices of ints: read ('Ints'), owned ('Owns'), appended to; 'Quiet': only draws lie between two worlds; 'Grew': new blocks and writes to blocks from 'base' on.
-/
import Derived.Test.YtbhdolghokhfnaaLift
namespace Go.Proofs.Ytbhdolghokhfnaa
open Go.RowKit

/-- Only draws lie between. -/
def Quiet (w w' : World) : Prop := ∃ n, w' = w.drewN n
theorem Quiet.refl (w : World) : Quiet w w := ⟨0, rfl⟩
theorem Quiet.drewN {w w' : World} (h : Quiet w w') (n : Nat) : Quiet w (w'.drewN n) := by
  obtain ⟨m, rfl⟩ := h
  exact ⟨m + n, by rw [World.drewN_drewN]⟩
theorem Quiet.trans {a b c : World} (h : Quiet a b) (k : Quiet b c) : Quiet a c := by
  obtain ⟨m, rfl⟩ := k
  exact h.drewN m
theorem Quiet.below {w w' : World} (h : Quiet w w') (B : Nat) : Below B w w' := by
  obtain ⟨m, rfl⟩ := h
  exact below_drewN (Below.refl _ _) m

/-- New blocks, and writes to blocks from 'base' on. -/
def Grew (base : Nat) (w w' : World) : Prop := Below base w w'

/-- A slice of ints, nil let in, readable below block B. -/
def Ints (w : World) (B : Nat) (v : Value) (zs : List Int) : Prop :=
  ∃ A c, v = .slice A zs.length c ∧ zs.length ≤ c ∧ Reads w B 1 A zs.length (zs.map (Value.int .i64))
theorem Ints.nil (w : World) (B : Nat) : Ints w B (.slice none 0 0) [] := ⟨none, 0, rfl, Nat.le_refl _, Reads.none_⟩
theorem Ints.below {w w' : World} {B : Nat} {v : Value} {zs : List Int} (h : Ints w B v zs) (hb : Below B w w') : Ints w' B v zs := by
  obtain ⟨A, c, rfl, h1, h2⟩ := h
  exact ⟨A, c, rfl, h1, h2.below hb⟩
theorem Ints.more {w : World} {B B' : Nat} {v : Value} {zs : List Int} (h : Ints w B v zs) (hB : B ≤ B') : Ints w B' v zs := by
  obtain ⟨A, c, rfl, h1, h2⟩ := h
  exact ⟨A, c, rfl, h1, h2.more hB⟩
theorem Reads.val {w : World} {B : Nat} {A : Option Addr} {zs : List Int} (h : Reads w B 1 A zs.length (zs.map (Value.int .i64))) {k : Nat} (hk : k < zs.length) :
    ∃ ad, A = some ad ∧ ad.block < B ∧ w.cell? (ad.add k) = some (.int .i64 zs[k]) := by
  obtain ⟨ad, u, h1, h2, h3, h4⟩ := h.at_ hk
  rw [List.getElem?_eq_getElem (by simpa using hk)] at h3
  simp at h3
  subst h3
  exact ⟨ad, h1, h2, h4⟩

/-- A literal slice: 'buildSlice'. -/
theorem Ints.built (w : World) (zs : List Int) (t : TypeId) : Ints (w.alloc (.cells (zs.map (Value.int .i64)).toArray t)) (w.heap.size + 1) (.slice (some ⟨w.heap.size, 0, none⟩) zs.length zs.length) zs := by
  refine ⟨_, _, rfl, Nat.le_refl _, by simp, fun hn => ⟨_, rfl, by simp, fun j u hu => ?_⟩⟩
  have e : (⟨w.heap.size, 0, none⟩ : Addr).add j = ⟨w.heap.size, j, none⟩ := by unfold Addr.add; split <;> simp_all
  rw [e, (Blk.new w t (zs.map (Value.int .i64)).toArray).cell j]
  simpa using hu

/-- The call's own slice of ints. -/
def Owns (w : World) (base : Nat) (v : Value) (zs : List Int) : Prop := w.ownsRow base 3 1 v zs.length (zs.map (Value.int .i64))
theorem Owns.nil (w : World) (base : Nat) : Owns w base (.slice none 0 0) [] := World.ownsRow_nil _ _ _ _
theorem Owns.ints {w : World} {base : Nat} {v : Value} {zs : List Int} (h : Owns w base v zs) : Ints w w.heap.size v zs := by
  have h' := h
  obtain ⟨h1, h2⟩ := h
  rcases h2 with ⟨rfl, h0⟩ | ⟨g, cap, cur, rfl, _, _, hc, _, _, _⟩
  · obtain rfl := List.eq_nil_of_length_eq_zero h0
    exact Ints.nil _ _
  · exact ⟨_, _, rfl, hc, Reads.of_own h'⟩
theorem Owns.alloc {w : World} {base : Nat} {v : Value} {zs : List Int} (h : Owns w base v zs) (o : Obj) : Owns (w.alloc o) base v zs := World.ownsRow.alloc h o
theorem Owns.lt {w : World} {base : Nat} {v : Value} {zs : List Int} (h : Owns w base v zs) : ∀ k, v.ownBlock = some k → base ≤ k ∧ k < w.heap.size := World.ownsRow.lt h
theorem Owns.drewN {w : World} {base : Nat} {v : Value} {zs : List Int} (h : Owns w base v zs) (n : Nat) : Owns (w.drewN n) base v zs := h
theorem Owns.quiet {w w' : World} {base : Nat} {v : Value} {zs : List Int} (h : Owns w base v zs) (hq : Quiet w w') : Owns w' base v zs := by
  obtain ⟨n, rfl⟩ := hq
  exact h
theorem Owns.below {w w' : World} {base : Nat} {v : Value} {zs : List Int} (h : Owns w base v zs) (hb : Below w.heap.size w w') : Owns w' base v zs := by
  refine World.ownsRow.kept (row := none) h ⟨hb.os, hb.tape, hb.output, hb.size, fun k hk _ => hb.block k hk⟩ ?_
  cases hv : v.ownBlock with
  | none => exact .inl rfl
  | some g => exact .inr (by simp)
theorem Owns.base_le {w : World} {base base' : Nat} {v : Value} {zs : List Int} (h : Owns w base v zs) (hb : base' ≤ base) : Owns w base' v zs := by
  obtain ⟨h1, h2⟩ := h
  refine ⟨h1, ?_⟩
  rcases h2 with h2 | ⟨g, cap, cur, e, hg, r⟩
  · exact .inl h2
  · exact .inr ⟨g, cap, cur, e, by omega, r⟩
/-- What is in it can be told from its shape. -/
theorem Owns.form {w : World} {base : Nat} {v : Value} {zs : List Int} (h : Owns w base v zs) : ∃ A c, v = .slice A zs.length c := by
  obtain ⟨A, c, h1, _⟩ := h.ints
  exact ⟨A, c, h1⟩

theorem Try.infoInt : (Try.prog.info? 3).map (fun i => (i.zero, i.size, i.bytes)) = some (some (.int .i64 0), 1, 8) := by kernel_rfl
theorem oneCell_ints (zs : List Int) : ∀ u ∈ zs.map (Value.int .i64), u.oneCell' = true := by
  intro u hu
  simp at hu
  obtain ⟨_, _, rfl⟩ := hu
  rfl
theorem below_of_grown {w w' : World} {base : Nat} {v : Value} {row : Option Nat} (hrow : row = v.ownBlock) (hg : w.grownBy w' row) (hbase : base ≤ w.heap.size) (hlt : ∀ k, v.ownBlock = some k → base ≤ k) : Below base w w' :=
  ⟨hg.os, hg.tape, hg.output, hg.size, fun k hk => hg.block k (by omega) (fun e => by have := hlt k (by rw [← hrow, e]); omega)⟩

/-- 'out = append(out, xs...)'. -/
theorem append_ints {ops : Array Oper} {rest : List Oper} {o : Oper} {a : Act} {Q : Exit → Act → World → Prop} (w : World) (hgd : o.guard = none) (s x : Operand)
    (ho : o.op = .call { callee := .builtin .append, args := #[s, x], argTypes := #[22, 22] })
    (base : Nat) (v : Value) (zs : List Int) (hs : a.eval s = v) (hown : Owns w base v zs)
    (B : Nat) (u : Value) (xs : List Int) (hx : a.eval x = u) (hu : Ints w B u xs)
    (h47 : zs.length + xs.length ≤ 17592186044416) (hbase : base ≤ w.heap.size)
    (h : ∀ v' w', Owns w' base v' (zs ++ xs) → Below base w w' → wpList Try.prog ops Q rest (a.put o.dst v') w') : wpList Try.prog ops Q (o :: rest) a w := by
  obtain ⟨i0, hi0, hz0, hz1, hz2⟩ := info_parts Try.infoInt
  obtain ⟨A, c, rfl, hc, hr⟩ := hu
  refine wpList_append_any w hgd s x _ ho base 3 i0 _ 1 8 Try.underlying22 hi0 hz0 hz1 hz2 rfl (by omega) v _ _ hs hown B A _ c _ hx hr (oneCell_ints xs) (by simp only [maxLen]; omega) (by omega) hbase ?_
  intro v' w' h1 h2 _
  exact h v' w' (by simpa [Owns] using h1) (below_of_grown rfl h2 hbase fun k hk => (hown.lt k hk).1)

/-- 'out = append(out, n)': the one element lies in a new block of its own. -/
theorem append_int {ops : Array Oper} {rest : List Oper} {o : Oper} {a : Act} {Q : Exit → Act → World → Prop} (w : World) (n : Int) (hgd : o.guard = none) (s x : Operand)
    (ho : o.op = .call { callee := .builtin .append, args := #[s, x], argTypes := #[22, 22] })
    (base : Nat) (v : Value) (zs : List Int) (hs : a.eval s = v) (hown : Owns w base v zs)
    (hx : a.eval x = .slice (some ⟨w.heap.size, 0, none⟩) 1 1)
    (h47 : zs.length < 17592186044416) (hbase : base ≤ w.heap.size)
    (h : ∀ v' w', Owns w' base v' (zs ++ [n]) → Below base w w' → wpList Try.prog ops Q rest (a.put o.dst v') w') : wpList Try.prog ops Q (o :: rest) a (w.alloc (.cells #[.int .i64 n] 3)) :=
  append_ints _ hgd s x ho base v zs hs (hown.alloc _) _ _ [n] hx (Ints.built w [n] _) (by simp; omega) (by simp; omega)
    fun v' w' h1 h2 => h v' w' h1 (((Below.refl base w).alloc hbase _).trans h2)

end Go.Proofs.Ytbhdolghokhfnaa
