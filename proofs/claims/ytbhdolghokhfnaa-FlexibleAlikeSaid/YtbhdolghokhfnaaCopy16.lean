/-
  Walks: rows of boxes in the call's own memory; windowpaneref16.Copy.
-/
import Derived.Test.YtbhdolghokhfnaaItems
import Derived.Deep.RegionHeld3
namespace Go.Proofs.Ytbhdolghokhfnaa
open Go.RowKit

theorem Try.infoItem : (Try.prog.info? 39).map (fun i => (i.zero, i.size, i.bytes)) = some (some (.agg #[.int .i64 0, .int .i64 0, .int .i64 0, .int .i64 0, .int .i64 0, .int .i64 0]), 6, 48) := by kernel_rfl
def encT (x : It) : List Value := [.int .i64 x.base, .int .i64 x.least, .int .i64 x.most, .int .i64 x.grow, .int .i64 x.shrink, .int .i64 x.outer]
def rowT (L : List It) : List Value := L.flatMap encT
theorem rowT_snoc (L : List It) (x : It) : rowT (L ++ [x]) = rowT L ++ encT x := by simp [rowT]
theorem rowT_append (L M : List It) : rowT (L ++ M) = rowT L ++ rowT M := by simp [rowT]
theorem rowT_len : ∀ L : List It, (rowT L).length = L.length * 6
  | [] => rfl
  | x :: L => by
    show (encT x ++ rowT L).length = _
    rw [List.length_append, rowT_len L]
    simp [encT]
    omega
theorem rowT_at : ∀ {L : List It} {k : Nat} (hk : k < L.length) (j : Nat), j < 6 → (rowT L)[k * 6 + j]? = (encT L[k])[j]?
  | x :: L, 0, _, j, hj => by
    show (encT x ++ rowT L)[_]? = _
    rw [List.getElem?_append_left (by simp [encT]; omega)]
    simp
  | x :: L, k + 1, hk, j, hj => by
    have h := rowT_at (L := L) (k := k) (by simpa using hk) j hj
    show (encT x ++ rowT L)[_]? = _
    rw [List.getElem?_append_right (by simp [encT]; omega), show (k + 1) * 6 + j - (encT x).length = k * 6 + j by simp [encT]; omega, h]
    simp
theorem rowT_one (L : List It) : ∀ u ∈ rowT L, u.oneCell' = true := by
  intro u hu
  unfold rowT at hu
  obtain ⟨x, _, hx⟩ := List.mem_flatMap.1 hu
  simp [encT] at hx
  rcases hx with rfl | rfl | rfl | rfl | rfl | rfl <;> rfl
def OwnsT (w : World) (base : Nat) (v : Value) (L : List It) : Prop := w.ownsRow base 39 6 v L.length (rowT L)
theorem OwnsT.nil (w : World) (base : Nat) : OwnsT w base (.slice none 0 0) [] := World.ownsRow_nil _ _ _ _
theorem OwnsT.lt {w : World} {base : Nat} {v : Value} {L : List It} (h : OwnsT w base v L) : ∀ k, v.ownBlock = some k → base ≤ k ∧ k < w.heap.size := World.ownsRow.lt h
theorem OwnsT.alloc {w : World} {base : Nat} {v : Value} {L : List It} (h : OwnsT w base v L) (o : Obj) : OwnsT (w.alloc o) base v L := World.ownsRow.alloc h o
theorem OwnsT.below {w w' : World} {base : Nat} {v : Value} {L : List It} (h : OwnsT w base v L) (hb : Below w.heap.size w w') : OwnsT w' base v L := by
  refine World.ownsRow.kept (row := none) h ⟨hb.os, hb.tape, hb.output, hb.size, fun k hk _ => hb.block k hk⟩ ?_
  cases hv : v.ownBlock with
  | none => exact .inl rfl
  | some g => exact .inr (by simp)
theorem OwnsT.items {w : World} {base : Nat} {v : Value} {L : List It} (h : OwnsT w base v L) : Items w w.heap.size v L := by
  rcases h.2 with ⟨rfl, e⟩ | ⟨g, cap, cur, rfl, hg, hb, hc, _, hs, ht⟩
  · obtain rfl := List.eq_nil_of_length_eq_zero e
    exact ⟨none, 0, rfl, Nat.le_refl _, fun h => absurd h (by simp)⟩
  · refine ⟨_, cap, rfl, hc, fun h0 => ⟨_, rfl, (Array.getElem?_eq_some_iff.1 hb).1, fun k hk => ?_⟩⟩
    have hcell : ∀ j, j < 6 → w.cell? ⟨g, k * 6 + j, none⟩ = (encT L[k])[j]? := fun j hj => by
      rw [cell_of_row w g _ cur _ _ hb, ← rowT_at hk j hj, ← ht, List.getElem?_take_of_lt (by omega), Array.getElem?_toList]
    have e : (⟨g, 0, none⟩ : Addr).add (k * 6) = ⟨g, k * 6, none⟩ := by unfold Addr.add; split <;> simp_all
    rw [e]
    exact ⟨hcell 0 (by omega), hcell 1 (by omega), hcell 2 (by omega), hcell 3 (by omega), hcell 4 (by omega), hcell 5 (by omega)⟩
/-- The cells of a row of boxes, as an append reads them. -/
theorem items_reads {w : World} {B c : Nat} {A : Option Addr} {l : List It} (h : Items w B (.slice A l.length c) l) : Reads w B 6 A l.length (rowT l) := by
  obtain ⟨A', c', e, hc, hf⟩ := h
  injection e with e1 _ e3
  subst e1 e3
  refine ⟨rowT_len l, fun h0 => ?_⟩
  obtain ⟨ad, e, hb, hh⟩ := hf h0
  refine ⟨ad, e, hb, fun j u hu => ?_⟩
  have hs : ad.spot = none := by
    have := World.cell?_spot (hh 0 h0).1
    simpa [Addr.add] using this
  have hj : j < l.length * 6 := by
    rcases Nat.lt_or_ge j (rowT l).length with h | h
    · rwa [rowT_len] at h
    · rw [List.getElem?_eq_none h] at hu; cases hu
  obtain ⟨b, off, spot⟩ := ad
  simp at hs
  subst hs
  have hk : j / 6 < l.length := by omega
  have hm : j % 6 < 6 := Nat.mod_lt _ (by omega)
  have hu2 : (encT l[j / 6])[j % 6]? = some u := by
    rw [← rowT_at hk _ hm, show j / 6 * 6 + j % 6 = j by omega]
    exact hu
  obtain ⟨k0, k1, k2, k3, k4, k5⟩ := hh (j / 6) hk
  have e0 : (⟨b, off, none⟩ : Addr).add j = ⟨b, off + j, none⟩ := by simp [Addr.add]
  rw [e0, show off + j = off + j / 6 * 6 + j % 6 from by omega]
  have e1 : (⟨b, off, none⟩ : Addr).add (j / 6 * 6) = ⟨b, off + j / 6 * 6, none⟩ := by simp [Addr.add]
  rw [e1] at k0 k1 k2 k3 k4 k5
  simp only at k0 k1 k2 k3 k4 k5
  rcases (show j % 6 = 0 ∨ j % 6 = 1 ∨ j % 6 = 2 ∨ j % 6 = 3 ∨ j % 6 = 4 ∨ j % 6 = 5 by omega) with e | e | e | e | e | e
  all_goals
    rw [e] at hu2 ⊢
    simp [encT] at hu2
    subst hu2
    first | exact k0 | exact k1 | exact k2 | exact k3 | exact k4 | exact k5

/-- 'out = append(out, l...)' over boxes. -/
theorem append_items {ops : Array Oper} {rest : List Oper} {o : Oper} {a : Act} {Q : Exit → Act → World → Prop} (w : World) (hgd : o.guard = none) (s x : Operand)
    (ho : o.op = .call { callee := .builtin .append, args := #[s, x], argTypes := #[33, 33] })
    (base : Nat) (v : Value) (L : List It) (hs : a.eval s = v) (hown : OwnsT w base v L)
    (B : Nat) (u : Value) (l : List It) (hx : a.eval x = u) (hu : Items w B u l)
    (h47 : L.length + l.length ≤ 1000000) (hbase : base ≤ w.heap.size)
    (h : ∀ v' w', OwnsT w' base v' (L ++ l) → w.grownBy w' v.ownBlock → Below base w w' → wpList Try.prog ops Q rest (a.put o.dst v') w') : wpList Try.prog ops Q (o :: rest) a w := by
  obtain ⟨i0, hi0, hz0, hz1, hz2⟩ := info_parts Try.infoItem
  have hu' := hu
  obtain ⟨A, c, rfl, hc, _⟩ := hu
  have hlt := fun k (e : v.ownBlock = some k) => (World.ownsRow.lt hown k e).1
  refine wpList_append_any w hgd s x _ ho base 39 i0 _ 6 48 Try.underlying33 hi0 hz0 hz1 hz2 rfl (by omega) v _ _ hs hown B A _ c _ hx (items_reads hu') (rowT_one l) (by simp only [maxLen]; omega) (by omega) hbase ?_
  intro v' w' h1 h2 _
  refine h v' w' (by unfold OwnsT; rw [List.length_append, rowT_append]; exact h1) h2 (below_of_grown rfl h2 hbase hlt)

/-- 'out = append(out, x)': the one box lies in a new block of its own. -/
theorem Items.built (w : World) (L : List It) (B : Nat) (hB : w.heap.size < B) : Items (w.alloc (.cells (rowT L).toArray 39)) B (.slice (some ⟨w.heap.size, 0, none⟩) L.length L.length) L := by
  refine ⟨_, _, rfl, Nat.le_refl _, fun h0 => ⟨_, rfl, hB, fun k hk => ?_⟩⟩
  have hcell : ∀ j, j < 6 → (w.alloc (.cells (rowT L).toArray 39)).cell? ⟨w.heap.size, k * 6 + j, none⟩ = (encT L[k])[j]? := fun j hj => by
    rw [(Blk.new w 39 (rowT L).toArray).cell, ← rowT_at hk j hj]
    simp
  have e : (⟨w.heap.size, 0, none⟩ : Addr).add (k * 6) = ⟨w.heap.size, k * 6, none⟩ := by unfold Addr.add; split <;> simp_all
  rw [e]
  exact ⟨hcell 0 (by omega), hcell 1 (by omega), hcell 2 (by omega), hcell 3 (by omega), hcell 4 (by omega), hcell 5 (by omega)⟩

set_option maxRecDepth 100000 in
set_option maxHeartbeats 400000 in
theorem copy16_any (l : List It) (v : Value) (B : Nat) (w : World) (h : Items w B v l) (hm : l.length ≤ 1000000) :
    Calls Try.prog 21 #[v] w fun e w' => ∃ v', e = .returned v' ∧ OwnsT w' w.heap.size v' l ∧ Below w.heap.size w w' := by
  go_enter Try.func21, Try.ntmps21
  go_wp2_with (at_builtin; refine append_items _ rfl _ _ rfl w.heap.size (.slice none 0 0) [] rfl (OwnsT.nil _ _) B v l rfl h (by simpa using hm) (Nat.le_refl _) ?_; intro v3 w3 hown3 _ hb3)
  go_ret
  exact ⟨_, rfl, by simpa using hown3, hb3⟩

end Go.Proofs.Ytbhdolghokhfnaa
