/-
  A row of bytes of the call's own: appended to, read, made a string.
-/
import Derived.Laws.IdiomStrings
import Derived.Test.YtaoehdmdjplegaaGreatDoorReadBehind
namespace Go.Proofs.YtaoehdmdjplegaaGreatDoor
open Go.RowKit Go.Shelf

theorem Tryz.infoU8 : (Tryz.prog.info? 5).map (fun i => (i.zero, i.size, i.bytes)) = some (some (.int .u8 0), 1, 1) := by kernel_rfl
def byV (l : List UInt8) : List Value := l.map fun x => Value.int .u8 (x.toNat : Nat)
theorem byV_snoc (l : List UInt8) (c : UInt8) : byV (l ++ [c]) = byV l ++ byV [c] := by simp [byV]
/-- A row of bytes of the call's own. -/
def OwnsY (w : World) (base : Nat) (v : Value) (l : List UInt8) : Prop := w.ownsRow base 5 1 v l.length (byV l)
theorem OwnsY.nil (w : World) (base : Nat) : OwnsY w base (.slice none 0 0) [] := World.ownsRow_nil _ _ _ _
theorem OwnsY.drewN {w : World} {base : Nat} {v : Value} {l : List UInt8} (h : OwnsY w base v l) (n : Nat) : OwnsY (w.drewN n) base v l := h
theorem OwnsY.below {w w' : World} {base : Nat} {v : Value} {l : List UInt8} (h : OwnsY w base v l) (hb : Below w.heap.size w w') : OwnsY w' base v l := by
  refine World.ownsRow.kept (row := none) h ⟨hb.os, hb.tape, hb.output, hb.size, fun k hk _ => hb.block k hk⟩ ?_
  cases hv : v.ownBlock with
  | none => exact .inl rfl
  | some g => exact .inr (by simp)
theorem OwnsY.base_le {w : World} {base base' : Nat} {v : Value} {l : List UInt8} (h : OwnsY w base v l) (hb : base' ≤ base) : OwnsY w base' v l := by
  obtain ⟨h1, h2⟩ := h
  refine ⟨h1, ?_⟩
  rcases h2 with h2 | ⟨g, cap, cur, e, hg, r⟩
  · exact .inl h2
  · exact .inr ⟨g, cap, cur, e, by omega, r⟩
/-- It can be read. -/
theorem OwnsY.byts {w : World} {base : Nat} {v : Value} {l : List UInt8} (h : OwnsY w base v l) : Byts w w.heap.size v l := by
  rcases h.2 with ⟨rfl, h0⟩ | ⟨g, cap, cur, rfl, hg, hb, hc, _, hs, ht⟩
  · refine ⟨none, 0, by rw [h0], by omega, by simp, fun hn => absurd hn (by omega)⟩
  · exact ⟨_, _, rfl, hc, Reads.of_own h⟩
/-- 'out = append(out, c)': the one byte lies in a new block of its own. -/
theorem append_byte {ops : Array Oper} {rest : List Oper} {o : Oper} {a : Act} {Q : Exit → Act → World → Prop} (w : World) (c : UInt8) (cv : Value) (hcv : cv = .int .u8 (c.toNat : Nat)) (hgd : o.guard = none) (s x : Operand)
    (ho : o.op = .call { callee := .builtin .append, args := #[s, x], argTypes := #[22, 22] })
    (base : Nat) (v : Value) (l : List UInt8) (hs : a.eval s = v) (hown : OwnsY w base v l)
    (hx : a.eval x = .slice (some ⟨w.heap.size, 0, none⟩) 1 1)
    (h47 : l.length < 17592186044416) (hbase : base ≤ w.heap.size)
    (h : ∀ v' w', OwnsY w' base v' (l ++ [c]) → Below base w w' → wpList Tryz.prog ops Q rest (a.put o.dst v') w') : wpList Tryz.prog ops Q (o :: rest) a (w.alloc (.cells #[cv] 5)) := by
  subst hcv
  obtain ⟨i0, hi0, hz0, hz1, hz2⟩ := info_parts Tryz.infoU8
  have hlt := fun k (e : v.ownBlock = some k) => (World.ownsRow.lt hown k e).1
  have hr : Reads (w.alloc (.cells #[.int .u8 (c.toNat : Nat)] 5)) (w.heap.size + 1) 1 (some ⟨w.heap.size, 0, none⟩) 1 (byV [c]) := by
    refine ⟨by simp [byV], fun hn => ⟨_, rfl, by simp, fun j u hu => ?_⟩⟩
    have e : (⟨w.heap.size, 0, none⟩ : Addr).add j = ⟨w.heap.size, j, none⟩ := by unfold Addr.add; split <;> simp_all
    rw [e, (Blk.new w 5 #[.int .u8 (c.toNat : Nat)]).cell j]
    simpa [byV] using hu
  refine wpList_append_any _ hgd s x _ ho base 5 i0 _ 1 1 Tryz.underlying22 hi0 hz0 hz1 hz2 rfl (by omega) v _ _ hs (World.ownsRow.alloc hown _) (w.heap.size + 1) _ 1 1 (byV [c]) hx hr ?_ (by simp only [maxLen]; omega) (by omega) (by simp; omega) ?_
  · intro u hu
    simp [byV] at hu
    subst hu
    rfl
  · intro v' w' h1 h2 _
    refine h v' w' (by unfold OwnsY; rw [List.length_append, byV_snoc]; exact h1) ?_
    exact ((Below.refl base w).alloc hbase _).grown h2 (by simp; omega) (fun k e => hlt k e)
/-- 'string(b)'. -/
theorem byts_string {w : World} {B : Nat} {v : Value} {l : List UInt8} (h : Byts w B v l) : (convert 22 9 v).run Tryz.prog w = .ok (.string (mkB l)) w := by
  obtain ⟨A, c, rfl, hc, hr⟩ := h
  rcases A with _ | ad
  · have hl : l = [] := by
      cases l with
      | nil => rfl
      | cons x l =>
        obtain ⟨ad, e, _⟩ := hr.2 (by simp)
        cases e
    subst hl
    exact run_convert_bytes_nil w _ _ Tryz.underlying22 Tryz.underlying5 _ _ _ Tryz.underlying9
  · exact run_convert_bytes_back w _ _ 5 ad c l Tryz.underlying22 Tryz.underlying5 Tryz.underlying9 fun j hj => by
      obtain ⟨ad', e, _, h4⟩ := byts_val hr hj
      injection e with e
      subst e
      exact h4

end Go.Proofs.YtaoehdmdjplegaaGreatDoor
