/-
  Operations that are guarded, and taken: whole structs loaded, compared.
-/
import Derived.Test.YtaoehdmdjplegaaGreatDoorEqC
namespace Go.Proofs.YtaoehdmdjplegaaGreatDoor
open Go.RowKit Go.Shelf

section
variable {P : Program} {ops : Array Oper} {rest : List Oper} {op : Oper} {a : Act} {w : World} {K : Act → World → Prop} {Q : Exit → Act → World → Prop}
theorem wpList_wanted (hw : Region.wanted op (yielded ops a.tmps) = true) (h : ∀ K : Act → World → Prop, (∀ a w, wpList P ops Q rest a w → K a w) → op.wp P a w K Q) : wpList P ops Q (op :: rest) a w :=
  wpList_step fun K hK => by rw [if_pos hw]; exact h K hK
theorem wpList_load_blk_w (hw : Region.wanted op (yielded ops a.tmps) = true) (ty : TypeId) (x : Operand) (ho : op.op = .load ty x) (g o : Nat) (t : TypeId) (L cs : List Value) (d : TypeDesc) (hx : a.eval x = .pointer (some ⟨g, o, none⟩)) (hg : Blk w g t L.toArray)
    (hc : ∀ j v, cs[j]? = some v → L[o + j]? = some v) (hu : P.underlying ty = some d) (hd : d.isRow = true) (hi : (P.info? ty).map (·.size) = some cs.length)
    (h : wpList P ops Q rest (a.put op.dst (.agg cs.toArray)) w) : wpList P ops Q (op :: rest) a w :=
  wpList_wanted hw fun _ hK => wp_load_blk ty x ho g o t L cs d hx hg hc hu hd hi (hK _ _ h)
theorem wp_neq_agg (t t' : TypeId) (x y : Operand) (ho : op.op = .binOp .neq t x y t') (xs ys : Array Value) (hx : a.eval x = .agg xs) (hy : a.eval y = .agg ys) (hg : P.eqGuardType P.depth t = false) (r : Bool) (hr : (Op.equal t (.agg xs) (.agg ys)).run P w = .ok r w)
    (h : K (a.put op.dst (.bool (!r))) w) : op.wp P a w K Q := by
  have hE : (eqGuard .neq t x y (.agg xs) (.agg ys)).run P w = .ok () w := by simp [eqGuard, hg]
  have hB : (binOp .neq t (.agg xs) (.agg ys)).run P w = .ok (.bool (!r)) w := by simp [binOp, hr]
  unfold Oper.wp execOp
  simp only [ho, hx, hy, Sem.run_bind, Sem.run_pure, hE, hB, Result.andThen_ok]
  exact h
theorem wp_eql_agg (t t' : TypeId) (x y : Operand) (ho : op.op = .binOp .eql t x y t') (xs ys : Array Value) (hx : a.eval x = .agg xs) (hy : a.eval y = .agg ys) (hg : P.eqGuardType P.depth t = false) (r : Bool) (hr : (Op.equal t (.agg xs) (.agg ys)).run P w = .ok r w)
    (h : K (a.put op.dst (.bool r)) w) : op.wp P a w K Q := by
  have hE : (eqGuard .eql t x y (.agg xs) (.agg ys)).run P w = .ok () w := by simp [eqGuard, hg]
  have hB : (binOp .eql t (.agg xs) (.agg ys)).run P w = .ok (.bool (r)) w := by simp [binOp, hr]
  unfold Oper.wp execOp
  simp only [ho, hx, hy, Sem.run_bind, Sem.run_pure, hE, hB, Result.andThen_ok]
  exact h
theorem wpList_neq_agg (hw : Region.wanted op (yielded ops a.tmps) = true) (t t' : TypeId) (x y : Operand) (ho : op.op = .binOp .neq t x y t') (xs ys : Array Value) (hx : a.eval x = .agg xs) (hy : a.eval y = .agg ys) (hg : P.eqGuardType P.depth t = false) (r : Bool) (hr : (Op.equal t (.agg xs) (.agg ys)).run P w = .ok r w)
    (h : wpList P ops Q rest (a.put op.dst (.bool (!r))) w) : wpList P ops Q (op :: rest) a w :=
  wpList_wanted hw fun _ hK => wp_neq_agg t t' x y ho xs ys hx hy hg r hr (hK _ _ h)
theorem wpList_eql_agg (hw : Region.wanted op (yielded ops a.tmps) = true) (t t' : TypeId) (x y : Operand) (ho : op.op = .binOp .eql t x y t') (xs ys : Array Value) (hx : a.eval x = .agg xs) (hy : a.eval y = .agg ys) (hg : P.eqGuardType P.depth t = false) (r : Bool) (hr : (Op.equal t (.agg xs) (.agg ys)).run P w = .ok r w)
    (h : wpList P ops Q rest (a.put op.dst (.bool r)) w) : wpList P ops Q (op :: rest) a w :=
  wpList_wanted hw fun _ hK => wp_eql_agg t t' x y ho xs ys hx hy hg r hr (hK _ _ h)
end

end Go.Proofs.YtaoehdmdjplegaaGreatDoor
