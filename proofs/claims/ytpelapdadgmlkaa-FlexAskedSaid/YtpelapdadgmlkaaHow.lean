/-
  The struct How as an argument.
-/
import Derived.Test.YtpelapdadgmlkaaArgs
import Derived.Lib.SmallJoins
namespace Go.Proofs.Ytpelapdadgmlkaa
open Go.ChangeShapes Go.WideShapes Go.ChangeAt Go.RowKit Go.Joins

set_option maxRecDepth 100000 in
theorem arg_how {H : Type} {enc : TypeId × Value → H} {W : World} {base : Nat} {v : Value} {d : DataW H} {p : List MemPlace}
    (hv : Value.okWide Try.prog W .any base 82 v) (ht : DataW.Trod enc Try.prog W 0 (fun _ => true) true 82 v d p) :
    ∃ (gap room j : Int) (back : Bool), v = .agg #[.int .i64 gap, .int .i64 room, .int .u8 j, .bool back] ∧ (Lit.int .u8 j).wf = true := by
  obtain ⟨c0, c1, c2, c3, y0, y1, y2, y3, m, rfl, rfl, rfl, h0, h1, h2, h3⟩ := open_agg4 Try.underlying82 (by kernel_rfl) (show Try.prog.cellsOf 82 = 4 by kernel_rfl) hv ht
  obtain ⟨a, e0, rfl, w0⟩ := DataW.trod_int Try.underlying3 h0
  obtain ⟨b, e1, rfl, w1⟩ := DataW.trod_int Try.underlying3 h1
  obtain ⟨j, e2, rfl, w2⟩ := DataW.trod_int Try.underlying5 h2
  obtain ⟨c, e3, rfl⟩ := DataW.trod_bool Try.underlying4 h3
  simp at e0 e1 e2 e3
  subst e0 e1 e2 e3
  exact ⟨a, b, j, c, rfl, w2⟩

theorem u8_nat {n : Int} (h : (Lit.int .u8 n).wf = true) : ∃ k : Nat, n = (k : Int) ∧ k < 256 := by
  have : 0 ≤ n ∧ n ≤ 255 := by
    simp [Lit.wf, IntKind.min, IntKind.max, IntKind.signed, IntKind.bits] at h
    omega
  exact ⟨n.toNat, by omega, by omega⟩

end Go.Proofs.Ytpelapdadgmlkaa
