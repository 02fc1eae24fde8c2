/-
  Walks: the law RightPoints.
-/
import Derived.Test.YtpelapdadgmlkaaRefFill
import Derived.Test.YtpelapdadgmlkaaLast
import Derived.Test.YtpelapdadgmlkaaFragArg
namespace Go.Proofs.Ytpelapdadgmlkaa
open Go.RowKit

set_option maxRecDepth 100000 in
set_option maxHeartbeats 4000000 in
theorem rightPoints_walk (fs : List Fr) (x y : Int) (v : Value) (w : World) (h : Frags w w.heap.size v fs) :
    LawReturns 6 #[v, .int .i64 x, .int .i64 y] w := by
  unfold LawReturns
  by_cases hm : 2100 < fs.length
  · obtain ⟨A, c, rfl, _, _⟩ := h
    have hm' : (2100 : Int) < (fs.length : Int) := by omega
    go_enter Try.func6, Try.ntmps6
    go_wp2_with fail
    go_ret
    exact ⟨rfl, Below.refl _ _⟩
  · have f1 := fun v B w h hB => fill_any fs v B w h hB (by omega)
    have f2 := fun v B w h hB => rfill_any fs v B w h hB (by omega)
    have f3 := fun v B w h hB => hit_any fs x y v B w h hB (by omega)
    have f4 := fun v B w h hB => rhit fs x y v B w h hB (by omega)
    have hm' : ¬ (2100 : Int) < (fs.length : Int) := by omega
    generalize lastTo (hitP fs x y) fs.length = r at *
    generalize (fillR fs).1 = a1 at *
    generalize (fillR fs).2.1 = a2 at *
    generalize (fillR fs).2.2.1 = a3 at *
    generalize (fillR fs).2.2.2 = a4 at *
    have h' := h
    obtain ⟨A, c, rfl, _, _⟩ := h'
    go_enter Try.func6, Try.ntmps6
    go_wp2_with fail
    refine (f1 _ _ w h (Nat.le_refl _)).mono ?_
    rintro e w1 ⟨rfl, hb1⟩
    have hs1 := hb1.size
    have h1 := h.below hb1
    go_wp2_with fail
    refine (f2 _ _ w1 h1 hs1).mono ?_
    rintro e w2 ⟨rfl, hb2⟩
    have hs2 := hb2.size
    have h2 := h1.below (hb2.mono hs1)
    go_wp2_with fail
    refine (f3 _ _ w2 h2 (by omega)).mono ?_
    rintro e w3 ⟨rfl, hb3⟩
    have hs3 := hb3.size
    have h3 := h2.below (hb3.mono (by omega))
    go_wp2_with fail
    refine (f4 _ _ w3 h3 (by omega)).mono ?_
    rintro e w4 ⟨rfl, hb4⟩
    go_wp2_with fail
    go_ret
    exact ⟨by simp, hb1.trans ((hb2.mono hs1).trans ((hb3.mono (by omega)).trans (hb4.mono (by omega))))⟩

end Go.Proofs.Ytpelapdadgmlkaa
