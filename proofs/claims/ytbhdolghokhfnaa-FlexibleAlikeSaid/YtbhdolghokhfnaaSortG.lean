/-
  slices.SortFunc over what fixed.Share gives: the row holds the places by what was lost.
-/
import Derived.Test.YtbhdolghokhfnaaGivens
import Derived.Test.YtbhdolghokhfnaaShelfS
namespace Go.Proofs.Ytbhdolghokhfnaa
open Go.Shelf Go.RowKit Go.Lib Go.Sort

def cfG (l : Nat → Nat) (i j : Nat) : Int := orI (cmpI (l j : Nat) (l i : Nat)) (cmpI (i : Nat) (j : Nat))
theorem ltG (l : Nat → Nat) (i j : Nat) : ltOf (cfG l) i j = before l i j := by
  unfold ltOf cfG orI before
  rw [decide_eq_decide]
  unfold cmpI
  repeat' split
  all_goals omega
theorem swoG (l : Nat → Nat) : SWO (ltOf (cfG l)) where
  irrefl x := by rw [ltG]; simp [before]
  trans x y z h1 h2 := by rw [ltG] at *; exact before_trans h1 h2
  ntrans x y z h1 h2 := by rw [ltG, before_false] at *; omega
theorem totG (l : Nat → Nat) (x y : Nat) (h1 : ltOf (cfG l) x y = false) (h2 : ltOf (cfG l) y x = false) : x = y := by
  rw [ltG, before_false] at *; omega

theorem sort_given (q l : Nat → Nat) (k base : Nat) (v : Value) (w : World) (h : OwnsG w base v q l k) (h0 : 0 < k) (hk : k ≤ 1000000) :
    Calls Try.prog 42 #[v, .func (.func 43) #[] #[]] w fun e w' => e = .returned (.tuple #[]) ∧
      ∃ g cap, v = .slice (some ⟨g, 0, none⟩) k cap ∧ k ≤ cap ∧ base ≤ g ∧ g < w.heap.size ∧ HoldsK (encG q l) 3 w' g 0 (order l k).toArray ∧ w.grownBy w' (some g) := by
  obtain ⟨g, cap, rfl, hg, hlt, hc, hH⟩ := h.form h0
  have eg : ∀ args w, (callFunc 43 args).run Try.prog w = .ok (.enter 43 args) w := enters_of Try.func43 (by kernel_rfl) rfl
  have hcmp : CmpLays Try.prog 43 #[] (encG q l) 3 (cfG l) g 0 (Array.range k).size w := fun m os dk _ x y => given_cmp _ _ _ _ _ _ _
  have hS := AnyQ.slices_SortFunc_total Try.sortGiven 3 Try.isAgg64 Try.sizeOf64 (encG q l) (fun _ => rfl) (fun x v hv => by simp [encG] at hv; rcases hv with rfl | rfl | rfl <;> rfl) (cfG l) (swoG l) 43 #[] g 0 cap (Array.range k) w eg hcmp hH hlt (by simp; omega) (totG l)
  rw [Array.size_range] at hS
  change Calls Try.prog 42 _ _ _ at hS
  refine hS.mono fun e w' ⟨he, n, os, hw⟩ => ⟨he, g, cap, rfl, hc, hg, hlt, ?_, ?_⟩
  · have e1 : ((Array.range k).toList.mergeSort fun x y => !(ltOf (cfG l)) y x) = order l k := by
      unfold order
      rw [Array.toList_range]
      congr 1
      funext x y
      rw [ltG]
    rw [hw, e1]
    exact holdsK_sortWorldK_c (encG q l) 3 w g 0 (Array.range k) (order l k).toArray n os hH hlt (by simp [order_len])
  · rw [hw]
    refine ⟨rfl, rfl, rfl, size_sortWorldK_c _ _ _ _ _ _ _ _, fun i hi hne => ?_⟩
    unfold sortWorldK grow putRowK putRow mapBlock
    simp only [Array.getElem?_append]
    rw [if_pos (by simpa using hi), Array.getElem?_modify, if_neg (fun e => hne (by rw [e]))]
    rfl

end Go.Proofs.Ytbhdolghokhfnaa
