/-
  An event's cells: what the walks over events lean on.
-/
import Derived.Test.YtaoehdmdjplegaaGreatDoorRSty
namespace Go.Proofs.YtaoehdmdjplegaaGreatDoor
open Go.RowKit Go.Shelf

theorem evC_len (e : Ev) (b : Value) : (evC e b).length = 59 := rfl
theorem evC_setSty (e : Ev) (b : Value) (s : Sty) : setL (evC e b) 11 (styC s) = evC { e with sty := s } b := setL_mid (styC s) (styC e.sty) _ _ (by rw [styC_len, styC_len])
theorem evC_size : (Tryz.prog.info? 34).map (·.size) = some 59 := by kernel_rfl
theorem evC_cells (e : Ev) {b : Value} (hb : b.oneCell' = true) : ∀ v ∈ evC e b, v.oneCell' = true := by
  intro v hv
  unfold evC at hv
  rw [List.mem_append, List.mem_append] at hv
  rcases hv with hv | hv | hv
  · simp only [List.mem_cons, List.not_mem_nil, or_false] at hv
    (repeat' (rcases hv with rfl | hv)) <;> first | rfl | exact hb | (subst hv; rfl)
  · exact styC_cells _ v hv
  · rw [List.mem_singleton.1 hv]; rfl
theorem Byts.one {w : World} {B : Nat} {v : Value} {l : List UInt8} (h : Byts w B v l) : v.oneCell' = true := by
  obtain ⟨A, c, rfl, _⟩ := h; rfl
theorem Byts.nil_ (w : World) (B : Nat) : Byts w B (.slice none 0 0) [] := ⟨none, 0, rfl, Nat.le_refl _, by simp, fun hn => absurd hn (by simp)⟩
theorem OwnsY.kept1 {w w' : World} {base b : Nat} {v : Value} {l : List UInt8} (h : OwnsY w base v l) (hk : Kept [b] w w') (hb : b < base) : OwnsY w' base v l := by
  refine World.ownsRow.kept (row := some b) h ⟨hk.os, hk.tape, hk.output, hk.size, fun k hk1 hne => hk.block k hk1 (by simp; rintro rfl; exact hne rfl)⟩ ?_
  cases hv : v.ownBlock with
  | none => exact .inl rfl
  | some g =>
    refine .inr ?_
    rintro ⟨⟩
    have := (World.ownsRow.lt h b hv).1
    omega
theorem storeVar_slice (w : World) (p : Addr) {v : Value} (h : v.oneCell' = true) : (storeVar 22 p v).run Tryz.prog w = (store p v).run Tryz.prog w := by
  cases v <;> first | (simp [Value.oneCell'] at h; done) | simp [storeVar, go_sem, Value.cells, storeCells]

end Go.Proofs.YtaoehdmdjplegaaGreatDoor
