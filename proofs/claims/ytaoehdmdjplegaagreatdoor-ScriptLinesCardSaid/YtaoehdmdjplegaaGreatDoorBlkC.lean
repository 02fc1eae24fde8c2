/-
  Whole structs read and written in a block that is known: at a list of operations, at a step of a region that draws.
-/
import Derived.Deep.MidRow
import Derived.Test.YtaoehdmdjplegaaGreatDoorRStyle
namespace Go.Proofs.YtaoehdmdjplegaaGreatDoor
open Go.RowKit Go.Shelf

/-- A list, written over from a place on. -/
def setL : List Value → Nat → List Value → List Value
  | L, _, [] => L
  | L, o, v :: r => setL (L.set o v) (o + 1) r
theorem setL_len : ∀ (r : List Value) (L : List Value) (o : Nat), (setL L o r).length = L.length
  | [], _, _ => rfl
  | v :: r, L, o => by rw [setL, setL_len r, List.length_set]
theorem setL_mid : ∀ (r B A C : List Value), B.length = r.length → setL (A ++ (B ++ C)) A.length r = A ++ (r ++ C)
  | [], [], _, _, _ => rfl
  | v :: r, b :: B, A, C, h => by
    have h' : B.length = r.length := by simpa using h
    have e : (A ++ (b :: B ++ C)).set A.length v = (A ++ [v]) ++ (B ++ C) := by simp
    rw [setL, e, show A.length + 1 = (A ++ [v]).length by simp, setL_mid r B (A ++ [v]) C h']
    simp
theorem setL_all {L r : List Value} (h : L.length = r.length) : setL L 0 r = r := by
  have := setL_mid r L [] [] h
  simpa using this
theorem setCells_blk : ∀ (vs : List Value) (w : World) (g o : Nat) (t : TypeId) (L : List Value), Blk w g t L.toArray → Blk (w.setCells g o vs) g t (setL L o vs).toArray ∧ Kept [g] w (w.setCells g o vs) ∧ (w.setCells g o vs).heap.size = w.heap.size
  | [], w, g, o, t, L, h => ⟨h, Kept.refl _ _, rfl⟩
  | v :: r, w, g, o, t, L, h => by
    have h1 : Blk (w.setCell ⟨g, o, none⟩ v) g t (L.set o v).toArray := by
      have := h.set_ o v
      simpa using this
    obtain ⟨a, b, c⟩ := setCells_blk r _ g (o + 1) t _ h1
    refine ⟨a, ((Kept.refl [g] w).setCell (p := ⟨g, o, none⟩) (by simp) v).trans b, ?_⟩
    show ((w.setCell ⟨g, o, none⟩ v).setCells g (o + 1) r).heap.size = _
    rw [c]
    simp [World.setCell]
theorem blk_there {w : World} {g o n : Nat} {t : TypeId} {L : List Value} (h : Blk w g t L.toArray) (hn : o + n ≤ L.length) : w.there g o n := fun j hj => by
  refine ⟨?_, h.frozen _⟩
  rw [h.cell, List.getElem?_toArray, List.getElem?_eq_getElem (by omega)]; rfl
theorem blk_range {w : World} {g o : Nat} {t : TypeId} {L cs : List Value} (h : Blk w g t L.toArray) (hc : ∀ j v, cs[j]? = some v → L[o + j]? = some v) : w.rangeAt g o cs := fun j v hv => by
  rw [h.cell, List.getElem?_toArray]
  exact hc j v hv
theorem range_mid (A B C : List Value) : ∀ j v, B[j]? = some v → (A ++ (B ++ C))[A.length + j]? = some v := fun j v hv => by
  rw [List.getElem?_append_right (by omega), Nat.add_sub_cancel_left, List.getElem?_append_left (List.getElem?_eq_some_iff.1 hv).1]
  exact hv

section
variable {P : Program} {ops : Array Oper} {rest : List Oper} {op : Oper} {a : Act} {w : World} {K : Act → World → Prop} {Q : Exit → Act → World → Prop} {E : Prop}
/-- 'p.f = v', v a struct of so many cells, in a block that is known. -/
theorem wp_store_blk (ty : TypeId) (x y : Operand) (ho : op.op = .store ty x y) (g o : Nat) (t : TypeId) (L cs : List Value) (hx : a.eval x = .pointer (some ⟨g, o, none⟩)) (hg : Blk w g t L.toArray)
    (hy : a.eval y = .agg cs.toArray) (hs : o + cs.length ≤ L.length) (hi : (P.info? ty).map (·.size) = some cs.length) (h1 : ∀ v ∈ cs, v.oneCell' = true)
    (h : ∀ w', Blk w' g t (setL L o cs).toArray → Kept [g] w w' → w'.heap.size = w.heap.size → K (a.put op.dst undef) w') : op.wp P a w K Q := by
  obtain ⟨h2, h3, h4⟩ := setCells_blk cs w g o t L hg
  exact wp_store_mid ty x y ho g o cs.toArray hx hy (blk_there hg (by simpa using hs)) (by simpa using hi) (all_oneCell_toArray h1) (h _ (by simpa using h2) (by simpa using h3) (by simpa using h4))
theorem wpList_store_blk (hgd : op.guard = none) (ty : TypeId) (x y : Operand) (ho : op.op = .store ty x y) (g o : Nat) (t : TypeId) (L cs : List Value) (hx : a.eval x = .pointer (some ⟨g, o, none⟩)) (hg : Blk w g t L.toArray)
    (hy : a.eval y = .agg cs.toArray) (hs : o + cs.length ≤ L.length) (hi : (P.info? ty).map (·.size) = some cs.length) (h1 : ∀ v ∈ cs, v.oneCell' = true)
    (h : ∀ w', Blk w' g t (setL L o cs).toArray → Kept [g] w w' → w'.heap.size = w.heap.size → wpList P ops Q rest (a.put op.dst undef) w') : wpList P ops Q (op :: rest) a w :=
  wpList_plain hgd fun _ hK => wp_store_blk ty x y ho g o t L cs hx hg hy hs hi h1 fun w' a1 a2 a3 => hK _ _ (h w' a1 a2 a3)
theorem step_store_blk (hgd : op.guard = none) (ty : TypeId) (x y : Operand) (ho : op.op = .store ty x y) (g o : Nat) (t : TypeId) (L cs : List Value) (hx : a.eval x = .pointer (some ⟨g, o, none⟩)) (hg : Blk w g t L.toArray)
    (hy : a.eval y = .agg cs.toArray) (hs : o + cs.length ≤ L.length) (hi : (P.info? ty).map (·.size) = some cs.length) (h1 : ∀ v ∈ cs, v.oneCell' = true)
    (h : ∀ w', Blk w' g t (setL L o cs).toArray → Kept [g] w w' → w'.heap.size = w.heap.size → K (a.put op.dst undef) w') :
    if Region.wanted op (yielded ops a.tmps) = true then Oper.wp P op a w K Q else E := by
  have hw : Region.wanted op (yielded ops a.tmps) = true := by simp [Region.wanted, hgd]
  rw [if_pos hw]
  exact wp_store_blk ty x y ho g o t L cs hx hg hy hs hi h1 h
/-- 'x := p.f', a struct of so many cells. -/
theorem wp_load_blk (ty : TypeId) (x : Operand) (ho : op.op = .load ty x) (g o : Nat) (t : TypeId) (L cs : List Value) (d : TypeDesc) (hx : a.eval x = .pointer (some ⟨g, o, none⟩)) (hg : Blk w g t L.toArray)
    (hc : ∀ j v, cs[j]? = some v → L[o + j]? = some v) (hu : P.underlying ty = some d) (hd : d.isRow = true) (hi : (P.info? ty).map (·.size) = some cs.length)
    (h : K (a.put op.dst (.agg cs.toArray)) w) : op.wp P a w K Q :=
  wp_load_mid ty x ho g o hx cs d (blk_range hg hc) hu hd hi h
theorem wpList_load_blk (hgd : op.guard = none) (ty : TypeId) (x : Operand) (ho : op.op = .load ty x) (g o : Nat) (t : TypeId) (L cs : List Value) (d : TypeDesc) (hx : a.eval x = .pointer (some ⟨g, o, none⟩)) (hg : Blk w g t L.toArray)
    (hc : ∀ j v, cs[j]? = some v → L[o + j]? = some v) (hu : P.underlying ty = some d) (hd : d.isRow = true) (hi : (P.info? ty).map (·.size) = some cs.length)
    (h : wpList P ops Q rest (a.put op.dst (.agg cs.toArray)) w) : wpList P ops Q (op :: rest) a w :=
  wpList_plain hgd fun _ hK => wp_load_blk ty x ho g o t L cs d hx hg hc hu hd hi (hK _ _ h)
theorem step_load_blk (hgd : op.guard = none) (ty : TypeId) (x : Operand) (ho : op.op = .load ty x) (g o : Nat) (t : TypeId) (L cs : List Value) (d : TypeDesc) (hx : a.eval x = .pointer (some ⟨g, o, none⟩)) (hg : Blk w g t L.toArray)
    (hc : ∀ j v, cs[j]? = some v → L[o + j]? = some v) (hu : P.underlying ty = some d) (hd : d.isRow = true) (hi : (P.info? ty).map (·.size) = some cs.length)
    (h : K (a.put op.dst (.agg cs.toArray)) w) : if Region.wanted op (yielded ops a.tmps) = true then Oper.wp P op a w K Q else E := by
  have hw : Region.wanted op (yielded ops a.tmps) = true := by simp [Region.wanted, hgd]
  rw [if_pos hw]
  exact wp_load_blk ty x ho g o t L cs d hx hg hc hu hd hi h
/-- 'p.f = v', v of one cell. -/
theorem wp_store_one (ty : TypeId) (x y : Operand) (ho : op.op = .store ty x y) (g o : Nat) (t : TypeId) (L : List Value) (v : Value) (hx : a.eval x = .pointer (some ⟨g, o, none⟩)) (hg : Blk w g t L.toArray)
    (hy : a.eval y = v) (hs : o < L.length) (h1 : v.oneCell' = true) (hi : (storeVar ty ⟨g, o, none⟩ v).run P w = (store ⟨g, o, none⟩ v).run P w)
    (h : ∀ w', Blk w' g t (L.set o v).toArray → Kept [g] w w' → w'.heap.size = w.heap.size → K (a.put op.dst undef) w') : op.wp P a w K Q := by
  have hc : w.cell? ⟨g, o, none⟩ = some L[o] := by rw [hg.cell, List.getElem?_toArray, List.getElem?_eq_getElem hs]
  have hf := hg.frozen o
  have hr : (storeVar ty ⟨g, o, none⟩ v).run P w = .ok () (w.setCell ⟨g, o, none⟩ v) := by
    rw [hi, run_store P w _ v _ h1]
    simp [hc, hf]
  unfold Oper.wp execOp
  simp only [ho, hx, hy, Instr.storeAt, Instr.sureAddr, Sem.run_bind, Sem.run_pure, Result.andThen_ok, hr]
  refine h _ ?_ ((Kept.refl _ _).setCell (by simp) v) (by simp [World.setCell])
  have := hg.set_ o v
  simpa using this
theorem wpList_store_one (hgd : op.guard = none) (ty : TypeId) (x y : Operand) (ho : op.op = .store ty x y) (g o : Nat) (t : TypeId) (L : List Value) (v : Value) (hx : a.eval x = .pointer (some ⟨g, o, none⟩)) (hg : Blk w g t L.toArray)
    (hy : a.eval y = v) (hs : o < L.length) (h1 : v.oneCell' = true) (hi : (storeVar ty ⟨g, o, none⟩ v).run P w = (store ⟨g, o, none⟩ v).run P w)
    (h : ∀ w', Blk w' g t (L.set o v).toArray → Kept [g] w w' → w'.heap.size = w.heap.size → wpList P ops Q rest (a.put op.dst undef) w') : wpList P ops Q (op :: rest) a w :=
  wpList_plain hgd fun _ hK => wp_store_one ty x y ho g o t L v hx hg hy hs h1 hi fun w' a1 a2 a3 => hK _ _ (h w' a1 a2 a3)
theorem step_store_one (hgd : op.guard = none) (ty : TypeId) (x y : Operand) (ho : op.op = .store ty x y) (g o : Nat) (t : TypeId) (L : List Value) (v : Value) (hx : a.eval x = .pointer (some ⟨g, o, none⟩)) (hg : Blk w g t L.toArray)
    (hy : a.eval y = v) (hs : o < L.length) (h1 : v.oneCell' = true) (hi : (storeVar ty ⟨g, o, none⟩ v).run P w = (store ⟨g, o, none⟩ v).run P w)
    (h : ∀ w', Blk w' g t (L.set o v).toArray → Kept [g] w w' → w'.heap.size = w.heap.size → K (a.put op.dst undef) w') :
    if Region.wanted op (yielded ops a.tmps) = true then Oper.wp P op a w K Q else E := by
  have hw : Region.wanted op (yielded ops a.tmps) = true := by simp [Region.wanted, hgd]
  rw [if_pos hw]
  exact wp_store_one ty x y ho g o t L v hx hg hy hs h1 hi h
end
/-- As the walk's simp meets them: the cells of a whole block, loaded; stored. -/
theorem blk_loadFrom {P : Program} {w : World} {g n : Nat} {t : TypeId} {L : List Value} (h : Blk w g t L.toArray) (hn : L.length = n) : (loadCellsFrom ⟨g, 0, none⟩ 0 n #[]).run P w = .ok L.toArray w := by
  subst hn
  have := run_loadCells_list (P := P) w ⟨g, 0, none⟩ L (fun j v hv => by
    have hadd : (⟨g, 0, none⟩ : Addr).add j = ⟨g, j, none⟩ := by unfold Addr.add; split <;> simp_all
    rw [hadd, h.cell, List.getElem?_toArray]
    exact hv)
  simpa [loadCells] using this
theorem blk_storeAll {P : Program} {w : World} {g : Nat} {t : TypeId} {L cs : List Value} (h : Blk w g t L.toArray) (hs : cs.length = L.length) (h1 : ∀ v ∈ cs, v.oneCell' = true) : (storeCells ⟨g, 0, none⟩ cs 0).run P w = .ok () (w.setCells g 0 cs) := by
  have ht := blk_there (n := cs.length) (o := 0) h (by omega)
  have := run_storeCells_cells (P := P) g 0 cs 0 w (fun j hj => by simpa using (ht j hj).1) (fun j hj => by simpa using (ht j hj).2) h1
  simpa using this
theorem storeVar_int (w : World) (p : Addr) (k : IntKind) (n : Int) : (storeVar 3 p (.int k n)).run Tryz.prog w = (store p (.int k n)).run Tryz.prog w := by simp [storeVar, go_sem, Value.cells, storeCells]
theorem storeVar_u8 (w : World) (p : Addr) (k : IntKind) (n : Int) : (storeVar 5 p (.int k n)).run Tryz.prog w = (store p (.int k n)).run Tryz.prog w := by simp [storeVar, go_sem, Value.cells, storeCells]
theorem storeVar_str (w : World) (p : Addr) (b : ByteArray) : (storeVar 9 p (.string b)).run Tryz.prog w = (store p (.string b)).run Tryz.prog w := by simp [storeVar, go_sem, Value.cells, storeCells]
theorem styC_cells (s : Sty) : ∀ v ∈ styC s, v.oneCell' = true := by
  intro v hv
  unfold styC at hv
  simp only [List.mem_cons, List.not_mem_nil, or_false] at hv
  (repeat' (rcases hv with rfl | hv)) <;> first | rfl | (subst hv; rfl)
theorem chC_cells (e : Ev) : ∀ v ∈ chC e, v.oneCell' = true := by
  intro v hv
  unfold chC at hv
  rw [List.mem_append, List.mem_append] at hv
  rcases hv with hv | hv | hv
  · simp only [List.mem_cons, List.not_mem_nil, or_false] at hv
    (repeat' (rcases hv with rfl | hv)) <;> first | rfl | (subst hv; rfl)
  · exact styC_cells _ v hv
  · rw [List.mem_singleton.1 hv]; rfl
theorem chC_len (e : Ev) : (chC e).length = 55 := rfl
theorem chC_size : (Tryz.prog.info? 32).map (·.size) = some 55 := by kernel_rfl
theorem styC_size : (Tryz.prog.info? 28).map (·.size) = some 47 := by kernel_rfl
/-- A change's style. -/
theorem chC_sty (e : Ev) : ∀ j v, (styC e.sty)[j]? = some v → (chC e)[7 + j]? = some v := range_mid _ _ _
theorem chC_setSty (e : Ev) (s : Sty) : setL (chC e) 7 (styC s) = chC { e with sty := s } := setL_mid (styC s) (styC e.sty) _ _ (by rw [styC_len, styC_len])

end Go.Proofs.YtaoehdmdjplegaaGreatDoor
