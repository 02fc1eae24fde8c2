/-
  Walks: windowpaneref32.change: what it answers.
-/
import Derived.Test.YtaoehdmdjplegaaGreatDoorBlkC
namespace Go.Proofs.YtaoehdmdjplegaaGreatDoor
open Go.RowKit Go.Shelf

theorem results_tct {P : Program} {fn : Func} {a p b : Tmp} {ty : TypeId} (h : fn.results = #[.tmp a, .cell p ty, .tmp b]) (tmps : Array Value) (w : World) (g : Nat) (t : TypeId) (cs : Array Value) (fr : Nat × Nat) (d : TypeDesc)
    (hp : tmps.getD p undef = .pointer (some ⟨g, 0, none⟩)) (hg : w.heap[g]? = some (.cells cs t fr))
    (hu : P.underlying ty = some d) (hd : (match d with | .struct _ | .array _ _ => true | _ => false) = true) (hi : (P.info? ty).map (·.size) = some cs.size) :
    (results fn tmps).run P w = .ok (.tuple #[tmps.getD a undef, .agg cs, tmps.getD b undef]) w := by
  have hp' : tmps[p]?.getD undef = .pointer (some ⟨g, 0, none⟩) := by simpa using hp
  simp [results, h, hp', asAddr, run_loadVar_row w g t ty cs fr d hg hu hd hi]

theorem chC_all (a b : Ev) : setL (chC a) 0 (chC b) = chC b := setL_all (by rw [chC_len, chC_len])
/-- What a change's line answers: its words, if it has some; the change that it is. -/
def ChangePost (e : Ev) (w : World) (en : Ending) (w' : World) : Prop :=
  ∃ x : List UInt8, en = .returned (.tuple #[.string (mkB x), .agg (chC (onlyR { e with kind := 1 })).toArray, .bool (isR { e with kind := 1 })]) ∧ (isR { e with kind := 1 } = true → x = joinC (wordsR { e with kind := 1 })) ∧ x.length ≤ 20000 ∧ Below w.heap.size w w'
/-- What lies in memory while a change's line is written: the change, the one that is answered, the one that its line says. -/
structure CM (e : Ev) (n : Nat) (w0 : World) (r o : Ev) (w : World) : Prop where
  bel : Below n w0 w
  sz : n + 3 ≤ w.heap.size
  par : Blk w n 32 (chC e).toArray
  res : Blk w (n + 1) 32 (chC r).toArray
  onl : Blk w (n + 1 + 1) 32 (chC o).toArray
def chObjs (e : Ev) : List Obj := [.cells (chC e).toArray 32, .cells (chC ev0).toArray 32, .cells (chC ev0).toArray 32]
theorem CM.start {e o : Ev} {w w' : World} (h : Blk w' (w.heap.size + 1 + 1) 32 (chC o).toArray) (hk : Kept [w.heap.size + 1 + 1] (allocs w (chObjs e)) w') : CM e w.heap.size w ev0 o w' := by
  have hs : (allocs w (chObjs e)).heap.size = w.heap.size + 3 := allocs_size _ w
  refine ⟨(allocs_below (chObjs e) w).trans (hk.to_below (by omega) (by simp; omega)), by rw [← hs]; exact hk.size, ?_, ?_, h⟩
  · exact (allocs_blk (chObjs e) w 0 _ _ rfl).kept hk (by simp; omega)
  · exact (allocs_blk (chObjs e) w 1 _ _ rfl).kept hk (by simp)

theorem CM.set {e r o o' : Ev} {n : Nat} {w0 w : World} (h : CM e n w0 r o w) (i : Nat) (v : Value) (ho : (chC o).set i v = chC o') : CM e n w0 r o' (w.setCell ⟨n + 1 + 1, i, none⟩ v) := by
  have hk : Kept [n + 1 + 1] w (w.setCell ⟨n + 1 + 1, i, none⟩ v) := (Kept.refl _ _).setCell (by simp) v
  refine ⟨h.bel.trans (hk.to_below (by have := h.sz; omega) (by simp; omega)), Nat.le_trans h.sz hk.size, h.par.kept hk (by simp; omega), h.res.kept hk (by simp), ?_⟩
  have := h.onl.set_ i v
  rw [← ho]
  simpa using this
theorem CM.quiet {e r o : Ev} {n : Nat} {w0 w : World} (h : CM e n w0 r o w) (m : Nat) : CM e n w0 r o (w.drewN m) := ⟨below_drewN h.bel m, h.sz, h.par, h.res, h.onl⟩
theorem CM.unquiet {e r o : Ev} {n m : Nat} {w0 w : World} (h : CM e n w0 r o (w.drewN m)) : CM e n w0 r o w := ⟨⟨h.bel.os, h.bel.tape, h.bel.output, h.bel.size, h.bel.block⟩, h.sz, h.par, h.res, h.onl⟩
/-- What is answered lies in the result's own cell. -/
theorem CM.done {e r o : Ev} {n : Nat} {w0 w w' : World} (h : CM e n w0 r o w) (hb : Blk w' (n + 1) 32 (setL (chC r) 0 (chC o)).toArray) (hk : Kept [n + 1] w w') : Blk w' (n + 1) 32 (chC o).toArray ∧ Below n w0 w' := by
  rw [chC_all] at hb
  exact ⟨hb, h.bel.trans (hk.to_below (by have := h.sz; omega) (by simp))⟩
theorem CM.step {e r o o' : Ev} {n i : Nat} {v : Value} {w0 w w' : World} (h : CM e n w0 r o w) (hb : Blk w' (n + 1 + 1) 32 ((chC o).set i v).toArray) (hk : Kept [n + 1 + 1] w w') (ho : (chC o).set i v = chC o') : CM e n w0 r o' w' :=
  ⟨h.bel.trans (hk.to_below (by have := h.sz; omega) (by simp; omega)), Nat.le_trans h.sz hk.size, h.par.kept hk (by simp; omega), h.res.kept hk (by simp), ho ▸ hb⟩
theorem CM.stepSty {e r o : Ev} {n : Nat} {s : Sty} {w0 w w' : World} (h : CM e n w0 r o w) (hb : Blk w' (n + 1 + 1) 32 (setL (chC o) 7 (styC s)).toArray) (hk : Kept [n + 1 + 1] w w') : CM e n w0 r { o with sty := s } w' := by
  rw [chC_setSty] at hb
  exact ⟨h.bel.trans (hk.to_below (by have := h.sz; omega) (by simp; omega)), Nat.le_trans h.sz hk.size, h.par.kept hk (by simp; omega), h.res.kept hk (by simp), hb⟩
/-- A style's text, and whether it has one. -/
theorem sty_words {s : Sty} (hs : s.Ok) {x : List UInt8} (hx : ∀ t, stylT s = some t → x = t) : (stylT s).isSome = (stylW s).isSome ∧ ((stylW s).isSome = true → x = blk ((stylW s).getD [])) := by
  rw [styl_same hs] at hx ⊢
  cases h : stylW s with
  | none => exact ⟨rfl, fun h => by cases h⟩
  | some ws => exact ⟨rfl, fun _ => hx _ (by rw [h]; rfl)⟩
theorem CM.ans {e r o : Ev} {n : Nat} {w0 w w' : World} (h : CM e n w0 r o w) (hb : Blk w' (n + 1) 32 (setL (chC r) 0 (chC o)).toArray) (hk : Kept [n + 1] w w') : CM e n w0 o o w' := by
  rw [chC_all] at hb
  exact ⟨h.bel.trans (hk.to_below (by have := h.sz; omega) (by simp)), Nat.le_trans h.sz hk.size, h.par.kept hk (by simp), hb, h.onl.kept hk (by simp)⟩
theorem CM.more {e r o : Ev} {n : Nat} {w0 w w' : World} (h : CM e n w0 r o w) (hb : Below (n + 3) w w') : CM e n w0 r o w' :=
  ⟨h.bel.trans (hb.mono (by omega)), Nat.le_trans h.sz hb.size, h.par.below hb (by omega), h.res.below hb (by omega), h.onl.below hb (by omega)⟩
theorem ChangePost.done {e o r : Ev} {n : Nat} {w w' : World} {v1 v3 : Value} {b : Bool} {x : List UInt8} (hn : n = w.heap.size) (h : CM e n w r o w') (h1 : v1 = .string (mkB x)) (ho : chC (onlyR { e with kind := 1 }) = chC o) (h3 : v3 = .bool b) (hb : isR { e with kind := 1 } = b) (hx : b = true → x = joinC (wordsR { e with kind := 1 })) (hl : x.length ≤ 20000) :
    ChangePost e w (.returned (.tuple #[v1, .agg (chC o).toArray, v3])) w' := by
  subst hn
  exact ⟨x, by rw [h1, h3, ho, hb], fun h => hx (hb ▸ h), hl, h.bel⟩
theorem chC_self (o : Ev) : ∀ j v, (chC o)[j]? = some v → (chC o)[0 + j]? = some v := fun j v h => by rw [Nat.zero_add]; exact h

theorem nat0 (n : Nat) : (((n : Nat) : Int) == 0) = (n == 0) := by
  cases n <;> rfl

set_option maxRecDepth 100000 in
set_option maxHeartbeats 8000000 in
theorem change1t (e : Ev) (he : e.Ok) (hc : e.ck = 1) (hk : e.nkind = 1) (htx : e.text.length ≤ 4100) (w : World) :
    Calls Tryz.prog 41 #[.agg (chC e).toArray] w (ChangePost e w) := by
  have hA : (chC e).toArray.size = 55 := rfl
  have a0 : (chC e).toArray[0]'(by omega) = .int .u8 1 := by
    show Value.int .u8 (e.ck : Int) = _
    rw [hc]; rfl
  have e1 : (((e.nkind : Nat) : Int) == 1) = true := by rw [hk]; rfl
  have HK := Lib.hid hk
  clear hk
  have HC := Lib.hid hc
  clear hc
  have hd1 := Lib.hid (fun W => digits_same he.key W)
  have hd2 := Lib.hid (fun W => digits_same he.parent W)
  have hd3 := Lib.hid (fun W => digits_same he.at_ W)
  have z1 := itoa_size he.key
  have z2 := itoa_size he.parent
  have z3 := itoa_size he.at_
  have hq := Lib.hid (fun W => rquoted_any (mkB e.text) (by rw [mkB_size]; omega) W)
  have z4 : (mkB (quoted e.text)).size ≤ 16410 := by
    rw [mkB_size]
    have := escs_len e.text
    simp [quoted]
    omega
  rw [mkB_toList] at hq
  go_enter Tryz.func41, Tryz.ntmps41
  go_upto_region 4 with (refine wpList_store_blk rfl 32 _ _ rfl (w.heap.size + 1 + 1) 0 32 (chC ev0) (chC { ev0 with ck := 1 }) rfl (allocs_blk (chObjs e) w 2 _ _ rfl) rfl (by rw [chC_len, chC_len]; exact Nat.le_refl _) chC_size (chC_cells _) ?_; intro w1 b1 k1 z1; rw [chC_all] at b1; have hm := CM.start (e := e) b1 k1; clear b1 k1 z1; have c0 : w1.cell? ⟨w.heap.size, 0, none⟩ = some (.int .u8 1) := (hm.par.cell 0).trans (congrArg some a0); have c1 : w1.cell? ⟨w.heap.size, 1, none⟩ = some (.int .i64 e.key) := hm.par.cell 1; have o1 : w1.cell? ⟨w.heap.size + 1 + 1, 1, none⟩ = some (.int .i64 0) := hm.onl.cell 1; have of := hm.onl.frozen)
  refine wp_region_held_drew (S := fun w' => Blk w' w.heap.size 32 (chC e).toArray) (by kernel_rfl) (Blk.drew hm.par) (fun hHeld => ?_)
  have hm := hm.quiet 1
  refine wpAnyH_take (i := 0) (v := ?vs1) rfl (by kernel_rfl) (by kernel_rfl) (by kernel_rfl) (fun _ _ _ h => h) (Or.inl ⟨by rfl, ?hys1⟩) (by assumption) ?rests1
  case hys1 => (intro w' hSw; have q1 : w'.cell? ⟨w.heap.size, 1, none⟩ = some (.int .i64 e.key) := (Blk.cell hSw 1); have q2 : w'.cell? ⟨w.heap.size, 2, none⟩ = some (.int .i64 e.parent) := (Blk.cell hSw 2); have q3 : w'.cell? ⟨w.heap.size, 3, none⟩ = some (.int .i64 e.at_) := (Blk.cell hSw 3); have q6 : w'.cell? ⟨w.heap.size, 6, none⟩ = some (.int .u8 (e.nkind : Int)) := (Blk.cell hSw 6); have q54 : w'.cell? ⟨w.heap.size, 54, none⟩ = some (.string (mkB e.text)) := (Blk.cell hSw 54); clear hSw; go_simp; try with_reducible rfl)
  case rests1 =>
  change wpAnyH _ _ _ _ _ _ _ (Act.put _ (some 18) _) _
  try simp only [Act.put, List.setIfInBounds_toArray, List.set_cons_zero, List.set_cons_succ]
  refine wpAnyH_take (i := 1) (v := ?vs2) rfl (by kernel_rfl) (by kernel_rfl) (by kernel_rfl) (fun _ _ _ h => h) (Or.inl ⟨by rfl, ?hys2⟩) (by assumption) ?rests2
  case hys2 => (intro w' hSw; have q1 : w'.cell? ⟨w.heap.size, 1, none⟩ = some (.int .i64 e.key) := (Blk.cell hSw 1); have q2 : w'.cell? ⟨w.heap.size, 2, none⟩ = some (.int .i64 e.parent) := (Blk.cell hSw 2); have q3 : w'.cell? ⟨w.heap.size, 3, none⟩ = some (.int .i64 e.at_) := (Blk.cell hSw 3); have q6 : w'.cell? ⟨w.heap.size, 6, none⟩ = some (.int .u8 (e.nkind : Int)) := (Blk.cell hSw 6); have q54 : w'.cell? ⟨w.heap.size, 54, none⟩ = some (.string (mkB e.text)) := (Blk.cell hSw 54); clear hSw; go_simp; try with_reducible rfl)
  case rests2 =>
  change wpAnyH _ _ _ _ _ _ _ (Act.put _ (some 19) _) _
  try simp only [Act.put, List.setIfInBounds_toArray, List.set_cons_zero, List.set_cons_succ]
  refine wpAnyH_take (i := 2) (v := ?vs3) rfl (by kernel_rfl) (by kernel_rfl) (by kernel_rfl) (fun _ _ _ h => h) (Or.inl ⟨by rfl, ?hys3⟩) (by assumption) ?rests3
  case hys3 => (intro w' hSw; have q1 : w'.cell? ⟨w.heap.size, 1, none⟩ = some (.int .i64 e.key) := (Blk.cell hSw 1); have q2 : w'.cell? ⟨w.heap.size, 2, none⟩ = some (.int .i64 e.parent) := (Blk.cell hSw 2); have q3 : w'.cell? ⟨w.heap.size, 3, none⟩ = some (.int .i64 e.at_) := (Blk.cell hSw 3); have q6 : w'.cell? ⟨w.heap.size, 6, none⟩ = some (.int .u8 (e.nkind : Int)) := (Blk.cell hSw 6); have q54 : w'.cell? ⟨w.heap.size, 54, none⟩ = some (.string (mkB e.text)) := (Blk.cell hSw 54); clear hSw; go_simp; try with_reducible rfl)
  case rests3 =>
  change wpAnyH _ _ _ _ _ _ _ (Act.put _ (some 20) _) _
  try simp only [Act.put, List.setIfInBounds_toArray, List.set_cons_zero, List.set_cons_succ]
  refine wpAnyH_take (i := 3) (v := ?vs4) rfl (by kernel_rfl) (by kernel_rfl) (by kernel_rfl) (fun _ _ _ h => h) (Or.inl ⟨by rfl, ?hys4⟩) (by assumption) ?rests4
  case hys4 => (intro w' hSw; have q1 : w'.cell? ⟨w.heap.size, 1, none⟩ = some (.int .i64 e.key) := (Blk.cell hSw 1); have q2 : w'.cell? ⟨w.heap.size, 2, none⟩ = some (.int .i64 e.parent) := (Blk.cell hSw 2); have q3 : w'.cell? ⟨w.heap.size, 3, none⟩ = some (.int .i64 e.at_) := (Blk.cell hSw 3); have q6 : w'.cell? ⟨w.heap.size, 6, none⟩ = some (.int .u8 (e.nkind : Int)) := (Blk.cell hSw 6); have q54 : w'.cell? ⟨w.heap.size, 54, none⟩ = some (.string (mkB e.text)) := (Blk.cell hSw 54); clear hSw; go_simp; try with_reducible rfl)
  case rests4 =>
  change wpAnyH _ _ _ _ _ _ _ (Act.put _ (some 21) _) _
  try simp only [Act.put, List.setIfInBounds_toArray, List.set_cons_zero, List.set_cons_succ]
  refine wpAnyH_take (i := 4) (v := ?vs5) rfl (by kernel_rfl) (by kernel_rfl) (by kernel_rfl) (fun _ _ _ h => h) (Or.inl ⟨by rfl, ?hys5⟩) (by assumption) ?rests5
  case hys5 => (intro w' hSw; have q1 : w'.cell? ⟨w.heap.size, 1, none⟩ = some (.int .i64 e.key) := (Blk.cell hSw 1); have q2 : w'.cell? ⟨w.heap.size, 2, none⟩ = some (.int .i64 e.parent) := (Blk.cell hSw 2); have q3 : w'.cell? ⟨w.heap.size, 3, none⟩ = some (.int .i64 e.at_) := (Blk.cell hSw 3); have q6 : w'.cell? ⟨w.heap.size, 6, none⟩ = some (.int .u8 (e.nkind : Int)) := (Blk.cell hSw 6); have q54 : w'.cell? ⟨w.heap.size, 54, none⟩ = some (.string (mkB e.text)) := (Blk.cell hSw 54); clear hSw; go_simp; try with_reducible rfl)
  case rests5 =>
  change wpAnyH _ _ _ _ _ _ _ (Act.put _ (some 22) _) _
  try simp only [Act.put, List.setIfInBounds_toArray, List.set_cons_zero, List.set_cons_succ]
  refine wpAnyH_take (i := 5) (v := ?vs6) rfl (by kernel_rfl) (by kernel_rfl) (by kernel_rfl) (fun _ _ _ h => h) (Or.inl ⟨by rfl, ?hys6⟩) (by assumption) ?rests6
  case hys6 => (intro w' hSw; have q1 : w'.cell? ⟨w.heap.size, 1, none⟩ = some (.int .i64 e.key) := (Blk.cell hSw 1); have q2 : w'.cell? ⟨w.heap.size, 2, none⟩ = some (.int .i64 e.parent) := (Blk.cell hSw 2); have q3 : w'.cell? ⟨w.heap.size, 3, none⟩ = some (.int .i64 e.at_) := (Blk.cell hSw 3); have q6 : w'.cell? ⟨w.heap.size, 6, none⟩ = some (.int .u8 (e.nkind : Int)) := (Blk.cell hSw 6); have q54 : w'.cell? ⟨w.heap.size, 54, none⟩ = some (.string (mkB e.text)) := (Blk.cell hSw 54); clear hSw; go_simp; try with_reducible rfl)
  case rests6 =>
  change wpAnyH _ _ _ _ _ _ _ (Act.put _ (some 23) _) _
  try simp only [Act.put, List.setIfInBounds_toArray, List.set_cons_zero, List.set_cons_succ]
  refine wpAnyH_take (i := 6) (v := ?vs7) rfl (by kernel_rfl) (by kernel_rfl) (by kernel_rfl) (fun _ _ _ h => h) (Or.inl ⟨by rfl, ?hys7⟩) (by assumption) ?rests7
  case hys7 => (intro w' hSw; have q1 : w'.cell? ⟨w.heap.size, 1, none⟩ = some (.int .i64 e.key) := (Blk.cell hSw 1); have q2 : w'.cell? ⟨w.heap.size, 2, none⟩ = some (.int .i64 e.parent) := (Blk.cell hSw 2); have q3 : w'.cell? ⟨w.heap.size, 3, none⟩ = some (.int .i64 e.at_) := (Blk.cell hSw 3); have q6 : w'.cell? ⟨w.heap.size, 6, none⟩ = some (.int .u8 (e.nkind : Int)) := (Blk.cell hSw 6); have q54 : w'.cell? ⟨w.heap.size, 54, none⟩ = some (.string (mkB e.text)) := (Blk.cell hSw 54); clear hSw; go_simp; try with_reducible rfl)
  case rests7 =>
  change wpAnyH _ _ _ _ _ _ _ (Act.put _ (some 24) _) _
  try simp only [Act.put, List.setIfInBounds_toArray, List.set_cons_zero, List.set_cons_succ]
  refine wpAnyH_take (i := 7) (v := ?vs8) rfl (by kernel_rfl) (by kernel_rfl) (by kernel_rfl) (fun _ _ _ h => h) (Or.inl ⟨by rfl, ?hys8⟩) (by assumption) ?rests8
  case hys8 => (intro w' hSw; have q1 : w'.cell? ⟨w.heap.size, 1, none⟩ = some (.int .i64 e.key) := (Blk.cell hSw 1); have q2 : w'.cell? ⟨w.heap.size, 2, none⟩ = some (.int .i64 e.parent) := (Blk.cell hSw 2); have q3 : w'.cell? ⟨w.heap.size, 3, none⟩ = some (.int .i64 e.at_) := (Blk.cell hSw 3); have q6 : w'.cell? ⟨w.heap.size, 6, none⟩ = some (.int .u8 (e.nkind : Int)) := (Blk.cell hSw 6); have q54 : w'.cell? ⟨w.heap.size, 54, none⟩ = some (.string (mkB e.text)) := (Blk.cell hSw 54); clear hSw; go_simp; try with_reducible rfl)
  case rests8 =>
  change wpAnyH _ _ _ _ _ _ _ (Act.put _ (some 25) _) _
  try simp only [Act.put, List.setIfInBounds_toArray, List.set_cons_zero, List.set_cons_succ]
  refine wpAnyH_ready (rs := [8]) (by kernel_rfl) (by simp) ?_
  refine AllReadyH.cons rfl (fun K hK => ?_) AllReadyH.nil
  refine step_store_one (by rfl) 3 _ _ (by rfl) (w.heap.size + 1 + 1) 2 32 _ _ (by rfl) hm.onl (by rfl) (by rw [chC_len]; omega) (by rfl) (storeVar_int _ _ _ _) ?_
  intro w6 b6 k6 z6
  have hm := CM.step (o' := { ev0 with ck := 1, parent := e.parent }) hm b6 k6 rfl
  clear b6 k6 z6
  refine hK.out _ _ hm.par (fun hHeld => ?_)
  clear hK K
  try change wpAnyH _ _ _ _ _ _ _ (Act.put _ (none) _) _
  try simp only [Act.put]
  refine wpAnyH_take (i := 9) (v := ?vs9) rfl (by kernel_rfl) (by kernel_rfl) (by kernel_rfl) (fun _ _ _ h => h) (Or.inl ⟨by rfl, ?hys9⟩) (by assumption) ?rests9
  case hys9 => (intro w' hSw; have q1 : w'.cell? ⟨w.heap.size, 1, none⟩ = some (.int .i64 e.key) := (Blk.cell hSw 1); have q2 : w'.cell? ⟨w.heap.size, 2, none⟩ = some (.int .i64 e.parent) := (Blk.cell hSw 2); have q3 : w'.cell? ⟨w.heap.size, 3, none⟩ = some (.int .i64 e.at_) := (Blk.cell hSw 3); have q6 : w'.cell? ⟨w.heap.size, 6, none⟩ = some (.int .u8 (e.nkind : Int)) := (Blk.cell hSw 6); have q54 : w'.cell? ⟨w.heap.size, 54, none⟩ = some (.string (mkB e.text)) := (Blk.cell hSw 54); clear hSw; go_simp; try with_reducible rfl)
  case rests9 =>
  change wpAnyH _ _ _ _ _ _ _ (Act.put _ (some 26) _) _
  try simp only [Act.put, List.setIfInBounds_toArray, List.set_cons_zero, List.set_cons_succ]
  refine wpAnyH_ready (rs := [10]) (by kernel_rfl) (by simp) ?_
  refine AllReadyH.cons rfl (fun K hK => ?_) AllReadyH.nil
  refine step_store_one (by rfl) 3 _ _ (by rfl) (w.heap.size + 1 + 1) 3 32 _ _ (by rfl) hm.onl (by rfl) (by rw [chC_len]; omega) (by rfl) (storeVar_int _ _ _ _) ?_
  intro w6 b6 k6 z6
  have hm := CM.step (o' := { ev0 with ck := 1, parent := e.parent, at_ := e.at_ }) hm b6 k6 rfl
  clear b6 k6 z6
  refine hK.out _ _ hm.par (fun hHeld => ?_)
  clear hK K
  try change wpAnyH _ _ _ _ _ _ _ (Act.put _ (none) _) _
  try simp only [Act.put]
  refine wpAnyH_take (i := 11) (v := ?vs10) rfl (by kernel_rfl) (by kernel_rfl) (by kernel_rfl) (fun _ _ _ h => h) (Or.inl ⟨by rfl, ?hys10⟩) (by assumption) ?rests10
  case hys10 => (intro w' hSw; have q1 : w'.cell? ⟨w.heap.size, 1, none⟩ = some (.int .i64 e.key) := (Blk.cell hSw 1); have q2 : w'.cell? ⟨w.heap.size, 2, none⟩ = some (.int .i64 e.parent) := (Blk.cell hSw 2); have q3 : w'.cell? ⟨w.heap.size, 3, none⟩ = some (.int .i64 e.at_) := (Blk.cell hSw 3); have q6 : w'.cell? ⟨w.heap.size, 6, none⟩ = some (.int .u8 (e.nkind : Int)) := (Blk.cell hSw 6); have q54 : w'.cell? ⟨w.heap.size, 54, none⟩ = some (.string (mkB e.text)) := (Blk.cell hSw 54); clear hSw; go_simp; try with_reducible rfl)
  case rests10 =>
  change wpAnyH _ _ _ _ _ _ _ (Act.put _ (some 27) _) _
  try simp only [Act.put, List.setIfInBounds_toArray, List.set_cons_zero, List.set_cons_succ]
  refine wpAnyH_take (i := 12) (v := ?vs11) rfl (by kernel_rfl) (by kernel_rfl) (by kernel_rfl) (fun _ _ _ h => h) (Or.inl ⟨by rfl, ?hys11⟩) (by assumption) ?rests11
  case hys11 => (intro w' hSw; have q1 : w'.cell? ⟨w.heap.size, 1, none⟩ = some (.int .i64 e.key) := (Blk.cell hSw 1); have q2 : w'.cell? ⟨w.heap.size, 2, none⟩ = some (.int .i64 e.parent) := (Blk.cell hSw 2); have q3 : w'.cell? ⟨w.heap.size, 3, none⟩ = some (.int .i64 e.at_) := (Blk.cell hSw 3); have q6 : w'.cell? ⟨w.heap.size, 6, none⟩ = some (.int .u8 (e.nkind : Int)) := (Blk.cell hSw 6); have q54 : w'.cell? ⟨w.heap.size, 54, none⟩ = some (.string (mkB e.text)) := (Blk.cell hSw 54); clear hSw; go_simp; try with_reducible rfl)
  case rests11 =>
  change wpAnyH _ _ _ _ _ _ _ (Act.put _ (some 28) _) _
  try simp only [Act.put, List.setIfInBounds_toArray, List.set_cons_zero, List.set_cons_succ]
  refine wpAnyH_ready (rs := [13]) (by kernel_rfl) (by simp) ?_
  refine AllReadyH.cons rfl (fun K hK => ?_) AllReadyH.nil
  refine step_store_one (by rfl) 5 _ _ (by rfl) (w.heap.size + 1 + 1) 6 32 _ _ (by rfl) hm.onl (by rfl) (by rw [chC_len]; omega) (by rfl) (storeVar_u8 _ _ _ _) ?_
  intro w6 b6 k6 z6
  have hm := CM.step (o' := { ev0 with ck := 1, parent := e.parent, at_ := e.at_, nkind := e.nkind }) hm b6 k6 rfl
  clear b6 k6 z6
  refine hK.out _ _ hm.par (fun hHeld => ?_)
  clear hK K
  try change wpAnyH _ _ _ _ _ _ _ (Act.put _ (none) _) _
  try simp only [Act.put]
  refine wpAnyH_done (by kernel_rfl) ?_ _
  skip
  clear c0 c1 o1 of hA a0
  go_upto_region 5 with fail
  refine wp_region_held_drew (S := fun w' => Blk w' w.heap.size 32 (chC e).toArray) (by kernel_rfl) (Blk.drew hm.par) (fun hHeld => ?_)
  have hm := hm.quiet 1
  refine wpAnyH_take (i := 0) (v := ?vq1) rfl (by kernel_rfl) (by kernel_rfl) (by kernel_rfl) (fun _ _ _ h => h) (Or.inl ⟨by rfl, ?hyq1⟩) (by assumption) ?restq1
  case hyq1 => (intro w' hSw; have q1 : w'.cell? ⟨w.heap.size, 1, none⟩ = some (.int .i64 e.key) := (Blk.cell hSw 1); have q2 : w'.cell? ⟨w.heap.size, 2, none⟩ = some (.int .i64 e.parent) := (Blk.cell hSw 2); have q3 : w'.cell? ⟨w.heap.size, 3, none⟩ = some (.int .i64 e.at_) := (Blk.cell hSw 3); have q6 : w'.cell? ⟨w.heap.size, 6, none⟩ = some (.int .u8 (e.nkind : Int)) := (Blk.cell hSw 6); have q54 : w'.cell? ⟨w.heap.size, 54, none⟩ = some (.string (mkB e.text)) := (Blk.cell hSw 54); clear hSw; go_simp; try with_reducible rfl)
  case restq1 =>
  change wpAnyH _ _ _ _ _ _ _ (Act.put _ (some 29) _) _
  try simp only [Act.put, List.setIfInBounds_toArray, List.set_cons_zero, List.set_cons_succ]
  refine wpAnyH_take (i := 1) (v := ?vq2) rfl (by kernel_rfl) (by kernel_rfl) (by kernel_rfl) (fun _ _ _ h => h) (Or.inl ⟨by rfl, ?hyq2⟩) (by assumption) ?restq2
  case hyq2 => (intro w' hSw; have q1 : w'.cell? ⟨w.heap.size, 1, none⟩ = some (.int .i64 e.key) := (Blk.cell hSw 1); have q2 : w'.cell? ⟨w.heap.size, 2, none⟩ = some (.int .i64 e.parent) := (Blk.cell hSw 2); have q3 : w'.cell? ⟨w.heap.size, 3, none⟩ = some (.int .i64 e.at_) := (Blk.cell hSw 3); have q6 : w'.cell? ⟨w.heap.size, 6, none⟩ = some (.int .u8 (e.nkind : Int)) := (Blk.cell hSw 6); have q54 : w'.cell? ⟨w.heap.size, 54, none⟩ = some (.string (mkB e.text)) := (Blk.cell hSw 54); clear hSw; go_simp; try with_reducible rfl)
  case restq2 =>
  change wpAnyH _ _ _ _ _ _ _ (Act.put _ (some 30) _) _
  try simp only [Act.put, List.setIfInBounds_toArray, List.set_cons_zero, List.set_cons_succ]
  refine wpAnyH_take (i := 5) (v := ?vq3) rfl (by kernel_rfl) (by kernel_rfl) (by kernel_rfl) (fun _ _ _ h => h) (Or.inl ⟨by rfl, ?hyq3⟩) (by assumption) ?restq3
  case hyq3 => (intro w' hSw; have q1 : w'.cell? ⟨w.heap.size, 1, none⟩ = some (.int .i64 e.key) := (Blk.cell hSw 1); have q2 : w'.cell? ⟨w.heap.size, 2, none⟩ = some (.int .i64 e.parent) := (Blk.cell hSw 2); have q3 : w'.cell? ⟨w.heap.size, 3, none⟩ = some (.int .i64 e.at_) := (Blk.cell hSw 3); have q6 : w'.cell? ⟨w.heap.size, 6, none⟩ = some (.int .u8 (e.nkind : Int)) := (Blk.cell hSw 6); have q54 : w'.cell? ⟨w.heap.size, 54, none⟩ = some (.string (mkB e.text)) := (Blk.cell hSw 54); clear hSw; go_simp; try with_reducible rfl)
  case restq3 =>
  change wpAnyH _ _ _ _ _ _ _ (Act.put _ (some 34) _) _
  try simp only [Act.put, List.setIfInBounds_toArray, List.set_cons_zero, List.set_cons_succ]
  refine wpAnyH_take (i := 6) (v := ?vq4) rfl (by kernel_rfl) (by kernel_rfl) (by kernel_rfl) (fun _ _ _ h => h) (Or.inl ⟨by rfl, ?hyq4⟩) (by assumption) ?restq4
  case hyq4 => (intro w' hSw; have q1 : w'.cell? ⟨w.heap.size, 1, none⟩ = some (.int .i64 e.key) := (Blk.cell hSw 1); have q2 : w'.cell? ⟨w.heap.size, 2, none⟩ = some (.int .i64 e.parent) := (Blk.cell hSw 2); have q3 : w'.cell? ⟨w.heap.size, 3, none⟩ = some (.int .i64 e.at_) := (Blk.cell hSw 3); have q6 : w'.cell? ⟨w.heap.size, 6, none⟩ = some (.int .u8 (e.nkind : Int)) := (Blk.cell hSw 6); have q54 : w'.cell? ⟨w.heap.size, 54, none⟩ = some (.string (mkB e.text)) := (Blk.cell hSw 54); clear hSw; go_simp; try with_reducible rfl)
  case restq4 =>
  change wpAnyH _ _ _ _ _ _ _ (Act.put _ (some 35) _) _
  try simp only [Act.put, List.setIfInBounds_toArray, List.set_cons_zero, List.set_cons_succ]
  refine wpAnyH_ready (rs := [2]) (by kernel_rfl) (by simp) ?_
  refine AllReadyH.cons rfl (fun K hK => ?_) AllReadyH.nil
  go_simp
  go_at_call 42
  first | (with_reducible refine (hd1.out _).mono ?_) | (with_reducible refine (hd2.out _).mono ?_) | (with_reducible refine (hd3.out _).mono ?_)
  rintro e5 w5 ⟨rfl, rfl⟩
  refine hK.out _ _ (by assumption) (fun hHeld => ?_)
  clear hK K
  try change wpAnyH _ _ _ _ _ _ _ (Act.put _ (some 31) _) _
  try simp only [Act.put, List.setIfInBounds_toArray, List.set_cons_zero, List.set_cons_succ]
  refine wpAnyH_take (i := 3) (v := ?vq5) rfl (by kernel_rfl) (by kernel_rfl) (by kernel_rfl) (fun _ _ _ h => h) (Or.inl ⟨by rfl, ?hyq5⟩) (by assumption) ?restq5
  case hyq5 => (intro w' hSw; have q1 : w'.cell? ⟨w.heap.size, 1, none⟩ = some (.int .i64 e.key) := (Blk.cell hSw 1); have q2 : w'.cell? ⟨w.heap.size, 2, none⟩ = some (.int .i64 e.parent) := (Blk.cell hSw 2); have q3 : w'.cell? ⟨w.heap.size, 3, none⟩ = some (.int .i64 e.at_) := (Blk.cell hSw 3); have q6 : w'.cell? ⟨w.heap.size, 6, none⟩ = some (.int .u8 (e.nkind : Int)) := (Blk.cell hSw 6); have q54 : w'.cell? ⟨w.heap.size, 54, none⟩ = some (.string (mkB e.text)) := (Blk.cell hSw 54); clear hSw; go_simp; (rw [if_neg (by omega)]))
  case restq5 =>
  change wpAnyH _ _ _ _ _ _ _ (Act.put _ (some 32) _) _
  try simp only [Act.put, List.setIfInBounds_toArray, List.set_cons_zero, List.set_cons_succ]
  refine wpAnyH_take (i := 4) (v := ?vq6) rfl (by kernel_rfl) (by kernel_rfl) (by kernel_rfl) (fun _ _ _ h => h) (Or.inl ⟨by rfl, ?hyq6⟩) (by assumption) ?restq6
  case hyq6 => (intro w' hSw; have q1 : w'.cell? ⟨w.heap.size, 1, none⟩ = some (.int .i64 e.key) := (Blk.cell hSw 1); have q2 : w'.cell? ⟨w.heap.size, 2, none⟩ = some (.int .i64 e.parent) := (Blk.cell hSw 2); have q3 : w'.cell? ⟨w.heap.size, 3, none⟩ = some (.int .i64 e.at_) := (Blk.cell hSw 3); have q6 : w'.cell? ⟨w.heap.size, 6, none⟩ = some (.int .u8 (e.nkind : Int)) := (Blk.cell hSw 6); have q54 : w'.cell? ⟨w.heap.size, 54, none⟩ = some (.string (mkB e.text)) := (Blk.cell hSw 54); clear hSw; go_simp; (rw [if_neg (by omega)]))
  case restq6 =>
  change wpAnyH _ _ _ _ _ _ _ (Act.put _ (some 33) _) _
  try simp only [Act.put, List.setIfInBounds_toArray, List.set_cons_zero, List.set_cons_succ]
  refine wpAnyH_ready (rs := [7]) (by kernel_rfl) (by simp) ?_
  refine AllReadyH.cons rfl (fun K hK => ?_) AllReadyH.nil
  go_simp
  go_at_call 42
  first | (with_reducible refine (hd1.out _).mono ?_) | (with_reducible refine (hd2.out _).mono ?_) | (with_reducible refine (hd3.out _).mono ?_)
  rintro e5 w5 ⟨rfl, rfl⟩
  refine hK.out _ _ (by assumption) (fun hHeld => ?_)
  clear hK K
  try change wpAnyH _ _ _ _ _ _ _ (Act.put _ (some 36) _) _
  try simp only [Act.put, List.setIfInBounds_toArray, List.set_cons_zero, List.set_cons_succ]
  refine wpAnyH_take (i := 8) (v := ?vq7) rfl (by kernel_rfl) (by kernel_rfl) (by kernel_rfl) (fun _ _ _ h => h) (Or.inl ⟨by rfl, ?hyq7⟩) (by assumption) ?restq7
  case hyq7 => (intro w' hSw; have q1 : w'.cell? ⟨w.heap.size, 1, none⟩ = some (.int .i64 e.key) := (Blk.cell hSw 1); have q2 : w'.cell? ⟨w.heap.size, 2, none⟩ = some (.int .i64 e.parent) := (Blk.cell hSw 2); have q3 : w'.cell? ⟨w.heap.size, 3, none⟩ = some (.int .i64 e.at_) := (Blk.cell hSw 3); have q6 : w'.cell? ⟨w.heap.size, 6, none⟩ = some (.int .u8 (e.nkind : Int)) := (Blk.cell hSw 6); have q54 : w'.cell? ⟨w.heap.size, 54, none⟩ = some (.string (mkB e.text)) := (Blk.cell hSw 54); clear hSw; go_simp; (rw [if_neg (by omega)]))
  case restq7 =>
  change wpAnyH _ _ _ _ _ _ _ (Act.put _ (some 37) _) _
  try simp only [Act.put, List.setIfInBounds_toArray, List.set_cons_zero, List.set_cons_succ]
  refine wpAnyH_take (i := 9) (v := ?vq8) rfl (by kernel_rfl) (by kernel_rfl) (by kernel_rfl) (fun _ _ _ h => h) (Or.inl ⟨by rfl, ?hyq8⟩) (by assumption) ?restq8
  case hyq8 => (intro w' hSw; have q1 : w'.cell? ⟨w.heap.size, 1, none⟩ = some (.int .i64 e.key) := (Blk.cell hSw 1); have q2 : w'.cell? ⟨w.heap.size, 2, none⟩ = some (.int .i64 e.parent) := (Blk.cell hSw 2); have q3 : w'.cell? ⟨w.heap.size, 3, none⟩ = some (.int .i64 e.at_) := (Blk.cell hSw 3); have q6 : w'.cell? ⟨w.heap.size, 6, none⟩ = some (.int .u8 (e.nkind : Int)) := (Blk.cell hSw 6); have q54 : w'.cell? ⟨w.heap.size, 54, none⟩ = some (.string (mkB e.text)) := (Blk.cell hSw 54); clear hSw; go_simp; try with_reducible rfl)
  case restq8 =>
  change wpAnyH _ _ _ _ _ _ _ (Act.put _ (some 6) _) _
  try simp only [Act.put, List.setIfInBounds_toArray, List.set_cons_zero, List.set_cons_succ]
  refine wpAnyH_done (by kernel_rfl) ?_ _
  skip
  have q6 : w6.drew.cell? ⟨w.heap.size, 6, none⟩ = some (.int .u8 1) := (hm.par.cell 6).trans (by show some (Value.int .u8 (e.nkind : Int)) = _; rw [HK.out]; rfl)
  have q54 : w6.drew.cell? ⟨w.heap.size, 54, none⟩ = some (.string (mkB e.text)) := hm.par.cell 54
  have o54 : w6.drew.cell? ⟨w.heap.size + 1 + 1, 54, none⟩ = some (.string ⟨#[]⟩) := hm.onl.cell 54
  have of : ∀ i, w6.drew.frozen? ⟨w.heap.size + 1 + 1, i, none⟩ = false := hm.onl.frozen
  go_upto_region 8 with fail
  have hm : CM e w.heap.size w ev0 { ev0 with ck := 1, parent := e.parent, at_ := e.at_, nkind := e.nkind, text := e.text } (w6.setCell ⟨w.heap.size + 1 + 1, 54, none⟩ (.string (mkB e.text))) := (CM.unquiet (m := 1) hm).set (o' := { ev0 with ck := 1, parent := e.parent, at_ := e.at_, nkind := e.nkind, text := e.text }) 54 (.string (mkB e.text)) rfl
  generalize w6.setCell ⟨w.heap.size + 1 + 1, 54, none⟩ (.string (mkB e.text)) = w7 at *
  obtain ⟨o, ho⟩ : ∃ o : Ev, o = { ev0 with ck := 1, parent := e.parent, at_ := e.at_, nkind := e.nkind, text := e.text } := ⟨_, rfl⟩
  have hm : CM e w.heap.size w ev0 o w7.drew := by rw [ho]; exact hm.quiet 1
  have HO := Lib.hid ho
  clear ho e1
  refine wp_region_held_drew (S := fun w' => ∃ r, CM e w.heap.size w r o w') (by kernel_rfl) ⟨_, hm.quiet 1⟩ (fun hHeld => ?_)
  clear hm
  refine wpAnyH_take (i := 0) (v := ?v1) rfl (by kernel_rfl) (by kernel_rfl) (by kernel_rfl) (fun _ _ _ h => h) (Or.inl ⟨by rfl, ?hy1⟩) (by assumption) ?rest1
  case hy1 => (intro w' hSw; obtain ⟨_, hSw⟩ := hSw; have q1 : w'.cell? ⟨w.heap.size, 1, none⟩ = some (.int .i64 e.key) := hSw.par.cell 1; have q2 : w'.cell? ⟨w.heap.size, 2, none⟩ = some (.int .i64 e.parent) := hSw.par.cell 2; have q3 : w'.cell? ⟨w.heap.size, 3, none⟩ = some (.int .i64 e.at_) := hSw.par.cell 3; have q6 : w'.cell? ⟨w.heap.size, 6, none⟩ = some (.int .u8 (e.nkind : Int)) := hSw.par.cell 6; have q54 : w'.cell? ⟨w.heap.size, 54, none⟩ = some (.string (mkB e.text)) := hSw.par.cell 54; clear hSw; go_simp; try with_reducible rfl)
  case rest1 =>
  change wpAnyH _ _ _ _ _ _ _ (Act.put _ (some 47) _) _
  try simp only [Act.put, List.setIfInBounds_toArray, List.set_cons_zero, List.set_cons_succ]
  refine wpAnyH_take (i := 1) (v := ?v2) rfl (by kernel_rfl) (by kernel_rfl) (by kernel_rfl) (fun _ _ _ h => h) (Or.inl ⟨by rfl, ?hy2⟩) (by assumption) ?rest2
  case hy2 => (intro w' hSw; obtain ⟨_, hSw⟩ := hSw; have q1 : w'.cell? ⟨w.heap.size, 1, none⟩ = some (.int .i64 e.key) := hSw.par.cell 1; have q2 : w'.cell? ⟨w.heap.size, 2, none⟩ = some (.int .i64 e.parent) := hSw.par.cell 2; have q3 : w'.cell? ⟨w.heap.size, 3, none⟩ = some (.int .i64 e.at_) := hSw.par.cell 3; have q6 : w'.cell? ⟨w.heap.size, 6, none⟩ = some (.int .u8 (e.nkind : Int)) := hSw.par.cell 6; have q54 : w'.cell? ⟨w.heap.size, 54, none⟩ = some (.string (mkB e.text)) := hSw.par.cell 54; clear hSw; go_simp; (rw [if_neg (by omega)]))
  case rest2 =>
  change wpAnyH _ _ _ _ _ _ _ (Act.put _ (some 48) _) _
  try simp only [Act.put, List.setIfInBounds_toArray, List.set_cons_zero, List.set_cons_succ]
  refine wpAnyH_take (i := 2) (v := ?v3) rfl (by kernel_rfl) (by kernel_rfl) (by kernel_rfl) (fun _ _ _ h => h) (Or.inl ⟨by rfl, ?hy3⟩) (by assumption) ?rest3
  case hy3 => (intro w' hSw; obtain ⟨_, hSw⟩ := hSw; have q1 : w'.cell? ⟨w.heap.size, 1, none⟩ = some (.int .i64 e.key) := hSw.par.cell 1; have q2 : w'.cell? ⟨w.heap.size, 2, none⟩ = some (.int .i64 e.parent) := hSw.par.cell 2; have q3 : w'.cell? ⟨w.heap.size, 3, none⟩ = some (.int .i64 e.at_) := hSw.par.cell 3; have q6 : w'.cell? ⟨w.heap.size, 6, none⟩ = some (.int .u8 (e.nkind : Int)) := hSw.par.cell 6; have q54 : w'.cell? ⟨w.heap.size, 54, none⟩ = some (.string (mkB e.text)) := hSw.par.cell 54; clear hSw; go_simp; try with_reducible rfl)
  case rest3 =>
  change wpAnyH _ _ _ _ _ _ _ (Act.put _ (some 49) _) _
  try simp only [Act.put, List.setIfInBounds_toArray, List.set_cons_zero, List.set_cons_succ]
  refine wpAnyH_take (i := 3) (v := ?v4) rfl (by kernel_rfl) (by kernel_rfl) (by kernel_rfl) (fun _ _ _ h => h) (Or.inl ⟨by rfl, ?hy4⟩) (by assumption) ?rest4
  case hy4 => (intro w' hSw; obtain ⟨_, hSw⟩ := hSw; have q1 : w'.cell? ⟨w.heap.size, 1, none⟩ = some (.int .i64 e.key) := hSw.par.cell 1; have q2 : w'.cell? ⟨w.heap.size, 2, none⟩ = some (.int .i64 e.parent) := hSw.par.cell 2; have q3 : w'.cell? ⟨w.heap.size, 3, none⟩ = some (.int .i64 e.at_) := hSw.par.cell 3; have q6 : w'.cell? ⟨w.heap.size, 6, none⟩ = some (.int .u8 (e.nkind : Int)) := hSw.par.cell 6; have q54 : w'.cell? ⟨w.heap.size, 54, none⟩ = some (.string (mkB e.text)) := hSw.par.cell 54; clear hSw; go_simp; try with_reducible rfl)
  case rest4 =>
  change wpAnyH _ _ _ _ _ _ _ (Act.put _ (some 50) _) _
  try simp only [Act.put, List.setIfInBounds_toArray, List.set_cons_zero, List.set_cons_succ]
  refine wpAnyH_take (i := 4) (v := ?v5) rfl (by kernel_rfl) (by kernel_rfl) (by kernel_rfl) (fun _ _ _ h => h) (Or.inl ⟨by rfl, ?hy5⟩) (by assumption) ?rest5
  case hy5 => (intro w' hSw; obtain ⟨_, hSw⟩ := hSw; have q1 : w'.cell? ⟨w.heap.size, 1, none⟩ = some (.int .i64 e.key) := hSw.par.cell 1; have q2 : w'.cell? ⟨w.heap.size, 2, none⟩ = some (.int .i64 e.parent) := hSw.par.cell 2; have q3 : w'.cell? ⟨w.heap.size, 3, none⟩ = some (.int .i64 e.at_) := hSw.par.cell 3; have q6 : w'.cell? ⟨w.heap.size, 6, none⟩ = some (.int .u8 (e.nkind : Int)) := hSw.par.cell 6; have q54 : w'.cell? ⟨w.heap.size, 54, none⟩ = some (.string (mkB e.text)) := hSw.par.cell 54; clear hSw; go_simp; try with_reducible rfl)
  case rest5 =>
  change wpAnyH _ _ _ _ _ _ _ (Act.put _ (some 51) _) _
  try simp only [Act.put, List.setIfInBounds_toArray, List.set_cons_zero, List.set_cons_succ]
  refine' wpAnyH_take (i := 7) (v := _) rfl (by kernel_rfl) (by kernel_rfl) (by kernel_rfl) (fun _ _ _ h => h) (yieldsIf_load_mid (by rfl) _ _ rfl _ _ rfl (chC o) _ (fun _ h => by obtain ⟨_, h⟩ := h; exact blk_range h.onl (chC_self _)) Tryz.underlying32 rfl chC_size) (by assumption) ?_
  change wpAnyH _ _ _ _ _ _ _ (Act.put _ (some 54) _) _
  try simp only [Act.put, List.setIfInBounds_toArray, List.set_cons_zero, List.set_cons_succ]
  refine wpAnyH_ready (rs := [5]) (by kernel_rfl) (by simp) ?_
  refine AllReadyH.cons rfl (fun K hK => ?_) AllReadyH.nil
  go_simp
  go_at_call 63
  with_reducible refine (hq.out _).mono ?_
  rintro e5 w5 ⟨rfl, hq5⟩
  obtain ⟨m5, rfl⟩ := hq5
  refine hK.out _ _ (by obtain ⟨r, hr⟩ := hHeld; exact ⟨r, hr.quiet m5⟩) (fun hHeld => ?_)
  clear hK K
  try change wpAnyH _ _ _ _ _ _ _ (Act.put _ (some 52) _) _
  try simp only [Act.put, List.setIfInBounds_toArray, List.set_cons_zero, List.set_cons_succ]
  refine wpAnyH_take (i := 6) (v := ?v6) rfl (by kernel_rfl) (by kernel_rfl) (by kernel_rfl) (fun _ _ _ h => h) (Or.inl ⟨by rfl, ?hy6⟩) (by assumption) ?rest6
  case hy6 => (intro w' hSw; obtain ⟨_, hSw⟩ := hSw; have q1 : w'.cell? ⟨w.heap.size, 1, none⟩ = some (.int .i64 e.key) := hSw.par.cell 1; have q2 : w'.cell? ⟨w.heap.size, 2, none⟩ = some (.int .i64 e.parent) := hSw.par.cell 2; have q3 : w'.cell? ⟨w.heap.size, 3, none⟩ = some (.int .i64 e.at_) := hSw.par.cell 3; have q6 : w'.cell? ⟨w.heap.size, 6, none⟩ = some (.int .u8 (e.nkind : Int)) := hSw.par.cell 6; have q54 : w'.cell? ⟨w.heap.size, 54, none⟩ = some (.string (mkB e.text)) := hSw.par.cell 54; clear hSw; go_simp; (rw [if_neg (by omega)]))
  case rest6 =>
  change wpAnyH _ _ _ _ _ _ _ (Act.put _ (some 53) _) _
  try simp only [Act.put, List.setIfInBounds_toArray, List.set_cons_zero, List.set_cons_succ]
  refine wpAnyH_take (i := 8) (v := ?v7) rfl (by kernel_rfl) (by kernel_rfl) (by kernel_rfl) (fun _ _ _ h => h) (Or.inl ⟨by rfl, ?hy7⟩) (by assumption) ?rest7
  case hy7 => (intro w' hSw; obtain ⟨_, hSw⟩ := hSw; have q1 : w'.cell? ⟨w.heap.size, 1, none⟩ = some (.int .i64 e.key) := hSw.par.cell 1; have q2 : w'.cell? ⟨w.heap.size, 2, none⟩ = some (.int .i64 e.parent) := hSw.par.cell 2; have q3 : w'.cell? ⟨w.heap.size, 3, none⟩ = some (.int .i64 e.at_) := hSw.par.cell 3; have q6 : w'.cell? ⟨w.heap.size, 6, none⟩ = some (.int .u8 (e.nkind : Int)) := hSw.par.cell 6; have q54 : w'.cell? ⟨w.heap.size, 54, none⟩ = some (.string (mkB e.text)) := hSw.par.cell 54; clear hSw; go_simp; try with_reducible rfl)
  case rest7 =>
  change wpAnyH _ _ _ _ _ _ _ (Act.put _ (some 2) _) _
  try simp only [Act.put, List.setIfInBounds_toArray, List.set_cons_zero, List.set_cons_succ]
  refine wpAnyH_ready (rs := [9]) (by kernel_rfl) (by simp) ?_
  refine AllReadyH.cons rfl (fun K hK => ?_) AllReadyH.nil
  obtain ⟨r, hr⟩ := hHeld
  refine step_store_blk (by rfl) 32 _ _ (by rfl) (w.heap.size + 1) 0 32 (chC r) (chC o) (by rfl) hr.res (by rfl) (by rw [chC_len, chC_len]; exact Nat.le_refl _) chC_size (chC_cells _) ?_
  intro w6 b6 k6 z6
  have hr6 := CM.ans hr b6 k6
  clear b6 k6 z6 hr
  refine hK.out _ _ ⟨_, hr6⟩ (fun hHeld => ?_)
  clear hK K
  try change wpAnyH _ _ _ _ _ _ _ (Act.put _ (none) _) _
  try simp only [Act.put]
  refine wpAnyH_take (i := 10) (v := ?v8) rfl (by kernel_rfl) (by kernel_rfl) (by kernel_rfl) (fun _ _ _ h => h) (Or.inl ⟨by rfl, ?hy8⟩) (by assumption) ?rest8
  case hy8 => (intro w' hSw; obtain ⟨_, hSw⟩ := hSw; have q1 : w'.cell? ⟨w.heap.size, 1, none⟩ = some (.int .i64 e.key) := hSw.par.cell 1; have q2 : w'.cell? ⟨w.heap.size, 2, none⟩ = some (.int .i64 e.parent) := hSw.par.cell 2; have q3 : w'.cell? ⟨w.heap.size, 3, none⟩ = some (.int .i64 e.at_) := hSw.par.cell 3; have q6 : w'.cell? ⟨w.heap.size, 6, none⟩ = some (.int .u8 (e.nkind : Int)) := hSw.par.cell 6; have q54 : w'.cell? ⟨w.heap.size, 54, none⟩ = some (.string (mkB e.text)) := hSw.par.cell 54; clear hSw; go_simp; try with_reducible rfl)
  case rest8 =>
  change wpAnyH _ _ _ _ _ _ _ (Act.put _ (some 4) _) _
  try simp only [Act.put, List.setIfInBounds_toArray, List.set_cons_zero, List.set_cons_succ]
  refine wpAnyH_done (by kernel_rfl) ?_ _
  go_wp2_with fail
  refine bodyPost_ret (results_tct rfl _ _ (w.heap.size + 1) 32 (chC o).toArray (0, 0) _ rfl hr6.res Tryz.underlying32 rfl chC_size) rfl ?_
  have hc := HC.out
  have hk := HK.out
  exact ChangePost.done (x := [105, 110, 115, 101, 114, 116, 32] ++ Lib.itoa e.parent ++ [32] ++ Lib.itoa e.at_ ++ [32, 116, 101, 120, 116, 32] ++ quoted e.text) rfl hr6 (by rw [show ([105, 110, 115, 101, 114, 116, 32] ++ Lib.itoa e.parent ++ [32] ++ Lib.itoa e.at_ ++ [32, 116, 101, 120, 116, 32] ++ quoted e.text : List UInt8) = [105, 110, 115, 101, 114, 116, 32] ++ Lib.itoa e.parent ++ [32] ++ Lib.itoa e.at_ ++ [32, 116, 101, 120, 116, 32] ++ quoted e.text from by simp, ← mkB_append, ← mkB_append, ← mkB_append, ← mkB_append, ← mkB_append]; rfl) (by rw [HO.out]; unfold onlyR; simp [hc, hk]; rfl) rfl (by unfold isR; simp [hc, hk]) (fun _ => by unfold wordsR; simp [hc, hk, joinC, insertB, textB]) (by simp only [mkB_size] at *; simp; omega)

set_option maxRecDepth 100000 in
set_option maxHeartbeats 8000000 in
theorem change2 (e : Ev) (he : e.Ok) (hc : e.ck = 2) (w : World) :
    Calls Tryz.prog 41 #[.agg (chC e).toArray] w (ChangePost e w) := by
  have hA : (chC e).toArray.size = 55 := rfl
  have a0 : (chC e).toArray[0]'(by omega) = .int .u8 2 := by
    show Value.int .u8 (e.ck : Int) = _
    rw [hc]; rfl
  have HC := Lib.hid hc
  clear hc
  have hd1 := Lib.hid (fun W => digits_same he.key W)
  have hd2 := Lib.hid (fun W => digits_same he.parent W)
  have hd3 := Lib.hid (fun W => digits_same he.at_ W)
  have z1 := itoa_size he.key
  have z2 := itoa_size he.parent
  have z3 := itoa_size he.at_
  go_enter Tryz.func41, Tryz.ntmps41
  go_upto_region 14 with (refine wpList_store_blk rfl 32 _ _ rfl (w.heap.size + 1 + 1) 0 32 (chC ev0) (chC { ev0 with ck := 2 }) rfl (allocs_blk (chObjs e) w 2 _ _ rfl) rfl (by rw [chC_len, chC_len]; exact Nat.le_refl _) chC_size (chC_cells _) ?_; intro w1 b1 k1 z1; rw [chC_all] at b1; have hm := CM.start (e := e) b1 k1; clear b1 k1 z1; have c0 : w1.cell? ⟨w.heap.size, 0, none⟩ = some (.int .u8 2) := (hm.par.cell 0).trans (congrArg some a0); have c1 : w1.cell? ⟨w.heap.size, 1, none⟩ = some (.int .i64 e.key) := hm.par.cell 1; have o1 : w1.cell? ⟨w.heap.size + 1 + 1, 1, none⟩ = some (.int .i64 0) := hm.onl.cell 1; have of := hm.onl.frozen)
  have hm := hm.set (o' := { ev0 with ck := 2, key := e.key }) 1 (.int .i64 e.key) rfl
  generalize w1.setCell ⟨w.heap.size + 1 + 1, 1, none⟩ (.int .i64 e.key) = w2 at *
  clear c0 c1 o1 of hA a0
  obtain ⟨o, ho⟩ : ∃ o : Ev, o = { ev0 with ck := 2, key := e.key } := ⟨_, rfl⟩
  rw [← ho] at hm
  have HO := Lib.hid ho
  clear ho
  refine wp_region_held_drew (S := fun w' => ∃ r, CM e w.heap.size w r o w') (by kernel_rfl) ⟨_, hm.quiet 1⟩ (fun hHeld => ?_)
  clear hm
  refine wpAnyH_take (i := 0) (v := ?v1) rfl (by kernel_rfl) (by kernel_rfl) (by kernel_rfl) (fun _ _ _ h => h) (Or.inl ⟨by rfl, ?hy1⟩) (by assumption) ?rest1
  case hy1 => (intro w' hSw; obtain ⟨_, hSw⟩ := hSw; have q1 : w'.cell? ⟨w.heap.size, 1, none⟩ = some (.int .i64 e.key) := hSw.par.cell 1; have q2 : w'.cell? ⟨w.heap.size, 2, none⟩ = some (.int .i64 e.parent) := hSw.par.cell 2; have q3 : w'.cell? ⟨w.heap.size, 3, none⟩ = some (.int .i64 e.at_) := hSw.par.cell 3; have q6 : w'.cell? ⟨w.heap.size, 6, none⟩ = some (.int .u8 (e.nkind : Int)) := hSw.par.cell 6; have q54 : w'.cell? ⟨w.heap.size, 54, none⟩ = some (.string (mkB e.text)) := hSw.par.cell 54; clear hSw; go_simp; try with_reducible rfl)
  case rest1 =>
  change wpAnyH _ _ _ _ _ _ _ (Act.put _ (some 84) _) _
  try simp only [Act.put, List.setIfInBounds_toArray, List.set_cons_zero, List.set_cons_succ]
  refine wpAnyH_take (i := 1) (v := ?v2) rfl (by kernel_rfl) (by kernel_rfl) (by kernel_rfl) (fun _ _ _ h => h) (Or.inl ⟨by rfl, ?hy2⟩) (by assumption) ?rest2
  case hy2 => (intro w' hSw; obtain ⟨_, hSw⟩ := hSw; have q1 : w'.cell? ⟨w.heap.size, 1, none⟩ = some (.int .i64 e.key) := hSw.par.cell 1; have q2 : w'.cell? ⟨w.heap.size, 2, none⟩ = some (.int .i64 e.parent) := hSw.par.cell 2; have q3 : w'.cell? ⟨w.heap.size, 3, none⟩ = some (.int .i64 e.at_) := hSw.par.cell 3; have q6 : w'.cell? ⟨w.heap.size, 6, none⟩ = some (.int .u8 (e.nkind : Int)) := hSw.par.cell 6; have q54 : w'.cell? ⟨w.heap.size, 54, none⟩ = some (.string (mkB e.text)) := hSw.par.cell 54; clear hSw; go_simp; try with_reducible rfl)
  case rest2 =>
  change wpAnyH _ _ _ _ _ _ _ (Act.put _ (some 85) _) _
  try simp only [Act.put, List.setIfInBounds_toArray, List.set_cons_zero, List.set_cons_succ]
  refine' wpAnyH_take (i := 4) (v := _) rfl (by kernel_rfl) (by kernel_rfl) (by kernel_rfl) (fun _ _ _ h => h) (yieldsIf_load_mid (by rfl) _ _ rfl _ _ rfl (chC o) _ (fun _ h => by obtain ⟨_, h⟩ := h; exact blk_range h.onl (chC_self _)) Tryz.underlying32 rfl chC_size) (by assumption) ?_
  change wpAnyH _ _ _ _ _ _ _ (Act.put _ (some 88) _) _
  try simp only [Act.put, List.setIfInBounds_toArray, List.set_cons_zero, List.set_cons_succ]
  refine wpAnyH_ready (rs := [2]) (by kernel_rfl) (by simp) ?_
  refine AllReadyH.cons rfl (fun K hK => ?_) AllReadyH.nil
  go_simp
  go_at_call 42
  first | (with_reducible refine (hd1.out _).mono ?_) | (with_reducible refine (hd2.out _).mono ?_) | (with_reducible refine (hd3.out _).mono ?_)
  rintro e5 w5 ⟨rfl, rfl⟩
  refine hK.out _ _ (by assumption) (fun hHeld => ?_)
  clear hK K
  try change wpAnyH _ _ _ _ _ _ _ (Act.put _ (some 86) _) _
  try simp only [Act.put, List.setIfInBounds_toArray, List.set_cons_zero, List.set_cons_succ]
  refine wpAnyH_take (i := 3) (v := ?v3) rfl (by kernel_rfl) (by kernel_rfl) (by kernel_rfl) (fun _ _ _ h => h) (Or.inl ⟨by rfl, ?hy3⟩) (by assumption) ?rest3
  case hy3 => (intro w' hSw; obtain ⟨_, hSw⟩ := hSw; have q1 : w'.cell? ⟨w.heap.size, 1, none⟩ = some (.int .i64 e.key) := hSw.par.cell 1; have q2 : w'.cell? ⟨w.heap.size, 2, none⟩ = some (.int .i64 e.parent) := hSw.par.cell 2; have q3 : w'.cell? ⟨w.heap.size, 3, none⟩ = some (.int .i64 e.at_) := hSw.par.cell 3; have q6 : w'.cell? ⟨w.heap.size, 6, none⟩ = some (.int .u8 (e.nkind : Int)) := hSw.par.cell 6; have q54 : w'.cell? ⟨w.heap.size, 54, none⟩ = some (.string (mkB e.text)) := hSw.par.cell 54; clear hSw; go_simp; (rw [if_neg (by omega)]))
  case rest3 =>
  change wpAnyH _ _ _ _ _ _ _ (Act.put _ (some 87) _) _
  try simp only [Act.put, List.setIfInBounds_toArray, List.set_cons_zero, List.set_cons_succ]
  refine wpAnyH_take (i := 5) (v := ?v4) rfl (by kernel_rfl) (by kernel_rfl) (by kernel_rfl) (fun _ _ _ h => h) (Or.inl ⟨by rfl, ?hy4⟩) (by assumption) ?rest4
  case hy4 => (intro w' hSw; obtain ⟨_, hSw⟩ := hSw; have q1 : w'.cell? ⟨w.heap.size, 1, none⟩ = some (.int .i64 e.key) := hSw.par.cell 1; have q2 : w'.cell? ⟨w.heap.size, 2, none⟩ = some (.int .i64 e.parent) := hSw.par.cell 2; have q3 : w'.cell? ⟨w.heap.size, 3, none⟩ = some (.int .i64 e.at_) := hSw.par.cell 3; have q6 : w'.cell? ⟨w.heap.size, 6, none⟩ = some (.int .u8 (e.nkind : Int)) := hSw.par.cell 6; have q54 : w'.cell? ⟨w.heap.size, 54, none⟩ = some (.string (mkB e.text)) := hSw.par.cell 54; clear hSw; go_simp; try with_reducible rfl)
  case rest4 =>
  change wpAnyH _ _ _ _ _ _ _ (Act.put _ (some 2) _) _
  try simp only [Act.put, List.setIfInBounds_toArray, List.set_cons_zero, List.set_cons_succ]
  refine wpAnyH_ready (rs := [6]) (by kernel_rfl) (by simp) ?_
  refine AllReadyH.cons rfl (fun K hK => ?_) AllReadyH.nil
  obtain ⟨r, hr⟩ := hHeld
  refine step_store_blk (by rfl) 32 _ _ (by rfl) (w.heap.size + 1) 0 32 (chC r) (chC o) (by rfl) hr.res (by rfl) (by rw [chC_len, chC_len]; exact Nat.le_refl _) chC_size (chC_cells _) ?_
  intro w6 b6 k6 z6
  have hr6 := CM.ans hr b6 k6
  clear b6 k6 z6 hr
  refine hK.out _ _ ⟨_, hr6⟩ (fun hHeld => ?_)
  clear hK K
  try change wpAnyH _ _ _ _ _ _ _ (Act.put _ (none) _) _
  try simp only [Act.put]
  refine wpAnyH_take (i := 7) (v := ?v5) rfl (by kernel_rfl) (by kernel_rfl) (by kernel_rfl) (fun _ _ _ h => h) (Or.inl ⟨by rfl, ?hy5⟩) (by assumption) ?rest5
  case hy5 => (intro w' hSw; obtain ⟨_, hSw⟩ := hSw; have q1 : w'.cell? ⟨w.heap.size, 1, none⟩ = some (.int .i64 e.key) := hSw.par.cell 1; have q2 : w'.cell? ⟨w.heap.size, 2, none⟩ = some (.int .i64 e.parent) := hSw.par.cell 2; have q3 : w'.cell? ⟨w.heap.size, 3, none⟩ = some (.int .i64 e.at_) := hSw.par.cell 3; have q6 : w'.cell? ⟨w.heap.size, 6, none⟩ = some (.int .u8 (e.nkind : Int)) := hSw.par.cell 6; have q54 : w'.cell? ⟨w.heap.size, 54, none⟩ = some (.string (mkB e.text)) := hSw.par.cell 54; clear hSw; go_simp; try with_reducible rfl)
  case rest5 =>
  change wpAnyH _ _ _ _ _ _ _ (Act.put _ (some 4) _) _
  try simp only [Act.put, List.setIfInBounds_toArray, List.set_cons_zero, List.set_cons_succ]
  refine wpAnyH_done (by kernel_rfl) ?_ _
  go_wp2_with fail
  refine bodyPost_ret (results_tct rfl _ _ (w.heap.size + 1) 32 (chC o).toArray (0, 0) _ rfl hr6.res Tryz.underlying32 rfl chC_size) rfl ?_
  have hc := HC.out
  exact ChangePost.done (x := [114, 101, 109, 111, 118, 101, 32] ++ Lib.itoa e.key) rfl hr6 (by rw [show ([114, 101, 109, 111, 118, 101, 32] ++ Lib.itoa e.key : List UInt8) = [114, 101, 109, 111, 118, 101, 32] ++ Lib.itoa e.key from by simp, ← mkB_append]; rfl) (by rw [HO.out]; unfold onlyR; simp [hc]; rfl) rfl (by unfold isR; simp [hc]) (fun _ => by unfold wordsR; simp [hc, joinC, wordW, plainT]) (by have := itoa_size he.key; have := itoa_size he.parent; have := itoa_size he.at_; simp only [mkB_size] at *; simp; omega)

set_option maxRecDepth 100000 in
set_option maxHeartbeats 8000000 in
theorem change3 (e : Ev) (he : e.Ok) (hc : e.ck = 3) (w : World) :
    Calls Tryz.prog 41 #[.agg (chC e).toArray] w (ChangePost e w) := by
  have hA : (chC e).toArray.size = 55 := rfl
  have a0 : (chC e).toArray[0]'(by omega) = .int .u8 3 := by
    show Value.int .u8 (e.ck : Int) = _
    rw [hc]; rfl
  have HC := Lib.hid hc
  clear hc
  have hd1 := Lib.hid (fun W => digits_same he.key W)
  have hd2 := Lib.hid (fun W => digits_same he.parent W)
  have hd3 := Lib.hid (fun W => digits_same he.at_ W)
  have z1 := itoa_size he.key
  have z2 := itoa_size he.parent
  have z3 := itoa_size he.at_
  go_enter Tryz.func41, Tryz.ntmps41
  go_upto_region 16 with (refine wpList_store_blk rfl 32 _ _ rfl (w.heap.size + 1 + 1) 0 32 (chC ev0) (chC { ev0 with ck := 3 }) rfl (allocs_blk (chObjs e) w 2 _ _ rfl) rfl (by rw [chC_len, chC_len]; exact Nat.le_refl _) chC_size (chC_cells _) ?_; intro w1 b1 k1 z1; rw [chC_all] at b1; have hm := CM.start (e := e) b1 k1; clear b1 k1 z1; have c0 : w1.cell? ⟨w.heap.size, 0, none⟩ = some (.int .u8 3) := (hm.par.cell 0).trans (congrArg some a0); have c1 : w1.cell? ⟨w.heap.size, 1, none⟩ = some (.int .i64 e.key) := hm.par.cell 1; have o1 : w1.cell? ⟨w.heap.size + 1 + 1, 1, none⟩ = some (.int .i64 0) := hm.onl.cell 1; have of := hm.onl.frozen)
  refine wp_region_held_drew (S := fun w' => Blk w' w.heap.size 32 (chC e).toArray) (by kernel_rfl) (Blk.drew hm.par) (fun hHeld => ?_)
  have hm := hm.quiet 1
  refine wpAnyH_take (i := 0) (v := ?vs1) rfl (by kernel_rfl) (by kernel_rfl) (by kernel_rfl) (fun _ _ _ h => h) (Or.inl ⟨by rfl, ?hys1⟩) (by assumption) ?rests1
  case hys1 => (intro w' hSw; have q1 : w'.cell? ⟨w.heap.size, 1, none⟩ = some (.int .i64 e.key) := (Blk.cell hSw 1); have q2 : w'.cell? ⟨w.heap.size, 2, none⟩ = some (.int .i64 e.parent) := (Blk.cell hSw 2); have q3 : w'.cell? ⟨w.heap.size, 3, none⟩ = some (.int .i64 e.at_) := (Blk.cell hSw 3); have q6 : w'.cell? ⟨w.heap.size, 6, none⟩ = some (.int .u8 (e.nkind : Int)) := (Blk.cell hSw 6); have q54 : w'.cell? ⟨w.heap.size, 54, none⟩ = some (.string (mkB e.text)) := (Blk.cell hSw 54); clear hSw; go_simp; try with_reducible rfl)
  case rests1 =>
  change wpAnyH _ _ _ _ _ _ _ (Act.put _ (some 91) _) _
  try simp only [Act.put, List.setIfInBounds_toArray, List.set_cons_zero, List.set_cons_succ]
  refine wpAnyH_take (i := 1) (v := ?vs2) rfl (by kernel_rfl) (by kernel_rfl) (by kernel_rfl) (fun _ _ _ h => h) (Or.inl ⟨by rfl, ?hys2⟩) (by assumption) ?rests2
  case hys2 => (intro w' hSw; have q1 : w'.cell? ⟨w.heap.size, 1, none⟩ = some (.int .i64 e.key) := (Blk.cell hSw 1); have q2 : w'.cell? ⟨w.heap.size, 2, none⟩ = some (.int .i64 e.parent) := (Blk.cell hSw 2); have q3 : w'.cell? ⟨w.heap.size, 3, none⟩ = some (.int .i64 e.at_) := (Blk.cell hSw 3); have q6 : w'.cell? ⟨w.heap.size, 6, none⟩ = some (.int .u8 (e.nkind : Int)) := (Blk.cell hSw 6); have q54 : w'.cell? ⟨w.heap.size, 54, none⟩ = some (.string (mkB e.text)) := (Blk.cell hSw 54); clear hSw; go_simp; try with_reducible rfl)
  case rests2 =>
  change wpAnyH _ _ _ _ _ _ _ (Act.put _ (some 92) _) _
  try simp only [Act.put, List.setIfInBounds_toArray, List.set_cons_zero, List.set_cons_succ]
  refine wpAnyH_take (i := 2) (v := ?vs3) rfl (by kernel_rfl) (by kernel_rfl) (by kernel_rfl) (fun _ _ _ h => h) (Or.inl ⟨by rfl, ?hys3⟩) (by assumption) ?rests3
  case hys3 => (intro w' hSw; have q1 : w'.cell? ⟨w.heap.size, 1, none⟩ = some (.int .i64 e.key) := (Blk.cell hSw 1); have q2 : w'.cell? ⟨w.heap.size, 2, none⟩ = some (.int .i64 e.parent) := (Blk.cell hSw 2); have q3 : w'.cell? ⟨w.heap.size, 3, none⟩ = some (.int .i64 e.at_) := (Blk.cell hSw 3); have q6 : w'.cell? ⟨w.heap.size, 6, none⟩ = some (.int .u8 (e.nkind : Int)) := (Blk.cell hSw 6); have q54 : w'.cell? ⟨w.heap.size, 54, none⟩ = some (.string (mkB e.text)) := (Blk.cell hSw 54); clear hSw; go_simp; try with_reducible rfl)
  case rests3 =>
  change wpAnyH _ _ _ _ _ _ _ (Act.put _ (some 93) _) _
  try simp only [Act.put, List.setIfInBounds_toArray, List.set_cons_zero, List.set_cons_succ]
  refine wpAnyH_take (i := 3) (v := ?vs4) rfl (by kernel_rfl) (by kernel_rfl) (by kernel_rfl) (fun _ _ _ h => h) (Or.inl ⟨by rfl, ?hys4⟩) (by assumption) ?rests4
  case hys4 => (intro w' hSw; have q1 : w'.cell? ⟨w.heap.size, 1, none⟩ = some (.int .i64 e.key) := (Blk.cell hSw 1); have q2 : w'.cell? ⟨w.heap.size, 2, none⟩ = some (.int .i64 e.parent) := (Blk.cell hSw 2); have q3 : w'.cell? ⟨w.heap.size, 3, none⟩ = some (.int .i64 e.at_) := (Blk.cell hSw 3); have q6 : w'.cell? ⟨w.heap.size, 6, none⟩ = some (.int .u8 (e.nkind : Int)) := (Blk.cell hSw 6); have q54 : w'.cell? ⟨w.heap.size, 54, none⟩ = some (.string (mkB e.text)) := (Blk.cell hSw 54); clear hSw; go_simp; try with_reducible rfl)
  case rests4 =>
  change wpAnyH _ _ _ _ _ _ _ (Act.put _ (some 94) _) _
  try simp only [Act.put, List.setIfInBounds_toArray, List.set_cons_zero, List.set_cons_succ]
  refine wpAnyH_take (i := 4) (v := ?vs5) rfl (by kernel_rfl) (by kernel_rfl) (by kernel_rfl) (fun _ _ _ h => h) (Or.inl ⟨by rfl, ?hys5⟩) (by assumption) ?rests5
  case hys5 => (intro w' hSw; have q1 : w'.cell? ⟨w.heap.size, 1, none⟩ = some (.int .i64 e.key) := (Blk.cell hSw 1); have q2 : w'.cell? ⟨w.heap.size, 2, none⟩ = some (.int .i64 e.parent) := (Blk.cell hSw 2); have q3 : w'.cell? ⟨w.heap.size, 3, none⟩ = some (.int .i64 e.at_) := (Blk.cell hSw 3); have q6 : w'.cell? ⟨w.heap.size, 6, none⟩ = some (.int .u8 (e.nkind : Int)) := (Blk.cell hSw 6); have q54 : w'.cell? ⟨w.heap.size, 54, none⟩ = some (.string (mkB e.text)) := (Blk.cell hSw 54); clear hSw; go_simp; try with_reducible rfl)
  case rests5 =>
  change wpAnyH _ _ _ _ _ _ _ (Act.put _ (some 95) _) _
  try simp only [Act.put, List.setIfInBounds_toArray, List.set_cons_zero, List.set_cons_succ]
  refine wpAnyH_take (i := 5) (v := ?vs6) rfl (by kernel_rfl) (by kernel_rfl) (by kernel_rfl) (fun _ _ _ h => h) (Or.inl ⟨by rfl, ?hys6⟩) (by assumption) ?rests6
  case hys6 => (intro w' hSw; have q1 : w'.cell? ⟨w.heap.size, 1, none⟩ = some (.int .i64 e.key) := (Blk.cell hSw 1); have q2 : w'.cell? ⟨w.heap.size, 2, none⟩ = some (.int .i64 e.parent) := (Blk.cell hSw 2); have q3 : w'.cell? ⟨w.heap.size, 3, none⟩ = some (.int .i64 e.at_) := (Blk.cell hSw 3); have q6 : w'.cell? ⟨w.heap.size, 6, none⟩ = some (.int .u8 (e.nkind : Int)) := (Blk.cell hSw 6); have q54 : w'.cell? ⟨w.heap.size, 54, none⟩ = some (.string (mkB e.text)) := (Blk.cell hSw 54); clear hSw; go_simp; try with_reducible rfl)
  case rests6 =>
  change wpAnyH _ _ _ _ _ _ _ (Act.put _ (some 96) _) _
  try simp only [Act.put, List.setIfInBounds_toArray, List.set_cons_zero, List.set_cons_succ]
  refine wpAnyH_take (i := 6) (v := ?vs7) rfl (by kernel_rfl) (by kernel_rfl) (by kernel_rfl) (fun _ _ _ h => h) (Or.inl ⟨by rfl, ?hys7⟩) (by assumption) ?rests7
  case hys7 => (intro w' hSw; have q1 : w'.cell? ⟨w.heap.size, 1, none⟩ = some (.int .i64 e.key) := (Blk.cell hSw 1); have q2 : w'.cell? ⟨w.heap.size, 2, none⟩ = some (.int .i64 e.parent) := (Blk.cell hSw 2); have q3 : w'.cell? ⟨w.heap.size, 3, none⟩ = some (.int .i64 e.at_) := (Blk.cell hSw 3); have q6 : w'.cell? ⟨w.heap.size, 6, none⟩ = some (.int .u8 (e.nkind : Int)) := (Blk.cell hSw 6); have q54 : w'.cell? ⟨w.heap.size, 54, none⟩ = some (.string (mkB e.text)) := (Blk.cell hSw 54); clear hSw; go_simp; try with_reducible rfl)
  case rests7 =>
  change wpAnyH _ _ _ _ _ _ _ (Act.put _ (some 97) _) _
  try simp only [Act.put, List.setIfInBounds_toArray, List.set_cons_zero, List.set_cons_succ]
  refine wpAnyH_ready (rs := [7]) (by kernel_rfl) (by simp) ?_
  refine AllReadyH.cons rfl (fun K hK => ?_) AllReadyH.nil
  refine step_store_one (by rfl) 3 _ _ (by rfl) (w.heap.size + 1 + 1) 1 32 _ _ (by rfl) hm.onl (by rfl) (by rw [chC_len]; omega) (by rfl) (storeVar_int _ _ _ _) ?_
  intro w6 b6 k6 z6
  have hm := CM.step (o' := { ev0 with ck := 3, key := e.key }) hm b6 k6 rfl
  clear b6 k6 z6
  refine hK.out _ _ hm.par (fun hHeld => ?_)
  clear hK K
  try change wpAnyH _ _ _ _ _ _ _ (Act.put _ (none) _) _
  try simp only [Act.put]
  refine wpAnyH_take (i := 8) (v := ?vs8) rfl (by kernel_rfl) (by kernel_rfl) (by kernel_rfl) (fun _ _ _ h => h) (Or.inl ⟨by rfl, ?hys8⟩) (by assumption) ?rests8
  case hys8 => (intro w' hSw; have q1 : w'.cell? ⟨w.heap.size, 1, none⟩ = some (.int .i64 e.key) := (Blk.cell hSw 1); have q2 : w'.cell? ⟨w.heap.size, 2, none⟩ = some (.int .i64 e.parent) := (Blk.cell hSw 2); have q3 : w'.cell? ⟨w.heap.size, 3, none⟩ = some (.int .i64 e.at_) := (Blk.cell hSw 3); have q6 : w'.cell? ⟨w.heap.size, 6, none⟩ = some (.int .u8 (e.nkind : Int)) := (Blk.cell hSw 6); have q54 : w'.cell? ⟨w.heap.size, 54, none⟩ = some (.string (mkB e.text)) := (Blk.cell hSw 54); clear hSw; go_simp; try with_reducible rfl)
  case rests8 =>
  change wpAnyH _ _ _ _ _ _ _ (Act.put _ (some 98) _) _
  try simp only [Act.put, List.setIfInBounds_toArray, List.set_cons_zero, List.set_cons_succ]
  refine wpAnyH_ready (rs := [9]) (by kernel_rfl) (by simp) ?_
  refine AllReadyH.cons rfl (fun K hK => ?_) AllReadyH.nil
  refine step_store_one (by rfl) 3 _ _ (by rfl) (w.heap.size + 1 + 1) 2 32 _ _ (by rfl) hm.onl (by rfl) (by rw [chC_len]; omega) (by rfl) (storeVar_int _ _ _ _) ?_
  intro w6 b6 k6 z6
  have hm := CM.step (o' := { ev0 with ck := 3, key := e.key, parent := e.parent }) hm b6 k6 rfl
  clear b6 k6 z6
  refine hK.out _ _ hm.par (fun hHeld => ?_)
  clear hK K
  try change wpAnyH _ _ _ _ _ _ _ (Act.put _ (none) _) _
  try simp only [Act.put]
  refine wpAnyH_take (i := 10) (v := ?vs9) rfl (by kernel_rfl) (by kernel_rfl) (by kernel_rfl) (fun _ _ _ h => h) (Or.inl ⟨by rfl, ?hys9⟩) (by assumption) ?rests9
  case hys9 => (intro w' hSw; have q1 : w'.cell? ⟨w.heap.size, 1, none⟩ = some (.int .i64 e.key) := (Blk.cell hSw 1); have q2 : w'.cell? ⟨w.heap.size, 2, none⟩ = some (.int .i64 e.parent) := (Blk.cell hSw 2); have q3 : w'.cell? ⟨w.heap.size, 3, none⟩ = some (.int .i64 e.at_) := (Blk.cell hSw 3); have q6 : w'.cell? ⟨w.heap.size, 6, none⟩ = some (.int .u8 (e.nkind : Int)) := (Blk.cell hSw 6); have q54 : w'.cell? ⟨w.heap.size, 54, none⟩ = some (.string (mkB e.text)) := (Blk.cell hSw 54); clear hSw; go_simp; try with_reducible rfl)
  case rests9 =>
  change wpAnyH _ _ _ _ _ _ _ (Act.put _ (some 99) _) _
  try simp only [Act.put, List.setIfInBounds_toArray, List.set_cons_zero, List.set_cons_succ]
  refine wpAnyH_ready (rs := [11]) (by kernel_rfl) (by simp) ?_
  refine AllReadyH.cons rfl (fun K hK => ?_) AllReadyH.nil
  refine step_store_one (by rfl) 3 _ _ (by rfl) (w.heap.size + 1 + 1) 3 32 _ _ (by rfl) hm.onl (by rfl) (by rw [chC_len]; omega) (by rfl) (storeVar_int _ _ _ _) ?_
  intro w6 b6 k6 z6
  have hm := CM.step (o' := { ev0 with ck := 3, key := e.key, parent := e.parent, at_ := e.at_ }) hm b6 k6 rfl
  clear b6 k6 z6
  refine hK.out _ _ hm.par (fun hHeld => ?_)
  clear hK K
  try change wpAnyH _ _ _ _ _ _ _ (Act.put _ (none) _) _
  try simp only [Act.put]
  refine wpAnyH_done (by kernel_rfl) ?_ _
  skip
  go_upto_region 17 with fail
  clear c0 c1 o1 of hA a0
  obtain ⟨o, ho⟩ : ∃ o : Ev, o = { ev0 with ck := 3, key := e.key, parent := e.parent, at_ := e.at_ } := ⟨_, rfl⟩
  rw [← ho] at hm
  have HO := Lib.hid ho
  clear ho
  refine wp_region_held_drew (S := fun w' => ∃ r, CM e w.heap.size w r o w') (by kernel_rfl) ⟨_, hm.quiet 1⟩ (fun hHeld => ?_)
  clear hm
  refine wpAnyH_take (i := 0) (v := ?v1) rfl (by kernel_rfl) (by kernel_rfl) (by kernel_rfl) (fun _ _ _ h => h) (Or.inl ⟨by rfl, ?hy1⟩) (by assumption) ?rest1
  case hy1 => (intro w' hSw; obtain ⟨_, hSw⟩ := hSw; have q1 : w'.cell? ⟨w.heap.size, 1, none⟩ = some (.int .i64 e.key) := hSw.par.cell 1; have q2 : w'.cell? ⟨w.heap.size, 2, none⟩ = some (.int .i64 e.parent) := hSw.par.cell 2; have q3 : w'.cell? ⟨w.heap.size, 3, none⟩ = some (.int .i64 e.at_) := hSw.par.cell 3; have q6 : w'.cell? ⟨w.heap.size, 6, none⟩ = some (.int .u8 (e.nkind : Int)) := hSw.par.cell 6; have q54 : w'.cell? ⟨w.heap.size, 54, none⟩ = some (.string (mkB e.text)) := hSw.par.cell 54; clear hSw; go_simp; try with_reducible rfl)
  case rest1 =>
  change wpAnyH _ _ _ _ _ _ _ (Act.put _ (some 100) _) _
  try simp only [Act.put, List.setIfInBounds_toArray, List.set_cons_zero, List.set_cons_succ]
  refine wpAnyH_take (i := 1) (v := ?v2) rfl (by kernel_rfl) (by kernel_rfl) (by kernel_rfl) (fun _ _ _ h => h) (Or.inl ⟨by rfl, ?hy2⟩) (by assumption) ?rest2
  case hy2 => (intro w' hSw; obtain ⟨_, hSw⟩ := hSw; have q1 : w'.cell? ⟨w.heap.size, 1, none⟩ = some (.int .i64 e.key) := hSw.par.cell 1; have q2 : w'.cell? ⟨w.heap.size, 2, none⟩ = some (.int .i64 e.parent) := hSw.par.cell 2; have q3 : w'.cell? ⟨w.heap.size, 3, none⟩ = some (.int .i64 e.at_) := hSw.par.cell 3; have q6 : w'.cell? ⟨w.heap.size, 6, none⟩ = some (.int .u8 (e.nkind : Int)) := hSw.par.cell 6; have q54 : w'.cell? ⟨w.heap.size, 54, none⟩ = some (.string (mkB e.text)) := hSw.par.cell 54; clear hSw; go_simp; try with_reducible rfl)
  case rest2 =>
  change wpAnyH _ _ _ _ _ _ _ (Act.put _ (some 101) _) _
  try simp only [Act.put, List.setIfInBounds_toArray, List.set_cons_zero, List.set_cons_succ]
  refine wpAnyH_take (i := 5) (v := ?v3) rfl (by kernel_rfl) (by kernel_rfl) (by kernel_rfl) (fun _ _ _ h => h) (Or.inl ⟨by rfl, ?hy3⟩) (by assumption) ?rest3
  case hy3 => (intro w' hSw; obtain ⟨_, hSw⟩ := hSw; have q1 : w'.cell? ⟨w.heap.size, 1, none⟩ = some (.int .i64 e.key) := hSw.par.cell 1; have q2 : w'.cell? ⟨w.heap.size, 2, none⟩ = some (.int .i64 e.parent) := hSw.par.cell 2; have q3 : w'.cell? ⟨w.heap.size, 3, none⟩ = some (.int .i64 e.at_) := hSw.par.cell 3; have q6 : w'.cell? ⟨w.heap.size, 6, none⟩ = some (.int .u8 (e.nkind : Int)) := hSw.par.cell 6; have q54 : w'.cell? ⟨w.heap.size, 54, none⟩ = some (.string (mkB e.text)) := hSw.par.cell 54; clear hSw; go_simp; try with_reducible rfl)
  case rest3 =>
  change wpAnyH _ _ _ _ _ _ _ (Act.put _ (some 105) _) _
  try simp only [Act.put, List.setIfInBounds_toArray, List.set_cons_zero, List.set_cons_succ]
  refine wpAnyH_take (i := 6) (v := ?v4) rfl (by kernel_rfl) (by kernel_rfl) (by kernel_rfl) (fun _ _ _ h => h) (Or.inl ⟨by rfl, ?hy4⟩) (by assumption) ?rest4
  case hy4 => (intro w' hSw; obtain ⟨_, hSw⟩ := hSw; have q1 : w'.cell? ⟨w.heap.size, 1, none⟩ = some (.int .i64 e.key) := hSw.par.cell 1; have q2 : w'.cell? ⟨w.heap.size, 2, none⟩ = some (.int .i64 e.parent) := hSw.par.cell 2; have q3 : w'.cell? ⟨w.heap.size, 3, none⟩ = some (.int .i64 e.at_) := hSw.par.cell 3; have q6 : w'.cell? ⟨w.heap.size, 6, none⟩ = some (.int .u8 (e.nkind : Int)) := hSw.par.cell 6; have q54 : w'.cell? ⟨w.heap.size, 54, none⟩ = some (.string (mkB e.text)) := hSw.par.cell 54; clear hSw; go_simp; try with_reducible rfl)
  case rest4 =>
  change wpAnyH _ _ _ _ _ _ _ (Act.put _ (some 106) _) _
  try simp only [Act.put, List.setIfInBounds_toArray, List.set_cons_zero, List.set_cons_succ]
  refine wpAnyH_take (i := 10) (v := ?v5) rfl (by kernel_rfl) (by kernel_rfl) (by kernel_rfl) (fun _ _ _ h => h) (Or.inl ⟨by rfl, ?hy5⟩) (by assumption) ?rest5
  case hy5 => (intro w' hSw; obtain ⟨_, hSw⟩ := hSw; have q1 : w'.cell? ⟨w.heap.size, 1, none⟩ = some (.int .i64 e.key) := hSw.par.cell 1; have q2 : w'.cell? ⟨w.heap.size, 2, none⟩ = some (.int .i64 e.parent) := hSw.par.cell 2; have q3 : w'.cell? ⟨w.heap.size, 3, none⟩ = some (.int .i64 e.at_) := hSw.par.cell 3; have q6 : w'.cell? ⟨w.heap.size, 6, none⟩ = some (.int .u8 (e.nkind : Int)) := hSw.par.cell 6; have q54 : w'.cell? ⟨w.heap.size, 54, none⟩ = some (.string (mkB e.text)) := hSw.par.cell 54; clear hSw; go_simp; try with_reducible rfl)
  case rest5 =>
  change wpAnyH _ _ _ _ _ _ _ (Act.put _ (some 110) _) _
  try simp only [Act.put, List.setIfInBounds_toArray, List.set_cons_zero, List.set_cons_succ]
  refine wpAnyH_take (i := 11) (v := ?v6) rfl (by kernel_rfl) (by kernel_rfl) (by kernel_rfl) (fun _ _ _ h => h) (Or.inl ⟨by rfl, ?hy6⟩) (by assumption) ?rest6
  case hy6 => (intro w' hSw; obtain ⟨_, hSw⟩ := hSw; have q1 : w'.cell? ⟨w.heap.size, 1, none⟩ = some (.int .i64 e.key) := hSw.par.cell 1; have q2 : w'.cell? ⟨w.heap.size, 2, none⟩ = some (.int .i64 e.parent) := hSw.par.cell 2; have q3 : w'.cell? ⟨w.heap.size, 3, none⟩ = some (.int .i64 e.at_) := hSw.par.cell 3; have q6 : w'.cell? ⟨w.heap.size, 6, none⟩ = some (.int .u8 (e.nkind : Int)) := hSw.par.cell 6; have q54 : w'.cell? ⟨w.heap.size, 54, none⟩ = some (.string (mkB e.text)) := hSw.par.cell 54; clear hSw; go_simp; try with_reducible rfl)
  case rest6 =>
  change wpAnyH _ _ _ _ _ _ _ (Act.put _ (some 111) _) _
  try simp only [Act.put, List.setIfInBounds_toArray, List.set_cons_zero, List.set_cons_succ]
  refine' wpAnyH_take (i := 14) (v := _) rfl (by kernel_rfl) (by kernel_rfl) (by kernel_rfl) (fun _ _ _ h => h) (yieldsIf_load_mid (by rfl) _ _ rfl _ _ rfl (chC o) _ (fun _ h => by obtain ⟨_, h⟩ := h; exact blk_range h.onl (chC_self _)) Tryz.underlying32 rfl chC_size) (by assumption) ?_
  change wpAnyH _ _ _ _ _ _ _ (Act.put _ (some 114) _) _
  try simp only [Act.put, List.setIfInBounds_toArray, List.set_cons_zero, List.set_cons_succ]
  refine wpAnyH_ready (rs := [2]) (by kernel_rfl) (by simp) ?_
  refine AllReadyH.cons rfl (fun K hK => ?_) AllReadyH.nil
  go_simp
  go_at_call 42
  first | (with_reducible refine (hd1.out _).mono ?_) | (with_reducible refine (hd2.out _).mono ?_) | (with_reducible refine (hd3.out _).mono ?_)
  rintro e5 w5 ⟨rfl, rfl⟩
  refine hK.out _ _ (by assumption) (fun hHeld => ?_)
  clear hK K
  try change wpAnyH _ _ _ _ _ _ _ (Act.put _ (some 102) _) _
  try simp only [Act.put, List.setIfInBounds_toArray, List.set_cons_zero, List.set_cons_succ]
  refine wpAnyH_take (i := 3) (v := ?v7) rfl (by kernel_rfl) (by kernel_rfl) (by kernel_rfl) (fun _ _ _ h => h) (Or.inl ⟨by rfl, ?hy7⟩) (by assumption) ?rest7
  case hy7 => (intro w' hSw; obtain ⟨_, hSw⟩ := hSw; have q1 : w'.cell? ⟨w.heap.size, 1, none⟩ = some (.int .i64 e.key) := hSw.par.cell 1; have q2 : w'.cell? ⟨w.heap.size, 2, none⟩ = some (.int .i64 e.parent) := hSw.par.cell 2; have q3 : w'.cell? ⟨w.heap.size, 3, none⟩ = some (.int .i64 e.at_) := hSw.par.cell 3; have q6 : w'.cell? ⟨w.heap.size, 6, none⟩ = some (.int .u8 (e.nkind : Int)) := hSw.par.cell 6; have q54 : w'.cell? ⟨w.heap.size, 54, none⟩ = some (.string (mkB e.text)) := hSw.par.cell 54; clear hSw; go_simp; (rw [if_neg (by omega)]))
  case rest7 =>
  change wpAnyH _ _ _ _ _ _ _ (Act.put _ (some 103) _) _
  try simp only [Act.put, List.setIfInBounds_toArray, List.set_cons_zero, List.set_cons_succ]
  refine wpAnyH_take (i := 4) (v := ?v8) rfl (by kernel_rfl) (by kernel_rfl) (by kernel_rfl) (fun _ _ _ h => h) (Or.inl ⟨by rfl, ?hy8⟩) (by assumption) ?rest8
  case hy8 => (intro w' hSw; obtain ⟨_, hSw⟩ := hSw; have q1 : w'.cell? ⟨w.heap.size, 1, none⟩ = some (.int .i64 e.key) := hSw.par.cell 1; have q2 : w'.cell? ⟨w.heap.size, 2, none⟩ = some (.int .i64 e.parent) := hSw.par.cell 2; have q3 : w'.cell? ⟨w.heap.size, 3, none⟩ = some (.int .i64 e.at_) := hSw.par.cell 3; have q6 : w'.cell? ⟨w.heap.size, 6, none⟩ = some (.int .u8 (e.nkind : Int)) := hSw.par.cell 6; have q54 : w'.cell? ⟨w.heap.size, 54, none⟩ = some (.string (mkB e.text)) := hSw.par.cell 54; clear hSw; go_simp; (rw [if_neg (by omega)]))
  case rest8 =>
  change wpAnyH _ _ _ _ _ _ _ (Act.put _ (some 104) _) _
  try simp only [Act.put, List.setIfInBounds_toArray, List.set_cons_zero, List.set_cons_succ]
  refine wpAnyH_ready (rs := [7]) (by kernel_rfl) (by simp) ?_
  refine AllReadyH.cons rfl (fun K hK => ?_) AllReadyH.nil
  go_simp
  go_at_call 42
  first | (with_reducible refine (hd1.out _).mono ?_) | (with_reducible refine (hd2.out _).mono ?_) | (with_reducible refine (hd3.out _).mono ?_)
  rintro e5 w5 ⟨rfl, rfl⟩
  refine hK.out _ _ (by assumption) (fun hHeld => ?_)
  clear hK K
  try change wpAnyH _ _ _ _ _ _ _ (Act.put _ (some 107) _) _
  try simp only [Act.put, List.setIfInBounds_toArray, List.set_cons_zero, List.set_cons_succ]
  refine wpAnyH_take (i := 8) (v := ?v9) rfl (by kernel_rfl) (by kernel_rfl) (by kernel_rfl) (fun _ _ _ h => h) (Or.inl ⟨by rfl, ?hy9⟩) (by assumption) ?rest9
  case hy9 => (intro w' hSw; obtain ⟨_, hSw⟩ := hSw; have q1 : w'.cell? ⟨w.heap.size, 1, none⟩ = some (.int .i64 e.key) := hSw.par.cell 1; have q2 : w'.cell? ⟨w.heap.size, 2, none⟩ = some (.int .i64 e.parent) := hSw.par.cell 2; have q3 : w'.cell? ⟨w.heap.size, 3, none⟩ = some (.int .i64 e.at_) := hSw.par.cell 3; have q6 : w'.cell? ⟨w.heap.size, 6, none⟩ = some (.int .u8 (e.nkind : Int)) := hSw.par.cell 6; have q54 : w'.cell? ⟨w.heap.size, 54, none⟩ = some (.string (mkB e.text)) := hSw.par.cell 54; clear hSw; go_simp; (rw [if_neg (by omega)]))
  case rest9 =>
  change wpAnyH _ _ _ _ _ _ _ (Act.put _ (some 108) _) _
  try simp only [Act.put, List.setIfInBounds_toArray, List.set_cons_zero, List.set_cons_succ]
  refine wpAnyH_take (i := 9) (v := ?v10) rfl (by kernel_rfl) (by kernel_rfl) (by kernel_rfl) (fun _ _ _ h => h) (Or.inl ⟨by rfl, ?hy10⟩) (by assumption) ?rest10
  case hy10 => (intro w' hSw; obtain ⟨_, hSw⟩ := hSw; have q1 : w'.cell? ⟨w.heap.size, 1, none⟩ = some (.int .i64 e.key) := hSw.par.cell 1; have q2 : w'.cell? ⟨w.heap.size, 2, none⟩ = some (.int .i64 e.parent) := hSw.par.cell 2; have q3 : w'.cell? ⟨w.heap.size, 3, none⟩ = some (.int .i64 e.at_) := hSw.par.cell 3; have q6 : w'.cell? ⟨w.heap.size, 6, none⟩ = some (.int .u8 (e.nkind : Int)) := hSw.par.cell 6; have q54 : w'.cell? ⟨w.heap.size, 54, none⟩ = some (.string (mkB e.text)) := hSw.par.cell 54; clear hSw; go_simp; (rw [if_neg (by omega)]))
  case rest10 =>
  change wpAnyH _ _ _ _ _ _ _ (Act.put _ (some 109) _) _
  try simp only [Act.put, List.setIfInBounds_toArray, List.set_cons_zero, List.set_cons_succ]
  refine wpAnyH_ready (rs := [12]) (by kernel_rfl) (by simp) ?_
  refine AllReadyH.cons rfl (fun K hK => ?_) AllReadyH.nil
  go_simp
  go_at_call 42
  first | (with_reducible refine (hd1.out _).mono ?_) | (with_reducible refine (hd2.out _).mono ?_) | (with_reducible refine (hd3.out _).mono ?_)
  rintro e5 w5 ⟨rfl, rfl⟩
  refine hK.out _ _ (by assumption) (fun hHeld => ?_)
  clear hK K
  try change wpAnyH _ _ _ _ _ _ _ (Act.put _ (some 112) _) _
  try simp only [Act.put, List.setIfInBounds_toArray, List.set_cons_zero, List.set_cons_succ]
  refine wpAnyH_take (i := 13) (v := ?v11) rfl (by kernel_rfl) (by kernel_rfl) (by kernel_rfl) (fun _ _ _ h => h) (Or.inl ⟨by rfl, ?hy11⟩) (by assumption) ?rest11
  case hy11 => (intro w' hSw; obtain ⟨_, hSw⟩ := hSw; have q1 : w'.cell? ⟨w.heap.size, 1, none⟩ = some (.int .i64 e.key) := hSw.par.cell 1; have q2 : w'.cell? ⟨w.heap.size, 2, none⟩ = some (.int .i64 e.parent) := hSw.par.cell 2; have q3 : w'.cell? ⟨w.heap.size, 3, none⟩ = some (.int .i64 e.at_) := hSw.par.cell 3; have q6 : w'.cell? ⟨w.heap.size, 6, none⟩ = some (.int .u8 (e.nkind : Int)) := hSw.par.cell 6; have q54 : w'.cell? ⟨w.heap.size, 54, none⟩ = some (.string (mkB e.text)) := hSw.par.cell 54; clear hSw; go_simp; (rw [if_neg (by omega)]))
  case rest11 =>
  change wpAnyH _ _ _ _ _ _ _ (Act.put _ (some 113) _) _
  try simp only [Act.put, List.setIfInBounds_toArray, List.set_cons_zero, List.set_cons_succ]
  refine wpAnyH_take (i := 15) (v := ?v12) rfl (by kernel_rfl) (by kernel_rfl) (by kernel_rfl) (fun _ _ _ h => h) (Or.inl ⟨by rfl, ?hy12⟩) (by assumption) ?rest12
  case hy12 => (intro w' hSw; obtain ⟨_, hSw⟩ := hSw; have q1 : w'.cell? ⟨w.heap.size, 1, none⟩ = some (.int .i64 e.key) := hSw.par.cell 1; have q2 : w'.cell? ⟨w.heap.size, 2, none⟩ = some (.int .i64 e.parent) := hSw.par.cell 2; have q3 : w'.cell? ⟨w.heap.size, 3, none⟩ = some (.int .i64 e.at_) := hSw.par.cell 3; have q6 : w'.cell? ⟨w.heap.size, 6, none⟩ = some (.int .u8 (e.nkind : Int)) := hSw.par.cell 6; have q54 : w'.cell? ⟨w.heap.size, 54, none⟩ = some (.string (mkB e.text)) := hSw.par.cell 54; clear hSw; go_simp; try with_reducible rfl)
  case rest12 =>
  change wpAnyH _ _ _ _ _ _ _ (Act.put _ (some 2) _) _
  try simp only [Act.put, List.setIfInBounds_toArray, List.set_cons_zero, List.set_cons_succ]
  refine wpAnyH_ready (rs := [16]) (by kernel_rfl) (by simp) ?_
  refine AllReadyH.cons rfl (fun K hK => ?_) AllReadyH.nil
  obtain ⟨r, hr⟩ := hHeld
  refine step_store_blk (by rfl) 32 _ _ (by rfl) (w.heap.size + 1) 0 32 (chC r) (chC o) (by rfl) hr.res (by rfl) (by rw [chC_len, chC_len]; exact Nat.le_refl _) chC_size (chC_cells _) ?_
  intro w6 b6 k6 z6
  have hr6 := CM.ans hr b6 k6
  clear b6 k6 z6 hr
  refine hK.out _ _ ⟨_, hr6⟩ (fun hHeld => ?_)
  clear hK K
  try change wpAnyH _ _ _ _ _ _ _ (Act.put _ (none) _) _
  try simp only [Act.put]
  refine wpAnyH_take (i := 17) (v := ?v13) rfl (by kernel_rfl) (by kernel_rfl) (by kernel_rfl) (fun _ _ _ h => h) (Or.inl ⟨by rfl, ?hy13⟩) (by assumption) ?rest13
  case hy13 => (intro w' hSw; obtain ⟨_, hSw⟩ := hSw; have q1 : w'.cell? ⟨w.heap.size, 1, none⟩ = some (.int .i64 e.key) := hSw.par.cell 1; have q2 : w'.cell? ⟨w.heap.size, 2, none⟩ = some (.int .i64 e.parent) := hSw.par.cell 2; have q3 : w'.cell? ⟨w.heap.size, 3, none⟩ = some (.int .i64 e.at_) := hSw.par.cell 3; have q6 : w'.cell? ⟨w.heap.size, 6, none⟩ = some (.int .u8 (e.nkind : Int)) := hSw.par.cell 6; have q54 : w'.cell? ⟨w.heap.size, 54, none⟩ = some (.string (mkB e.text)) := hSw.par.cell 54; clear hSw; go_simp; try with_reducible rfl)
  case rest13 =>
  change wpAnyH _ _ _ _ _ _ _ (Act.put _ (some 4) _) _
  try simp only [Act.put, List.setIfInBounds_toArray, List.set_cons_zero, List.set_cons_succ]
  refine wpAnyH_done (by kernel_rfl) ?_ _
  go_wp2_with fail
  refine bodyPost_ret (results_tct rfl _ _ (w.heap.size + 1) 32 (chC o).toArray (0, 0) _ rfl hr6.res Tryz.underlying32 rfl chC_size) rfl ?_
  have hc := HC.out
  exact ChangePost.done (x := [109, 111, 118, 101, 32] ++ Lib.itoa e.key ++ [32] ++ Lib.itoa e.parent ++ [32] ++ Lib.itoa e.at_) rfl hr6 (by rw [show ([109, 111, 118, 101, 32] ++ Lib.itoa e.key ++ [32] ++ Lib.itoa e.parent ++ [32] ++ Lib.itoa e.at_ : List UInt8) = [109, 111, 118, 101, 32] ++ Lib.itoa e.key ++ [32] ++ Lib.itoa e.parent ++ [32] ++ Lib.itoa e.at_ from by simp, ← mkB_append, ← mkB_append, ← mkB_append, ← mkB_append, ← mkB_append]; rfl) (by rw [HO.out]; unfold onlyR; simp [hc]; rfl) rfl (by unfold isR; simp [hc]) (fun _ => by unfold wordsR; simp [hc, joinC, wordW, plainT]) (by have := itoa_size he.key; have := itoa_size he.parent; have := itoa_size he.at_; simp only [mkB_size] at *; simp; omega)

set_option maxRecDepth 100000 in
set_option maxHeartbeats 8000000 in
theorem change4 (e : Ev) (he : e.Ok) (hc : e.ck = 4) (w : World) :
    Calls Tryz.prog 41 #[.agg (chC e).toArray] w (ChangePost e w) := by
  have hA : (chC e).toArray.size = 55 := rfl
  have a0 : (chC e).toArray[0]'(by omega) = .int .u8 4 := by
    show Value.int .u8 (e.ck : Int) = _
    rw [hc]; rfl
  have HC := Lib.hid hc
  clear hc
  have hd1 := Lib.hid (fun W => digits_same he.key W)
  have hd2 := Lib.hid (fun W => digits_same he.parent W)
  have hd3 := Lib.hid (fun W => digits_same he.at_ W)
  have z1 := itoa_size he.key
  have z2 := itoa_size he.parent
  have z3 := itoa_size he.at_
  go_enter Tryz.func41, Tryz.ntmps41
  go_upto_region 19 with (refine wpList_store_blk rfl 32 _ _ rfl (w.heap.size + 1 + 1) 0 32 (chC ev0) (chC { ev0 with ck := 4 }) rfl (allocs_blk (chObjs e) w 2 _ _ rfl) rfl (by rw [chC_len, chC_len]; exact Nat.le_refl _) chC_size (chC_cells _) ?_; intro w1 b1 k1 z1; rw [chC_all] at b1; have hm := CM.start (e := e) b1 k1; clear b1 k1 z1; have c0 : w1.cell? ⟨w.heap.size, 0, none⟩ = some (.int .u8 4) := (hm.par.cell 0).trans (congrArg some a0); have c1 : w1.cell? ⟨w.heap.size, 1, none⟩ = some (.int .i64 e.key) := hm.par.cell 1; have o1 : w1.cell? ⟨w.heap.size + 1 + 1, 1, none⟩ = some (.int .i64 0) := hm.onl.cell 1; have of := hm.onl.frozen)
  refine wp_region_held_drew (S := fun w' => Blk w' w.heap.size 32 (chC e).toArray) (by kernel_rfl) (Blk.drew hm.par) (fun hHeld => ?_)
  have hm := hm.quiet 1
  refine wpAnyH_take (i := 0) (v := ?vs1) rfl (by kernel_rfl) (by kernel_rfl) (by kernel_rfl) (fun _ _ _ h => h) (Or.inl ⟨by rfl, ?hys1⟩) (by assumption) ?rests1
  case hys1 => (intro w' hSw; have q1 : w'.cell? ⟨w.heap.size, 1, none⟩ = some (.int .i64 e.key) := (Blk.cell hSw 1); have q2 : w'.cell? ⟨w.heap.size, 2, none⟩ = some (.int .i64 e.parent) := (Blk.cell hSw 2); have q3 : w'.cell? ⟨w.heap.size, 3, none⟩ = some (.int .i64 e.at_) := (Blk.cell hSw 3); have q6 : w'.cell? ⟨w.heap.size, 6, none⟩ = some (.int .u8 (e.nkind : Int)) := (Blk.cell hSw 6); have q54 : w'.cell? ⟨w.heap.size, 54, none⟩ = some (.string (mkB e.text)) := (Blk.cell hSw 54); clear hSw; go_simp; try with_reducible rfl)
  case rests1 =>
  change wpAnyH _ _ _ _ _ _ _ (Act.put _ (some 117) _) _
  try simp only [Act.put, List.setIfInBounds_toArray, List.set_cons_zero, List.set_cons_succ]
  refine wpAnyH_take (i := 1) (v := ?vs2) rfl (by kernel_rfl) (by kernel_rfl) (by kernel_rfl) (fun _ _ _ h => h) (Or.inl ⟨by rfl, ?hys2⟩) (by assumption) ?rests2
  case hys2 => (intro w' hSw; have q1 : w'.cell? ⟨w.heap.size, 1, none⟩ = some (.int .i64 e.key) := (Blk.cell hSw 1); have q2 : w'.cell? ⟨w.heap.size, 2, none⟩ = some (.int .i64 e.parent) := (Blk.cell hSw 2); have q3 : w'.cell? ⟨w.heap.size, 3, none⟩ = some (.int .i64 e.at_) := (Blk.cell hSw 3); have q6 : w'.cell? ⟨w.heap.size, 6, none⟩ = some (.int .u8 (e.nkind : Int)) := (Blk.cell hSw 6); have q54 : w'.cell? ⟨w.heap.size, 54, none⟩ = some (.string (mkB e.text)) := (Blk.cell hSw 54); clear hSw; go_simp; try with_reducible rfl)
  case rests2 =>
  change wpAnyH _ _ _ _ _ _ _ (Act.put _ (some 118) _) _
  try simp only [Act.put, List.setIfInBounds_toArray, List.set_cons_zero, List.set_cons_succ]
  refine wpAnyH_take (i := 2) (v := ?vs3) rfl (by kernel_rfl) (by kernel_rfl) (by kernel_rfl) (fun _ _ _ h => h) (Or.inl ⟨by rfl, ?hys3⟩) (by assumption) ?rests3
  case hys3 => (intro w' hSw; have q1 : w'.cell? ⟨w.heap.size, 1, none⟩ = some (.int .i64 e.key) := (Blk.cell hSw 1); have q2 : w'.cell? ⟨w.heap.size, 2, none⟩ = some (.int .i64 e.parent) := (Blk.cell hSw 2); have q3 : w'.cell? ⟨w.heap.size, 3, none⟩ = some (.int .i64 e.at_) := (Blk.cell hSw 3); have q6 : w'.cell? ⟨w.heap.size, 6, none⟩ = some (.int .u8 (e.nkind : Int)) := (Blk.cell hSw 6); have q54 : w'.cell? ⟨w.heap.size, 54, none⟩ = some (.string (mkB e.text)) := (Blk.cell hSw 54); clear hSw; go_simp; try with_reducible rfl)
  case rests3 =>
  change wpAnyH _ _ _ _ _ _ _ (Act.put _ (some 119) _) _
  try simp only [Act.put, List.setIfInBounds_toArray, List.set_cons_zero, List.set_cons_succ]
  refine wpAnyH_take (i := 3) (v := ?vs4) rfl (by kernel_rfl) (by kernel_rfl) (by kernel_rfl) (fun _ _ _ h => h) (Or.inl ⟨by rfl, ?hys4⟩) (by assumption) ?rests4
  case hys4 => (intro w' hSw; have q1 : w'.cell? ⟨w.heap.size, 1, none⟩ = some (.int .i64 e.key) := (Blk.cell hSw 1); have q2 : w'.cell? ⟨w.heap.size, 2, none⟩ = some (.int .i64 e.parent) := (Blk.cell hSw 2); have q3 : w'.cell? ⟨w.heap.size, 3, none⟩ = some (.int .i64 e.at_) := (Blk.cell hSw 3); have q6 : w'.cell? ⟨w.heap.size, 6, none⟩ = some (.int .u8 (e.nkind : Int)) := (Blk.cell hSw 6); have q54 : w'.cell? ⟨w.heap.size, 54, none⟩ = some (.string (mkB e.text)) := (Blk.cell hSw 54); clear hSw; go_simp; try with_reducible rfl)
  case rests4 =>
  change wpAnyH _ _ _ _ _ _ _ (Act.put _ (some 120) _) _
  try simp only [Act.put, List.setIfInBounds_toArray, List.set_cons_zero, List.set_cons_succ]
  refine' wpAnyH_take (i := 4) (v := _) rfl (by kernel_rfl) (by kernel_rfl) (by kernel_rfl) (fun _ _ _ h => h) (yieldsIf_load_mid (by rfl) _ _ rfl _ _ rfl (styC e.sty) _ (fun _ h => blk_range h (chC_sty e)) Tryz.underlying28 rfl styC_size) (by assumption) ?_
  change wpAnyH _ _ _ _ _ _ _ (Act.put _ (some 121) _) _
  try simp only [Act.put, List.setIfInBounds_toArray, List.set_cons_zero, List.set_cons_succ]
  refine wpAnyH_take (i := 5) (v := ?vs5) rfl (by kernel_rfl) (by kernel_rfl) (by kernel_rfl) (fun _ _ _ h => h) (Or.inl ⟨by rfl, ?hys5⟩) (by assumption) ?rests5
  case hys5 => (intro w' hSw; have q1 : w'.cell? ⟨w.heap.size, 1, none⟩ = some (.int .i64 e.key) := (Blk.cell hSw 1); have q2 : w'.cell? ⟨w.heap.size, 2, none⟩ = some (.int .i64 e.parent) := (Blk.cell hSw 2); have q3 : w'.cell? ⟨w.heap.size, 3, none⟩ = some (.int .i64 e.at_) := (Blk.cell hSw 3); have q6 : w'.cell? ⟨w.heap.size, 6, none⟩ = some (.int .u8 (e.nkind : Int)) := (Blk.cell hSw 6); have q54 : w'.cell? ⟨w.heap.size, 54, none⟩ = some (.string (mkB e.text)) := (Blk.cell hSw 54); clear hSw; go_simp; try with_reducible rfl)
  case rests5 =>
  change wpAnyH _ _ _ _ _ _ _ (Act.put _ (some 122) _) _
  try simp only [Act.put, List.setIfInBounds_toArray, List.set_cons_zero, List.set_cons_succ]
  refine wpAnyH_ready (rs := [6]) (by kernel_rfl) (by simp) ?_
  refine AllReadyH.cons rfl (fun K hK => ?_) AllReadyH.nil
  refine step_store_one (by rfl) 3 _ _ (by rfl) (w.heap.size + 1 + 1) 1 32 _ _ (by rfl) hm.onl (by rfl) (by rw [chC_len]; omega) (by rfl) (storeVar_int _ _ _ _) ?_
  intro w6 b6 k6 z6
  have hm := CM.step (o' := { ev0 with ck := 4, key := e.key }) hm b6 k6 rfl
  clear b6 k6 z6
  refine hK.out _ _ hm.par (fun hHeld => ?_)
  clear hK K
  try change wpAnyH _ _ _ _ _ _ _ (Act.put _ (none) _) _
  try simp only [Act.put]
  refine wpAnyH_take (i := 7) (v := ?vs6) rfl (by kernel_rfl) (by kernel_rfl) (by kernel_rfl) (fun _ _ _ h => h) (Or.inl ⟨by rfl, ?hys6⟩) (by assumption) ?rests6
  case hys6 => (intro w' hSw; have q1 : w'.cell? ⟨w.heap.size, 1, none⟩ = some (.int .i64 e.key) := (Blk.cell hSw 1); have q2 : w'.cell? ⟨w.heap.size, 2, none⟩ = some (.int .i64 e.parent) := (Blk.cell hSw 2); have q3 : w'.cell? ⟨w.heap.size, 3, none⟩ = some (.int .i64 e.at_) := (Blk.cell hSw 3); have q6 : w'.cell? ⟨w.heap.size, 6, none⟩ = some (.int .u8 (e.nkind : Int)) := (Blk.cell hSw 6); have q54 : w'.cell? ⟨w.heap.size, 54, none⟩ = some (.string (mkB e.text)) := (Blk.cell hSw 54); clear hSw; go_simp; try with_reducible rfl)
  case rests6 =>
  change wpAnyH _ _ _ _ _ _ _ (Act.put _ (some 123) _) _
  try simp only [Act.put, List.setIfInBounds_toArray, List.set_cons_zero, List.set_cons_succ]
  refine wpAnyH_take (i := 8) (v := ?vs7) rfl (by kernel_rfl) (by kernel_rfl) (by kernel_rfl) (fun _ _ _ h => h) (Or.inl ⟨by rfl, ?hys7⟩) (by assumption) ?rests7
  case hys7 => (intro w' hSw; have q1 : w'.cell? ⟨w.heap.size, 1, none⟩ = some (.int .i64 e.key) := (Blk.cell hSw 1); have q2 : w'.cell? ⟨w.heap.size, 2, none⟩ = some (.int .i64 e.parent) := (Blk.cell hSw 2); have q3 : w'.cell? ⟨w.heap.size, 3, none⟩ = some (.int .i64 e.at_) := (Blk.cell hSw 3); have q6 : w'.cell? ⟨w.heap.size, 6, none⟩ = some (.int .u8 (e.nkind : Int)) := (Blk.cell hSw 6); have q54 : w'.cell? ⟨w.heap.size, 54, none⟩ = some (.string (mkB e.text)) := (Blk.cell hSw 54); clear hSw; go_simp; try with_reducible rfl)
  case rests7 =>
  change wpAnyH _ _ _ _ _ _ _ (Act.put _ (some 124) _) _
  try simp only [Act.put, List.setIfInBounds_toArray, List.set_cons_zero, List.set_cons_succ]
  refine wpAnyH_ready (rs := [9]) (by kernel_rfl) (by simp) ?_
  refine AllReadyH.cons rfl (fun K hK => ?_) AllReadyH.nil
  refine step_store_blk (by rfl) 28 _ _ (by rfl) (w.heap.size + 1 + 1) 7 32 _ (styC e.sty) (by rfl) hm.onl (by rfl) (by rw [chC_len, styC_len]; omega) styC_size (styC_cells _) ?_
  intro w6 b6 k6 z6
  have hm := CM.stepSty hm b6 k6
  clear b6 k6 z6
  refine hK.out _ _ hm.par (fun hHeld => ?_)
  clear hK K
  try change wpAnyH _ _ _ _ _ _ _ (Act.put _ (none) _) _
  try simp only [Act.put]
  refine wpAnyH_done (by kernel_rfl) ?_ _
  skip
  clear c0 c1 o1 of hA a0
  go_upto_region 21 with (refine wpList_load_blk rfl 28 _ rfl w.heap.size 7 32 (chC e) (styC e.sty) _ rfl hm.par (chC_sty e) Tryz.underlying28 rfl styC_size ?_)
  refine (rstyle_any e.sty he.sty _).mono ?_
  rintro e5 w5 ⟨x5, rfl, hx5, hl5, hb5⟩
  obtain ⟨hs1, hs2⟩ := sty_words he.sty hx5
  have z5 : (mkB x5).size ≤ 8000 := by rw [mkB_size]; exact hl5
  have hm := hm.more (hb5.mono hm.sz)
  obtain ⟨b5, hb6⟩ : ∃ b, b = (stylT e.sty).isSome := ⟨_, rfl⟩
  rw [← hb6] at hs1 ⊢
  have HS1 := Lib.hid hs1
  have HS2 := Lib.hid hs2
  clear hb6 hs1 hs2 hx5 hb5
  go_upto_region 21 with fail
  obtain ⟨o, ho⟩ : ∃ o : Ev, o = { ev0 with ck := 4, key := e.key, sty := e.sty } := ⟨_, rfl⟩
  have hm : CM e w.heap.size w ev0 o w5 := by rw [ho]; exact hm
  have HO := Lib.hid ho
  clear ho
  refine wp_region_held_drew (S := fun w' => ∃ r, CM e w.heap.size w r o w') (by kernel_rfl) ⟨_, hm.quiet 1⟩ (fun hHeld => ?_)
  clear hm
  refine wpAnyH_take (i := 0) (v := ?v1) rfl (by kernel_rfl) (by kernel_rfl) (by kernel_rfl) (fun _ _ _ h => h) (Or.inl ⟨by rfl, ?hy1⟩) (by assumption) ?rest1
  case hy1 => (intro w' hSw; obtain ⟨_, hSw⟩ := hSw; have q1 : w'.cell? ⟨w.heap.size, 1, none⟩ = some (.int .i64 e.key) := hSw.par.cell 1; have q2 : w'.cell? ⟨w.heap.size, 2, none⟩ = some (.int .i64 e.parent) := hSw.par.cell 2; have q3 : w'.cell? ⟨w.heap.size, 3, none⟩ = some (.int .i64 e.at_) := hSw.par.cell 3; have q6 : w'.cell? ⟨w.heap.size, 6, none⟩ = some (.int .u8 (e.nkind : Int)) := hSw.par.cell 6; have q54 : w'.cell? ⟨w.heap.size, 54, none⟩ = some (.string (mkB e.text)) := hSw.par.cell 54; clear hSw; go_simp; try with_reducible rfl)
  case rest1 =>
  change wpAnyH _ _ _ _ _ _ _ (Act.put _ (some 132) _) _
  try simp only [Act.put, List.setIfInBounds_toArray, List.set_cons_zero, List.set_cons_succ]
  refine wpAnyH_take (i := 1) (v := ?v2) rfl (by kernel_rfl) (by kernel_rfl) (by kernel_rfl) (fun _ _ _ h => h) (Or.inl ⟨by rfl, ?hy2⟩) (by assumption) ?rest2
  case hy2 => (intro w' hSw; obtain ⟨_, hSw⟩ := hSw; have q1 : w'.cell? ⟨w.heap.size, 1, none⟩ = some (.int .i64 e.key) := hSw.par.cell 1; have q2 : w'.cell? ⟨w.heap.size, 2, none⟩ = some (.int .i64 e.parent) := hSw.par.cell 2; have q3 : w'.cell? ⟨w.heap.size, 3, none⟩ = some (.int .i64 e.at_) := hSw.par.cell 3; have q6 : w'.cell? ⟨w.heap.size, 6, none⟩ = some (.int .u8 (e.nkind : Int)) := hSw.par.cell 6; have q54 : w'.cell? ⟨w.heap.size, 54, none⟩ = some (.string (mkB e.text)) := hSw.par.cell 54; clear hSw; go_simp; try with_reducible rfl)
  case rest2 =>
  change wpAnyH _ _ _ _ _ _ _ (Act.put _ (some 133) _) _
  try simp only [Act.put, List.setIfInBounds_toArray, List.set_cons_zero, List.set_cons_succ]
  refine wpAnyH_take (i := 4) (v := ?v3) rfl (by kernel_rfl) (by kernel_rfl) (by kernel_rfl) (fun _ _ _ h => h) (Or.inl ⟨by rfl, ?hy3⟩) (by assumption) ?rest3
  case hy3 => (intro w' hSw; obtain ⟨_, hSw⟩ := hSw; have q1 : w'.cell? ⟨w.heap.size, 1, none⟩ = some (.int .i64 e.key) := hSw.par.cell 1; have q2 : w'.cell? ⟨w.heap.size, 2, none⟩ = some (.int .i64 e.parent) := hSw.par.cell 2; have q3 : w'.cell? ⟨w.heap.size, 3, none⟩ = some (.int .i64 e.at_) := hSw.par.cell 3; have q6 : w'.cell? ⟨w.heap.size, 6, none⟩ = some (.int .u8 (e.nkind : Int)) := hSw.par.cell 6; have q54 : w'.cell? ⟨w.heap.size, 54, none⟩ = some (.string (mkB e.text)) := hSw.par.cell 54; clear hSw; go_simp; try with_reducible rfl)
  case rest3 =>
  change wpAnyH _ _ _ _ _ _ _ (Act.put _ (some 136) _) _
  try simp only [Act.put, List.setIfInBounds_toArray, List.set_cons_zero, List.set_cons_succ]
  refine' wpAnyH_take (i := 6) (v := _) rfl (by kernel_rfl) (by kernel_rfl) (by kernel_rfl) (fun _ _ _ h => h) (yieldsIf_load_mid (by rfl) _ _ rfl _ _ rfl (chC o) _ (fun _ h => by obtain ⟨_, h⟩ := h; exact blk_range h.onl (chC_self _)) Tryz.underlying32 rfl chC_size) (by assumption) ?_
  change wpAnyH _ _ _ _ _ _ _ (Act.put _ (some 138) _) _
  try simp only [Act.put, List.setIfInBounds_toArray, List.set_cons_zero, List.set_cons_succ]
  refine wpAnyH_take (i := 7) (v := ?v4) rfl (by kernel_rfl) (by kernel_rfl) (by kernel_rfl) (fun _ _ _ h => h) (Or.inl ⟨by rfl, ?hy4⟩) (by assumption) ?rest4
  case hy4 => (intro w' hSw; obtain ⟨_, hSw⟩ := hSw; have q1 : w'.cell? ⟨w.heap.size, 1, none⟩ = some (.int .i64 e.key) := hSw.par.cell 1; have q2 : w'.cell? ⟨w.heap.size, 2, none⟩ = some (.int .i64 e.parent) := hSw.par.cell 2; have q3 : w'.cell? ⟨w.heap.size, 3, none⟩ = some (.int .i64 e.at_) := hSw.par.cell 3; have q6 : w'.cell? ⟨w.heap.size, 6, none⟩ = some (.int .u8 (e.nkind : Int)) := hSw.par.cell 6; have q54 : w'.cell? ⟨w.heap.size, 54, none⟩ = some (.string (mkB e.text)) := hSw.par.cell 54; clear hSw; go_simp; try with_reducible rfl)
  case rest4 =>
  change wpAnyH _ _ _ _ _ _ _ (Act.put _ (some 139) _) _
  try simp only [Act.put, List.setIfInBounds_toArray, List.set_cons_zero, List.set_cons_succ]
  refine wpAnyH_ready (rs := [2]) (by kernel_rfl) (by simp) ?_
  refine AllReadyH.cons rfl (fun K hK => ?_) AllReadyH.nil
  go_simp
  go_at_call 42
  first | (with_reducible refine (hd1.out _).mono ?_) | (with_reducible refine (hd2.out _).mono ?_) | (with_reducible refine (hd3.out _).mono ?_)
  rintro e5 w5 ⟨rfl, rfl⟩
  refine hK.out _ _ (by assumption) (fun hHeld => ?_)
  clear hK K
  try change wpAnyH _ _ _ _ _ _ _ (Act.put _ (some 134) _) _
  try simp only [Act.put, List.setIfInBounds_toArray, List.set_cons_zero, List.set_cons_succ]
  refine wpAnyH_take (i := 3) (v := ?v5) rfl (by kernel_rfl) (by kernel_rfl) (by kernel_rfl) (fun _ _ _ h => h) (Or.inl ⟨by rfl, ?hy5⟩) (by assumption) ?rest5
  case hy5 => (intro w' hSw; obtain ⟨_, hSw⟩ := hSw; have q1 : w'.cell? ⟨w.heap.size, 1, none⟩ = some (.int .i64 e.key) := hSw.par.cell 1; have q2 : w'.cell? ⟨w.heap.size, 2, none⟩ = some (.int .i64 e.parent) := hSw.par.cell 2; have q3 : w'.cell? ⟨w.heap.size, 3, none⟩ = some (.int .i64 e.at_) := hSw.par.cell 3; have q6 : w'.cell? ⟨w.heap.size, 6, none⟩ = some (.int .u8 (e.nkind : Int)) := hSw.par.cell 6; have q54 : w'.cell? ⟨w.heap.size, 54, none⟩ = some (.string (mkB e.text)) := hSw.par.cell 54; clear hSw; go_simp; (rw [if_neg (by omega)]))
  case rest5 =>
  change wpAnyH _ _ _ _ _ _ _ (Act.put _ (some 135) _) _
  try simp only [Act.put, List.setIfInBounds_toArray, List.set_cons_zero, List.set_cons_succ]
  refine wpAnyH_take (i := 5) (v := ?v6) rfl (by kernel_rfl) (by kernel_rfl) (by kernel_rfl) (fun _ _ _ h => h) (Or.inl ⟨by rfl, ?hy6⟩) (by assumption) ?rest6
  case hy6 => (intro w' hSw; obtain ⟨_, hSw⟩ := hSw; have q1 : w'.cell? ⟨w.heap.size, 1, none⟩ = some (.int .i64 e.key) := hSw.par.cell 1; have q2 : w'.cell? ⟨w.heap.size, 2, none⟩ = some (.int .i64 e.parent) := hSw.par.cell 2; have q3 : w'.cell? ⟨w.heap.size, 3, none⟩ = some (.int .i64 e.at_) := hSw.par.cell 3; have q6 : w'.cell? ⟨w.heap.size, 6, none⟩ = some (.int .u8 (e.nkind : Int)) := hSw.par.cell 6; have q54 : w'.cell? ⟨w.heap.size, 54, none⟩ = some (.string (mkB e.text)) := hSw.par.cell 54; clear hSw; go_simp; (rw [if_neg (by omega)]))
  case rest6 =>
  change wpAnyH _ _ _ _ _ _ _ (Act.put _ (some 137) _) _
  try simp only [Act.put, List.setIfInBounds_toArray, List.set_cons_zero, List.set_cons_succ]
  refine wpAnyH_take (i := 8) (v := ?v7) rfl (by kernel_rfl) (by kernel_rfl) (by kernel_rfl) (fun _ _ _ h => h) (Or.inl ⟨by rfl, ?hy7⟩) (by assumption) ?rest7
  case hy7 => (intro w' hSw; obtain ⟨_, hSw⟩ := hSw; have q1 : w'.cell? ⟨w.heap.size, 1, none⟩ = some (.int .i64 e.key) := hSw.par.cell 1; have q2 : w'.cell? ⟨w.heap.size, 2, none⟩ = some (.int .i64 e.parent) := hSw.par.cell 2; have q3 : w'.cell? ⟨w.heap.size, 3, none⟩ = some (.int .i64 e.at_) := hSw.par.cell 3; have q6 : w'.cell? ⟨w.heap.size, 6, none⟩ = some (.int .u8 (e.nkind : Int)) := hSw.par.cell 6; have q54 : w'.cell? ⟨w.heap.size, 54, none⟩ = some (.string (mkB e.text)) := hSw.par.cell 54; clear hSw; go_simp; try with_reducible rfl)
  case rest7 =>
  change wpAnyH _ _ _ _ _ _ _ (Act.put _ (some 2) _) _
  try simp only [Act.put, List.setIfInBounds_toArray, List.set_cons_zero, List.set_cons_succ]
  refine wpAnyH_ready (rs := [9]) (by kernel_rfl) (by simp) ?_
  refine AllReadyH.cons rfl (fun K hK => ?_) AllReadyH.nil
  obtain ⟨r, hr⟩ := hHeld
  refine step_store_blk (by rfl) 32 _ _ (by rfl) (w.heap.size + 1) 0 32 (chC r) (chC o) (by rfl) hr.res (by rfl) (by rw [chC_len, chC_len]; exact Nat.le_refl _) chC_size (chC_cells _) ?_
  intro w6 b6 k6 z6
  have hr6 := CM.ans hr b6 k6
  clear b6 k6 z6 hr
  refine hK.out _ _ ⟨_, hr6⟩ (fun hHeld => ?_)
  clear hK K
  try change wpAnyH _ _ _ _ _ _ _ (Act.put _ (none) _) _
  try simp only [Act.put]
  refine wpAnyH_take (i := 10) (v := ?v8) rfl (by kernel_rfl) (by kernel_rfl) (by kernel_rfl) (fun _ _ _ h => h) (Or.inl ⟨by rfl, ?hy8⟩) (by assumption) ?rest8
  case hy8 => (intro w' hSw; obtain ⟨_, hSw⟩ := hSw; have q1 : w'.cell? ⟨w.heap.size, 1, none⟩ = some (.int .i64 e.key) := hSw.par.cell 1; have q2 : w'.cell? ⟨w.heap.size, 2, none⟩ = some (.int .i64 e.parent) := hSw.par.cell 2; have q3 : w'.cell? ⟨w.heap.size, 3, none⟩ = some (.int .i64 e.at_) := hSw.par.cell 3; have q6 : w'.cell? ⟨w.heap.size, 6, none⟩ = some (.int .u8 (e.nkind : Int)) := hSw.par.cell 6; have q54 : w'.cell? ⟨w.heap.size, 54, none⟩ = some (.string (mkB e.text)) := hSw.par.cell 54; clear hSw; go_simp; try with_reducible rfl)
  case rest8 =>
  change wpAnyH _ _ _ _ _ _ _ (Act.put _ (some 4) _) _
  try simp only [Act.put, List.setIfInBounds_toArray, List.set_cons_zero, List.set_cons_succ]
  refine wpAnyH_done (by kernel_rfl) ?_ _
  go_wp2_with fail
  refine bodyPost_ret (results_tct rfl _ _ (w.heap.size + 1) 32 (chC o).toArray (0, 0) _ rfl hr6.res Tryz.underlying32 rfl chC_size) rfl ?_
  have hc := HC.out
  have hs1 := HS1.out
  have hs2 := HS2.out
  refine ChangePost.done (b := b5) (x := [115, 116, 121, 108, 101, 32] ++ Lib.itoa e.key ++ x5) rfl hr6 ?_ (by rw [HO.out]; unfold onlyR; simp [hc]; rfl) rfl (by unfold isR; simp [hc, hs1]) (fun hb => ?_) (by simp only [mkB_size] at *; simp; omega)
  · rw [show ([115, 116, 121, 108, 101, 32] ++ Lib.itoa e.key ++ x5 : List UInt8) = [115, 116, 121, 108, 101, 32] ++ Lib.itoa e.key ++ x5 from by simp, ← mkB_append, ← mkB_append]; rfl
  · rw [hs2 (hs1 ▸ hb)]; unfold wordsR; simp [hc, joinC_blk, blk, styleB]

set_option maxRecDepth 100000 in
set_option maxHeartbeats 8000000 in
theorem change5 (e : Ev) (he : e.Ok) (hc : e.ck = 5) (htx : e.text.length ≤ 4100) (w : World) :
    Calls Tryz.prog 41 #[.agg (chC e).toArray] w (ChangePost e w) := by
  have hA : (chC e).toArray.size = 55 := rfl
  have a0 : (chC e).toArray[0]'(by omega) = .int .u8 5 := by
    show Value.int .u8 (e.ck : Int) = _
    rw [hc]; rfl
  have HC := Lib.hid hc
  clear hc
  have hd1 := Lib.hid (fun W => digits_same he.key W)
  have hd2 := Lib.hid (fun W => digits_same he.parent W)
  have hd3 := Lib.hid (fun W => digits_same he.at_ W)
  have z1 := itoa_size he.key
  have z2 := itoa_size he.parent
  have z3 := itoa_size he.at_
  have hq := Lib.hid (fun W => rquoted_any (mkB e.text) (by rw [mkB_size]; omega) W)
  have z4 : (mkB (quoted e.text)).size ≤ 16410 := by
    rw [mkB_size]
    have := escs_len e.text
    simp [quoted]
    omega
  rw [mkB_toList] at hq
  go_enter Tryz.func41, Tryz.ntmps41
  go_upto_region 23 with (refine wpList_store_blk rfl 32 _ _ rfl (w.heap.size + 1 + 1) 0 32 (chC ev0) (chC { ev0 with ck := 5 }) rfl (allocs_blk (chObjs e) w 2 _ _ rfl) rfl (by rw [chC_len, chC_len]; exact Nat.le_refl _) chC_size (chC_cells _) ?_; intro w1 b1 k1 z1; rw [chC_all] at b1; have hm := CM.start (e := e) b1 k1; clear b1 k1 z1; have c0 : w1.cell? ⟨w.heap.size, 0, none⟩ = some (.int .u8 5) := (hm.par.cell 0).trans (congrArg some a0); have c1 : w1.cell? ⟨w.heap.size, 1, none⟩ = some (.int .i64 e.key) := hm.par.cell 1; have o1 : w1.cell? ⟨w.heap.size + 1 + 1, 1, none⟩ = some (.int .i64 0) := hm.onl.cell 1; have of := hm.onl.frozen)
  refine wp_region_held_drew (S := fun w' => Blk w' w.heap.size 32 (chC e).toArray) (by kernel_rfl) (Blk.drew hm.par) (fun hHeld => ?_)
  have hm := hm.quiet 1
  refine wpAnyH_take (i := 0) (v := ?vs1) rfl (by kernel_rfl) (by kernel_rfl) (by kernel_rfl) (fun _ _ _ h => h) (Or.inl ⟨by rfl, ?hys1⟩) (by assumption) ?rests1
  case hys1 => (intro w' hSw; have q1 : w'.cell? ⟨w.heap.size, 1, none⟩ = some (.int .i64 e.key) := (Blk.cell hSw 1); have q2 : w'.cell? ⟨w.heap.size, 2, none⟩ = some (.int .i64 e.parent) := (Blk.cell hSw 2); have q3 : w'.cell? ⟨w.heap.size, 3, none⟩ = some (.int .i64 e.at_) := (Blk.cell hSw 3); have q6 : w'.cell? ⟨w.heap.size, 6, none⟩ = some (.int .u8 (e.nkind : Int)) := (Blk.cell hSw 6); have q54 : w'.cell? ⟨w.heap.size, 54, none⟩ = some (.string (mkB e.text)) := (Blk.cell hSw 54); clear hSw; go_simp; try with_reducible rfl)
  case rests1 =>
  change wpAnyH _ _ _ _ _ _ _ (Act.put _ (some 142) _) _
  try simp only [Act.put, List.setIfInBounds_toArray, List.set_cons_zero, List.set_cons_succ]
  refine wpAnyH_take (i := 1) (v := ?vs2) rfl (by kernel_rfl) (by kernel_rfl) (by kernel_rfl) (fun _ _ _ h => h) (Or.inl ⟨by rfl, ?hys2⟩) (by assumption) ?rests2
  case hys2 => (intro w' hSw; have q1 : w'.cell? ⟨w.heap.size, 1, none⟩ = some (.int .i64 e.key) := (Blk.cell hSw 1); have q2 : w'.cell? ⟨w.heap.size, 2, none⟩ = some (.int .i64 e.parent) := (Blk.cell hSw 2); have q3 : w'.cell? ⟨w.heap.size, 3, none⟩ = some (.int .i64 e.at_) := (Blk.cell hSw 3); have q6 : w'.cell? ⟨w.heap.size, 6, none⟩ = some (.int .u8 (e.nkind : Int)) := (Blk.cell hSw 6); have q54 : w'.cell? ⟨w.heap.size, 54, none⟩ = some (.string (mkB e.text)) := (Blk.cell hSw 54); clear hSw; go_simp; try with_reducible rfl)
  case rests2 =>
  change wpAnyH _ _ _ _ _ _ _ (Act.put _ (some 143) _) _
  try simp only [Act.put, List.setIfInBounds_toArray, List.set_cons_zero, List.set_cons_succ]
  refine wpAnyH_take (i := 2) (v := ?vs3) rfl (by kernel_rfl) (by kernel_rfl) (by kernel_rfl) (fun _ _ _ h => h) (Or.inl ⟨by rfl, ?hys3⟩) (by assumption) ?rests3
  case hys3 => (intro w' hSw; have q1 : w'.cell? ⟨w.heap.size, 1, none⟩ = some (.int .i64 e.key) := (Blk.cell hSw 1); have q2 : w'.cell? ⟨w.heap.size, 2, none⟩ = some (.int .i64 e.parent) := (Blk.cell hSw 2); have q3 : w'.cell? ⟨w.heap.size, 3, none⟩ = some (.int .i64 e.at_) := (Blk.cell hSw 3); have q6 : w'.cell? ⟨w.heap.size, 6, none⟩ = some (.int .u8 (e.nkind : Int)) := (Blk.cell hSw 6); have q54 : w'.cell? ⟨w.heap.size, 54, none⟩ = some (.string (mkB e.text)) := (Blk.cell hSw 54); clear hSw; go_simp; try with_reducible rfl)
  case rests3 =>
  change wpAnyH _ _ _ _ _ _ _ (Act.put _ (some 144) _) _
  try simp only [Act.put, List.setIfInBounds_toArray, List.set_cons_zero, List.set_cons_succ]
  refine wpAnyH_take (i := 3) (v := ?vs4) rfl (by kernel_rfl) (by kernel_rfl) (by kernel_rfl) (fun _ _ _ h => h) (Or.inl ⟨by rfl, ?hys4⟩) (by assumption) ?rests4
  case hys4 => (intro w' hSw; have q1 : w'.cell? ⟨w.heap.size, 1, none⟩ = some (.int .i64 e.key) := (Blk.cell hSw 1); have q2 : w'.cell? ⟨w.heap.size, 2, none⟩ = some (.int .i64 e.parent) := (Blk.cell hSw 2); have q3 : w'.cell? ⟨w.heap.size, 3, none⟩ = some (.int .i64 e.at_) := (Blk.cell hSw 3); have q6 : w'.cell? ⟨w.heap.size, 6, none⟩ = some (.int .u8 (e.nkind : Int)) := (Blk.cell hSw 6); have q54 : w'.cell? ⟨w.heap.size, 54, none⟩ = some (.string (mkB e.text)) := (Blk.cell hSw 54); clear hSw; go_simp; try with_reducible rfl)
  case rests4 =>
  change wpAnyH _ _ _ _ _ _ _ (Act.put _ (some 145) _) _
  try simp only [Act.put, List.setIfInBounds_toArray, List.set_cons_zero, List.set_cons_succ]
  refine wpAnyH_take (i := 4) (v := ?vs5) rfl (by kernel_rfl) (by kernel_rfl) (by kernel_rfl) (fun _ _ _ h => h) (Or.inl ⟨by rfl, ?hys5⟩) (by assumption) ?rests5
  case hys5 => (intro w' hSw; have q1 : w'.cell? ⟨w.heap.size, 1, none⟩ = some (.int .i64 e.key) := (Blk.cell hSw 1); have q2 : w'.cell? ⟨w.heap.size, 2, none⟩ = some (.int .i64 e.parent) := (Blk.cell hSw 2); have q3 : w'.cell? ⟨w.heap.size, 3, none⟩ = some (.int .i64 e.at_) := (Blk.cell hSw 3); have q6 : w'.cell? ⟨w.heap.size, 6, none⟩ = some (.int .u8 (e.nkind : Int)) := (Blk.cell hSw 6); have q54 : w'.cell? ⟨w.heap.size, 54, none⟩ = some (.string (mkB e.text)) := (Blk.cell hSw 54); clear hSw; go_simp; try with_reducible rfl)
  case rests5 =>
  change wpAnyH _ _ _ _ _ _ _ (Act.put _ (some 146) _) _
  try simp only [Act.put, List.setIfInBounds_toArray, List.set_cons_zero, List.set_cons_succ]
  refine wpAnyH_take (i := 5) (v := ?vs6) rfl (by kernel_rfl) (by kernel_rfl) (by kernel_rfl) (fun _ _ _ h => h) (Or.inl ⟨by rfl, ?hys6⟩) (by assumption) ?rests6
  case hys6 => (intro w' hSw; have q1 : w'.cell? ⟨w.heap.size, 1, none⟩ = some (.int .i64 e.key) := (Blk.cell hSw 1); have q2 : w'.cell? ⟨w.heap.size, 2, none⟩ = some (.int .i64 e.parent) := (Blk.cell hSw 2); have q3 : w'.cell? ⟨w.heap.size, 3, none⟩ = some (.int .i64 e.at_) := (Blk.cell hSw 3); have q6 : w'.cell? ⟨w.heap.size, 6, none⟩ = some (.int .u8 (e.nkind : Int)) := (Blk.cell hSw 6); have q54 : w'.cell? ⟨w.heap.size, 54, none⟩ = some (.string (mkB e.text)) := (Blk.cell hSw 54); clear hSw; go_simp; try with_reducible rfl)
  case rests6 =>
  change wpAnyH _ _ _ _ _ _ _ (Act.put _ (some 147) _) _
  try simp only [Act.put, List.setIfInBounds_toArray, List.set_cons_zero, List.set_cons_succ]
  refine wpAnyH_ready (rs := [6]) (by kernel_rfl) (by simp) ?_
  refine AllReadyH.cons rfl (fun K hK => ?_) AllReadyH.nil
  refine step_store_one (by rfl) 3 _ _ (by rfl) (w.heap.size + 1 + 1) 1 32 _ _ (by rfl) hm.onl (by rfl) (by rw [chC_len]; omega) (by rfl) (storeVar_int _ _ _ _) ?_
  intro w6 b6 k6 z6
  have hm := CM.step (o' := { ev0 with ck := 5, key := e.key }) hm b6 k6 rfl
  clear b6 k6 z6
  refine hK.out _ _ hm.par (fun hHeld => ?_)
  clear hK K
  try change wpAnyH _ _ _ _ _ _ _ (Act.put _ (none) _) _
  try simp only [Act.put]
  refine wpAnyH_take (i := 7) (v := ?vs7) rfl (by kernel_rfl) (by kernel_rfl) (by kernel_rfl) (fun _ _ _ h => h) (Or.inl ⟨by rfl, ?hys7⟩) (by assumption) ?rests7
  case hys7 => (intro w' hSw; have q1 : w'.cell? ⟨w.heap.size, 1, none⟩ = some (.int .i64 e.key) := (Blk.cell hSw 1); have q2 : w'.cell? ⟨w.heap.size, 2, none⟩ = some (.int .i64 e.parent) := (Blk.cell hSw 2); have q3 : w'.cell? ⟨w.heap.size, 3, none⟩ = some (.int .i64 e.at_) := (Blk.cell hSw 3); have q6 : w'.cell? ⟨w.heap.size, 6, none⟩ = some (.int .u8 (e.nkind : Int)) := (Blk.cell hSw 6); have q54 : w'.cell? ⟨w.heap.size, 54, none⟩ = some (.string (mkB e.text)) := (Blk.cell hSw 54); clear hSw; go_simp; try with_reducible rfl)
  case rests7 =>
  change wpAnyH _ _ _ _ _ _ _ (Act.put _ (some 148) _) _
  try simp only [Act.put, List.setIfInBounds_toArray, List.set_cons_zero, List.set_cons_succ]
  refine wpAnyH_take (i := 8) (v := ?vs8) rfl (by kernel_rfl) (by kernel_rfl) (by kernel_rfl) (fun _ _ _ h => h) (Or.inl ⟨by rfl, ?hys8⟩) (by assumption) ?rests8
  case hys8 => (intro w' hSw; have q1 : w'.cell? ⟨w.heap.size, 1, none⟩ = some (.int .i64 e.key) := (Blk.cell hSw 1); have q2 : w'.cell? ⟨w.heap.size, 2, none⟩ = some (.int .i64 e.parent) := (Blk.cell hSw 2); have q3 : w'.cell? ⟨w.heap.size, 3, none⟩ = some (.int .i64 e.at_) := (Blk.cell hSw 3); have q6 : w'.cell? ⟨w.heap.size, 6, none⟩ = some (.int .u8 (e.nkind : Int)) := (Blk.cell hSw 6); have q54 : w'.cell? ⟨w.heap.size, 54, none⟩ = some (.string (mkB e.text)) := (Blk.cell hSw 54); clear hSw; go_simp; try with_reducible rfl)
  case rests8 =>
  change wpAnyH _ _ _ _ _ _ _ (Act.put _ (some 149) _) _
  try simp only [Act.put, List.setIfInBounds_toArray, List.set_cons_zero, List.set_cons_succ]
  refine wpAnyH_ready (rs := [9]) (by kernel_rfl) (by simp) ?_
  refine AllReadyH.cons rfl (fun K hK => ?_) AllReadyH.nil
  refine step_store_one (by rfl) 9 _ _ (by rfl) (w.heap.size + 1 + 1) 54 32 _ _ (by rfl) hm.onl (by rfl) (by rw [chC_len]; omega) (by rfl) (storeVar_str _ _ _) ?_
  intro w6 b6 k6 z6
  have hm := CM.step (o' := { ev0 with ck := 5, key := e.key, text := e.text }) hm b6 k6 rfl
  clear b6 k6 z6
  refine hK.out _ _ hm.par (fun hHeld => ?_)
  clear hK K
  try change wpAnyH _ _ _ _ _ _ _ (Act.put _ (none) _) _
  try simp only [Act.put]
  refine wpAnyH_done (by kernel_rfl) ?_ _
  skip
  go_upto_region 24 with fail
  clear c0 c1 o1 of hA a0
  obtain ⟨o, ho⟩ : ∃ o : Ev, o = { ev0 with ck := 5, key := e.key, text := e.text } := ⟨_, rfl⟩
  rw [← ho] at hm
  have HO := Lib.hid ho
  clear ho
  refine wp_region_held_drew (S := fun w' => ∃ r, CM e w.heap.size w r o w') (by kernel_rfl) ⟨_, hm.quiet 1⟩ (fun hHeld => ?_)
  clear hm
  refine wpAnyH_take (i := 0) (v := ?v1) rfl (by kernel_rfl) (by kernel_rfl) (by kernel_rfl) (fun _ _ _ h => h) (Or.inl ⟨by rfl, ?hy1⟩) (by assumption) ?rest1
  case hy1 => (intro w' hSw; obtain ⟨_, hSw⟩ := hSw; have q1 : w'.cell? ⟨w.heap.size, 1, none⟩ = some (.int .i64 e.key) := hSw.par.cell 1; have q2 : w'.cell? ⟨w.heap.size, 2, none⟩ = some (.int .i64 e.parent) := hSw.par.cell 2; have q3 : w'.cell? ⟨w.heap.size, 3, none⟩ = some (.int .i64 e.at_) := hSw.par.cell 3; have q6 : w'.cell? ⟨w.heap.size, 6, none⟩ = some (.int .u8 (e.nkind : Int)) := hSw.par.cell 6; have q54 : w'.cell? ⟨w.heap.size, 54, none⟩ = some (.string (mkB e.text)) := hSw.par.cell 54; clear hSw; go_simp; try with_reducible rfl)
  case rest1 =>
  change wpAnyH _ _ _ _ _ _ _ (Act.put _ (some 150) _) _
  try simp only [Act.put, List.setIfInBounds_toArray, List.set_cons_zero, List.set_cons_succ]
  refine wpAnyH_take (i := 1) (v := ?v2) rfl (by kernel_rfl) (by kernel_rfl) (by kernel_rfl) (fun _ _ _ h => h) (Or.inl ⟨by rfl, ?hy2⟩) (by assumption) ?rest2
  case hy2 => (intro w' hSw; obtain ⟨_, hSw⟩ := hSw; have q1 : w'.cell? ⟨w.heap.size, 1, none⟩ = some (.int .i64 e.key) := hSw.par.cell 1; have q2 : w'.cell? ⟨w.heap.size, 2, none⟩ = some (.int .i64 e.parent) := hSw.par.cell 2; have q3 : w'.cell? ⟨w.heap.size, 3, none⟩ = some (.int .i64 e.at_) := hSw.par.cell 3; have q6 : w'.cell? ⟨w.heap.size, 6, none⟩ = some (.int .u8 (e.nkind : Int)) := hSw.par.cell 6; have q54 : w'.cell? ⟨w.heap.size, 54, none⟩ = some (.string (mkB e.text)) := hSw.par.cell 54; clear hSw; go_simp; try with_reducible rfl)
  case rest2 =>
  change wpAnyH _ _ _ _ _ _ _ (Act.put _ (some 151) _) _
  try simp only [Act.put, List.setIfInBounds_toArray, List.set_cons_zero, List.set_cons_succ]
  refine wpAnyH_take (i := 5) (v := ?v3) rfl (by kernel_rfl) (by kernel_rfl) (by kernel_rfl) (fun _ _ _ h => h) (Or.inl ⟨by rfl, ?hy3⟩) (by assumption) ?rest3
  case hy3 => (intro w' hSw; obtain ⟨_, hSw⟩ := hSw; have q1 : w'.cell? ⟨w.heap.size, 1, none⟩ = some (.int .i64 e.key) := hSw.par.cell 1; have q2 : w'.cell? ⟨w.heap.size, 2, none⟩ = some (.int .i64 e.parent) := hSw.par.cell 2; have q3 : w'.cell? ⟨w.heap.size, 3, none⟩ = some (.int .i64 e.at_) := hSw.par.cell 3; have q6 : w'.cell? ⟨w.heap.size, 6, none⟩ = some (.int .u8 (e.nkind : Int)) := hSw.par.cell 6; have q54 : w'.cell? ⟨w.heap.size, 54, none⟩ = some (.string (mkB e.text)) := hSw.par.cell 54; clear hSw; go_simp; try with_reducible rfl)
  case rest3 =>
  change wpAnyH _ _ _ _ _ _ _ (Act.put _ (some 155) _) _
  try simp only [Act.put, List.setIfInBounds_toArray, List.set_cons_zero, List.set_cons_succ]
  refine wpAnyH_take (i := 6) (v := ?v4) rfl (by kernel_rfl) (by kernel_rfl) (by kernel_rfl) (fun _ _ _ h => h) (Or.inl ⟨by rfl, ?hy4⟩) (by assumption) ?rest4
  case hy4 => (intro w' hSw; obtain ⟨_, hSw⟩ := hSw; have q1 : w'.cell? ⟨w.heap.size, 1, none⟩ = some (.int .i64 e.key) := hSw.par.cell 1; have q2 : w'.cell? ⟨w.heap.size, 2, none⟩ = some (.int .i64 e.parent) := hSw.par.cell 2; have q3 : w'.cell? ⟨w.heap.size, 3, none⟩ = some (.int .i64 e.at_) := hSw.par.cell 3; have q6 : w'.cell? ⟨w.heap.size, 6, none⟩ = some (.int .u8 (e.nkind : Int)) := hSw.par.cell 6; have q54 : w'.cell? ⟨w.heap.size, 54, none⟩ = some (.string (mkB e.text)) := hSw.par.cell 54; clear hSw; go_simp; try with_reducible rfl)
  case rest4 =>
  change wpAnyH _ _ _ _ _ _ _ (Act.put _ (some 156) _) _
  try simp only [Act.put, List.setIfInBounds_toArray, List.set_cons_zero, List.set_cons_succ]
  refine wpAnyH_take (i := 7) (v := ?v5) rfl (by kernel_rfl) (by kernel_rfl) (by kernel_rfl) (fun _ _ _ h => h) (Or.inl ⟨by rfl, ?hy5⟩) (by assumption) ?rest5
  case hy5 => (intro w' hSw; obtain ⟨_, hSw⟩ := hSw; have q1 : w'.cell? ⟨w.heap.size, 1, none⟩ = some (.int .i64 e.key) := hSw.par.cell 1; have q2 : w'.cell? ⟨w.heap.size, 2, none⟩ = some (.int .i64 e.parent) := hSw.par.cell 2; have q3 : w'.cell? ⟨w.heap.size, 3, none⟩ = some (.int .i64 e.at_) := hSw.par.cell 3; have q6 : w'.cell? ⟨w.heap.size, 6, none⟩ = some (.int .u8 (e.nkind : Int)) := hSw.par.cell 6; have q54 : w'.cell? ⟨w.heap.size, 54, none⟩ = some (.string (mkB e.text)) := hSw.par.cell 54; clear hSw; go_simp; try with_reducible rfl)
  case rest5 =>
  change wpAnyH _ _ _ _ _ _ _ (Act.put _ (some 157) _) _
  try simp only [Act.put, List.setIfInBounds_toArray, List.set_cons_zero, List.set_cons_succ]
  refine' wpAnyH_take (i := 10) (v := _) rfl (by kernel_rfl) (by kernel_rfl) (by kernel_rfl) (fun _ _ _ h => h) (yieldsIf_load_mid (by rfl) _ _ rfl _ _ rfl (chC o) _ (fun _ h => by obtain ⟨_, h⟩ := h; exact blk_range h.onl (chC_self _)) Tryz.underlying32 rfl chC_size) (by assumption) ?_
  change wpAnyH _ _ _ _ _ _ _ (Act.put _ (some 160) _) _
  try simp only [Act.put, List.setIfInBounds_toArray, List.set_cons_zero, List.set_cons_succ]
  refine wpAnyH_ready (rs := [2]) (by kernel_rfl) (by simp) ?_
  refine AllReadyH.cons rfl (fun K hK => ?_) AllReadyH.nil
  go_simp
  go_at_call 42
  first | (with_reducible refine (hd1.out _).mono ?_) | (with_reducible refine (hd2.out _).mono ?_) | (with_reducible refine (hd3.out _).mono ?_)
  rintro e5 w5 ⟨rfl, rfl⟩
  refine hK.out _ _ (by assumption) (fun hHeld => ?_)
  clear hK K
  try change wpAnyH _ _ _ _ _ _ _ (Act.put _ (some 152) _) _
  try simp only [Act.put, List.setIfInBounds_toArray, List.set_cons_zero, List.set_cons_succ]
  refine wpAnyH_take (i := 3) (v := ?v6) rfl (by kernel_rfl) (by kernel_rfl) (by kernel_rfl) (fun _ _ _ h => h) (Or.inl ⟨by rfl, ?hy6⟩) (by assumption) ?rest6
  case hy6 => (intro w' hSw; obtain ⟨_, hSw⟩ := hSw; have q1 : w'.cell? ⟨w.heap.size, 1, none⟩ = some (.int .i64 e.key) := hSw.par.cell 1; have q2 : w'.cell? ⟨w.heap.size, 2, none⟩ = some (.int .i64 e.parent) := hSw.par.cell 2; have q3 : w'.cell? ⟨w.heap.size, 3, none⟩ = some (.int .i64 e.at_) := hSw.par.cell 3; have q6 : w'.cell? ⟨w.heap.size, 6, none⟩ = some (.int .u8 (e.nkind : Int)) := hSw.par.cell 6; have q54 : w'.cell? ⟨w.heap.size, 54, none⟩ = some (.string (mkB e.text)) := hSw.par.cell 54; clear hSw; go_simp; (rw [if_neg (by omega)]))
  case rest6 =>
  change wpAnyH _ _ _ _ _ _ _ (Act.put _ (some 153) _) _
  try simp only [Act.put, List.setIfInBounds_toArray, List.set_cons_zero, List.set_cons_succ]
  refine wpAnyH_take (i := 4) (v := ?v7) rfl (by kernel_rfl) (by kernel_rfl) (by kernel_rfl) (fun _ _ _ h => h) (Or.inl ⟨by rfl, ?hy7⟩) (by assumption) ?rest7
  case hy7 => (intro w' hSw; obtain ⟨_, hSw⟩ := hSw; have q1 : w'.cell? ⟨w.heap.size, 1, none⟩ = some (.int .i64 e.key) := hSw.par.cell 1; have q2 : w'.cell? ⟨w.heap.size, 2, none⟩ = some (.int .i64 e.parent) := hSw.par.cell 2; have q3 : w'.cell? ⟨w.heap.size, 3, none⟩ = some (.int .i64 e.at_) := hSw.par.cell 3; have q6 : w'.cell? ⟨w.heap.size, 6, none⟩ = some (.int .u8 (e.nkind : Int)) := hSw.par.cell 6; have q54 : w'.cell? ⟨w.heap.size, 54, none⟩ = some (.string (mkB e.text)) := hSw.par.cell 54; clear hSw; go_simp; (rw [if_neg (by omega)]))
  case rest7 =>
  change wpAnyH _ _ _ _ _ _ _ (Act.put _ (some 154) _) _
  try simp only [Act.put, List.setIfInBounds_toArray, List.set_cons_zero, List.set_cons_succ]
  refine wpAnyH_ready (rs := [8]) (by kernel_rfl) (by simp) ?_
  refine AllReadyH.cons rfl (fun K hK => ?_) AllReadyH.nil
  go_simp
  go_at_call 63
  with_reducible refine (hq.out _).mono ?_
  rintro e5 w5 ⟨rfl, hq5⟩
  obtain ⟨m5, rfl⟩ := hq5
  refine hK.out _ _ (by obtain ⟨r, hr⟩ := hHeld; exact ⟨r, hr.quiet m5⟩) (fun hHeld => ?_)
  clear hK K
  try change wpAnyH _ _ _ _ _ _ _ (Act.put _ (some 158) _) _
  try simp only [Act.put, List.setIfInBounds_toArray, List.set_cons_zero, List.set_cons_succ]
  refine wpAnyH_take (i := 9) (v := ?v8) rfl (by kernel_rfl) (by kernel_rfl) (by kernel_rfl) (fun _ _ _ h => h) (Or.inl ⟨by rfl, ?hy8⟩) (by assumption) ?rest8
  case hy8 => (intro w' hSw; obtain ⟨_, hSw⟩ := hSw; have q1 : w'.cell? ⟨w.heap.size, 1, none⟩ = some (.int .i64 e.key) := hSw.par.cell 1; have q2 : w'.cell? ⟨w.heap.size, 2, none⟩ = some (.int .i64 e.parent) := hSw.par.cell 2; have q3 : w'.cell? ⟨w.heap.size, 3, none⟩ = some (.int .i64 e.at_) := hSw.par.cell 3; have q6 : w'.cell? ⟨w.heap.size, 6, none⟩ = some (.int .u8 (e.nkind : Int)) := hSw.par.cell 6; have q54 : w'.cell? ⟨w.heap.size, 54, none⟩ = some (.string (mkB e.text)) := hSw.par.cell 54; clear hSw; go_simp; (rw [if_neg (by omega)]))
  case rest8 =>
  change wpAnyH _ _ _ _ _ _ _ (Act.put _ (some 159) _) _
  try simp only [Act.put, List.setIfInBounds_toArray, List.set_cons_zero, List.set_cons_succ]
  refine wpAnyH_take (i := 11) (v := ?v9) rfl (by kernel_rfl) (by kernel_rfl) (by kernel_rfl) (fun _ _ _ h => h) (Or.inl ⟨by rfl, ?hy9⟩) (by assumption) ?rest9
  case hy9 => (intro w' hSw; obtain ⟨_, hSw⟩ := hSw; have q1 : w'.cell? ⟨w.heap.size, 1, none⟩ = some (.int .i64 e.key) := hSw.par.cell 1; have q2 : w'.cell? ⟨w.heap.size, 2, none⟩ = some (.int .i64 e.parent) := hSw.par.cell 2; have q3 : w'.cell? ⟨w.heap.size, 3, none⟩ = some (.int .i64 e.at_) := hSw.par.cell 3; have q6 : w'.cell? ⟨w.heap.size, 6, none⟩ = some (.int .u8 (e.nkind : Int)) := hSw.par.cell 6; have q54 : w'.cell? ⟨w.heap.size, 54, none⟩ = some (.string (mkB e.text)) := hSw.par.cell 54; clear hSw; go_simp; try with_reducible rfl)
  case rest9 =>
  change wpAnyH _ _ _ _ _ _ _ (Act.put _ (some 2) _) _
  try simp only [Act.put, List.setIfInBounds_toArray, List.set_cons_zero, List.set_cons_succ]
  refine wpAnyH_ready (rs := [12]) (by kernel_rfl) (by simp) ?_
  refine AllReadyH.cons rfl (fun K hK => ?_) AllReadyH.nil
  obtain ⟨r, hr⟩ := hHeld
  refine step_store_blk (by rfl) 32 _ _ (by rfl) (w.heap.size + 1) 0 32 (chC r) (chC o) (by rfl) hr.res (by rfl) (by rw [chC_len, chC_len]; exact Nat.le_refl _) chC_size (chC_cells _) ?_
  intro w6 b6 k6 z6
  have hr6 := CM.ans hr b6 k6
  clear b6 k6 z6 hr
  refine hK.out _ _ ⟨_, hr6⟩ (fun hHeld => ?_)
  clear hK K
  try change wpAnyH _ _ _ _ _ _ _ (Act.put _ (none) _) _
  try simp only [Act.put]
  refine wpAnyH_take (i := 13) (v := ?v10) rfl (by kernel_rfl) (by kernel_rfl) (by kernel_rfl) (fun _ _ _ h => h) (Or.inl ⟨by rfl, ?hy10⟩) (by assumption) ?rest10
  case hy10 => (intro w' hSw; obtain ⟨_, hSw⟩ := hSw; have q1 : w'.cell? ⟨w.heap.size, 1, none⟩ = some (.int .i64 e.key) := hSw.par.cell 1; have q2 : w'.cell? ⟨w.heap.size, 2, none⟩ = some (.int .i64 e.parent) := hSw.par.cell 2; have q3 : w'.cell? ⟨w.heap.size, 3, none⟩ = some (.int .i64 e.at_) := hSw.par.cell 3; have q6 : w'.cell? ⟨w.heap.size, 6, none⟩ = some (.int .u8 (e.nkind : Int)) := hSw.par.cell 6; have q54 : w'.cell? ⟨w.heap.size, 54, none⟩ = some (.string (mkB e.text)) := hSw.par.cell 54; clear hSw; go_simp; try with_reducible rfl)
  case rest10 =>
  change wpAnyH _ _ _ _ _ _ _ (Act.put _ (some 4) _) _
  try simp only [Act.put, List.setIfInBounds_toArray, List.set_cons_zero, List.set_cons_succ]
  refine wpAnyH_done (by kernel_rfl) ?_ _
  go_wp2_with fail
  refine bodyPost_ret (results_tct rfl _ _ (w.heap.size + 1) 32 (chC o).toArray (0, 0) _ rfl hr6.res Tryz.underlying32 rfl chC_size) rfl ?_
  have hc := HC.out
  exact ChangePost.done (x := [116, 101, 120, 116, 32] ++ Lib.itoa e.key ++ [32] ++ quoted e.text) rfl hr6 (by rw [show ([116, 101, 120, 116, 32] ++ Lib.itoa e.key ++ [32] ++ quoted e.text : List UInt8) = [116, 101, 120, 116, 32] ++ Lib.itoa e.key ++ [32] ++ quoted e.text from by simp, ← mkB_append, ← mkB_append, ← mkB_append]; rfl) (by rw [HO.out]; unfold onlyR; simp [hc]; rfl) rfl (by unfold isR; simp [hc]) (fun _ => by unfold wordsR; simp [hc, joinC, textB]) (by have := itoa_size he.key; have := itoa_size he.parent; have := itoa_size he.at_; simp only [mkB_size] at *; simp; omega)

set_option maxRecDepth 100000 in
set_option maxHeartbeats 8000000 in
theorem change1b (e : Ev) (he : e.Ok) (hc : e.ck = 1) (hk : e.nkind ≠ 1) (w : World) :
    Calls Tryz.prog 41 #[.agg (chC e).toArray] w (ChangePost e w) := by
  have hA : (chC e).toArray.size = 55 := rfl
  have a0 : (chC e).toArray[0]'(by omega) = .int .u8 1 := by
    show Value.int .u8 (e.ck : Int) = _
    rw [hc]; rfl
  have e1 : (((e.nkind : Nat) : Int) == 1) = false := by rw [beq_eq_false_iff_ne]; omega
  have HK := Lib.hid hk
  clear hk
  have HC := Lib.hid hc
  clear hc
  have hd1 := Lib.hid (fun W => digits_same he.key W)
  have hd2 := Lib.hid (fun W => digits_same he.parent W)
  have hd3 := Lib.hid (fun W => digits_same he.at_ W)
  have z1 := itoa_size he.key
  have z2 := itoa_size he.parent
  have z3 := itoa_size he.at_
  go_enter Tryz.func41, Tryz.ntmps41
  go_upto_region 4 with (refine wpList_store_blk rfl 32 _ _ rfl (w.heap.size + 1 + 1) 0 32 (chC ev0) (chC { ev0 with ck := 1 }) rfl (allocs_blk (chObjs e) w 2 _ _ rfl) rfl (by rw [chC_len, chC_len]; exact Nat.le_refl _) chC_size (chC_cells _) ?_; intro w1 b1 k1 z1; rw [chC_all] at b1; have hm := CM.start (e := e) b1 k1; clear b1 k1 z1; have c0 : w1.cell? ⟨w.heap.size, 0, none⟩ = some (.int .u8 1) := (hm.par.cell 0).trans (congrArg some a0); have c1 : w1.cell? ⟨w.heap.size, 1, none⟩ = some (.int .i64 e.key) := hm.par.cell 1; have o1 : w1.cell? ⟨w.heap.size + 1 + 1, 1, none⟩ = some (.int .i64 0) := hm.onl.cell 1; have of := hm.onl.frozen)
  refine wp_region_held_drew (S := fun w' => Blk w' w.heap.size 32 (chC e).toArray) (by kernel_rfl) (Blk.drew hm.par) (fun hHeld => ?_)
  have hm := hm.quiet 1
  refine wpAnyH_take (i := 0) (v := ?vs1) rfl (by kernel_rfl) (by kernel_rfl) (by kernel_rfl) (fun _ _ _ h => h) (Or.inl ⟨by rfl, ?hys1⟩) (by assumption) ?rests1
  case hys1 => (intro w' hSw; have q1 : w'.cell? ⟨w.heap.size, 1, none⟩ = some (.int .i64 e.key) := (Blk.cell hSw 1); have q2 : w'.cell? ⟨w.heap.size, 2, none⟩ = some (.int .i64 e.parent) := (Blk.cell hSw 2); have q3 : w'.cell? ⟨w.heap.size, 3, none⟩ = some (.int .i64 e.at_) := (Blk.cell hSw 3); have q6 : w'.cell? ⟨w.heap.size, 6, none⟩ = some (.int .u8 (e.nkind : Int)) := (Blk.cell hSw 6); have q54 : w'.cell? ⟨w.heap.size, 54, none⟩ = some (.string (mkB e.text)) := (Blk.cell hSw 54); clear hSw; go_simp; try with_reducible rfl)
  case rests1 =>
  change wpAnyH _ _ _ _ _ _ _ (Act.put _ (some 18) _) _
  try simp only [Act.put, List.setIfInBounds_toArray, List.set_cons_zero, List.set_cons_succ]
  refine wpAnyH_take (i := 1) (v := ?vs2) rfl (by kernel_rfl) (by kernel_rfl) (by kernel_rfl) (fun _ _ _ h => h) (Or.inl ⟨by rfl, ?hys2⟩) (by assumption) ?rests2
  case hys2 => (intro w' hSw; have q1 : w'.cell? ⟨w.heap.size, 1, none⟩ = some (.int .i64 e.key) := (Blk.cell hSw 1); have q2 : w'.cell? ⟨w.heap.size, 2, none⟩ = some (.int .i64 e.parent) := (Blk.cell hSw 2); have q3 : w'.cell? ⟨w.heap.size, 3, none⟩ = some (.int .i64 e.at_) := (Blk.cell hSw 3); have q6 : w'.cell? ⟨w.heap.size, 6, none⟩ = some (.int .u8 (e.nkind : Int)) := (Blk.cell hSw 6); have q54 : w'.cell? ⟨w.heap.size, 54, none⟩ = some (.string (mkB e.text)) := (Blk.cell hSw 54); clear hSw; go_simp; try with_reducible rfl)
  case rests2 =>
  change wpAnyH _ _ _ _ _ _ _ (Act.put _ (some 19) _) _
  try simp only [Act.put, List.setIfInBounds_toArray, List.set_cons_zero, List.set_cons_succ]
  refine wpAnyH_take (i := 2) (v := ?vs3) rfl (by kernel_rfl) (by kernel_rfl) (by kernel_rfl) (fun _ _ _ h => h) (Or.inl ⟨by rfl, ?hys3⟩) (by assumption) ?rests3
  case hys3 => (intro w' hSw; have q1 : w'.cell? ⟨w.heap.size, 1, none⟩ = some (.int .i64 e.key) := (Blk.cell hSw 1); have q2 : w'.cell? ⟨w.heap.size, 2, none⟩ = some (.int .i64 e.parent) := (Blk.cell hSw 2); have q3 : w'.cell? ⟨w.heap.size, 3, none⟩ = some (.int .i64 e.at_) := (Blk.cell hSw 3); have q6 : w'.cell? ⟨w.heap.size, 6, none⟩ = some (.int .u8 (e.nkind : Int)) := (Blk.cell hSw 6); have q54 : w'.cell? ⟨w.heap.size, 54, none⟩ = some (.string (mkB e.text)) := (Blk.cell hSw 54); clear hSw; go_simp; try with_reducible rfl)
  case rests3 =>
  change wpAnyH _ _ _ _ _ _ _ (Act.put _ (some 20) _) _
  try simp only [Act.put, List.setIfInBounds_toArray, List.set_cons_zero, List.set_cons_succ]
  refine wpAnyH_take (i := 3) (v := ?vs4) rfl (by kernel_rfl) (by kernel_rfl) (by kernel_rfl) (fun _ _ _ h => h) (Or.inl ⟨by rfl, ?hys4⟩) (by assumption) ?rests4
  case hys4 => (intro w' hSw; have q1 : w'.cell? ⟨w.heap.size, 1, none⟩ = some (.int .i64 e.key) := (Blk.cell hSw 1); have q2 : w'.cell? ⟨w.heap.size, 2, none⟩ = some (.int .i64 e.parent) := (Blk.cell hSw 2); have q3 : w'.cell? ⟨w.heap.size, 3, none⟩ = some (.int .i64 e.at_) := (Blk.cell hSw 3); have q6 : w'.cell? ⟨w.heap.size, 6, none⟩ = some (.int .u8 (e.nkind : Int)) := (Blk.cell hSw 6); have q54 : w'.cell? ⟨w.heap.size, 54, none⟩ = some (.string (mkB e.text)) := (Blk.cell hSw 54); clear hSw; go_simp; try with_reducible rfl)
  case rests4 =>
  change wpAnyH _ _ _ _ _ _ _ (Act.put _ (some 21) _) _
  try simp only [Act.put, List.setIfInBounds_toArray, List.set_cons_zero, List.set_cons_succ]
  refine wpAnyH_take (i := 4) (v := ?vs5) rfl (by kernel_rfl) (by kernel_rfl) (by kernel_rfl) (fun _ _ _ h => h) (Or.inl ⟨by rfl, ?hys5⟩) (by assumption) ?rests5
  case hys5 => (intro w' hSw; have q1 : w'.cell? ⟨w.heap.size, 1, none⟩ = some (.int .i64 e.key) := (Blk.cell hSw 1); have q2 : w'.cell? ⟨w.heap.size, 2, none⟩ = some (.int .i64 e.parent) := (Blk.cell hSw 2); have q3 : w'.cell? ⟨w.heap.size, 3, none⟩ = some (.int .i64 e.at_) := (Blk.cell hSw 3); have q6 : w'.cell? ⟨w.heap.size, 6, none⟩ = some (.int .u8 (e.nkind : Int)) := (Blk.cell hSw 6); have q54 : w'.cell? ⟨w.heap.size, 54, none⟩ = some (.string (mkB e.text)) := (Blk.cell hSw 54); clear hSw; go_simp; try with_reducible rfl)
  case rests5 =>
  change wpAnyH _ _ _ _ _ _ _ (Act.put _ (some 22) _) _
  try simp only [Act.put, List.setIfInBounds_toArray, List.set_cons_zero, List.set_cons_succ]
  refine wpAnyH_take (i := 5) (v := ?vs6) rfl (by kernel_rfl) (by kernel_rfl) (by kernel_rfl) (fun _ _ _ h => h) (Or.inl ⟨by rfl, ?hys6⟩) (by assumption) ?rests6
  case hys6 => (intro w' hSw; have q1 : w'.cell? ⟨w.heap.size, 1, none⟩ = some (.int .i64 e.key) := (Blk.cell hSw 1); have q2 : w'.cell? ⟨w.heap.size, 2, none⟩ = some (.int .i64 e.parent) := (Blk.cell hSw 2); have q3 : w'.cell? ⟨w.heap.size, 3, none⟩ = some (.int .i64 e.at_) := (Blk.cell hSw 3); have q6 : w'.cell? ⟨w.heap.size, 6, none⟩ = some (.int .u8 (e.nkind : Int)) := (Blk.cell hSw 6); have q54 : w'.cell? ⟨w.heap.size, 54, none⟩ = some (.string (mkB e.text)) := (Blk.cell hSw 54); clear hSw; go_simp; try with_reducible rfl)
  case rests6 =>
  change wpAnyH _ _ _ _ _ _ _ (Act.put _ (some 23) _) _
  try simp only [Act.put, List.setIfInBounds_toArray, List.set_cons_zero, List.set_cons_succ]
  refine wpAnyH_take (i := 6) (v := ?vs7) rfl (by kernel_rfl) (by kernel_rfl) (by kernel_rfl) (fun _ _ _ h => h) (Or.inl ⟨by rfl, ?hys7⟩) (by assumption) ?rests7
  case hys7 => (intro w' hSw; have q1 : w'.cell? ⟨w.heap.size, 1, none⟩ = some (.int .i64 e.key) := (Blk.cell hSw 1); have q2 : w'.cell? ⟨w.heap.size, 2, none⟩ = some (.int .i64 e.parent) := (Blk.cell hSw 2); have q3 : w'.cell? ⟨w.heap.size, 3, none⟩ = some (.int .i64 e.at_) := (Blk.cell hSw 3); have q6 : w'.cell? ⟨w.heap.size, 6, none⟩ = some (.int .u8 (e.nkind : Int)) := (Blk.cell hSw 6); have q54 : w'.cell? ⟨w.heap.size, 54, none⟩ = some (.string (mkB e.text)) := (Blk.cell hSw 54); clear hSw; go_simp; try with_reducible rfl)
  case rests7 =>
  change wpAnyH _ _ _ _ _ _ _ (Act.put _ (some 24) _) _
  try simp only [Act.put, List.setIfInBounds_toArray, List.set_cons_zero, List.set_cons_succ]
  refine wpAnyH_take (i := 7) (v := ?vs8) rfl (by kernel_rfl) (by kernel_rfl) (by kernel_rfl) (fun _ _ _ h => h) (Or.inl ⟨by rfl, ?hys8⟩) (by assumption) ?rests8
  case hys8 => (intro w' hSw; have q1 : w'.cell? ⟨w.heap.size, 1, none⟩ = some (.int .i64 e.key) := (Blk.cell hSw 1); have q2 : w'.cell? ⟨w.heap.size, 2, none⟩ = some (.int .i64 e.parent) := (Blk.cell hSw 2); have q3 : w'.cell? ⟨w.heap.size, 3, none⟩ = some (.int .i64 e.at_) := (Blk.cell hSw 3); have q6 : w'.cell? ⟨w.heap.size, 6, none⟩ = some (.int .u8 (e.nkind : Int)) := (Blk.cell hSw 6); have q54 : w'.cell? ⟨w.heap.size, 54, none⟩ = some (.string (mkB e.text)) := (Blk.cell hSw 54); clear hSw; go_simp; try with_reducible rfl)
  case rests8 =>
  change wpAnyH _ _ _ _ _ _ _ (Act.put _ (some 25) _) _
  try simp only [Act.put, List.setIfInBounds_toArray, List.set_cons_zero, List.set_cons_succ]
  refine wpAnyH_ready (rs := [8]) (by kernel_rfl) (by simp) ?_
  refine AllReadyH.cons rfl (fun K hK => ?_) AllReadyH.nil
  refine step_store_one (by rfl) 3 _ _ (by rfl) (w.heap.size + 1 + 1) 2 32 _ _ (by rfl) hm.onl (by rfl) (by rw [chC_len]; omega) (by rfl) (storeVar_int _ _ _ _) ?_
  intro w6 b6 k6 z6
  have hm := CM.step (o' := { ev0 with ck := 1, parent := e.parent }) hm b6 k6 rfl
  clear b6 k6 z6
  refine hK.out _ _ hm.par (fun hHeld => ?_)
  clear hK K
  try change wpAnyH _ _ _ _ _ _ _ (Act.put _ (none) _) _
  try simp only [Act.put]
  refine wpAnyH_take (i := 9) (v := ?vs9) rfl (by kernel_rfl) (by kernel_rfl) (by kernel_rfl) (fun _ _ _ h => h) (Or.inl ⟨by rfl, ?hys9⟩) (by assumption) ?rests9
  case hys9 => (intro w' hSw; have q1 : w'.cell? ⟨w.heap.size, 1, none⟩ = some (.int .i64 e.key) := (Blk.cell hSw 1); have q2 : w'.cell? ⟨w.heap.size, 2, none⟩ = some (.int .i64 e.parent) := (Blk.cell hSw 2); have q3 : w'.cell? ⟨w.heap.size, 3, none⟩ = some (.int .i64 e.at_) := (Blk.cell hSw 3); have q6 : w'.cell? ⟨w.heap.size, 6, none⟩ = some (.int .u8 (e.nkind : Int)) := (Blk.cell hSw 6); have q54 : w'.cell? ⟨w.heap.size, 54, none⟩ = some (.string (mkB e.text)) := (Blk.cell hSw 54); clear hSw; go_simp; try with_reducible rfl)
  case rests9 =>
  change wpAnyH _ _ _ _ _ _ _ (Act.put _ (some 26) _) _
  try simp only [Act.put, List.setIfInBounds_toArray, List.set_cons_zero, List.set_cons_succ]
  refine wpAnyH_ready (rs := [10]) (by kernel_rfl) (by simp) ?_
  refine AllReadyH.cons rfl (fun K hK => ?_) AllReadyH.nil
  refine step_store_one (by rfl) 3 _ _ (by rfl) (w.heap.size + 1 + 1) 3 32 _ _ (by rfl) hm.onl (by rfl) (by rw [chC_len]; omega) (by rfl) (storeVar_int _ _ _ _) ?_
  intro w6 b6 k6 z6
  have hm := CM.step (o' := { ev0 with ck := 1, parent := e.parent, at_ := e.at_ }) hm b6 k6 rfl
  clear b6 k6 z6
  refine hK.out _ _ hm.par (fun hHeld => ?_)
  clear hK K
  try change wpAnyH _ _ _ _ _ _ _ (Act.put _ (none) _) _
  try simp only [Act.put]
  refine wpAnyH_take (i := 11) (v := ?vs10) rfl (by kernel_rfl) (by kernel_rfl) (by kernel_rfl) (fun _ _ _ h => h) (Or.inl ⟨by rfl, ?hys10⟩) (by assumption) ?rests10
  case hys10 => (intro w' hSw; have q1 : w'.cell? ⟨w.heap.size, 1, none⟩ = some (.int .i64 e.key) := (Blk.cell hSw 1); have q2 : w'.cell? ⟨w.heap.size, 2, none⟩ = some (.int .i64 e.parent) := (Blk.cell hSw 2); have q3 : w'.cell? ⟨w.heap.size, 3, none⟩ = some (.int .i64 e.at_) := (Blk.cell hSw 3); have q6 : w'.cell? ⟨w.heap.size, 6, none⟩ = some (.int .u8 (e.nkind : Int)) := (Blk.cell hSw 6); have q54 : w'.cell? ⟨w.heap.size, 54, none⟩ = some (.string (mkB e.text)) := (Blk.cell hSw 54); clear hSw; go_simp; try with_reducible rfl)
  case rests10 =>
  change wpAnyH _ _ _ _ _ _ _ (Act.put _ (some 27) _) _
  try simp only [Act.put, List.setIfInBounds_toArray, List.set_cons_zero, List.set_cons_succ]
  refine wpAnyH_take (i := 12) (v := ?vs11) rfl (by kernel_rfl) (by kernel_rfl) (by kernel_rfl) (fun _ _ _ h => h) (Or.inl ⟨by rfl, ?hys11⟩) (by assumption) ?rests11
  case hys11 => (intro w' hSw; have q1 : w'.cell? ⟨w.heap.size, 1, none⟩ = some (.int .i64 e.key) := (Blk.cell hSw 1); have q2 : w'.cell? ⟨w.heap.size, 2, none⟩ = some (.int .i64 e.parent) := (Blk.cell hSw 2); have q3 : w'.cell? ⟨w.heap.size, 3, none⟩ = some (.int .i64 e.at_) := (Blk.cell hSw 3); have q6 : w'.cell? ⟨w.heap.size, 6, none⟩ = some (.int .u8 (e.nkind : Int)) := (Blk.cell hSw 6); have q54 : w'.cell? ⟨w.heap.size, 54, none⟩ = some (.string (mkB e.text)) := (Blk.cell hSw 54); clear hSw; go_simp; try with_reducible rfl)
  case rests11 =>
  change wpAnyH _ _ _ _ _ _ _ (Act.put _ (some 28) _) _
  try simp only [Act.put, List.setIfInBounds_toArray, List.set_cons_zero, List.set_cons_succ]
  refine wpAnyH_ready (rs := [13]) (by kernel_rfl) (by simp) ?_
  refine AllReadyH.cons rfl (fun K hK => ?_) AllReadyH.nil
  refine step_store_one (by rfl) 5 _ _ (by rfl) (w.heap.size + 1 + 1) 6 32 _ _ (by rfl) hm.onl (by rfl) (by rw [chC_len]; omega) (by rfl) (storeVar_u8 _ _ _ _) ?_
  intro w6 b6 k6 z6
  have hm := CM.step (o' := { ev0 with ck := 1, parent := e.parent, at_ := e.at_, nkind := e.nkind }) hm b6 k6 rfl
  clear b6 k6 z6
  refine hK.out _ _ hm.par (fun hHeld => ?_)
  clear hK K
  try change wpAnyH _ _ _ _ _ _ _ (Act.put _ (none) _) _
  try simp only [Act.put]
  refine wpAnyH_done (by kernel_rfl) ?_ _
  skip
  clear c0 c1 o1 of hA a0
  go_upto_region 5 with fail
  refine wp_region_held_drew (S := fun w' => Blk w' w.heap.size 32 (chC e).toArray) (by kernel_rfl) (Blk.drew hm.par) (fun hHeld => ?_)
  have hm := hm.quiet 1
  refine wpAnyH_take (i := 0) (v := ?vq1) rfl (by kernel_rfl) (by kernel_rfl) (by kernel_rfl) (fun _ _ _ h => h) (Or.inl ⟨by rfl, ?hyq1⟩) (by assumption) ?restq1
  case hyq1 => (intro w' hSw; have q1 : w'.cell? ⟨w.heap.size, 1, none⟩ = some (.int .i64 e.key) := (Blk.cell hSw 1); have q2 : w'.cell? ⟨w.heap.size, 2, none⟩ = some (.int .i64 e.parent) := (Blk.cell hSw 2); have q3 : w'.cell? ⟨w.heap.size, 3, none⟩ = some (.int .i64 e.at_) := (Blk.cell hSw 3); have q6 : w'.cell? ⟨w.heap.size, 6, none⟩ = some (.int .u8 (e.nkind : Int)) := (Blk.cell hSw 6); have q54 : w'.cell? ⟨w.heap.size, 54, none⟩ = some (.string (mkB e.text)) := (Blk.cell hSw 54); clear hSw; go_simp; try with_reducible rfl)
  case restq1 =>
  change wpAnyH _ _ _ _ _ _ _ (Act.put _ (some 29) _) _
  try simp only [Act.put, List.setIfInBounds_toArray, List.set_cons_zero, List.set_cons_succ]
  refine wpAnyH_take (i := 1) (v := ?vq2) rfl (by kernel_rfl) (by kernel_rfl) (by kernel_rfl) (fun _ _ _ h => h) (Or.inl ⟨by rfl, ?hyq2⟩) (by assumption) ?restq2
  case hyq2 => (intro w' hSw; have q1 : w'.cell? ⟨w.heap.size, 1, none⟩ = some (.int .i64 e.key) := (Blk.cell hSw 1); have q2 : w'.cell? ⟨w.heap.size, 2, none⟩ = some (.int .i64 e.parent) := (Blk.cell hSw 2); have q3 : w'.cell? ⟨w.heap.size, 3, none⟩ = some (.int .i64 e.at_) := (Blk.cell hSw 3); have q6 : w'.cell? ⟨w.heap.size, 6, none⟩ = some (.int .u8 (e.nkind : Int)) := (Blk.cell hSw 6); have q54 : w'.cell? ⟨w.heap.size, 54, none⟩ = some (.string (mkB e.text)) := (Blk.cell hSw 54); clear hSw; go_simp; try with_reducible rfl)
  case restq2 =>
  change wpAnyH _ _ _ _ _ _ _ (Act.put _ (some 30) _) _
  try simp only [Act.put, List.setIfInBounds_toArray, List.set_cons_zero, List.set_cons_succ]
  refine wpAnyH_take (i := 5) (v := ?vq3) rfl (by kernel_rfl) (by kernel_rfl) (by kernel_rfl) (fun _ _ _ h => h) (Or.inl ⟨by rfl, ?hyq3⟩) (by assumption) ?restq3
  case hyq3 => (intro w' hSw; have q1 : w'.cell? ⟨w.heap.size, 1, none⟩ = some (.int .i64 e.key) := (Blk.cell hSw 1); have q2 : w'.cell? ⟨w.heap.size, 2, none⟩ = some (.int .i64 e.parent) := (Blk.cell hSw 2); have q3 : w'.cell? ⟨w.heap.size, 3, none⟩ = some (.int .i64 e.at_) := (Blk.cell hSw 3); have q6 : w'.cell? ⟨w.heap.size, 6, none⟩ = some (.int .u8 (e.nkind : Int)) := (Blk.cell hSw 6); have q54 : w'.cell? ⟨w.heap.size, 54, none⟩ = some (.string (mkB e.text)) := (Blk.cell hSw 54); clear hSw; go_simp; try with_reducible rfl)
  case restq3 =>
  change wpAnyH _ _ _ _ _ _ _ (Act.put _ (some 34) _) _
  try simp only [Act.put, List.setIfInBounds_toArray, List.set_cons_zero, List.set_cons_succ]
  refine wpAnyH_take (i := 6) (v := ?vq4) rfl (by kernel_rfl) (by kernel_rfl) (by kernel_rfl) (fun _ _ _ h => h) (Or.inl ⟨by rfl, ?hyq4⟩) (by assumption) ?restq4
  case hyq4 => (intro w' hSw; have q1 : w'.cell? ⟨w.heap.size, 1, none⟩ = some (.int .i64 e.key) := (Blk.cell hSw 1); have q2 : w'.cell? ⟨w.heap.size, 2, none⟩ = some (.int .i64 e.parent) := (Blk.cell hSw 2); have q3 : w'.cell? ⟨w.heap.size, 3, none⟩ = some (.int .i64 e.at_) := (Blk.cell hSw 3); have q6 : w'.cell? ⟨w.heap.size, 6, none⟩ = some (.int .u8 (e.nkind : Int)) := (Blk.cell hSw 6); have q54 : w'.cell? ⟨w.heap.size, 54, none⟩ = some (.string (mkB e.text)) := (Blk.cell hSw 54); clear hSw; go_simp; try with_reducible rfl)
  case restq4 =>
  change wpAnyH _ _ _ _ _ _ _ (Act.put _ (some 35) _) _
  try simp only [Act.put, List.setIfInBounds_toArray, List.set_cons_zero, List.set_cons_succ]
  refine wpAnyH_ready (rs := [2]) (by kernel_rfl) (by simp) ?_
  refine AllReadyH.cons rfl (fun K hK => ?_) AllReadyH.nil
  go_simp
  go_at_call 42
  first | (with_reducible refine (hd1.out _).mono ?_) | (with_reducible refine (hd2.out _).mono ?_) | (with_reducible refine (hd3.out _).mono ?_)
  rintro e5 w5 ⟨rfl, rfl⟩
  refine hK.out _ _ (by assumption) (fun hHeld => ?_)
  clear hK K
  try change wpAnyH _ _ _ _ _ _ _ (Act.put _ (some 31) _) _
  try simp only [Act.put, List.setIfInBounds_toArray, List.set_cons_zero, List.set_cons_succ]
  refine wpAnyH_take (i := 3) (v := ?vq5) rfl (by kernel_rfl) (by kernel_rfl) (by kernel_rfl) (fun _ _ _ h => h) (Or.inl ⟨by rfl, ?hyq5⟩) (by assumption) ?restq5
  case hyq5 => (intro w' hSw; have q1 : w'.cell? ⟨w.heap.size, 1, none⟩ = some (.int .i64 e.key) := (Blk.cell hSw 1); have q2 : w'.cell? ⟨w.heap.size, 2, none⟩ = some (.int .i64 e.parent) := (Blk.cell hSw 2); have q3 : w'.cell? ⟨w.heap.size, 3, none⟩ = some (.int .i64 e.at_) := (Blk.cell hSw 3); have q6 : w'.cell? ⟨w.heap.size, 6, none⟩ = some (.int .u8 (e.nkind : Int)) := (Blk.cell hSw 6); have q54 : w'.cell? ⟨w.heap.size, 54, none⟩ = some (.string (mkB e.text)) := (Blk.cell hSw 54); clear hSw; go_simp; (rw [if_neg (by omega)]))
  case restq5 =>
  change wpAnyH _ _ _ _ _ _ _ (Act.put _ (some 32) _) _
  try simp only [Act.put, List.setIfInBounds_toArray, List.set_cons_zero, List.set_cons_succ]
  refine wpAnyH_take (i := 4) (v := ?vq6) rfl (by kernel_rfl) (by kernel_rfl) (by kernel_rfl) (fun _ _ _ h => h) (Or.inl ⟨by rfl, ?hyq6⟩) (by assumption) ?restq6
  case hyq6 => (intro w' hSw; have q1 : w'.cell? ⟨w.heap.size, 1, none⟩ = some (.int .i64 e.key) := (Blk.cell hSw 1); have q2 : w'.cell? ⟨w.heap.size, 2, none⟩ = some (.int .i64 e.parent) := (Blk.cell hSw 2); have q3 : w'.cell? ⟨w.heap.size, 3, none⟩ = some (.int .i64 e.at_) := (Blk.cell hSw 3); have q6 : w'.cell? ⟨w.heap.size, 6, none⟩ = some (.int .u8 (e.nkind : Int)) := (Blk.cell hSw 6); have q54 : w'.cell? ⟨w.heap.size, 54, none⟩ = some (.string (mkB e.text)) := (Blk.cell hSw 54); clear hSw; go_simp; (rw [if_neg (by omega)]))
  case restq6 =>
  change wpAnyH _ _ _ _ _ _ _ (Act.put _ (some 33) _) _
  try simp only [Act.put, List.setIfInBounds_toArray, List.set_cons_zero, List.set_cons_succ]
  refine wpAnyH_ready (rs := [7]) (by kernel_rfl) (by simp) ?_
  refine AllReadyH.cons rfl (fun K hK => ?_) AllReadyH.nil
  go_simp
  go_at_call 42
  first | (with_reducible refine (hd1.out _).mono ?_) | (with_reducible refine (hd2.out _).mono ?_) | (with_reducible refine (hd3.out _).mono ?_)
  rintro e5 w5 ⟨rfl, rfl⟩
  refine hK.out _ _ (by assumption) (fun hHeld => ?_)
  clear hK K
  try change wpAnyH _ _ _ _ _ _ _ (Act.put _ (some 36) _) _
  try simp only [Act.put, List.setIfInBounds_toArray, List.set_cons_zero, List.set_cons_succ]
  refine wpAnyH_take (i := 8) (v := ?vq7) rfl (by kernel_rfl) (by kernel_rfl) (by kernel_rfl) (fun _ _ _ h => h) (Or.inl ⟨by rfl, ?hyq7⟩) (by assumption) ?restq7
  case hyq7 => (intro w' hSw; have q1 : w'.cell? ⟨w.heap.size, 1, none⟩ = some (.int .i64 e.key) := (Blk.cell hSw 1); have q2 : w'.cell? ⟨w.heap.size, 2, none⟩ = some (.int .i64 e.parent) := (Blk.cell hSw 2); have q3 : w'.cell? ⟨w.heap.size, 3, none⟩ = some (.int .i64 e.at_) := (Blk.cell hSw 3); have q6 : w'.cell? ⟨w.heap.size, 6, none⟩ = some (.int .u8 (e.nkind : Int)) := (Blk.cell hSw 6); have q54 : w'.cell? ⟨w.heap.size, 54, none⟩ = some (.string (mkB e.text)) := (Blk.cell hSw 54); clear hSw; go_simp; (rw [if_neg (by omega)]))
  case restq7 =>
  change wpAnyH _ _ _ _ _ _ _ (Act.put _ (some 37) _) _
  try simp only [Act.put, List.setIfInBounds_toArray, List.set_cons_zero, List.set_cons_succ]
  refine wpAnyH_take (i := 9) (v := ?vq8) rfl (by kernel_rfl) (by kernel_rfl) (by kernel_rfl) (fun _ _ _ h => h) (Or.inl ⟨by rfl, ?hyq8⟩) (by assumption) ?restq8
  case hyq8 => (intro w' hSw; have q1 : w'.cell? ⟨w.heap.size, 1, none⟩ = some (.int .i64 e.key) := (Blk.cell hSw 1); have q2 : w'.cell? ⟨w.heap.size, 2, none⟩ = some (.int .i64 e.parent) := (Blk.cell hSw 2); have q3 : w'.cell? ⟨w.heap.size, 3, none⟩ = some (.int .i64 e.at_) := (Blk.cell hSw 3); have q6 : w'.cell? ⟨w.heap.size, 6, none⟩ = some (.int .u8 (e.nkind : Int)) := (Blk.cell hSw 6); have q54 : w'.cell? ⟨w.heap.size, 54, none⟩ = some (.string (mkB e.text)) := (Blk.cell hSw 54); clear hSw; go_simp; try with_reducible rfl)
  case restq8 =>
  change wpAnyH _ _ _ _ _ _ _ (Act.put _ (some 6) _) _
  try simp only [Act.put, List.setIfInBounds_toArray, List.set_cons_zero, List.set_cons_succ]
  refine wpAnyH_done (by kernel_rfl) ?_ _
  skip
  have q6 : w6.drew.cell? ⟨w.heap.size, 6, none⟩ = some (.int .u8 (e.nkind : Int)) := hm.par.cell 6
  go_upto_region 11 with (first | (refine wpList_load_blk rfl 28 _ rfl w.heap.size 7 32 (chC e) (styC e.sty) _ rfl hm.par (chC_sty e) Tryz.underlying28 rfl styC_size ?_) | (refine wpList_store_blk rfl 28 _ _ rfl (w.heap.size + 1 + 1) 7 32 _ (styC e.sty) rfl hm.onl rfl (by rw [chC_len, styC_len]; omega) styC_size (styC_cells _) ?_; intro w8 b8 k8 z8; have hm := CM.stepSty hm b8 k8; clear b8 k8 z8))
  refine (rstyle_any e.sty he.sty _).mono ?_
  rintro e5 w5 ⟨x5, rfl, hx5, hl5, hb5⟩
  obtain ⟨hs1, hs2⟩ := sty_words he.sty hx5
  have z5 : (mkB x5).size ≤ 8000 := by rw [mkB_size]; exact hl5
  have hm := hm.more (hb5.mono hm.sz)
  obtain ⟨b5, hb6⟩ : ∃ b, b = (stylT e.sty).isSome := ⟨_, rfl⟩
  rw [← hb6] at hs1 ⊢
  have HS1 := Lib.hid hs1
  have HS2 := Lib.hid hs2
  clear hb6 hs1 hs2 hx5 hb5
  go_upto_region 11 with fail
  obtain ⟨o, ho⟩ : ∃ o : Ev, o = { ev0 with ck := 1, parent := e.parent, at_ := e.at_, nkind := e.nkind, sty := e.sty } := ⟨_, rfl⟩
  have hm : CM e w.heap.size w ev0 o w5 := by rw [ho]; exact hm
  have HO := Lib.hid ho
  clear ho e1 q6
  cases b5
  · skip
    refine wp_region_held_drew (S := fun w' => ∃ r, CM e w.heap.size w r o w') (by kernel_rfl) ⟨_, hm.quiet 1⟩ (fun hHeld => ?_)
    clear hm
    refine wpAnyH_take (i := 0) (v := ?vbf1) rfl (by kernel_rfl) (by kernel_rfl) (by kernel_rfl) (fun _ _ _ h => h) (Or.inl ⟨by rfl, ?hybf1⟩) (by assumption) ?restbf1
    case hybf1 => (intro w' hSw; obtain ⟨_, hSw⟩ := hSw; have q1 : w'.cell? ⟨w.heap.size, 1, none⟩ = some (.int .i64 e.key) := hSw.par.cell 1; have q2 : w'.cell? ⟨w.heap.size, 2, none⟩ = some (.int .i64 e.parent) := hSw.par.cell 2; have q3 : w'.cell? ⟨w.heap.size, 3, none⟩ = some (.int .i64 e.at_) := hSw.par.cell 3; have q6 : w'.cell? ⟨w.heap.size, 6, none⟩ = some (.int .u8 (e.nkind : Int)) := hSw.par.cell 6; have q54 : w'.cell? ⟨w.heap.size, 54, none⟩ = some (.string (mkB e.text)) := hSw.par.cell 54; clear hSw; go_simp; try with_reducible rfl)
    case restbf1 =>
    change wpAnyH _ _ _ _ _ _ _ (Act.put _ (some 67) _) _
    try simp only [Act.put, List.setIfInBounds_toArray, List.set_cons_zero, List.set_cons_succ]
    refine wpAnyH_take (i := 1) (v := ?vbf2) rfl (by kernel_rfl) (by kernel_rfl) (by kernel_rfl) (fun _ _ _ h => h) (Or.inl ⟨by rfl, ?hybf2⟩) (by assumption) ?restbf2
    case hybf2 => (intro w' hSw; obtain ⟨_, hSw⟩ := hSw; have q1 : w'.cell? ⟨w.heap.size, 1, none⟩ = some (.int .i64 e.key) := hSw.par.cell 1; have q2 : w'.cell? ⟨w.heap.size, 2, none⟩ = some (.int .i64 e.parent) := hSw.par.cell 2; have q3 : w'.cell? ⟨w.heap.size, 3, none⟩ = some (.int .i64 e.at_) := hSw.par.cell 3; have q6 : w'.cell? ⟨w.heap.size, 6, none⟩ = some (.int .u8 (e.nkind : Int)) := hSw.par.cell 6; have q54 : w'.cell? ⟨w.heap.size, 54, none⟩ = some (.string (mkB e.text)) := hSw.par.cell 54; clear hSw; go_simp; (rw [if_neg (by omega)]))
    case restbf2 =>
    change wpAnyH _ _ _ _ _ _ _ (Act.put _ (some 68) _) _
    try simp only [Act.put, List.setIfInBounds_toArray, List.set_cons_zero, List.set_cons_succ]
    refine wpAnyH_take (i := 2) (v := ?vbf3) rfl (by kernel_rfl) (by kernel_rfl) (by kernel_rfl) (fun _ _ _ h => h) (Or.inl ⟨by rfl, ?hybf3⟩) (by assumption) ?restbf3
    case hybf3 => (intro w' hSw; obtain ⟨_, hSw⟩ := hSw; have q1 : w'.cell? ⟨w.heap.size, 1, none⟩ = some (.int .i64 e.key) := hSw.par.cell 1; have q2 : w'.cell? ⟨w.heap.size, 2, none⟩ = some (.int .i64 e.parent) := hSw.par.cell 2; have q3 : w'.cell? ⟨w.heap.size, 3, none⟩ = some (.int .i64 e.at_) := hSw.par.cell 3; have q6 : w'.cell? ⟨w.heap.size, 6, none⟩ = some (.int .u8 (e.nkind : Int)) := hSw.par.cell 6; have q54 : w'.cell? ⟨w.heap.size, 54, none⟩ = some (.string (mkB e.text)) := hSw.par.cell 54; clear hSw; go_simp; try with_reducible rfl)
    case restbf3 =>
    change wpAnyH _ _ _ _ _ _ _ (Act.put _ (some 69) _) _
    try simp only [Act.put, List.setIfInBounds_toArray, List.set_cons_zero, List.set_cons_succ]
    refine wpAnyH_take (i := 3) (v := ?vbf4) rfl (by kernel_rfl) (by kernel_rfl) (by kernel_rfl) (fun _ _ _ h => h) (Or.inl ⟨by rfl, ?hybf4⟩) (by assumption) ?restbf4
    case hybf4 => (intro w' hSw; obtain ⟨_, hSw⟩ := hSw; have q1 : w'.cell? ⟨w.heap.size, 1, none⟩ = some (.int .i64 e.key) := hSw.par.cell 1; have q2 : w'.cell? ⟨w.heap.size, 2, none⟩ = some (.int .i64 e.parent) := hSw.par.cell 2; have q3 : w'.cell? ⟨w.heap.size, 3, none⟩ = some (.int .i64 e.at_) := hSw.par.cell 3; have q6 : w'.cell? ⟨w.heap.size, 6, none⟩ = some (.int .u8 (e.nkind : Int)) := hSw.par.cell 6; have q54 : w'.cell? ⟨w.heap.size, 54, none⟩ = some (.string (mkB e.text)) := hSw.par.cell 54; clear hSw; go_simp; (rw [if_neg (by omega)]))
    case restbf4 =>
    change wpAnyH _ _ _ _ _ _ _ (Act.put _ (some 70) _) _
    try simp only [Act.put, List.setIfInBounds_toArray, List.set_cons_zero, List.set_cons_succ]
    refine' wpAnyH_take (i := 4) (v := _) rfl (by kernel_rfl) (by kernel_rfl) (by kernel_rfl) (fun _ _ _ h => h) (yieldsIf_load_mid (by rfl) _ _ rfl _ _ rfl (chC o) _ (fun _ h => by obtain ⟨_, h⟩ := h; exact blk_range h.onl (chC_self _)) Tryz.underlying32 rfl chC_size) (by assumption) ?_
    change wpAnyH _ _ _ _ _ _ _ (Act.put _ (some 71) _) _
    try simp only [Act.put, List.setIfInBounds_toArray, List.set_cons_zero, List.set_cons_succ]
    refine wpAnyH_take (i := 5) (v := ?vbf5) rfl (by kernel_rfl) (by kernel_rfl) (by kernel_rfl) (fun _ _ _ h => h) (Or.inl ⟨by rfl, ?hybf5⟩) (by assumption) ?restbf5
    case hybf5 => (intro w' hSw; obtain ⟨_, hSw⟩ := hSw; have q1 : w'.cell? ⟨w.heap.size, 1, none⟩ = some (.int .i64 e.key) := hSw.par.cell 1; have q2 : w'.cell? ⟨w.heap.size, 2, none⟩ = some (.int .i64 e.parent) := hSw.par.cell 2; have q3 : w'.cell? ⟨w.heap.size, 3, none⟩ = some (.int .i64 e.at_) := hSw.par.cell 3; have q6 : w'.cell? ⟨w.heap.size, 6, none⟩ = some (.int .u8 (e.nkind : Int)) := hSw.par.cell 6; have q54 : w'.cell? ⟨w.heap.size, 54, none⟩ = some (.string (mkB e.text)) := hSw.par.cell 54; clear hSw; go_simp; try with_reducible rfl)
    case restbf5 =>
    change wpAnyH _ _ _ _ _ _ _ (Act.put _ (some 72) _) _
    try simp only [Act.put, List.setIfInBounds_toArray, List.set_cons_zero, List.set_cons_succ]
    refine wpAnyH_take (i := 6) (v := ?vbf6) rfl (by kernel_rfl) (by kernel_rfl) (by kernel_rfl) (fun _ _ _ h => h) (Or.inl ⟨by rfl, ?hybf6⟩) (by assumption) ?restbf6
    case hybf6 => (intro w' hSw; obtain ⟨_, hSw⟩ := hSw; have q1 : w'.cell? ⟨w.heap.size, 1, none⟩ = some (.int .i64 e.key) := hSw.par.cell 1; have q2 : w'.cell? ⟨w.heap.size, 2, none⟩ = some (.int .i64 e.parent) := hSw.par.cell 2; have q3 : w'.cell? ⟨w.heap.size, 3, none⟩ = some (.int .i64 e.at_) := hSw.par.cell 3; have q6 : w'.cell? ⟨w.heap.size, 6, none⟩ = some (.int .u8 (e.nkind : Int)) := hSw.par.cell 6; have q54 : w'.cell? ⟨w.heap.size, 54, none⟩ = some (.string (mkB e.text)) := hSw.par.cell 54; clear hSw; go_simp; try with_reducible rfl)
    case restbf6 =>
    change wpAnyH _ _ _ _ _ _ _ (Act.put _ (some 73) _) _
    try simp only [Act.put, List.setIfInBounds_toArray, List.set_cons_zero, List.set_cons_succ]
    refine wpAnyH_take (i := 7) (v := undef) rfl (by kernel_rfl) (by kernel_rfl) (by kernel_rfl) (fun _ _ _ h => h) (Or.inr ⟨by rfl, rfl⟩) (by assumption) ?_
    change wpAnyH _ _ _ _ _ _ _ (Act.put _ (some 74) _) _
    try simp only [Act.put, List.setIfInBounds_toArray, List.set_cons_zero, List.set_cons_succ]
    refine wpAnyH_take (i := 8) (v := undef) rfl (by kernel_rfl) (by kernel_rfl) (by kernel_rfl) (fun _ _ _ h => h) (Or.inr ⟨by rfl, rfl⟩) (by assumption) ?_
    change wpAnyH _ _ _ _ _ _ _ (Act.put _ (some 75) _) _
    try simp only [Act.put, List.setIfInBounds_toArray, List.set_cons_zero, List.set_cons_succ]
    refine wpAnyH_take (i := 9) (v := undef) rfl (by kernel_rfl) (by kernel_rfl) (by kernel_rfl) (fun _ _ _ h => h) (Or.inr ⟨by rfl, rfl⟩) (by assumption) ?_
    change wpAnyH _ _ _ _ _ _ _ (Act.put _ (some 76) _) _
    try simp only [Act.put, List.setIfInBounds_toArray, List.set_cons_zero, List.set_cons_succ]
    refine wpAnyH_take (i := 10) (v := undef) rfl (by kernel_rfl) (by kernel_rfl) (by kernel_rfl) (fun _ _ _ h => h) (Or.inr ⟨by rfl, rfl⟩) (by assumption) ?_
    change wpAnyH _ _ _ _ _ _ _ (Act.put _ (some 77) _) _
    try simp only [Act.put, List.setIfInBounds_toArray, List.set_cons_zero, List.set_cons_succ]
    refine wpAnyH_take (i := 11) (v := ?vbf7) rfl (by kernel_rfl) (by kernel_rfl) (by kernel_rfl) (fun _ _ _ h => h) (Or.inl ⟨by rfl, ?hybf7⟩) (by assumption) ?restbf7
    case hybf7 => (intro w' hSw; obtain ⟨_, hSw⟩ := hSw; have q1 : w'.cell? ⟨w.heap.size, 1, none⟩ = some (.int .i64 e.key) := hSw.par.cell 1; have q2 : w'.cell? ⟨w.heap.size, 2, none⟩ = some (.int .i64 e.parent) := hSw.par.cell 2; have q3 : w'.cell? ⟨w.heap.size, 3, none⟩ = some (.int .i64 e.at_) := hSw.par.cell 3; have q6 : w'.cell? ⟨w.heap.size, 6, none⟩ = some (.int .u8 (e.nkind : Int)) := hSw.par.cell 6; have q54 : w'.cell? ⟨w.heap.size, 54, none⟩ = some (.string (mkB e.text)) := hSw.par.cell 54; clear hSw; go_simp; try with_reducible rfl)
    case restbf7 =>
    change wpAnyH _ _ _ _ _ _ _ (Act.put _ (some 78) _) _
    try simp only [Act.put, List.setIfInBounds_toArray, List.set_cons_zero, List.set_cons_succ]
    refine wpAnyH_take (i := 12) (v := ?vbf8) rfl (by kernel_rfl) (by kernel_rfl) (by kernel_rfl) (fun _ _ _ h => h) (Or.inl ⟨by rfl, ?hybf8⟩) (by assumption) ?restbf8
    case hybf8 => (intro w' hSw; obtain ⟨_, hSw⟩ := hSw; have q1 : w'.cell? ⟨w.heap.size, 1, none⟩ = some (.int .i64 e.key) := hSw.par.cell 1; have q2 : w'.cell? ⟨w.heap.size, 2, none⟩ = some (.int .i64 e.parent) := hSw.par.cell 2; have q3 : w'.cell? ⟨w.heap.size, 3, none⟩ = some (.int .i64 e.at_) := hSw.par.cell 3; have q6 : w'.cell? ⟨w.heap.size, 6, none⟩ = some (.int .u8 (e.nkind : Int)) := hSw.par.cell 6; have q54 : w'.cell? ⟨w.heap.size, 54, none⟩ = some (.string (mkB e.text)) := hSw.par.cell 54; clear hSw; go_simp; try with_reducible rfl)
    case restbf8 =>
    change wpAnyH _ _ _ _ _ _ _ (Act.put _ (some 2) _) _
    try simp only [Act.put, List.setIfInBounds_toArray, List.set_cons_zero, List.set_cons_succ]
    refine wpAnyH_ready (rs := [13]) (by kernel_rfl) (by simp) ?_
    refine AllReadyH.cons rfl (fun K hK => ?_) AllReadyH.nil
    obtain ⟨r, hr⟩ := hHeld
    refine step_store_blk (by rfl) 32 _ _ (by rfl) (w.heap.size + 1) 0 32 (chC r) (chC o) (by rfl) hr.res (by rfl) (by rw [chC_len, chC_len]; exact Nat.le_refl _) chC_size (chC_cells _) ?_
    intro w6 b6 k6 z6
    have hr6 := CM.ans hr b6 k6
    clear b6 k6 z6 hr
    refine hK.out _ _ ⟨_, hr6⟩ (fun hHeld => ?_)
    clear hK K
    try change wpAnyH _ _ _ _ _ _ _ (Act.put _ (none) _) _
    try simp only [Act.put]
    refine wpAnyH_take (i := 14) (v := ?vbf9) rfl (by kernel_rfl) (by kernel_rfl) (by kernel_rfl) (fun _ _ _ h => h) (Or.inl ⟨by rfl, ?hybf9⟩) (by assumption) ?restbf9
    case hybf9 => (intro w' hSw; obtain ⟨_, hSw⟩ := hSw; have q1 : w'.cell? ⟨w.heap.size, 1, none⟩ = some (.int .i64 e.key) := hSw.par.cell 1; have q2 : w'.cell? ⟨w.heap.size, 2, none⟩ = some (.int .i64 e.parent) := hSw.par.cell 2; have q3 : w'.cell? ⟨w.heap.size, 3, none⟩ = some (.int .i64 e.at_) := hSw.par.cell 3; have q6 : w'.cell? ⟨w.heap.size, 6, none⟩ = some (.int .u8 (e.nkind : Int)) := hSw.par.cell 6; have q54 : w'.cell? ⟨w.heap.size, 54, none⟩ = some (.string (mkB e.text)) := hSw.par.cell 54; clear hSw; go_simp; try with_reducible rfl)
    case restbf9 =>
    change wpAnyH _ _ _ _ _ _ _ (Act.put _ (some 4) _) _
    try simp only [Act.put, List.setIfInBounds_toArray, List.set_cons_zero, List.set_cons_succ]
    refine wpAnyH_done (by kernel_rfl) ?_ _
    go_wp2_with fail
    refine bodyPost_ret (results_tct rfl _ _ (w.heap.size + 1) 32 (chC o).toArray (0, 0) _ rfl hr6.res Tryz.underlying32 rfl chC_size) rfl ?_
    have hc := HC.out
    have hk := HK.out
    have hs1 := HS1.out
    have hs2 := HS2.out
    refine ChangePost.done (b := false) (x := [105, 110, 115, 101, 114, 116, 32] ++ Lib.itoa e.parent ++ [32] ++ Lib.itoa e.at_ ++ [32, 98, 111, 120] ++ x5) rfl hr6 ?_ (by rw [HO.out]; unfold onlyR; simp [hc, hk]; rfl) rfl (by unfold isR; simp [hc, hk, hs1.symm]) (fun hb => ?_) (by simp only [mkB_size] at *; simp; omega)
    · rw [show ([105, 110, 115, 101, 114, 116, 32] ++ Lib.itoa e.parent ++ [32] ++ Lib.itoa e.at_ ++ [32, 98, 111, 120] ++ x5 : List UInt8) = [105, 110, 115, 101, 114, 116, 32] ++ Lib.itoa e.parent ++ [32] ++ Lib.itoa e.at_ ++ [32, 98, 111, 120] ++ x5 from by simp, ← mkB_append, ← mkB_append, ← mkB_append, ← mkB_append, ← mkB_append]; rfl
    · cases hb
  · skip
    refine wp_region_held_drew (S := fun w' => ∃ r, CM e w.heap.size w r o w') (by kernel_rfl) ⟨_, hm.quiet 1⟩ (fun hHeld => ?_)
    clear hm
    refine wpAnyH_take (i := 0) (v := ?vbt1) rfl (by kernel_rfl) (by kernel_rfl) (by kernel_rfl) (fun _ _ _ h => h) (Or.inl ⟨by rfl, ?hybt1⟩) (by assumption) ?restbt1
    case hybt1 => (intro w' hSw; obtain ⟨_, hSw⟩ := hSw; have q1 : w'.cell? ⟨w.heap.size, 1, none⟩ = some (.int .i64 e.key) := hSw.par.cell 1; have q2 : w'.cell? ⟨w.heap.size, 2, none⟩ = some (.int .i64 e.parent) := hSw.par.cell 2; have q3 : w'.cell? ⟨w.heap.size, 3, none⟩ = some (.int .i64 e.at_) := hSw.par.cell 3; have q6 : w'.cell? ⟨w.heap.size, 6, none⟩ = some (.int .u8 (e.nkind : Int)) := hSw.par.cell 6; have q54 : w'.cell? ⟨w.heap.size, 54, none⟩ = some (.string (mkB e.text)) := hSw.par.cell 54; clear hSw; go_simp; try with_reducible rfl)
    case restbt1 =>
    change wpAnyH _ _ _ _ _ _ _ (Act.put _ (some 67) _) _
    try simp only [Act.put, List.setIfInBounds_toArray, List.set_cons_zero, List.set_cons_succ]
    refine wpAnyH_take (i := 1) (v := ?vbt2) rfl (by kernel_rfl) (by kernel_rfl) (by kernel_rfl) (fun _ _ _ h => h) (Or.inl ⟨by rfl, ?hybt2⟩) (by assumption) ?restbt2
    case hybt2 => (intro w' hSw; obtain ⟨_, hSw⟩ := hSw; have q1 : w'.cell? ⟨w.heap.size, 1, none⟩ = some (.int .i64 e.key) := hSw.par.cell 1; have q2 : w'.cell? ⟨w.heap.size, 2, none⟩ = some (.int .i64 e.parent) := hSw.par.cell 2; have q3 : w'.cell? ⟨w.heap.size, 3, none⟩ = some (.int .i64 e.at_) := hSw.par.cell 3; have q6 : w'.cell? ⟨w.heap.size, 6, none⟩ = some (.int .u8 (e.nkind : Int)) := hSw.par.cell 6; have q54 : w'.cell? ⟨w.heap.size, 54, none⟩ = some (.string (mkB e.text)) := hSw.par.cell 54; clear hSw; go_simp; (rw [if_neg (by omega)]))
    case restbt2 =>
    change wpAnyH _ _ _ _ _ _ _ (Act.put _ (some 68) _) _
    try simp only [Act.put, List.setIfInBounds_toArray, List.set_cons_zero, List.set_cons_succ]
    refine wpAnyH_take (i := 2) (v := ?vbt3) rfl (by kernel_rfl) (by kernel_rfl) (by kernel_rfl) (fun _ _ _ h => h) (Or.inl ⟨by rfl, ?hybt3⟩) (by assumption) ?restbt3
    case hybt3 => (intro w' hSw; obtain ⟨_, hSw⟩ := hSw; have q1 : w'.cell? ⟨w.heap.size, 1, none⟩ = some (.int .i64 e.key) := hSw.par.cell 1; have q2 : w'.cell? ⟨w.heap.size, 2, none⟩ = some (.int .i64 e.parent) := hSw.par.cell 2; have q3 : w'.cell? ⟨w.heap.size, 3, none⟩ = some (.int .i64 e.at_) := hSw.par.cell 3; have q6 : w'.cell? ⟨w.heap.size, 6, none⟩ = some (.int .u8 (e.nkind : Int)) := hSw.par.cell 6; have q54 : w'.cell? ⟨w.heap.size, 54, none⟩ = some (.string (mkB e.text)) := hSw.par.cell 54; clear hSw; go_simp; try with_reducible rfl)
    case restbt3 =>
    change wpAnyH _ _ _ _ _ _ _ (Act.put _ (some 69) _) _
    try simp only [Act.put, List.setIfInBounds_toArray, List.set_cons_zero, List.set_cons_succ]
    refine wpAnyH_take (i := 3) (v := ?vbt4) rfl (by kernel_rfl) (by kernel_rfl) (by kernel_rfl) (fun _ _ _ h => h) (Or.inl ⟨by rfl, ?hybt4⟩) (by assumption) ?restbt4
    case hybt4 => (intro w' hSw; obtain ⟨_, hSw⟩ := hSw; have q1 : w'.cell? ⟨w.heap.size, 1, none⟩ = some (.int .i64 e.key) := hSw.par.cell 1; have q2 : w'.cell? ⟨w.heap.size, 2, none⟩ = some (.int .i64 e.parent) := hSw.par.cell 2; have q3 : w'.cell? ⟨w.heap.size, 3, none⟩ = some (.int .i64 e.at_) := hSw.par.cell 3; have q6 : w'.cell? ⟨w.heap.size, 6, none⟩ = some (.int .u8 (e.nkind : Int)) := hSw.par.cell 6; have q54 : w'.cell? ⟨w.heap.size, 54, none⟩ = some (.string (mkB e.text)) := hSw.par.cell 54; clear hSw; go_simp; (rw [if_neg (by omega)]))
    case restbt4 =>
    change wpAnyH _ _ _ _ _ _ _ (Act.put _ (some 70) _) _
    try simp only [Act.put, List.setIfInBounds_toArray, List.set_cons_zero, List.set_cons_succ]
    refine' wpAnyH_take (i := 4) (v := _) rfl (by kernel_rfl) (by kernel_rfl) (by kernel_rfl) (fun _ _ _ h => h) (yieldsIf_load_mid (by rfl) _ _ rfl _ _ rfl (chC o) _ (fun _ h => by obtain ⟨_, h⟩ := h; exact blk_range h.onl (chC_self _)) Tryz.underlying32 rfl chC_size) (by assumption) ?_
    change wpAnyH _ _ _ _ _ _ _ (Act.put _ (some 71) _) _
    try simp only [Act.put, List.setIfInBounds_toArray, List.set_cons_zero, List.set_cons_succ]
    refine wpAnyH_take (i := 5) (v := ?vbt5) rfl (by kernel_rfl) (by kernel_rfl) (by kernel_rfl) (fun _ _ _ h => h) (Or.inl ⟨by rfl, ?hybt5⟩) (by assumption) ?restbt5
    case hybt5 => (intro w' hSw; obtain ⟨_, hSw⟩ := hSw; have q1 : w'.cell? ⟨w.heap.size, 1, none⟩ = some (.int .i64 e.key) := hSw.par.cell 1; have q2 : w'.cell? ⟨w.heap.size, 2, none⟩ = some (.int .i64 e.parent) := hSw.par.cell 2; have q3 : w'.cell? ⟨w.heap.size, 3, none⟩ = some (.int .i64 e.at_) := hSw.par.cell 3; have q6 : w'.cell? ⟨w.heap.size, 6, none⟩ = some (.int .u8 (e.nkind : Int)) := hSw.par.cell 6; have q54 : w'.cell? ⟨w.heap.size, 54, none⟩ = some (.string (mkB e.text)) := hSw.par.cell 54; clear hSw; go_simp; try with_reducible rfl)
    case restbt5 =>
    change wpAnyH _ _ _ _ _ _ _ (Act.put _ (some 72) _) _
    try simp only [Act.put, List.setIfInBounds_toArray, List.set_cons_zero, List.set_cons_succ]
    refine wpAnyH_take (i := 6) (v := ?vbt6) rfl (by kernel_rfl) (by kernel_rfl) (by kernel_rfl) (fun _ _ _ h => h) (Or.inl ⟨by rfl, ?hybt6⟩) (by assumption) ?restbt6
    case hybt6 => (intro w' hSw; obtain ⟨_, hSw⟩ := hSw; have q1 : w'.cell? ⟨w.heap.size, 1, none⟩ = some (.int .i64 e.key) := hSw.par.cell 1; have q2 : w'.cell? ⟨w.heap.size, 2, none⟩ = some (.int .i64 e.parent) := hSw.par.cell 2; have q3 : w'.cell? ⟨w.heap.size, 3, none⟩ = some (.int .i64 e.at_) := hSw.par.cell 3; have q6 : w'.cell? ⟨w.heap.size, 6, none⟩ = some (.int .u8 (e.nkind : Int)) := hSw.par.cell 6; have q54 : w'.cell? ⟨w.heap.size, 54, none⟩ = some (.string (mkB e.text)) := hSw.par.cell 54; clear hSw; go_simp; try with_reducible rfl)
    case restbt6 =>
    change wpAnyH _ _ _ _ _ _ _ (Act.put _ (some 73) _) _
    try simp only [Act.put, List.setIfInBounds_toArray, List.set_cons_zero, List.set_cons_succ]
    refine wpAnyH_take (i := 7) (v := ?vbt7) rfl (by kernel_rfl) (by kernel_rfl) (by kernel_rfl) (fun _ _ _ h => h) (Or.inl ⟨by rfl, ?hybt7⟩) (by assumption) ?restbt7
    case hybt7 => (intro w' hSw; obtain ⟨_, hSw⟩ := hSw; have q1 : w'.cell? ⟨w.heap.size, 1, none⟩ = some (.int .i64 e.key) := hSw.par.cell 1; have q2 : w'.cell? ⟨w.heap.size, 2, none⟩ = some (.int .i64 e.parent) := hSw.par.cell 2; have q3 : w'.cell? ⟨w.heap.size, 3, none⟩ = some (.int .i64 e.at_) := hSw.par.cell 3; have q6 : w'.cell? ⟨w.heap.size, 6, none⟩ = some (.int .u8 (e.nkind : Int)) := hSw.par.cell 6; have q54 : w'.cell? ⟨w.heap.size, 54, none⟩ = some (.string (mkB e.text)) := hSw.par.cell 54; clear hSw; go_simp; try with_reducible rfl)
    case restbt7 =>
    change wpAnyH _ _ _ _ _ _ _ (Act.put _ (some 74) _) _
    try simp only [Act.put, List.setIfInBounds_toArray, List.set_cons_zero, List.set_cons_succ]
    refine wpAnyH_take (i := 8) (v := ?vbt8) rfl (by kernel_rfl) (by kernel_rfl) (by kernel_rfl) (fun _ _ _ h => h) (Or.inl ⟨by rfl, ?hybt8⟩) (by assumption) ?restbt8
    case hybt8 => (intro w' hSw; obtain ⟨_, hSw⟩ := hSw; have q1 : w'.cell? ⟨w.heap.size, 1, none⟩ = some (.int .i64 e.key) := hSw.par.cell 1; have q2 : w'.cell? ⟨w.heap.size, 2, none⟩ = some (.int .i64 e.parent) := hSw.par.cell 2; have q3 : w'.cell? ⟨w.heap.size, 3, none⟩ = some (.int .i64 e.at_) := hSw.par.cell 3; have q6 : w'.cell? ⟨w.heap.size, 6, none⟩ = some (.int .u8 (e.nkind : Int)) := hSw.par.cell 6; have q54 : w'.cell? ⟨w.heap.size, 54, none⟩ = some (.string (mkB e.text)) := hSw.par.cell 54; clear hSw; go_simp; try with_reducible rfl)
    case restbt8 =>
    change wpAnyH _ _ _ _ _ _ _ (Act.put _ (some 75) _) _
    try simp only [Act.put, List.setIfInBounds_toArray, List.set_cons_zero, List.set_cons_succ]
    refine wpAnyH_take (i := 9) (v := ?vbt9) rfl (by kernel_rfl) (by kernel_rfl) (by kernel_rfl) (fun _ _ _ h => h) (Or.inl ⟨by rfl, ?hybt9⟩) (by assumption) ?restbt9
    case hybt9 => (intro w' hSw; obtain ⟨_, hSw⟩ := hSw; have q1 : w'.cell? ⟨w.heap.size, 1, none⟩ = some (.int .i64 e.key) := hSw.par.cell 1; have q2 : w'.cell? ⟨w.heap.size, 2, none⟩ = some (.int .i64 e.parent) := hSw.par.cell 2; have q3 : w'.cell? ⟨w.heap.size, 3, none⟩ = some (.int .i64 e.at_) := hSw.par.cell 3; have q6 : w'.cell? ⟨w.heap.size, 6, none⟩ = some (.int .u8 (e.nkind : Int)) := hSw.par.cell 6; have q54 : w'.cell? ⟨w.heap.size, 54, none⟩ = some (.string (mkB e.text)) := hSw.par.cell 54; clear hSw; go_simp; try with_reducible rfl)
    case restbt9 =>
    change wpAnyH _ _ _ _ _ _ _ (Act.put _ (some 76) _) _
    try simp only [Act.put, List.setIfInBounds_toArray, List.set_cons_zero, List.set_cons_succ]
    refine wpAnyH_take (i := 10) (v := ?vbt10) rfl (by kernel_rfl) (by kernel_rfl) (by kernel_rfl) (fun _ _ _ h => h) (Or.inl ⟨by rfl, ?hybt10⟩) (by assumption) ?restbt10
    case hybt10 => (intro w' hSw; obtain ⟨_, hSw⟩ := hSw; have q1 : w'.cell? ⟨w.heap.size, 1, none⟩ = some (.int .i64 e.key) := hSw.par.cell 1; have q2 : w'.cell? ⟨w.heap.size, 2, none⟩ = some (.int .i64 e.parent) := hSw.par.cell 2; have q3 : w'.cell? ⟨w.heap.size, 3, none⟩ = some (.int .i64 e.at_) := hSw.par.cell 3; have q6 : w'.cell? ⟨w.heap.size, 6, none⟩ = some (.int .u8 (e.nkind : Int)) := hSw.par.cell 6; have q54 : w'.cell? ⟨w.heap.size, 54, none⟩ = some (.string (mkB e.text)) := hSw.par.cell 54; clear hSw; go_simp; try with_reducible rfl)
    case restbt10 =>
    change wpAnyH _ _ _ _ _ _ _ (Act.put _ (some 77) _) _
    try simp only [Act.put, List.setIfInBounds_toArray, List.set_cons_zero, List.set_cons_succ]
    refine wpAnyH_take (i := 11) (v := ?vbt11) rfl (by kernel_rfl) (by kernel_rfl) (by kernel_rfl) (fun _ _ _ h => h) (Or.inl ⟨by rfl, ?hybt11⟩) (by assumption) ?restbt11
    case hybt11 => (intro w' hSw; obtain ⟨_, hSw⟩ := hSw; have q1 : w'.cell? ⟨w.heap.size, 1, none⟩ = some (.int .i64 e.key) := hSw.par.cell 1; have q2 : w'.cell? ⟨w.heap.size, 2, none⟩ = some (.int .i64 e.parent) := hSw.par.cell 2; have q3 : w'.cell? ⟨w.heap.size, 3, none⟩ = some (.int .i64 e.at_) := hSw.par.cell 3; have q6 : w'.cell? ⟨w.heap.size, 6, none⟩ = some (.int .u8 (e.nkind : Int)) := hSw.par.cell 6; have q54 : w'.cell? ⟨w.heap.size, 54, none⟩ = some (.string (mkB e.text)) := hSw.par.cell 54; clear hSw; go_simp; try with_reducible rfl)
    case restbt11 =>
    change wpAnyH _ _ _ _ _ _ _ (Act.put _ (some 78) _) _
    try simp only [Act.put, List.setIfInBounds_toArray, List.set_cons_zero, List.set_cons_succ]
    refine wpAnyH_take (i := 12) (v := ?vbt12) rfl (by kernel_rfl) (by kernel_rfl) (by kernel_rfl) (fun _ _ _ h => h) (Or.inl ⟨by rfl, ?hybt12⟩) (by assumption) ?restbt12
    case hybt12 => (intro w' hSw; obtain ⟨_, hSw⟩ := hSw; have q1 : w'.cell? ⟨w.heap.size, 1, none⟩ = some (.int .i64 e.key) := hSw.par.cell 1; have q2 : w'.cell? ⟨w.heap.size, 2, none⟩ = some (.int .i64 e.parent) := hSw.par.cell 2; have q3 : w'.cell? ⟨w.heap.size, 3, none⟩ = some (.int .i64 e.at_) := hSw.par.cell 3; have q6 : w'.cell? ⟨w.heap.size, 6, none⟩ = some (.int .u8 (e.nkind : Int)) := hSw.par.cell 6; have q54 : w'.cell? ⟨w.heap.size, 54, none⟩ = some (.string (mkB e.text)) := hSw.par.cell 54; clear hSw; go_simp; try with_reducible rfl)
    case restbt12 =>
    change wpAnyH _ _ _ _ _ _ _ (Act.put _ (some 2) _) _
    try simp only [Act.put, List.setIfInBounds_toArray, List.set_cons_zero, List.set_cons_succ]
    refine wpAnyH_ready (rs := [13]) (by kernel_rfl) (by simp) ?_
    refine AllReadyH.cons rfl (fun K hK => ?_) AllReadyH.nil
    obtain ⟨r, hr⟩ := hHeld
    refine step_store_blk (by rfl) 32 _ _ (by rfl) (w.heap.size + 1) 0 32 (chC r) (chC o) (by rfl) hr.res (by rfl) (by rw [chC_len, chC_len]; exact Nat.le_refl _) chC_size (chC_cells _) ?_
    intro w6 b6 k6 z6
    have hr6 := CM.ans hr b6 k6
    clear b6 k6 z6 hr
    refine hK.out _ _ ⟨_, hr6⟩ (fun hHeld => ?_)
    clear hK K
    try change wpAnyH _ _ _ _ _ _ _ (Act.put _ (none) _) _
    try simp only [Act.put]
    refine wpAnyH_take (i := 14) (v := ?vbt13) rfl (by kernel_rfl) (by kernel_rfl) (by kernel_rfl) (fun _ _ _ h => h) (Or.inl ⟨by rfl, ?hybt13⟩) (by assumption) ?restbt13
    case hybt13 => (intro w' hSw; obtain ⟨_, hSw⟩ := hSw; have q1 : w'.cell? ⟨w.heap.size, 1, none⟩ = some (.int .i64 e.key) := hSw.par.cell 1; have q2 : w'.cell? ⟨w.heap.size, 2, none⟩ = some (.int .i64 e.parent) := hSw.par.cell 2; have q3 : w'.cell? ⟨w.heap.size, 3, none⟩ = some (.int .i64 e.at_) := hSw.par.cell 3; have q6 : w'.cell? ⟨w.heap.size, 6, none⟩ = some (.int .u8 (e.nkind : Int)) := hSw.par.cell 6; have q54 : w'.cell? ⟨w.heap.size, 54, none⟩ = some (.string (mkB e.text)) := hSw.par.cell 54; clear hSw; go_simp; try with_reducible rfl)
    case restbt13 =>
    change wpAnyH _ _ _ _ _ _ _ (Act.put _ (some 4) _) _
    try simp only [Act.put, List.setIfInBounds_toArray, List.set_cons_zero, List.set_cons_succ]
    refine wpAnyH_done (by kernel_rfl) ?_ _
    go_wp2_with fail
    refine bodyPost_ret (results_tct rfl _ _ (w.heap.size + 1) 32 (chC o).toArray (0, 0) _ rfl hr6.res Tryz.underlying32 rfl chC_size) rfl ?_
    have hc := HC.out
    have hk := HK.out
    have hs1 := HS1.out
    have hs2 := HS2.out
    refine ChangePost.done (b := (((e.nkind : Nat) : Int) == 0)) (x := [105, 110, 115, 101, 114, 116, 32] ++ Lib.itoa e.parent ++ [32] ++ Lib.itoa e.at_ ++ [32, 98, 111, 120] ++ x5) rfl hr6 ?_ (by rw [HO.out]; unfold onlyR; simp [hc, hk]; rfl) rfl (by unfold isR; simp [hc, hk, hs1.symm, nat0]) (fun hb => ?_) (by simp only [mkB_size] at *; simp; omega)
    · rw [show ([105, 110, 115, 101, 114, 116, 32] ++ Lib.itoa e.parent ++ [32] ++ Lib.itoa e.at_ ++ [32, 98, 111, 120] ++ x5 : List UInt8) = [105, 110, 115, 101, 114, 116, 32] ++ Lib.itoa e.parent ++ [32] ++ Lib.itoa e.at_ ++ [32, 98, 111, 120] ++ x5 from by simp, ← mkB_append, ← mkB_append, ← mkB_append, ← mkB_append, ← mkB_append]; rfl
    · rw [hs2 (hs1 ▸ rfl)]; unfold wordsR; simp [hc, hk, joinC_blk, blk, insertB, boxB]

set_option maxRecDepth 100000 in
set_option maxHeartbeats 8000000 in
theorem change9 (e : Ev) (he : e.Ok) (hc : e.ck = 0 ∨ 5 < e.ck) (w : World) :
    Calls Tryz.prog 41 #[.agg (chC e).toArray] w (ChangePost e w) := by
  have hA : (chC e).toArray.size = 55 := rfl
  have a0 : (chC e).toArray[0]'(by omega) = .int .u8 (e.ck : Int) := rfl
  have n1 : (((e.ck : Nat) : Int) == 1) = false := by rw [beq_eq_false_iff_ne]; omega
  have n2 : (((e.ck : Nat) : Int) == 2) = false := by rw [beq_eq_false_iff_ne]; omega
  have n3 : (((e.ck : Nat) : Int) == 3) = false := by rw [beq_eq_false_iff_ne]; omega
  have n4 : (((e.ck : Nat) : Int) == 4) = false := by rw [beq_eq_false_iff_ne]; omega
  have n5 : (((e.ck : Nat) : Int) == 5) = false := by rw [beq_eq_false_iff_ne]; omega
  have HC := Lib.hid hc
  clear hc
  have hd1 := Lib.hid (fun W => digits_same he.key W)
  have hd2 := Lib.hid (fun W => digits_same he.parent W)
  have hd3 := Lib.hid (fun W => digits_same he.at_ W)
  have z1 := itoa_size he.key
  have z2 := itoa_size he.parent
  have z3 := itoa_size he.at_
  go_enter Tryz.func41, Tryz.ntmps41
  go_upto_region 25 with (refine wpList_store_blk rfl 32 _ _ rfl (w.heap.size + 1 + 1) 0 32 (chC ev0) (chC { ev0 with ck := e.ck }) rfl (allocs_blk (chObjs e) w 2 _ _ rfl) rfl (by rw [chC_len, chC_len]; exact Nat.le_refl _) chC_size (chC_cells _) ?_; intro w1 b1 k1 z1; rw [chC_all] at b1; have hm := CM.start (e := e) b1 k1; clear b1 k1 z1; have c0 : w1.cell? ⟨w.heap.size, 0, none⟩ = some (.int .u8 (e.ck : Int)) := (hm.par.cell 0).trans (congrArg some a0); have c1 : w1.cell? ⟨w.heap.size, 1, none⟩ = some (.int .i64 e.key) := hm.par.cell 1; have o1 : w1.cell? ⟨w.heap.size + 1 + 1, 1, none⟩ = some (.int .i64 0) := hm.onl.cell 1; have of := hm.onl.frozen)
  clear c0 c1 o1 of hA a0
  obtain ⟨o, ho⟩ : ∃ o : Ev, o = { ev0 with ck := e.ck } := ⟨_, rfl⟩
  rw [← ho] at hm
  have HO := Lib.hid ho
  clear ho
  refine wp_region_held_drew (S := fun w' => ∃ r, CM e w.heap.size w r o w') (by kernel_rfl) ⟨_, hm.quiet 1⟩ (fun hHeld => ?_)
  clear hm
  refine' wpAnyH_take (i := 0) (v := _) rfl (by kernel_rfl) (by kernel_rfl) (by kernel_rfl) (fun _ _ _ h => h) (yieldsIf_load_mid (by rfl) _ _ rfl _ _ rfl (chC o) _ (fun _ h => by obtain ⟨_, h⟩ := h; exact blk_range h.onl (chC_self _)) Tryz.underlying32 rfl chC_size) (by assumption) ?_
  change wpAnyH _ _ _ _ _ _ _ (Act.put _ (some 161) _) _
  try simp only [Act.put, List.setIfInBounds_toArray, List.set_cons_zero, List.set_cons_succ]
  refine wpAnyH_take (i := 1) (v := ?v1) rfl (by kernel_rfl) (by kernel_rfl) (by kernel_rfl) (fun _ _ _ h => h) (Or.inl ⟨by rfl, ?hy1⟩) (by assumption) ?rest1
  case hy1 => (intro w' hSw; obtain ⟨_, hSw⟩ := hSw; have q1 : w'.cell? ⟨w.heap.size, 1, none⟩ = some (.int .i64 e.key) := hSw.par.cell 1; have q2 : w'.cell? ⟨w.heap.size, 2, none⟩ = some (.int .i64 e.parent) := hSw.par.cell 2; have q3 : w'.cell? ⟨w.heap.size, 3, none⟩ = some (.int .i64 e.at_) := hSw.par.cell 3; have q6 : w'.cell? ⟨w.heap.size, 6, none⟩ = some (.int .u8 (e.nkind : Int)) := hSw.par.cell 6; have q54 : w'.cell? ⟨w.heap.size, 54, none⟩ = some (.string (mkB e.text)) := hSw.par.cell 54; clear hSw; go_simp; try with_reducible rfl)
  case rest1 =>
  change wpAnyH _ _ _ _ _ _ _ (Act.put _ (some 2) _) _
  try simp only [Act.put, List.setIfInBounds_toArray, List.set_cons_zero, List.set_cons_succ]
  refine wpAnyH_ready (rs := [2]) (by kernel_rfl) (by simp) ?_
  refine AllReadyH.cons rfl (fun K hK => ?_) AllReadyH.nil
  obtain ⟨r, hr⟩ := hHeld
  refine step_store_blk (by rfl) 32 _ _ (by rfl) (w.heap.size + 1) 0 32 (chC r) (chC o) (by rfl) hr.res (by rfl) (by rw [chC_len, chC_len]; exact Nat.le_refl _) chC_size (chC_cells _) ?_
  intro w6 b6 k6 z6
  have hr6 := CM.ans hr b6 k6
  clear b6 k6 z6 hr
  refine hK.out _ _ ⟨_, hr6⟩ (fun hHeld => ?_)
  clear hK K
  try change wpAnyH _ _ _ _ _ _ _ (Act.put _ (none) _) _
  try simp only [Act.put]
  refine wpAnyH_take (i := 3) (v := ?v2) rfl (by kernel_rfl) (by kernel_rfl) (by kernel_rfl) (fun _ _ _ h => h) (Or.inl ⟨by rfl, ?hy2⟩) (by assumption) ?rest2
  case hy2 => (intro w' hSw; obtain ⟨_, hSw⟩ := hSw; have q1 : w'.cell? ⟨w.heap.size, 1, none⟩ = some (.int .i64 e.key) := hSw.par.cell 1; have q2 : w'.cell? ⟨w.heap.size, 2, none⟩ = some (.int .i64 e.parent) := hSw.par.cell 2; have q3 : w'.cell? ⟨w.heap.size, 3, none⟩ = some (.int .i64 e.at_) := hSw.par.cell 3; have q6 : w'.cell? ⟨w.heap.size, 6, none⟩ = some (.int .u8 (e.nkind : Int)) := hSw.par.cell 6; have q54 : w'.cell? ⟨w.heap.size, 54, none⟩ = some (.string (mkB e.text)) := hSw.par.cell 54; clear hSw; go_simp; try with_reducible rfl)
  case rest2 =>
  change wpAnyH _ _ _ _ _ _ _ (Act.put _ (some 4) _) _
  try simp only [Act.put, List.setIfInBounds_toArray, List.set_cons_zero, List.set_cons_succ]
  refine wpAnyH_done (by kernel_rfl) ?_ _
  go_wp2_with fail
  refine bodyPost_ret (results_tct rfl _ _ (w.heap.size + 1) 32 (chC o).toArray (0, 0) _ rfl hr6.res Tryz.underlying32 rfl chC_size) rfl ?_
  have hc := HC.out
  exact ChangePost.done (x := []) rfl hr6 rfl (by rw [HO.out]; unfold onlyR; rw [if_pos rfl, if_neg (by simp; omega), if_neg (by simp; omega), if_neg (by simp; omega), if_neg (by simp; omega), if_neg (by simp; omega)]; rfl) rfl (by unfold isR; rw [if_pos rfl, if_neg (by simp; omega), if_neg (by simp; omega)]; simp; omega) (fun h => by cases h) (by simp)

/-- A CHANGE'S LINE. -/
theorem change_any (e : Ev) (he : e.Ok) (htx : e.text.length ≤ 4100) (w : World) :
    Calls Tryz.prog 41 #[.agg (chC e).toArray] w (ChangePost e w) := by
  by_cases c1 : e.ck = 1
  · by_cases k1 : e.nkind = 1
    · exact change1t e he c1 k1 htx w
    · exact change1b e he c1 k1 w
  by_cases c2 : e.ck = 2
  · exact change2 e he c2 w
  by_cases c3 : e.ck = 3
  · exact change3 e he c3 w
  by_cases c4 : e.ck = 4
  · exact change4 e he c4 w
  by_cases c5 : e.ck = 5
  · exact change5 e he c5 htx w
  exact change9 e he (by omega) w
end Go.Proofs.YtaoehdmdjplegaaGreatDoor
