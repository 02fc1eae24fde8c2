/-
  Walks: windowpaneref32.line: what it answers (written by gen_rline.py).
-/
import Derived.Test.YtaoehdmdjplegaaGreatDoorSame32
import Derived.Test.YtaoehdmdjplegaaGreatDoorRChange
namespace Go.Proofs.YtaoehdmdjplegaaGreatDoor
open Go.RowKit Go.Shelf

theorem evC_self (o : Ev) (b : Value) : ∀ j v, (evC o b)[j]? = some v → (evC o b)[0 + j]? = some v := fun j v h => by rw [Nat.zero_add]; exact h
theorem evC_setCh (e c : Ev) (b : Value) : setL (evC e b) 4 (chC c) = evC { c with kind := e.kind, client := e.client, n := e.n, bytes := e.bytes } b := by
  have h := setL_mid (chC c) (chC e) [.int .u8 (e.kind : Int), .int .i64 e.client, .int .i64 e.n, b] [] (by rw [chC_len, chC_len])
  rw [List.append_nil, List.append_nil] at h
  exact h
theorem only_one {e : Ev} (h : e.kind = 1) : ({ onlyR e with kind := 1, client := 0, n := 0, bytes := [] } : Ev) = onlyR e := by
  unfold onlyR
  rw [if_pos h]
  (repeat' split) <;> rfl
theorem hexW_len {l : List UInt8} (h : l.length ≤ 3000) : (hexW l).length ≤ 6001 := by
  unfold hexW
  split
  · simp
  · rw [hexs_len]; omega
/-- What an event's line answers: its words, if it has some; the event that it is. -/
def LinePost (e : Ev) (va : Value) (w : World) (en : Ending) (w' : World) : Prop :=
  ∃ (x : List UInt8) (bv : Value), en = .returned (.tuple #[.string (mkB x), .agg (evC (onlyR e) bv).toArray, .bool (isR e)]) ∧ (isR e = true → x = joinC (wordsR e)) ∧ x.length ≤ 40000 ∧ Below w.heap.size w w' ∧ (bv = .slice none 0 0 ∧ (onlyR e).bytes = [] ∨ bv = va ∧ (onlyR e).bytes = e.bytes)
/-- What lies in memory while an event's line is written. -/
structure LM (e : Ev) (va : Value) (n : Nat) (w0 : World) (R O : List Value) (w : World) : Prop where
  bel : Below n w0 w
  sz : n + 3 ≤ w.heap.size
  par : Blk w n 34 (evC e va).toArray
  res : Blk w (n + 1) 34 R.toArray
  onl : Blk w (n + 1 + 1) 34 O.toArray
  rl : R.length = 59
def lnObjs (e : Ev) (va : Value) : List Obj := [.cells (evC e va).toArray 34, .cells (evC ev0 (.slice none 0 0)).toArray 34, .cells (evC ev0 (.slice none 0 0)).toArray 34]
section
variable {e : Ev} {va : Value} {n : Nat} {w0 w w' : World} {R O O' : List Value}
theorem LM.start (h : Blk w' (w.heap.size + 1 + 1) 34 O.toArray) (hk : Kept [w.heap.size + 1 + 1] (allocs w (lnObjs e va)) w') : LM e va w.heap.size w (evC ev0 (.slice none 0 0)) O w' := by
  have hs : (allocs w (lnObjs e va)).heap.size = w.heap.size + 3 := allocs_size _ w
  refine ⟨(allocs_below (lnObjs e va) w).trans (hk.to_below (by omega) (by simp; omega)), by rw [← hs]; exact hk.size, ?_, ?_, h, rfl⟩
  · exact (allocs_blk (lnObjs e va) w 0 _ _ rfl).kept hk (by simp; omega)
  · exact (allocs_blk (lnObjs e va) w 1 _ _ rfl).kept hk (by simp)
theorem LM.quiet (h : LM e va n w0 R O w) (m : Nat) : LM e va n w0 R O (w.drewN m) := ⟨below_drewN h.bel m, h.sz, h.par, h.res, h.onl, h.rl⟩
theorem LM.step (h : LM e va n w0 R O w) {L : List Value} (hb : Blk w' (n + 1 + 1) 34 L.toArray) (hk : Kept [n + 1 + 1] w w') (ho : L = O') : LM e va n w0 R O' w' :=
  ⟨h.bel.trans (hk.to_below (by have := h.sz; omega) (by simp; omega)), Nat.le_trans h.sz hk.size, h.par.kept hk (by simp; omega), h.res.kept hk (by simp), ho ▸ hb, h.rl⟩
theorem LM.is (h : LM e va n w0 R O w) (ho : O = O') : LM e va n w0 R O' w := ho ▸ h
theorem LM.ans (h : LM e va n w0 R O w) (hb : Blk w' (n + 1) 34 (setL R 0 O').toArray) (hk : Kept [n + 1] w w') (hl : O'.length = 59 := by rfl) : LM e va n w0 O' O w' := by
  rw [setL_all (by rw [h.rl, hl])] at hb
  exact ⟨h.bel.trans (hk.to_below (by have := h.sz; omega) (by simp)), Nat.le_trans h.sz hk.size, h.par.kept hk (by simp), hb, h.onl.kept hk (by simp), hl⟩
theorem LM.more (h : LM e va n w0 R O w) (hb : Below (n + 3) w w') : LM e va n w0 R O w' :=
  ⟨h.bel.trans (hb.mono (by omega)), Nat.le_trans h.sz hb.size, h.par.below hb (by omega), h.res.below hb (by omega), h.onl.below hb (by omega), h.rl⟩
end
theorem LinePost.done {e o : Ev} {va bo : Value} {n : Nat} {w w' : World} {R O : List Value} {v1 v3 : Value} {b : Bool} {x : List UInt8} (hn : n = w.heap.size) (h : LM e va n w R O w') (h1 : v1 = .string (mkB x)) (ho : onlyR e = o) (h3 : v3 = .bool b) (hb : isR e = b) (hx : b = true → x = joinC (wordsR e)) (hl : x.length ≤ 40000) (hv : bo = .slice none 0 0 ∧ (onlyR e).bytes = [] ∨ bo = va ∧ (onlyR e).bytes = e.bytes) :
    LinePost e va w (.returned (.tuple #[v1, .agg (evC o bo).toArray, v3])) w' := by
  subst hn
  exact ⟨x, bo, by rw [h1, h3, ho, hb], fun h => hx (hb ▸ h), hl, h.bel, hv⟩

set_option maxRecDepth 100000 in
set_option maxHeartbeats 8000000 in
theorem line1 (e : Ev) (he : e.Ok) (hc : e.kind = 1) (htx : e.text.length ≤ 4100) (hbl : e.bytes.length ≤ 3000) (va : Value) (w : World) (hyb : Byts w w.heap.size va e.bytes) :
    Calls Tryz.prog 15 #[.agg (evC e va).toArray] w (LinePost e va w) := by
  have hva := hyb.one
  have _ := htx
  have hyb := Lib.hid hyb
  have hA : (evC e va).toArray.size = 59 := rfl
  have a0 : (evC e va).toArray[0]'(by omega) = .int .u8 1 := by
    show Value.int .u8 (e.kind : Int) = _
    rw [hc]; rfl
  have HC := Lib.hid hc
  clear hc
  have hd1 := Lib.hid (fun W => digits_same he.client W)
  have hd2 := Lib.hid (fun W => digits_same he.n W)
  have z1 := itoa_size he.client
  have z2 := itoa_size he.n
  have z3 : (mkB (hexW e.bytes)).size ≤ 6001 := by rw [mkB_size]; exact hexW_len hbl
  go_enter Tryz.func15, Tryz.ntmps15
  go_upto_region 4 with (refine wpList_store_blk rfl 34 _ _ rfl (w.heap.size + 1 + 1) 0 34 (evC ev0 (.slice none 0 0)) (evC { ev0 with kind := 1 } (.slice none 0 0)) rfl (allocs_blk (lnObjs e va) w 2 _ _ rfl) rfl (by rw [evC_len, evC_len]; exact Nat.le_refl _) evC_size (evC_cells _ rfl) ?_; intro w1 b1 k1 z1; rw [setL_all (by rw [evC_len, evC_len])] at b1; have hm := LM.start (e := e) (va := va) b1 k1; clear b1 k1 z1; have c0 : w1.cell? ⟨w.heap.size, 0, none⟩ = some (.int .u8 1) := (hm.par.cell 0).trans (congrArg some a0); have c1 : w1.cell? ⟨w.heap.size, 1, none⟩ = some (.int .i64 e.client) := hm.par.cell 1; have c2 : w1.cell? ⟨w.heap.size, 2, none⟩ = some (.int .i64 e.n) := hm.par.cell 2; have o1 : w1.cell? ⟨w.heap.size + 1 + 1, 1, none⟩ = some (.int .i64 0) := hm.onl.cell 1; have o2 : w1.cell? ⟨w.heap.size + 1 + 1, 2, none⟩ = some (.int .i64 0) := hm.onl.cell 2; have of := hm.onl.frozen)
  clear c0 c1 c2 o1 o2 of hA a0
  go_wp2_with (refine wpList_load_blk rfl 32 _ rfl w.heap.size 4 34 (evC e va) (chC e) _ rfl hm.par (evC_ch e va) Tryz.underlying32 rfl chC_size ?_)
  refine (change_any e he htx _).mono ?_
  rintro e5 w5 ⟨x5, rfl, hx5, hl5, hb5⟩
  rw [show ({ e with kind := 1 } : Ev) = e by rw [← HC.out]] at hx5
  rw [show ({ e with kind := 1 } : Ev) = e by rw [← HC.out]]
  have hm := hm.more (hb5.mono hm.sz)
  have hsz := hm.sz
  have HX5 := Lib.hid hx5
  clear hx5
  obtain ⟨b5, hb6⟩ : ∃ b, b = isR e := ⟨_, rfl⟩
  rw [← hb6] at HX5 ⊢
  have HS1 := Lib.hid hb6
  clear hb6 hb5
  obtain ⟨c, hcc⟩ : ∃ c, c = onlyR e := ⟨_, rfl⟩
  rw [← hcc]
  have HCC := Lib.hid hcc
  clear hcc
  go_upto_region 6 with (first | (refine wpList_store_blk rfl 32 _ _ rfl w5.heap.size 0 32 (chC ev0) (chC c) rfl (allocs_blk [.cells (chC ev0).toArray 32] w5 0 _ _ rfl) rfl (by rw [chC_len, chC_len]; exact Nat.le_refl _) chC_size (chC_cells _) ?_; intro w6 b6 k6 z6; rw [chC_all] at b6; have hbw : Below (w.heap.size + 3) w5 w6 := ((below_one w5 _).mono hsz).trans (k6.to_below (by simp; omega) (by simp; omega)); have hm := hm.more hbw; have hn7 : w.heap.size + 3 ≤ w5.heap.size := hsz; clear k6 z6 hbw; simp only [Act.put]) | (refine wpList_load_blk rfl 32 _ rfl w5.heap.size 0 32 (chC c) (chC c) _ rfl b6 (chC_self c) Tryz.underlying32 rfl chC_size ?_) | (refine wpList_store_blk rfl 32 _ _ rfl (w.heap.size + 1 + 1) 4 34 _ (chC c) rfl hm.onl rfl (by rw [evC_len, chC_len]; omega) chC_size (chC_cells _) ?_; intro w7 b7 k7 z7; rw [evC_setCh] at b7; have hm := hm.step b7 k7 rfl; clear b7 k7 z7 b6; simp only [Act.put]))
  obtain ⟨o, ho⟩ : ∃ o : Ev, o = c := ⟨_, rfl⟩
  obtain ⟨bo, hbo⟩ : ∃ b : Value, b = .slice none 0 0 := ⟨_, rfl⟩
  have HBO := Lib.hid (show bo.oneCell' = true by rw [hbo]; rfl)
  have hm := hm.is (O' := evC o bo) (by rw [ho, hbo, HCC.out]; exact congrArg (fun z => evC z (.slice none 0 0)) (only_one HC.out))
  have HO := Lib.hid ho
  have HB := Lib.hid hbo
  clear ho hbo
  have z5 : (mkB x5).size ≤ 20000 := by rw [mkB_size]; exact hl5
  refine wp_region_held_drew (S := fun w' => ∃ r, LM e va w.heap.size w r (evC o bo) w') (by kernel_rfl) ⟨_, hm.quiet 1⟩ (fun hHeld => ?_)
  clear hm
  refine wpAnyH_take (i := 0) (v := ?v1) rfl (by kernel_rfl) (by kernel_rfl) (by kernel_rfl) (fun _ _ _ h => h) (Or.inl ⟨by rfl, ?hy1⟩) (by assumption) ?rest1
  case hy1 => (intro w' hSw; obtain ⟨_, hSw⟩ := hSw; have q1 : w'.cell? ⟨w.heap.size, 1, none⟩ = some (.int .i64 e.client) := hSw.par.cell 1; have q2 : w'.cell? ⟨w.heap.size, 2, none⟩ = some (.int .i64 e.n) := hSw.par.cell 2; have q3 : w'.cell? ⟨w.heap.size, 3, none⟩ = some (va) := hSw.par.cell 3; clear hSw; go_simp; try with_reducible rfl)
  case rest1 =>
  change wpAnyH _ _ _ _ _ _ _ (Act.put _ (some 25) _) _
  try simp only [Act.put, List.setIfInBounds_toArray, List.set_cons_zero, List.set_cons_succ]
  refine' wpAnyH_take (i := 1) (v := _) rfl (by kernel_rfl) (by kernel_rfl) (by kernel_rfl) (fun _ _ _ h => h) (yieldsIf_load_mid (by rfl) _ _ rfl _ _ rfl (evC o bo) _ (fun _ h => by obtain ⟨_, h⟩ := h; exact blk_range h.onl (evC_self o bo)) Tryz.underlying34 rfl evC_size) (by assumption) ?_
  change wpAnyH _ _ _ _ _ _ _ (Act.put _ (some 26) _) _
  try simp only [Act.put, List.setIfInBounds_toArray, List.set_cons_zero, List.set_cons_succ]
  refine wpAnyH_take (i := 2) (v := ?v2) rfl (by kernel_rfl) (by kernel_rfl) (by kernel_rfl) (fun _ _ _ h => h) (Or.inl ⟨by rfl, ?hy2⟩) (by assumption) ?rest2
  case hy2 => (intro w' hSw; obtain ⟨_, hSw⟩ := hSw; have q1 : w'.cell? ⟨w.heap.size, 1, none⟩ = some (.int .i64 e.client) := hSw.par.cell 1; have q2 : w'.cell? ⟨w.heap.size, 2, none⟩ = some (.int .i64 e.n) := hSw.par.cell 2; have q3 : w'.cell? ⟨w.heap.size, 3, none⟩ = some (va) := hSw.par.cell 3; clear hSw; go_simp; try with_reducible rfl)
  case rest2 =>
  change wpAnyH _ _ _ _ _ _ _ (Act.put _ (some 27) _) _
  try simp only [Act.put, List.setIfInBounds_toArray, List.set_cons_zero, List.set_cons_succ]
  refine wpAnyH_take (i := 3) (v := ?v3) rfl (by kernel_rfl) (by kernel_rfl) (by kernel_rfl) (fun _ _ _ h => h) (Or.inl ⟨by rfl, ?hy3⟩) (by assumption) ?rest3
  case hy3 => (intro w' hSw; obtain ⟨_, hSw⟩ := hSw; have q1 : w'.cell? ⟨w.heap.size, 1, none⟩ = some (.int .i64 e.client) := hSw.par.cell 1; have q2 : w'.cell? ⟨w.heap.size, 2, none⟩ = some (.int .i64 e.n) := hSw.par.cell 2; have q3 : w'.cell? ⟨w.heap.size, 3, none⟩ = some (va) := hSw.par.cell 3; clear hSw; go_simp; try with_reducible rfl)
  case rest3 =>
  change wpAnyH _ _ _ _ _ _ _ (Act.put _ (some 2) _) _
  try simp only [Act.put, List.setIfInBounds_toArray, List.set_cons_zero, List.set_cons_succ]
  refine wpAnyH_ready (rs := [4]) (by kernel_rfl) (by simp) ?_
  refine AllReadyH.cons rfl (fun K hK => ?_) AllReadyH.nil
  obtain ⟨r, hr⟩ := hHeld
  refine step_store_blk (by rfl) 34 _ _ (by rfl) (w.heap.size + 1) 0 34 r (evC o bo) (by rfl) hr.res (by rfl) (by rw [hr.rl, evC_len]; exact Nat.le_refl _) evC_size (evC_cells _ HBO.out) ?_
  intro w6 b6 k6 z6
  have hr6 := LM.ans hr b6 k6
  clear b6 k6 z6 hr
  refine hK.out _ _ ⟨_, hr6⟩ (fun hHeld => ?_)
  clear hK K
  try change wpAnyH _ _ _ _ _ _ _ (Act.put _ (none) _) _
  try simp only [Act.put]
  refine wpAnyH_take (i := 5) (v := ?v4) rfl (by kernel_rfl) (by kernel_rfl) (by kernel_rfl) (fun _ _ _ h => h) (Or.inl ⟨by rfl, ?hy4⟩) (by assumption) ?rest4
  case hy4 => (intro w' hSw; obtain ⟨_, hSw⟩ := hSw; have q1 : w'.cell? ⟨w.heap.size, 1, none⟩ = some (.int .i64 e.client) := hSw.par.cell 1; have q2 : w'.cell? ⟨w.heap.size, 2, none⟩ = some (.int .i64 e.n) := hSw.par.cell 2; have q3 : w'.cell? ⟨w.heap.size, 3, none⟩ = some (va) := hSw.par.cell 3; clear hSw; go_simp; try with_reducible rfl)
  case rest4 =>
  change wpAnyH _ _ _ _ _ _ _ (Act.put _ (some 4) _) _
  try simp only [Act.put, List.setIfInBounds_toArray, List.set_cons_zero, List.set_cons_succ]
  refine wpAnyH_done (by kernel_rfl) ?_ _
  go_wp2_with fail
  refine bodyPost_ret (results_tct rfl _ _ (w.heap.size + 1) 34 (evC o bo).toArray (0, 0) _ rfl hr6.res Tryz.underlying34 rfl evC_size) rfl ?_
  exact LinePost.done (b := b5) (x := x5) rfl hr6 rfl (by rw [HO.out, HCC.out]) rfl HS1.out.symm (fun hb => HX5.out hb) (by omega) (Or.inl ⟨HB.out, by have := congrArg Ev.bytes (only_one HC.out); exact this.symm⟩)

set_option maxRecDepth 100000 in
set_option maxHeartbeats 8000000 in
theorem line2 (e : Ev) (he : e.Ok) (hc : e.kind = 2) (htx : e.text.length ≤ 4100) (hbl : e.bytes.length ≤ 3000) (va : Value) (w : World) (hyb : Byts w w.heap.size va e.bytes) :
    Calls Tryz.prog 15 #[.agg (evC e va).toArray] w (LinePost e va w) := by
  have hva := hyb.one
  have _ := htx
  have hyb := Lib.hid hyb
  have hA : (evC e va).toArray.size = 59 := rfl
  have a0 : (evC e va).toArray[0]'(by omega) = .int .u8 2 := by
    show Value.int .u8 (e.kind : Int) = _
    rw [hc]; rfl
  have HC := Lib.hid hc
  clear hc
  have hd1 := Lib.hid (fun W => digits_same he.client W)
  have hd2 := Lib.hid (fun W => digits_same he.n W)
  have z1 := itoa_size he.client
  have z2 := itoa_size he.n
  have z3 : (mkB (hexW e.bytes)).size ≤ 6001 := by rw [mkB_size]; exact hexW_len hbl
  go_enter Tryz.func15, Tryz.ntmps15
  go_upto_region 8 with (refine wpList_store_blk rfl 34 _ _ rfl (w.heap.size + 1 + 1) 0 34 (evC ev0 (.slice none 0 0)) (evC { ev0 with kind := 2 } (.slice none 0 0)) rfl (allocs_blk (lnObjs e va) w 2 _ _ rfl) rfl (by rw [evC_len, evC_len]; exact Nat.le_refl _) evC_size (evC_cells _ rfl) ?_; intro w1 b1 k1 z1; rw [setL_all (by rw [evC_len, evC_len])] at b1; have hm := LM.start (e := e) (va := va) b1 k1; clear b1 k1 z1; have c0 : w1.cell? ⟨w.heap.size, 0, none⟩ = some (.int .u8 2) := (hm.par.cell 0).trans (congrArg some a0); have c1 : w1.cell? ⟨w.heap.size, 1, none⟩ = some (.int .i64 e.client) := hm.par.cell 1; have c2 : w1.cell? ⟨w.heap.size, 2, none⟩ = some (.int .i64 e.n) := hm.par.cell 2; have o1 : w1.cell? ⟨w.heap.size + 1 + 1, 1, none⟩ = some (.int .i64 0) := hm.onl.cell 1; have o2 : w1.cell? ⟨w.heap.size + 1 + 1, 2, none⟩ = some (.int .i64 0) := hm.onl.cell 2; have of := hm.onl.frozen)
  refine wp_region_held_drew (S := fun w' => Blk w' w.heap.size 34 (evC e va).toArray) (by kernel_rfl) (Blk.drew hm.par) (fun hHeld => ?_)
  have hm := hm.quiet 1
  refine wpAnyH_take (i := 0) (v := ?vs1) rfl (by kernel_rfl) (by kernel_rfl) (by kernel_rfl) (fun _ _ _ h => h) (Or.inl ⟨by rfl, ?hys1⟩) (by assumption) ?rests1
  case hys1 => (intro w' hSw; have q1 : w'.cell? ⟨w.heap.size, 1, none⟩ = some (.int .i64 e.client) := (Blk.cell hSw 1); have q2 : w'.cell? ⟨w.heap.size, 2, none⟩ = some (.int .i64 e.n) := (Blk.cell hSw 2); have q3 : w'.cell? ⟨w.heap.size, 3, none⟩ = some (va) := (Blk.cell hSw 3); clear hSw; go_simp; try with_reducible rfl)
  case rests1 =>
  change wpAnyH _ _ _ _ _ _ _ (Act.put _ (some 30) _) _
  try simp only [Act.put, List.setIfInBounds_toArray, List.set_cons_zero, List.set_cons_succ]
  refine wpAnyH_take (i := 1) (v := ?vs2) rfl (by kernel_rfl) (by kernel_rfl) (by kernel_rfl) (fun _ _ _ h => h) (Or.inl ⟨by rfl, ?hys2⟩) (by assumption) ?rests2
  case hys2 => (intro w' hSw; have q1 : w'.cell? ⟨w.heap.size, 1, none⟩ = some (.int .i64 e.client) := (Blk.cell hSw 1); have q2 : w'.cell? ⟨w.heap.size, 2, none⟩ = some (.int .i64 e.n) := (Blk.cell hSw 2); have q3 : w'.cell? ⟨w.heap.size, 3, none⟩ = some (va) := (Blk.cell hSw 3); clear hSw; go_simp; try with_reducible rfl)
  case rests2 =>
  change wpAnyH _ _ _ _ _ _ _ (Act.put _ (some 31) _) _
  try simp only [Act.put, List.setIfInBounds_toArray, List.set_cons_zero, List.set_cons_succ]
  refine wpAnyH_take (i := 2) (v := ?vs3) rfl (by kernel_rfl) (by kernel_rfl) (by kernel_rfl) (fun _ _ _ h => h) (Or.inl ⟨by rfl, ?hys3⟩) (by assumption) ?rests3
  case hys3 => (intro w' hSw; have q1 : w'.cell? ⟨w.heap.size, 1, none⟩ = some (.int .i64 e.client) := (Blk.cell hSw 1); have q2 : w'.cell? ⟨w.heap.size, 2, none⟩ = some (.int .i64 e.n) := (Blk.cell hSw 2); have q3 : w'.cell? ⟨w.heap.size, 3, none⟩ = some (va) := (Blk.cell hSw 3); clear hSw; go_simp; try with_reducible rfl)
  case rests3 =>
  change wpAnyH _ _ _ _ _ _ _ (Act.put _ (some 32) _) _
  try simp only [Act.put, List.setIfInBounds_toArray, List.set_cons_zero, List.set_cons_succ]
  refine wpAnyH_take (i := 3) (v := ?vs4) rfl (by kernel_rfl) (by kernel_rfl) (by kernel_rfl) (fun _ _ _ h => h) (Or.inl ⟨by rfl, ?hys4⟩) (by assumption) ?rests4
  case hys4 => (intro w' hSw; have q1 : w'.cell? ⟨w.heap.size, 1, none⟩ = some (.int .i64 e.client) := (Blk.cell hSw 1); have q2 : w'.cell? ⟨w.heap.size, 2, none⟩ = some (.int .i64 e.n) := (Blk.cell hSw 2); have q3 : w'.cell? ⟨w.heap.size, 3, none⟩ = some (va) := (Blk.cell hSw 3); clear hSw; go_simp; try with_reducible rfl)
  case rests4 =>
  change wpAnyH _ _ _ _ _ _ _ (Act.put _ (some 33) _) _
  try simp only [Act.put, List.setIfInBounds_toArray, List.set_cons_zero, List.set_cons_succ]
  refine wpAnyH_take (i := 4) (v := ?vs5) rfl (by kernel_rfl) (by kernel_rfl) (by kernel_rfl) (fun _ _ _ h => h) (Or.inl ⟨by rfl, ?hys5⟩) (by assumption) ?rests5
  case hys5 => (intro w' hSw; have q1 : w'.cell? ⟨w.heap.size, 1, none⟩ = some (.int .i64 e.client) := (Blk.cell hSw 1); have q2 : w'.cell? ⟨w.heap.size, 2, none⟩ = some (.int .i64 e.n) := (Blk.cell hSw 2); have q3 : w'.cell? ⟨w.heap.size, 3, none⟩ = some (va) := (Blk.cell hSw 3); clear hSw; go_simp; try with_reducible rfl)
  case rests5 =>
  change wpAnyH _ _ _ _ _ _ _ (Act.put _ (some 34) _) _
  try simp only [Act.put, List.setIfInBounds_toArray, List.set_cons_zero, List.set_cons_succ]
  refine wpAnyH_ready (rs := [5]) (by kernel_rfl) (by simp) ?_
  refine AllReadyH.cons rfl (fun K hK => ?_) AllReadyH.nil
  refine step_store_one (by rfl) 3 _ _ (by rfl) (w.heap.size + 1 + 1) 1 34 _ _ (by rfl) hm.onl (by rfl) (by rw [evC_len]; omega) (by rfl) (storeVar_int _ _ _ _) ?_
  intro w6 b6 k6 z6
  have hm := LM.step (O' := evC { ev0 with kind := 2, client := e.client } (.slice none 0 0)) hm b6 k6 rfl
  clear b6 k6 z6
  refine hK.out _ _ hm.par (fun hHeld => ?_)
  clear hK K
  try change wpAnyH _ _ _ _ _ _ _ (Act.put _ (none) _) _
  try simp only [Act.put]
  refine wpAnyH_take (i := 6) (v := ?vs6) rfl (by kernel_rfl) (by kernel_rfl) (by kernel_rfl) (fun _ _ _ h => h) (Or.inl ⟨by rfl, ?hys6⟩) (by assumption) ?rests6
  case hys6 => (intro w' hSw; have q1 : w'.cell? ⟨w.heap.size, 1, none⟩ = some (.int .i64 e.client) := (Blk.cell hSw 1); have q2 : w'.cell? ⟨w.heap.size, 2, none⟩ = some (.int .i64 e.n) := (Blk.cell hSw 2); have q3 : w'.cell? ⟨w.heap.size, 3, none⟩ = some (va) := (Blk.cell hSw 3); clear hSw; go_simp; try with_reducible rfl)
  case rests6 =>
  change wpAnyH _ _ _ _ _ _ _ (Act.put _ (some 35) _) _
  try simp only [Act.put, List.setIfInBounds_toArray, List.set_cons_zero, List.set_cons_succ]
  refine wpAnyH_ready (rs := [7]) (by kernel_rfl) (by simp) ?_
  refine AllReadyH.cons rfl (fun K hK => ?_) AllReadyH.nil
  refine step_store_one (by rfl) 3 _ _ (by rfl) (w.heap.size + 1 + 1) 2 34 _ _ (by rfl) hm.onl (by rfl) (by rw [evC_len]; omega) (by rfl) (storeVar_int _ _ _ _) ?_
  intro w6 b6 k6 z6
  have hm := LM.step (O' := evC { ev0 with kind := 2, client := e.client, n := e.n } (.slice none 0 0)) hm b6 k6 rfl
  clear b6 k6 z6
  refine hK.out _ _ hm.par (fun hHeld => ?_)
  clear hK K
  try change wpAnyH _ _ _ _ _ _ _ (Act.put _ (none) _) _
  try simp only [Act.put]
  refine wpAnyH_done (by kernel_rfl) ?_ _
  skip
  go_upto_region 9 with fail
  clear c0 c1 c2 o1 o2 of hA a0
  obtain ⟨o, ho⟩ : ∃ o : Ev, o = { ev0 with kind := 2, client := e.client, n := e.n } := ⟨_, rfl⟩
  obtain ⟨bo, hbo⟩ : ∃ b : Value, b = .slice none 0 0 := ⟨_, rfl⟩
  have HBO := Lib.hid (show bo.oneCell' = true by rw [hbo]; exact rfl)
  have hm := hm.is (O' := evC o bo) (by rw [ho, hbo])
  have HO := Lib.hid ho
  have HB := Lib.hid hbo
  clear ho hbo
  refine wp_region_held_drew (S := fun w' => ∃ r, LM e va w.heap.size w r (evC o bo) w') (by kernel_rfl) ⟨_, hm.quiet 1⟩ (fun hHeld => ?_)
  clear hm
  refine wpAnyH_take (i := 0) (v := ?v1) rfl (by kernel_rfl) (by kernel_rfl) (by kernel_rfl) (fun _ _ _ h => h) (Or.inl ⟨by rfl, ?hy1⟩) (by assumption) ?rest1
  case hy1 => (intro w' hSw; obtain ⟨_, hSw⟩ := hSw; have q1 : w'.cell? ⟨w.heap.size, 1, none⟩ = some (.int .i64 e.client) := hSw.par.cell 1; have q2 : w'.cell? ⟨w.heap.size, 2, none⟩ = some (.int .i64 e.n) := hSw.par.cell 2; have q3 : w'.cell? ⟨w.heap.size, 3, none⟩ = some (va) := hSw.par.cell 3; clear hSw; go_simp; try with_reducible rfl)
  case rest1 =>
  change wpAnyH _ _ _ _ _ _ _ (Act.put _ (some 36) _) _
  try simp only [Act.put, List.setIfInBounds_toArray, List.set_cons_zero, List.set_cons_succ]
  refine wpAnyH_take (i := 1) (v := ?v2) rfl (by kernel_rfl) (by kernel_rfl) (by kernel_rfl) (fun _ _ _ h => h) (Or.inl ⟨by rfl, ?hy2⟩) (by assumption) ?rest2
  case hy2 => (intro w' hSw; obtain ⟨_, hSw⟩ := hSw; have q1 : w'.cell? ⟨w.heap.size, 1, none⟩ = some (.int .i64 e.client) := hSw.par.cell 1; have q2 : w'.cell? ⟨w.heap.size, 2, none⟩ = some (.int .i64 e.n) := hSw.par.cell 2; have q3 : w'.cell? ⟨w.heap.size, 3, none⟩ = some (va) := hSw.par.cell 3; clear hSw; go_simp; try with_reducible rfl)
  case rest2 =>
  change wpAnyH _ _ _ _ _ _ _ (Act.put _ (some 37) _) _
  try simp only [Act.put, List.setIfInBounds_toArray, List.set_cons_zero, List.set_cons_succ]
  refine wpAnyH_take (i := 5) (v := ?v3) rfl (by kernel_rfl) (by kernel_rfl) (by kernel_rfl) (fun _ _ _ h => h) (Or.inl ⟨by rfl, ?hy3⟩) (by assumption) ?rest3
  case hy3 => (intro w' hSw; obtain ⟨_, hSw⟩ := hSw; have q1 : w'.cell? ⟨w.heap.size, 1, none⟩ = some (.int .i64 e.client) := hSw.par.cell 1; have q2 : w'.cell? ⟨w.heap.size, 2, none⟩ = some (.int .i64 e.n) := hSw.par.cell 2; have q3 : w'.cell? ⟨w.heap.size, 3, none⟩ = some (va) := hSw.par.cell 3; clear hSw; go_simp; try with_reducible rfl)
  case rest3 =>
  change wpAnyH _ _ _ _ _ _ _ (Act.put _ (some 41) _) _
  try simp only [Act.put, List.setIfInBounds_toArray, List.set_cons_zero, List.set_cons_succ]
  refine wpAnyH_take (i := 6) (v := ?v4) rfl (by kernel_rfl) (by kernel_rfl) (by kernel_rfl) (fun _ _ _ h => h) (Or.inl ⟨by rfl, ?hy4⟩) (by assumption) ?rest4
  case hy4 => (intro w' hSw; obtain ⟨_, hSw⟩ := hSw; have q1 : w'.cell? ⟨w.heap.size, 1, none⟩ = some (.int .i64 e.client) := hSw.par.cell 1; have q2 : w'.cell? ⟨w.heap.size, 2, none⟩ = some (.int .i64 e.n) := hSw.par.cell 2; have q3 : w'.cell? ⟨w.heap.size, 3, none⟩ = some (va) := hSw.par.cell 3; clear hSw; go_simp; try with_reducible rfl)
  case rest4 =>
  change wpAnyH _ _ _ _ _ _ _ (Act.put _ (some 42) _) _
  try simp only [Act.put, List.setIfInBounds_toArray, List.set_cons_zero, List.set_cons_succ]
  refine' wpAnyH_take (i := 9) (v := _) rfl (by kernel_rfl) (by kernel_rfl) (by kernel_rfl) (fun _ _ _ h => h) (yieldsIf_load_mid (by rfl) _ _ rfl _ _ rfl (evC o bo) _ (fun _ h => by obtain ⟨_, h⟩ := h; exact blk_range h.onl (evC_self o bo)) Tryz.underlying34 rfl evC_size) (by assumption) ?_
  change wpAnyH _ _ _ _ _ _ _ (Act.put _ (some 45) _) _
  try simp only [Act.put, List.setIfInBounds_toArray, List.set_cons_zero, List.set_cons_succ]
  refine wpAnyH_ready (rs := [2]) (by kernel_rfl) (by simp) ?_
  refine AllReadyH.cons rfl (fun K hK => ?_) AllReadyH.nil
  go_simp
  go_at_call 42
  first | (with_reducible refine (hd1.out _).mono ?_) | (with_reducible refine (hd2.out _).mono ?_)
  rintro e5 w5 ⟨rfl, rfl⟩
  refine hK.out _ _ (by assumption) (fun hHeld => ?_)
  clear hK K
  try change wpAnyH _ _ _ _ _ _ _ (Act.put _ (some 38) _) _
  try simp only [Act.put, List.setIfInBounds_toArray, List.set_cons_zero, List.set_cons_succ]
  refine wpAnyH_take (i := 3) (v := ?v5) rfl (by kernel_rfl) (by kernel_rfl) (by kernel_rfl) (fun _ _ _ h => h) (Or.inl ⟨by rfl, ?hy5⟩) (by assumption) ?rest5
  case hy5 => (intro w' hSw; obtain ⟨_, hSw⟩ := hSw; have q1 : w'.cell? ⟨w.heap.size, 1, none⟩ = some (.int .i64 e.client) := hSw.par.cell 1; have q2 : w'.cell? ⟨w.heap.size, 2, none⟩ = some (.int .i64 e.n) := hSw.par.cell 2; have q3 : w'.cell? ⟨w.heap.size, 3, none⟩ = some (va) := hSw.par.cell 3; clear hSw; go_simp; (rw [if_neg (by omega)]))
  case rest5 =>
  change wpAnyH _ _ _ _ _ _ _ (Act.put _ (some 39) _) _
  try simp only [Act.put, List.setIfInBounds_toArray, List.set_cons_zero, List.set_cons_succ]
  refine wpAnyH_take (i := 4) (v := ?v6) rfl (by kernel_rfl) (by kernel_rfl) (by kernel_rfl) (fun _ _ _ h => h) (Or.inl ⟨by rfl, ?hy6⟩) (by assumption) ?rest6
  case hy6 => (intro w' hSw; obtain ⟨_, hSw⟩ := hSw; have q1 : w'.cell? ⟨w.heap.size, 1, none⟩ = some (.int .i64 e.client) := hSw.par.cell 1; have q2 : w'.cell? ⟨w.heap.size, 2, none⟩ = some (.int .i64 e.n) := hSw.par.cell 2; have q3 : w'.cell? ⟨w.heap.size, 3, none⟩ = some (va) := hSw.par.cell 3; clear hSw; go_simp; (rw [if_neg (by omega)]))
  case rest6 =>
  change wpAnyH _ _ _ _ _ _ _ (Act.put _ (some 40) _) _
  try simp only [Act.put, List.setIfInBounds_toArray, List.set_cons_zero, List.set_cons_succ]
  refine wpAnyH_ready (rs := [7]) (by kernel_rfl) (by simp) ?_
  refine AllReadyH.cons rfl (fun K hK => ?_) AllReadyH.nil
  go_simp
  go_at_call 42
  first | (with_reducible refine (hd1.out _).mono ?_) | (with_reducible refine (hd2.out _).mono ?_)
  rintro e5 w5 ⟨rfl, rfl⟩
  refine hK.out _ _ (by assumption) (fun hHeld => ?_)
  clear hK K
  try change wpAnyH _ _ _ _ _ _ _ (Act.put _ (some 43) _) _
  try simp only [Act.put, List.setIfInBounds_toArray, List.set_cons_zero, List.set_cons_succ]
  refine wpAnyH_take (i := 8) (v := ?v7) rfl (by kernel_rfl) (by kernel_rfl) (by kernel_rfl) (fun _ _ _ h => h) (Or.inl ⟨by rfl, ?hy7⟩) (by assumption) ?rest7
  case hy7 => (intro w' hSw; obtain ⟨_, hSw⟩ := hSw; have q1 : w'.cell? ⟨w.heap.size, 1, none⟩ = some (.int .i64 e.client) := hSw.par.cell 1; have q2 : w'.cell? ⟨w.heap.size, 2, none⟩ = some (.int .i64 e.n) := hSw.par.cell 2; have q3 : w'.cell? ⟨w.heap.size, 3, none⟩ = some (va) := hSw.par.cell 3; clear hSw; go_simp; (rw [if_neg (by omega)]))
  case rest7 =>
  change wpAnyH _ _ _ _ _ _ _ (Act.put _ (some 44) _) _
  try simp only [Act.put, List.setIfInBounds_toArray, List.set_cons_zero, List.set_cons_succ]
  refine wpAnyH_take (i := 10) (v := ?v8) rfl (by kernel_rfl) (by kernel_rfl) (by kernel_rfl) (fun _ _ _ h => h) (Or.inl ⟨by rfl, ?hy8⟩) (by assumption) ?rest8
  case hy8 => (intro w' hSw; obtain ⟨_, hSw⟩ := hSw; have q1 : w'.cell? ⟨w.heap.size, 1, none⟩ = some (.int .i64 e.client) := hSw.par.cell 1; have q2 : w'.cell? ⟨w.heap.size, 2, none⟩ = some (.int .i64 e.n) := hSw.par.cell 2; have q3 : w'.cell? ⟨w.heap.size, 3, none⟩ = some (va) := hSw.par.cell 3; clear hSw; go_simp; try with_reducible rfl)
  case rest8 =>
  change wpAnyH _ _ _ _ _ _ _ (Act.put _ (some 2) _) _
  try simp only [Act.put, List.setIfInBounds_toArray, List.set_cons_zero, List.set_cons_succ]
  refine wpAnyH_ready (rs := [11]) (by kernel_rfl) (by simp) ?_
  refine AllReadyH.cons rfl (fun K hK => ?_) AllReadyH.nil
  obtain ⟨r, hr⟩ := hHeld
  refine step_store_blk (by rfl) 34 _ _ (by rfl) (w.heap.size + 1) 0 34 r (evC o bo) (by rfl) hr.res (by rfl) (by rw [hr.rl, evC_len]; exact Nat.le_refl _) evC_size (evC_cells _ HBO.out) ?_
  intro w6 b6 k6 z6
  have hr6 := LM.ans hr b6 k6
  clear b6 k6 z6 hr
  refine hK.out _ _ ⟨_, hr6⟩ (fun hHeld => ?_)
  clear hK K
  try change wpAnyH _ _ _ _ _ _ _ (Act.put _ (none) _) _
  try simp only [Act.put]
  refine wpAnyH_take (i := 12) (v := ?v9) rfl (by kernel_rfl) (by kernel_rfl) (by kernel_rfl) (fun _ _ _ h => h) (Or.inl ⟨by rfl, ?hy9⟩) (by assumption) ?rest9
  case hy9 => (intro w' hSw; obtain ⟨_, hSw⟩ := hSw; have q1 : w'.cell? ⟨w.heap.size, 1, none⟩ = some (.int .i64 e.client) := hSw.par.cell 1; have q2 : w'.cell? ⟨w.heap.size, 2, none⟩ = some (.int .i64 e.n) := hSw.par.cell 2; have q3 : w'.cell? ⟨w.heap.size, 3, none⟩ = some (va) := hSw.par.cell 3; clear hSw; go_simp; try with_reducible rfl)
  case rest9 =>
  change wpAnyH _ _ _ _ _ _ _ (Act.put _ (some 4) _) _
  try simp only [Act.put, List.setIfInBounds_toArray, List.set_cons_zero, List.set_cons_succ]
  refine wpAnyH_done (by kernel_rfl) ?_ _
  go_wp2_with fail
  refine bodyPost_ret (results_tct rfl _ _ (w.heap.size + 1) 34 (evC o bo).toArray (0, 0) _ rfl hr6.res Tryz.underlying34 rfl evC_size) rfl ?_
  have hc := HC.out
  exact LinePost.done (x := [115, 117, 98, 115, 99, 114, 105, 98, 101, 32] ++ Lib.itoa e.client ++ [32] ++ Lib.itoa e.n) rfl hr6 (by rw [show ([115, 117, 98, 115, 99, 114, 105, 98, 101, 32] ++ Lib.itoa e.client ++ [32] ++ Lib.itoa e.n : List UInt8) = [115, 117, 98, 115, 99, 114, 105, 98, 101, 32] ++ Lib.itoa e.client ++ [32] ++ Lib.itoa e.n from by simp, ← mkB_append, ← mkB_append, ← mkB_append]; rfl) (by rw [HO.out]; unfold onlyR; simp [hc]; try rfl) rfl (by unfold isR; simp [hc]) (fun _ => by unfold wordsR; simp [hc, wordW, plainT, joinC]) (by have := itoa_size he.client; have := itoa_size he.n; simp only [mkB_size] at *; simp; omega) (Or.inl ⟨HB.out, by unfold onlyR; simp [hc]; rfl⟩)

set_option maxRecDepth 100000 in
set_option maxHeartbeats 8000000 in
theorem line3 (e : Ev) (he : e.Ok) (hc : e.kind = 3) (htx : e.text.length ≤ 4100) (hbl : e.bytes.length ≤ 3000) (va : Value) (w : World) (hyb : Byts w w.heap.size va e.bytes) :
    Calls Tryz.prog 15 #[.agg (evC e va).toArray] w (LinePost e va w) := by
  have hva := hyb.one
  have _ := htx
  have hyb := Lib.hid hyb
  have hA : (evC e va).toArray.size = 59 := rfl
  have a0 : (evC e va).toArray[0]'(by omega) = .int .u8 3 := by
    show Value.int .u8 (e.kind : Int) = _
    rw [hc]; rfl
  have HC := Lib.hid hc
  clear hc
  have hd1 := Lib.hid (fun W => digits_same he.client W)
  have hd2 := Lib.hid (fun W => digits_same he.n W)
  have z1 := itoa_size he.client
  have z2 := itoa_size he.n
  have z3 : (mkB (hexW e.bytes)).size ≤ 6001 := by rw [mkB_size]; exact hexW_len hbl
  go_enter Tryz.func15, Tryz.ntmps15
  go_upto_region 11 with (refine wpList_store_blk rfl 34 _ _ rfl (w.heap.size + 1 + 1) 0 34 (evC ev0 (.slice none 0 0)) (evC { ev0 with kind := 3 } (.slice none 0 0)) rfl (allocs_blk (lnObjs e va) w 2 _ _ rfl) rfl (by rw [evC_len, evC_len]; exact Nat.le_refl _) evC_size (evC_cells _ rfl) ?_; intro w1 b1 k1 z1; rw [setL_all (by rw [evC_len, evC_len])] at b1; have hm := LM.start (e := e) (va := va) b1 k1; clear b1 k1 z1; have c0 : w1.cell? ⟨w.heap.size, 0, none⟩ = some (.int .u8 3) := (hm.par.cell 0).trans (congrArg some a0); have c1 : w1.cell? ⟨w.heap.size, 1, none⟩ = some (.int .i64 e.client) := hm.par.cell 1; have c2 : w1.cell? ⟨w.heap.size, 2, none⟩ = some (.int .i64 e.n) := hm.par.cell 2; have o1 : w1.cell? ⟨w.heap.size + 1 + 1, 1, none⟩ = some (.int .i64 0) := hm.onl.cell 1; have o2 : w1.cell? ⟨w.heap.size + 1 + 1, 2, none⟩ = some (.int .i64 0) := hm.onl.cell 2; have of := hm.onl.frozen)
  go_upto_region 12 with (refine wpList_store_one rfl 3 _ _ rfl (w.heap.size + 1 + 1) 1 34 _ (.int .i64 e.client) (by rfl) hm.onl (by rfl) (by rw [evC_len]; omega) (by rfl) (storeVar_int _ _ _ _) ?_; intro w6 b6 k6 z6; have hm := LM.step (O' := evC { ev0 with kind := 3, client := e.client } (.slice none 0 0)) hm b6 k6 rfl; clear b6 k6 z6; simp only [Act.put])
  clear c0 c1 c2 o1 o2 of hA a0
  obtain ⟨o, ho⟩ : ∃ o : Ev, o = { ev0 with kind := 3, client := e.client } := ⟨_, rfl⟩
  obtain ⟨bo, hbo⟩ : ∃ b : Value, b = .slice none 0 0 := ⟨_, rfl⟩
  have HBO := Lib.hid (show bo.oneCell' = true by rw [hbo]; exact rfl)
  have hm := hm.is (O' := evC o bo) (by rw [ho, hbo])
  have HO := Lib.hid ho
  have HB := Lib.hid hbo
  clear ho hbo
  refine wp_region_held_drew (S := fun w' => ∃ r, LM e va w.heap.size w r (evC o bo) w') (by kernel_rfl) ⟨_, hm.quiet 1⟩ (fun hHeld => ?_)
  clear hm
  refine wpAnyH_take (i := 0) (v := ?v1) rfl (by kernel_rfl) (by kernel_rfl) (by kernel_rfl) (fun _ _ _ h => h) (Or.inl ⟨by rfl, ?hy1⟩) (by assumption) ?rest1
  case hy1 => (intro w' hSw; obtain ⟨_, hSw⟩ := hSw; have q1 : w'.cell? ⟨w.heap.size, 1, none⟩ = some (.int .i64 e.client) := hSw.par.cell 1; have q2 : w'.cell? ⟨w.heap.size, 2, none⟩ = some (.int .i64 e.n) := hSw.par.cell 2; have q3 : w'.cell? ⟨w.heap.size, 3, none⟩ = some (va) := hSw.par.cell 3; clear hSw; go_simp; try with_reducible rfl)
  case rest1 =>
  change wpAnyH _ _ _ _ _ _ _ (Act.put _ (some 51) _) _
  try simp only [Act.put, List.setIfInBounds_toArray, List.set_cons_zero, List.set_cons_succ]
  refine wpAnyH_take (i := 1) (v := ?v2) rfl (by kernel_rfl) (by kernel_rfl) (by kernel_rfl) (fun _ _ _ h => h) (Or.inl ⟨by rfl, ?hy2⟩) (by assumption) ?rest2
  case hy2 => (intro w' hSw; obtain ⟨_, hSw⟩ := hSw; have q1 : w'.cell? ⟨w.heap.size, 1, none⟩ = some (.int .i64 e.client) := hSw.par.cell 1; have q2 : w'.cell? ⟨w.heap.size, 2, none⟩ = some (.int .i64 e.n) := hSw.par.cell 2; have q3 : w'.cell? ⟨w.heap.size, 3, none⟩ = some (va) := hSw.par.cell 3; clear hSw; go_simp; try with_reducible rfl)
  case rest2 =>
  change wpAnyH _ _ _ _ _ _ _ (Act.put _ (some 52) _) _
  try simp only [Act.put, List.setIfInBounds_toArray, List.set_cons_zero, List.set_cons_succ]
  refine' wpAnyH_take (i := 4) (v := _) rfl (by kernel_rfl) (by kernel_rfl) (by kernel_rfl) (fun _ _ _ h => h) (yieldsIf_load_mid (by rfl) _ _ rfl _ _ rfl (evC o bo) _ (fun _ h => by obtain ⟨_, h⟩ := h; exact blk_range h.onl (evC_self o bo)) Tryz.underlying34 rfl evC_size) (by assumption) ?_
  change wpAnyH _ _ _ _ _ _ _ (Act.put _ (some 55) _) _
  try simp only [Act.put, List.setIfInBounds_toArray, List.set_cons_zero, List.set_cons_succ]
  refine wpAnyH_ready (rs := [2]) (by kernel_rfl) (by simp) ?_
  refine AllReadyH.cons rfl (fun K hK => ?_) AllReadyH.nil
  go_simp
  go_at_call 42
  first | (with_reducible refine (hd1.out _).mono ?_) | (with_reducible refine (hd2.out _).mono ?_)
  rintro e5 w5 ⟨rfl, rfl⟩
  refine hK.out _ _ (by assumption) (fun hHeld => ?_)
  clear hK K
  try change wpAnyH _ _ _ _ _ _ _ (Act.put _ (some 53) _) _
  try simp only [Act.put, List.setIfInBounds_toArray, List.set_cons_zero, List.set_cons_succ]
  refine wpAnyH_take (i := 3) (v := ?v3) rfl (by kernel_rfl) (by kernel_rfl) (by kernel_rfl) (fun _ _ _ h => h) (Or.inl ⟨by rfl, ?hy3⟩) (by assumption) ?rest3
  case hy3 => (intro w' hSw; obtain ⟨_, hSw⟩ := hSw; have q1 : w'.cell? ⟨w.heap.size, 1, none⟩ = some (.int .i64 e.client) := hSw.par.cell 1; have q2 : w'.cell? ⟨w.heap.size, 2, none⟩ = some (.int .i64 e.n) := hSw.par.cell 2; have q3 : w'.cell? ⟨w.heap.size, 3, none⟩ = some (va) := hSw.par.cell 3; clear hSw; go_simp; (rw [if_neg (by omega)]))
  case rest3 =>
  change wpAnyH _ _ _ _ _ _ _ (Act.put _ (some 54) _) _
  try simp only [Act.put, List.setIfInBounds_toArray, List.set_cons_zero, List.set_cons_succ]
  refine wpAnyH_take (i := 5) (v := ?v4) rfl (by kernel_rfl) (by kernel_rfl) (by kernel_rfl) (fun _ _ _ h => h) (Or.inl ⟨by rfl, ?hy4⟩) (by assumption) ?rest4
  case hy4 => (intro w' hSw; obtain ⟨_, hSw⟩ := hSw; have q1 : w'.cell? ⟨w.heap.size, 1, none⟩ = some (.int .i64 e.client) := hSw.par.cell 1; have q2 : w'.cell? ⟨w.heap.size, 2, none⟩ = some (.int .i64 e.n) := hSw.par.cell 2; have q3 : w'.cell? ⟨w.heap.size, 3, none⟩ = some (va) := hSw.par.cell 3; clear hSw; go_simp; try with_reducible rfl)
  case rest4 =>
  change wpAnyH _ _ _ _ _ _ _ (Act.put _ (some 2) _) _
  try simp only [Act.put, List.setIfInBounds_toArray, List.set_cons_zero, List.set_cons_succ]
  refine wpAnyH_ready (rs := [6]) (by kernel_rfl) (by simp) ?_
  refine AllReadyH.cons rfl (fun K hK => ?_) AllReadyH.nil
  obtain ⟨r, hr⟩ := hHeld
  refine step_store_blk (by rfl) 34 _ _ (by rfl) (w.heap.size + 1) 0 34 r (evC o bo) (by rfl) hr.res (by rfl) (by rw [hr.rl, evC_len]; exact Nat.le_refl _) evC_size (evC_cells _ HBO.out) ?_
  intro w6 b6 k6 z6
  have hr6 := LM.ans hr b6 k6
  clear b6 k6 z6 hr
  refine hK.out _ _ ⟨_, hr6⟩ (fun hHeld => ?_)
  clear hK K
  try change wpAnyH _ _ _ _ _ _ _ (Act.put _ (none) _) _
  try simp only [Act.put]
  refine wpAnyH_take (i := 7) (v := ?v5) rfl (by kernel_rfl) (by kernel_rfl) (by kernel_rfl) (fun _ _ _ h => h) (Or.inl ⟨by rfl, ?hy5⟩) (by assumption) ?rest5
  case hy5 => (intro w' hSw; obtain ⟨_, hSw⟩ := hSw; have q1 : w'.cell? ⟨w.heap.size, 1, none⟩ = some (.int .i64 e.client) := hSw.par.cell 1; have q2 : w'.cell? ⟨w.heap.size, 2, none⟩ = some (.int .i64 e.n) := hSw.par.cell 2; have q3 : w'.cell? ⟨w.heap.size, 3, none⟩ = some (va) := hSw.par.cell 3; clear hSw; go_simp; try with_reducible rfl)
  case rest5 =>
  change wpAnyH _ _ _ _ _ _ _ (Act.put _ (some 4) _) _
  try simp only [Act.put, List.setIfInBounds_toArray, List.set_cons_zero, List.set_cons_succ]
  refine wpAnyH_done (by kernel_rfl) ?_ _
  go_wp2_with fail
  refine bodyPost_ret (results_tct rfl _ _ (w.heap.size + 1) 34 (evC o bo).toArray (0, 0) _ rfl hr6.res Tryz.underlying34 rfl evC_size) rfl ?_
  have hc := HC.out
  exact LinePost.done (x := [108, 101, 97, 118, 101, 32] ++ Lib.itoa e.client) rfl hr6 (by rw [show ([108, 101, 97, 118, 101, 32] ++ Lib.itoa e.client : List UInt8) = [108, 101, 97, 118, 101, 32] ++ Lib.itoa e.client from by simp, ← mkB_append]; rfl) (by rw [HO.out]; unfold onlyR; simp [hc]; try rfl) rfl (by unfold isR; simp [hc]) (fun _ => by unfold wordsR; simp [hc, wordW, plainT, joinC]) (by have := itoa_size he.client; have := itoa_size he.n; simp only [mkB_size] at *; simp; omega) (Or.inl ⟨HB.out, by unfold onlyR; simp [hc]; rfl⟩)

set_option maxRecDepth 100000 in
set_option maxHeartbeats 8000000 in
theorem line4 (e : Ev) (he : e.Ok) (hc : e.kind = 4) (htx : e.text.length ≤ 4100) (hbl : e.bytes.length ≤ 3000) (va : Value) (w : World) (hyb : Byts w w.heap.size va e.bytes) :
    Calls Tryz.prog 15 #[.agg (evC e va).toArray] w (LinePost e va w) := by
  have hva := hyb.one
  have _ := htx
  have hyb := Lib.hid hyb
  have hA : (evC e va).toArray.size = 59 := rfl
  have a0 : (evC e va).toArray[0]'(by omega) = .int .u8 4 := by
    show Value.int .u8 (e.kind : Int) = _
    rw [hc]; rfl
  have HC := Lib.hid hc
  clear hc
  have hd1 := Lib.hid (fun W => digits_same he.client W)
  have hd2 := Lib.hid (fun W => digits_same he.n W)
  have z1 := itoa_size he.client
  have z2 := itoa_size he.n
  have z3 : (mkB (hexW e.bytes)).size ≤ 6001 := by rw [mkB_size]; exact hexW_len hbl
  go_enter Tryz.func15, Tryz.ntmps15
  go_upto_region 14 with (refine wpList_store_blk rfl 34 _ _ rfl (w.heap.size + 1 + 1) 0 34 (evC ev0 (.slice none 0 0)) (evC { ev0 with kind := 4 } (.slice none 0 0)) rfl (allocs_blk (lnObjs e va) w 2 _ _ rfl) rfl (by rw [evC_len, evC_len]; exact Nat.le_refl _) evC_size (evC_cells _ rfl) ?_; intro w1 b1 k1 z1; rw [setL_all (by rw [evC_len, evC_len])] at b1; have hm := LM.start (e := e) (va := va) b1 k1; clear b1 k1 z1; have c0 : w1.cell? ⟨w.heap.size, 0, none⟩ = some (.int .u8 4) := (hm.par.cell 0).trans (congrArg some a0); have c1 : w1.cell? ⟨w.heap.size, 1, none⟩ = some (.int .i64 e.client) := hm.par.cell 1; have c2 : w1.cell? ⟨w.heap.size, 2, none⟩ = some (.int .i64 e.n) := hm.par.cell 2; have o1 : w1.cell? ⟨w.heap.size + 1 + 1, 1, none⟩ = some (.int .i64 0) := hm.onl.cell 1; have o2 : w1.cell? ⟨w.heap.size + 1 + 1, 2, none⟩ = some (.int .i64 0) := hm.onl.cell 2; have of := hm.onl.frozen)
  clear c0 c1 c2 o1 o2 of hA a0
  obtain ⟨o, ho⟩ : ∃ o : Ev, o = { ev0 with kind := 4 } := ⟨_, rfl⟩
  obtain ⟨bo, hbo⟩ : ∃ b : Value, b = .slice none 0 0 := ⟨_, rfl⟩
  have HBO := Lib.hid (show bo.oneCell' = true by rw [hbo]; exact rfl)
  have hm := hm.is (O' := evC o bo) (by rw [ho, hbo])
  have HO := Lib.hid ho
  have HB := Lib.hid hbo
  clear ho hbo
  refine wp_region_held_drew (S := fun w' => ∃ r, LM e va w.heap.size w r (evC o bo) w') (by kernel_rfl) ⟨_, hm.quiet 1⟩ (fun hHeld => ?_)
  clear hm
  refine' wpAnyH_take (i := 0) (v := _) rfl (by kernel_rfl) (by kernel_rfl) (by kernel_rfl) (fun _ _ _ h => h) (yieldsIf_load_mid (by rfl) _ _ rfl _ _ rfl (evC o bo) _ (fun _ h => by obtain ⟨_, h⟩ := h; exact blk_range h.onl (evC_self o bo)) Tryz.underlying34 rfl evC_size) (by assumption) ?_
  change wpAnyH _ _ _ _ _ _ _ (Act.put _ (some 58) _) _
  try simp only [Act.put, List.setIfInBounds_toArray, List.set_cons_zero, List.set_cons_succ]
  refine wpAnyH_take (i := 1) (v := ?v1) rfl (by kernel_rfl) (by kernel_rfl) (by kernel_rfl) (fun _ _ _ h => h) (Or.inl ⟨by rfl, ?hy1⟩) (by assumption) ?rest1
  case hy1 => (intro w' hSw; obtain ⟨_, hSw⟩ := hSw; have q1 : w'.cell? ⟨w.heap.size, 1, none⟩ = some (.int .i64 e.client) := hSw.par.cell 1; have q2 : w'.cell? ⟨w.heap.size, 2, none⟩ = some (.int .i64 e.n) := hSw.par.cell 2; have q3 : w'.cell? ⟨w.heap.size, 3, none⟩ = some (va) := hSw.par.cell 3; clear hSw; go_simp; try with_reducible rfl)
  case rest1 =>
  change wpAnyH _ _ _ _ _ _ _ (Act.put _ (some 2) _) _
  try simp only [Act.put, List.setIfInBounds_toArray, List.set_cons_zero, List.set_cons_succ]
  refine wpAnyH_ready (rs := [2]) (by kernel_rfl) (by simp) ?_
  refine AllReadyH.cons rfl (fun K hK => ?_) AllReadyH.nil
  obtain ⟨r, hr⟩ := hHeld
  refine step_store_blk (by rfl) 34 _ _ (by rfl) (w.heap.size + 1) 0 34 r (evC o bo) (by rfl) hr.res (by rfl) (by rw [hr.rl, evC_len]; exact Nat.le_refl _) evC_size (evC_cells _ HBO.out) ?_
  intro w6 b6 k6 z6
  have hr6 := LM.ans hr b6 k6
  clear b6 k6 z6 hr
  refine hK.out _ _ ⟨_, hr6⟩ (fun hHeld => ?_)
  clear hK K
  try change wpAnyH _ _ _ _ _ _ _ (Act.put _ (none) _) _
  try simp only [Act.put]
  refine wpAnyH_take (i := 3) (v := ?v2) rfl (by kernel_rfl) (by kernel_rfl) (by kernel_rfl) (fun _ _ _ h => h) (Or.inl ⟨by rfl, ?hy2⟩) (by assumption) ?rest2
  case hy2 => (intro w' hSw; obtain ⟨_, hSw⟩ := hSw; have q1 : w'.cell? ⟨w.heap.size, 1, none⟩ = some (.int .i64 e.client) := hSw.par.cell 1; have q2 : w'.cell? ⟨w.heap.size, 2, none⟩ = some (.int .i64 e.n) := hSw.par.cell 2; have q3 : w'.cell? ⟨w.heap.size, 3, none⟩ = some (va) := hSw.par.cell 3; clear hSw; go_simp; try with_reducible rfl)
  case rest2 =>
  change wpAnyH _ _ _ _ _ _ _ (Act.put _ (some 4) _) _
  try simp only [Act.put, List.setIfInBounds_toArray, List.set_cons_zero, List.set_cons_succ]
  refine wpAnyH_done (by kernel_rfl) ?_ _
  go_wp2_with fail
  refine bodyPost_ret (results_tct rfl _ _ (w.heap.size + 1) 34 (evC o bo).toArray (0, 0) _ rfl hr6.res Tryz.underlying34 rfl evC_size) rfl ?_
  have hc := HC.out
  exact LinePost.done (x := [116, 105, 99, 107]) rfl hr6 rfl (by rw [HO.out]; unfold onlyR; simp [hc]; try rfl) rfl (by unfold isR; simp [hc]) (fun _ => by unfold wordsR; simp [hc, wordW, plainT, joinC]) (by simp) (Or.inl ⟨HB.out, by unfold onlyR; simp [hc]; rfl⟩)

set_option maxRecDepth 100000 in
set_option maxHeartbeats 8000000 in
theorem line5 (e : Ev) (he : e.Ok) (hc : e.kind = 5) (htx : e.text.length ≤ 4100) (hbl : e.bytes.length ≤ 3000) (va : Value) (w : World) (hyb : Byts w w.heap.size va e.bytes) :
    Calls Tryz.prog 15 #[.agg (evC e va).toArray] w (LinePost e va w) := by
  have hva := hyb.one
  have _ := htx
  have hyb := Lib.hid hyb
  have hA : (evC e va).toArray.size = 59 := rfl
  have a0 : (evC e va).toArray[0]'(by omega) = .int .u8 5 := by
    show Value.int .u8 (e.kind : Int) = _
    rw [hc]; rfl
  have HC := Lib.hid hc
  clear hc
  have hd1 := Lib.hid (fun W => digits_same he.client W)
  have hd2 := Lib.hid (fun W => digits_same he.n W)
  have z1 := itoa_size he.client
  have z2 := itoa_size he.n
  have z3 : (mkB (hexW e.bytes)).size ≤ 6001 := by rw [mkB_size]; exact hexW_len hbl
  go_enter Tryz.func15, Tryz.ntmps15
  go_upto_region 16 with (refine wpList_store_blk rfl 34 _ _ rfl (w.heap.size + 1 + 1) 0 34 (evC ev0 (.slice none 0 0)) (evC { ev0 with kind := 5 } (.slice none 0 0)) rfl (allocs_blk (lnObjs e va) w 2 _ _ rfl) rfl (by rw [evC_len, evC_len]; exact Nat.le_refl _) evC_size (evC_cells _ rfl) ?_; intro w1 b1 k1 z1; rw [setL_all (by rw [evC_len, evC_len])] at b1; have hm := LM.start (e := e) (va := va) b1 k1; clear b1 k1 z1; have c0 : w1.cell? ⟨w.heap.size, 0, none⟩ = some (.int .u8 5) := (hm.par.cell 0).trans (congrArg some a0); have c1 : w1.cell? ⟨w.heap.size, 1, none⟩ = some (.int .i64 e.client) := hm.par.cell 1; have c2 : w1.cell? ⟨w.heap.size, 2, none⟩ = some (.int .i64 e.n) := hm.par.cell 2; have o1 : w1.cell? ⟨w.heap.size + 1 + 1, 1, none⟩ = some (.int .i64 0) := hm.onl.cell 1; have o2 : w1.cell? ⟨w.heap.size + 1 + 1, 2, none⟩ = some (.int .i64 0) := hm.onl.cell 2; have of := hm.onl.frozen)
  go_upto_region 17 with (refine wpList_store_one rfl 3 _ _ rfl (w.heap.size + 1 + 1) 2 34 _ (.int .i64 e.n) (by rfl) hm.onl (by rfl) (by rw [evC_len]; omega) (by rfl) (storeVar_int _ _ _ _) ?_; intro w6 b6 k6 z6; have hm := LM.step (O' := evC { ev0 with kind := 5, n := e.n } (.slice none 0 0)) hm b6 k6 rfl; clear b6 k6 z6; simp only [Act.put])
  clear c0 c1 c2 o1 o2 of hA a0
  obtain ⟨o, ho⟩ : ∃ o : Ev, o = { ev0 with kind := 5, n := e.n } := ⟨_, rfl⟩
  obtain ⟨bo, hbo⟩ : ∃ b : Value, b = .slice none 0 0 := ⟨_, rfl⟩
  have HBO := Lib.hid (show bo.oneCell' = true by rw [hbo]; exact rfl)
  have hm := hm.is (O' := evC o bo) (by rw [ho, hbo])
  have HO := Lib.hid ho
  have HB := Lib.hid hbo
  clear ho hbo
  refine wp_region_held_drew (S := fun w' => ∃ r, LM e va w.heap.size w r (evC o bo) w') (by kernel_rfl) ⟨_, hm.quiet 1⟩ (fun hHeld => ?_)
  clear hm
  refine wpAnyH_take (i := 0) (v := ?v1) rfl (by kernel_rfl) (by kernel_rfl) (by kernel_rfl) (fun _ _ _ h => h) (Or.inl ⟨by rfl, ?hy1⟩) (by assumption) ?rest1
  case hy1 => (intro w' hSw; obtain ⟨_, hSw⟩ := hSw; have q1 : w'.cell? ⟨w.heap.size, 1, none⟩ = some (.int .i64 e.client) := hSw.par.cell 1; have q2 : w'.cell? ⟨w.heap.size, 2, none⟩ = some (.int .i64 e.n) := hSw.par.cell 2; have q3 : w'.cell? ⟨w.heap.size, 3, none⟩ = some (va) := hSw.par.cell 3; clear hSw; go_simp; try with_reducible rfl)
  case rest1 =>
  change wpAnyH _ _ _ _ _ _ _ (Act.put _ (some 64) _) _
  try simp only [Act.put, List.setIfInBounds_toArray, List.set_cons_zero, List.set_cons_succ]
  refine wpAnyH_take (i := 1) (v := ?v2) rfl (by kernel_rfl) (by kernel_rfl) (by kernel_rfl) (fun _ _ _ h => h) (Or.inl ⟨by rfl, ?hy2⟩) (by assumption) ?rest2
  case hy2 => (intro w' hSw; obtain ⟨_, hSw⟩ := hSw; have q1 : w'.cell? ⟨w.heap.size, 1, none⟩ = some (.int .i64 e.client) := hSw.par.cell 1; have q2 : w'.cell? ⟨w.heap.size, 2, none⟩ = some (.int .i64 e.n) := hSw.par.cell 2; have q3 : w'.cell? ⟨w.heap.size, 3, none⟩ = some (va) := hSw.par.cell 3; clear hSw; go_simp; try with_reducible rfl)
  case rest2 =>
  change wpAnyH _ _ _ _ _ _ _ (Act.put _ (some 65) _) _
  try simp only [Act.put, List.setIfInBounds_toArray, List.set_cons_zero, List.set_cons_succ]
  refine' wpAnyH_take (i := 4) (v := _) rfl (by kernel_rfl) (by kernel_rfl) (by kernel_rfl) (fun _ _ _ h => h) (yieldsIf_load_mid (by rfl) _ _ rfl _ _ rfl (evC o bo) _ (fun _ h => by obtain ⟨_, h⟩ := h; exact blk_range h.onl (evC_self o bo)) Tryz.underlying34 rfl evC_size) (by assumption) ?_
  change wpAnyH _ _ _ _ _ _ _ (Act.put _ (some 68) _) _
  try simp only [Act.put, List.setIfInBounds_toArray, List.set_cons_zero, List.set_cons_succ]
  refine wpAnyH_ready (rs := [2]) (by kernel_rfl) (by simp) ?_
  refine AllReadyH.cons rfl (fun K hK => ?_) AllReadyH.nil
  go_simp
  go_at_call 42
  first | (with_reducible refine (hd1.out _).mono ?_) | (with_reducible refine (hd2.out _).mono ?_)
  rintro e5 w5 ⟨rfl, rfl⟩
  refine hK.out _ _ (by assumption) (fun hHeld => ?_)
  clear hK K
  try change wpAnyH _ _ _ _ _ _ _ (Act.put _ (some 66) _) _
  try simp only [Act.put, List.setIfInBounds_toArray, List.set_cons_zero, List.set_cons_succ]
  refine wpAnyH_take (i := 3) (v := ?v3) rfl (by kernel_rfl) (by kernel_rfl) (by kernel_rfl) (fun _ _ _ h => h) (Or.inl ⟨by rfl, ?hy3⟩) (by assumption) ?rest3
  case hy3 => (intro w' hSw; obtain ⟨_, hSw⟩ := hSw; have q1 : w'.cell? ⟨w.heap.size, 1, none⟩ = some (.int .i64 e.client) := hSw.par.cell 1; have q2 : w'.cell? ⟨w.heap.size, 2, none⟩ = some (.int .i64 e.n) := hSw.par.cell 2; have q3 : w'.cell? ⟨w.heap.size, 3, none⟩ = some (va) := hSw.par.cell 3; clear hSw; go_simp; (rw [if_neg (by omega)]))
  case rest3 =>
  change wpAnyH _ _ _ _ _ _ _ (Act.put _ (some 67) _) _
  try simp only [Act.put, List.setIfInBounds_toArray, List.set_cons_zero, List.set_cons_succ]
  refine wpAnyH_take (i := 5) (v := ?v4) rfl (by kernel_rfl) (by kernel_rfl) (by kernel_rfl) (fun _ _ _ h => h) (Or.inl ⟨by rfl, ?hy4⟩) (by assumption) ?rest4
  case hy4 => (intro w' hSw; obtain ⟨_, hSw⟩ := hSw; have q1 : w'.cell? ⟨w.heap.size, 1, none⟩ = some (.int .i64 e.client) := hSw.par.cell 1; have q2 : w'.cell? ⟨w.heap.size, 2, none⟩ = some (.int .i64 e.n) := hSw.par.cell 2; have q3 : w'.cell? ⟨w.heap.size, 3, none⟩ = some (va) := hSw.par.cell 3; clear hSw; go_simp; try with_reducible rfl)
  case rest4 =>
  change wpAnyH _ _ _ _ _ _ _ (Act.put _ (some 2) _) _
  try simp only [Act.put, List.setIfInBounds_toArray, List.set_cons_zero, List.set_cons_succ]
  refine wpAnyH_ready (rs := [6]) (by kernel_rfl) (by simp) ?_
  refine AllReadyH.cons rfl (fun K hK => ?_) AllReadyH.nil
  obtain ⟨r, hr⟩ := hHeld
  refine step_store_blk (by rfl) 34 _ _ (by rfl) (w.heap.size + 1) 0 34 r (evC o bo) (by rfl) hr.res (by rfl) (by rw [hr.rl, evC_len]; exact Nat.le_refl _) evC_size (evC_cells _ HBO.out) ?_
  intro w6 b6 k6 z6
  have hr6 := LM.ans hr b6 k6
  clear b6 k6 z6 hr
  refine hK.out _ _ ⟨_, hr6⟩ (fun hHeld => ?_)
  clear hK K
  try change wpAnyH _ _ _ _ _ _ _ (Act.put _ (none) _) _
  try simp only [Act.put]
  refine wpAnyH_take (i := 7) (v := ?v5) rfl (by kernel_rfl) (by kernel_rfl) (by kernel_rfl) (fun _ _ _ h => h) (Or.inl ⟨by rfl, ?hy5⟩) (by assumption) ?rest5
  case hy5 => (intro w' hSw; obtain ⟨_, hSw⟩ := hSw; have q1 : w'.cell? ⟨w.heap.size, 1, none⟩ = some (.int .i64 e.client) := hSw.par.cell 1; have q2 : w'.cell? ⟨w.heap.size, 2, none⟩ = some (.int .i64 e.n) := hSw.par.cell 2; have q3 : w'.cell? ⟨w.heap.size, 3, none⟩ = some (va) := hSw.par.cell 3; clear hSw; go_simp; try with_reducible rfl)
  case rest5 =>
  change wpAnyH _ _ _ _ _ _ _ (Act.put _ (some 4) _) _
  try simp only [Act.put, List.setIfInBounds_toArray, List.set_cons_zero, List.set_cons_succ]
  refine wpAnyH_done (by kernel_rfl) ?_ _
  go_wp2_with fail
  refine bodyPost_ret (results_tct rfl _ _ (w.heap.size + 1) 34 (evC o bo).toArray (0, 0) _ rfl hr6.res Tryz.underlying34 rfl evC_size) rfl ?_
  have hc := HC.out
  exact LinePost.done (x := [100, 101, 108, 105, 118, 101, 114, 32] ++ Lib.itoa e.n) rfl hr6 (by rw [show ([100, 101, 108, 105, 118, 101, 114, 32] ++ Lib.itoa e.n : List UInt8) = [100, 101, 108, 105, 118, 101, 114, 32] ++ Lib.itoa e.n from by simp, ← mkB_append]; rfl) (by rw [HO.out]; unfold onlyR; simp [hc]; try rfl) rfl (by unfold isR; simp [hc]) (fun _ => by unfold wordsR; simp [hc, wordW, plainT, joinC]) (by have := itoa_size he.client; have := itoa_size he.n; simp only [mkB_size] at *; simp; omega) (Or.inl ⟨HB.out, by unfold onlyR; simp [hc]; rfl⟩)

set_option maxRecDepth 100000 in
set_option maxHeartbeats 8000000 in
theorem line6 (e : Ev) (he : e.Ok) (hc : e.kind = 6) (htx : e.text.length ≤ 4100) (hbl : e.bytes.length ≤ 3000) (va : Value) (w : World) (hyb : Byts w w.heap.size va e.bytes) :
    Calls Tryz.prog 15 #[.agg (evC e va).toArray] w (LinePost e va w) := by
  have hva := hyb.one
  have _ := htx
  have hyb := Lib.hid hyb
  have hA : (evC e va).toArray.size = 59 := rfl
  have a0 : (evC e va).toArray[0]'(by omega) = .int .u8 6 := by
    show Value.int .u8 (e.kind : Int) = _
    rw [hc]; rfl
  have HC := Lib.hid hc
  clear hc
  have hd1 := Lib.hid (fun W => digits_same he.client W)
  have hd2 := Lib.hid (fun W => digits_same he.n W)
  have z1 := itoa_size he.client
  have z2 := itoa_size he.n
  have z3 : (mkB (hexW e.bytes)).size ≤ 6001 := by rw [mkB_size]; exact hexW_len hbl
  go_enter Tryz.func15, Tryz.ntmps15
  go_upto_region 19 with (refine wpList_store_blk rfl 34 _ _ rfl (w.heap.size + 1 + 1) 0 34 (evC ev0 (.slice none 0 0)) (evC { ev0 with kind := 6 } (.slice none 0 0)) rfl (allocs_blk (lnObjs e va) w 2 _ _ rfl) rfl (by rw [evC_len, evC_len]; exact Nat.le_refl _) evC_size (evC_cells _ rfl) ?_; intro w1 b1 k1 z1; rw [setL_all (by rw [evC_len, evC_len])] at b1; have hm := LM.start (e := e) (va := va) b1 k1; clear b1 k1 z1; have c0 : w1.cell? ⟨w.heap.size, 0, none⟩ = some (.int .u8 6) := (hm.par.cell 0).trans (congrArg some a0); have c1 : w1.cell? ⟨w.heap.size, 1, none⟩ = some (.int .i64 e.client) := hm.par.cell 1; have c2 : w1.cell? ⟨w.heap.size, 2, none⟩ = some (.int .i64 e.n) := hm.par.cell 2; have o1 : w1.cell? ⟨w.heap.size + 1 + 1, 1, none⟩ = some (.int .i64 0) := hm.onl.cell 1; have o2 : w1.cell? ⟨w.heap.size + 1 + 1, 2, none⟩ = some (.int .i64 0) := hm.onl.cell 2; have of := hm.onl.frozen)
  go_upto_region 20 with (refine wpList_store_one rfl 3 _ _ rfl (w.heap.size + 1 + 1) 2 34 _ (.int .i64 e.n) (by rfl) hm.onl (by rfl) (by rw [evC_len]; omega) (by rfl) (storeVar_int _ _ _ _) ?_; intro w6 b6 k6 z6; have hm := LM.step (O' := evC { ev0 with kind := 6, n := e.n } (.slice none 0 0)) hm b6 k6 rfl; clear b6 k6 z6; simp only [Act.put])
  clear c0 c1 c2 o1 o2 of hA a0
  obtain ⟨o, ho⟩ : ∃ o : Ev, o = { ev0 with kind := 6, n := e.n } := ⟨_, rfl⟩
  obtain ⟨bo, hbo⟩ : ∃ b : Value, b = .slice none 0 0 := ⟨_, rfl⟩
  have HBO := Lib.hid (show bo.oneCell' = true by rw [hbo]; exact rfl)
  have hm := hm.is (O' := evC o bo) (by rw [ho, hbo])
  have HO := Lib.hid ho
  have HB := Lib.hid hbo
  clear ho hbo
  refine wp_region_held_drew (S := fun w' => ∃ r, LM e va w.heap.size w r (evC o bo) w') (by kernel_rfl) ⟨_, hm.quiet 1⟩ (fun hHeld => ?_)
  clear hm
  refine wpAnyH_take (i := 0) (v := ?v1) rfl (by kernel_rfl) (by kernel_rfl) (by kernel_rfl) (fun _ _ _ h => h) (Or.inl ⟨by rfl, ?hy1⟩) (by assumption) ?rest1
  case hy1 => (intro w' hSw; obtain ⟨_, hSw⟩ := hSw; have q1 : w'.cell? ⟨w.heap.size, 1, none⟩ = some (.int .i64 e.client) := hSw.par.cell 1; have q2 : w'.cell? ⟨w.heap.size, 2, none⟩ = some (.int .i64 e.n) := hSw.par.cell 2; have q3 : w'.cell? ⟨w.heap.size, 3, none⟩ = some (va) := hSw.par.cell 3; clear hSw; go_simp; try with_reducible rfl)
  case rest1 =>
  change wpAnyH _ _ _ _ _ _ _ (Act.put _ (some 74) _) _
  try simp only [Act.put, List.setIfInBounds_toArray, List.set_cons_zero, List.set_cons_succ]
  refine wpAnyH_take (i := 1) (v := ?v2) rfl (by kernel_rfl) (by kernel_rfl) (by kernel_rfl) (fun _ _ _ h => h) (Or.inl ⟨by rfl, ?hy2⟩) (by assumption) ?rest2
  case hy2 => (intro w' hSw; obtain ⟨_, hSw⟩ := hSw; have q1 : w'.cell? ⟨w.heap.size, 1, none⟩ = some (.int .i64 e.client) := hSw.par.cell 1; have q2 : w'.cell? ⟨w.heap.size, 2, none⟩ = some (.int .i64 e.n) := hSw.par.cell 2; have q3 : w'.cell? ⟨w.heap.size, 3, none⟩ = some (va) := hSw.par.cell 3; clear hSw; go_simp; try with_reducible rfl)
  case rest2 =>
  change wpAnyH _ _ _ _ _ _ _ (Act.put _ (some 75) _) _
  try simp only [Act.put, List.setIfInBounds_toArray, List.set_cons_zero, List.set_cons_succ]
  refine' wpAnyH_take (i := 4) (v := _) rfl (by kernel_rfl) (by kernel_rfl) (by kernel_rfl) (fun _ _ _ h => h) (yieldsIf_load_mid (by rfl) _ _ rfl _ _ rfl (evC o bo) _ (fun _ h => by obtain ⟨_, h⟩ := h; exact blk_range h.onl (evC_self o bo)) Tryz.underlying34 rfl evC_size) (by assumption) ?_
  change wpAnyH _ _ _ _ _ _ _ (Act.put _ (some 78) _) _
  try simp only [Act.put, List.setIfInBounds_toArray, List.set_cons_zero, List.set_cons_succ]
  refine wpAnyH_ready (rs := [2]) (by kernel_rfl) (by simp) ?_
  refine AllReadyH.cons rfl (fun K hK => ?_) AllReadyH.nil
  go_simp
  go_at_call 42
  first | (with_reducible refine (hd1.out _).mono ?_) | (with_reducible refine (hd2.out _).mono ?_)
  rintro e5 w5 ⟨rfl, rfl⟩
  refine hK.out _ _ (by assumption) (fun hHeld => ?_)
  clear hK K
  try change wpAnyH _ _ _ _ _ _ _ (Act.put _ (some 76) _) _
  try simp only [Act.put, List.setIfInBounds_toArray, List.set_cons_zero, List.set_cons_succ]
  refine wpAnyH_take (i := 3) (v := ?v3) rfl (by kernel_rfl) (by kernel_rfl) (by kernel_rfl) (fun _ _ _ h => h) (Or.inl ⟨by rfl, ?hy3⟩) (by assumption) ?rest3
  case hy3 => (intro w' hSw; obtain ⟨_, hSw⟩ := hSw; have q1 : w'.cell? ⟨w.heap.size, 1, none⟩ = some (.int .i64 e.client) := hSw.par.cell 1; have q2 : w'.cell? ⟨w.heap.size, 2, none⟩ = some (.int .i64 e.n) := hSw.par.cell 2; have q3 : w'.cell? ⟨w.heap.size, 3, none⟩ = some (va) := hSw.par.cell 3; clear hSw; go_simp; (rw [if_neg (by omega)]))
  case rest3 =>
  change wpAnyH _ _ _ _ _ _ _ (Act.put _ (some 77) _) _
  try simp only [Act.put, List.setIfInBounds_toArray, List.set_cons_zero, List.set_cons_succ]
  refine wpAnyH_take (i := 5) (v := ?v4) rfl (by kernel_rfl) (by kernel_rfl) (by kernel_rfl) (fun _ _ _ h => h) (Or.inl ⟨by rfl, ?hy4⟩) (by assumption) ?rest4
  case hy4 => (intro w' hSw; obtain ⟨_, hSw⟩ := hSw; have q1 : w'.cell? ⟨w.heap.size, 1, none⟩ = some (.int .i64 e.client) := hSw.par.cell 1; have q2 : w'.cell? ⟨w.heap.size, 2, none⟩ = some (.int .i64 e.n) := hSw.par.cell 2; have q3 : w'.cell? ⟨w.heap.size, 3, none⟩ = some (va) := hSw.par.cell 3; clear hSw; go_simp; try with_reducible rfl)
  case rest4 =>
  change wpAnyH _ _ _ _ _ _ _ (Act.put _ (some 2) _) _
  try simp only [Act.put, List.setIfInBounds_toArray, List.set_cons_zero, List.set_cons_succ]
  refine wpAnyH_ready (rs := [6]) (by kernel_rfl) (by simp) ?_
  refine AllReadyH.cons rfl (fun K hK => ?_) AllReadyH.nil
  obtain ⟨r, hr⟩ := hHeld
  refine step_store_blk (by rfl) 34 _ _ (by rfl) (w.heap.size + 1) 0 34 r (evC o bo) (by rfl) hr.res (by rfl) (by rw [hr.rl, evC_len]; exact Nat.le_refl _) evC_size (evC_cells _ HBO.out) ?_
  intro w6 b6 k6 z6
  have hr6 := LM.ans hr b6 k6
  clear b6 k6 z6 hr
  refine hK.out _ _ ⟨_, hr6⟩ (fun hHeld => ?_)
  clear hK K
  try change wpAnyH _ _ _ _ _ _ _ (Act.put _ (none) _) _
  try simp only [Act.put]
  refine wpAnyH_take (i := 7) (v := ?v5) rfl (by kernel_rfl) (by kernel_rfl) (by kernel_rfl) (fun _ _ _ h => h) (Or.inl ⟨by rfl, ?hy5⟩) (by assumption) ?rest5
  case hy5 => (intro w' hSw; obtain ⟨_, hSw⟩ := hSw; have q1 : w'.cell? ⟨w.heap.size, 1, none⟩ = some (.int .i64 e.client) := hSw.par.cell 1; have q2 : w'.cell? ⟨w.heap.size, 2, none⟩ = some (.int .i64 e.n) := hSw.par.cell 2; have q3 : w'.cell? ⟨w.heap.size, 3, none⟩ = some (va) := hSw.par.cell 3; clear hSw; go_simp; try with_reducible rfl)
  case rest5 =>
  change wpAnyH _ _ _ _ _ _ _ (Act.put _ (some 4) _) _
  try simp only [Act.put, List.setIfInBounds_toArray, List.set_cons_zero, List.set_cons_succ]
  refine wpAnyH_done (by kernel_rfl) ?_ _
  go_wp2_with fail
  refine bodyPost_ret (results_tct rfl _ _ (w.heap.size + 1) 34 (evC o bo).toArray (0, 0) _ rfl hr6.res Tryz.underlying34 rfl evC_size) rfl ?_
  have hc := HC.out
  exact LinePost.done (x := [100, 114, 111, 112, 32] ++ Lib.itoa e.n) rfl hr6 (by rw [show ([100, 114, 111, 112, 32] ++ Lib.itoa e.n : List UInt8) = [100, 114, 111, 112, 32] ++ Lib.itoa e.n from by simp, ← mkB_append]; rfl) (by rw [HO.out]; unfold onlyR; simp [hc]; try rfl) rfl (by unfold isR; simp [hc]) (fun _ => by unfold wordsR; simp [hc, wordW, plainT, joinC]) (by have := itoa_size he.client; have := itoa_size he.n; simp only [mkB_size] at *; simp; omega) (Or.inl ⟨HB.out, by unfold onlyR; simp [hc]; rfl⟩)

set_option maxRecDepth 100000 in
set_option maxHeartbeats 8000000 in
theorem line7 (e : Ev) (he : e.Ok) (hc : e.kind = 7) (htx : e.text.length ≤ 4100) (hbl : e.bytes.length ≤ 3000) (va : Value) (w : World) (hyb : Byts w w.heap.size va e.bytes) :
    Calls Tryz.prog 15 #[.agg (evC e va).toArray] w (LinePost e va w) := by
  have hva := hyb.one
  have _ := htx
  have hyb := Lib.hid hyb
  have hA : (evC e va).toArray.size = 59 := rfl
  have a0 : (evC e va).toArray[0]'(by omega) = .int .u8 7 := by
    show Value.int .u8 (e.kind : Int) = _
    rw [hc]; rfl
  have HC := Lib.hid hc
  clear hc
  have hd1 := Lib.hid (fun W => digits_same he.client W)
  have hd2 := Lib.hid (fun W => digits_same he.n W)
  have z1 := itoa_size he.client
  have z2 := itoa_size he.n
  have z3 : (mkB (hexW e.bytes)).size ≤ 6001 := by rw [mkB_size]; exact hexW_len hbl
  go_enter Tryz.func15, Tryz.ntmps15
  go_upto_region 22 with (refine wpList_store_blk rfl 34 _ _ rfl (w.heap.size + 1 + 1) 0 34 (evC ev0 (.slice none 0 0)) (evC { ev0 with kind := 7 } (.slice none 0 0)) rfl (allocs_blk (lnObjs e va) w 2 _ _ rfl) rfl (by rw [evC_len, evC_len]; exact Nat.le_refl _) evC_size (evC_cells _ rfl) ?_; intro w1 b1 k1 z1; rw [setL_all (by rw [evC_len, evC_len])] at b1; have hm := LM.start (e := e) (va := va) b1 k1; clear b1 k1 z1; have c0 : w1.cell? ⟨w.heap.size, 0, none⟩ = some (.int .u8 7) := (hm.par.cell 0).trans (congrArg some a0); have c1 : w1.cell? ⟨w.heap.size, 1, none⟩ = some (.int .i64 e.client) := hm.par.cell 1; have c2 : w1.cell? ⟨w.heap.size, 2, none⟩ = some (.int .i64 e.n) := hm.par.cell 2; have o1 : w1.cell? ⟨w.heap.size + 1 + 1, 1, none⟩ = some (.int .i64 0) := hm.onl.cell 1; have o2 : w1.cell? ⟨w.heap.size + 1 + 1, 2, none⟩ = some (.int .i64 0) := hm.onl.cell 2; have of := hm.onl.frozen)
  go_upto_region 23 with (refine wpList_store_one rfl 3 _ _ rfl (w.heap.size + 1 + 1) 2 34 _ (.int .i64 e.n) (by rfl) hm.onl (by rfl) (by rw [evC_len]; omega) (by rfl) (storeVar_int _ _ _ _) ?_; intro w6 b6 k6 z6; have hm := LM.step (O' := evC { ev0 with kind := 7, n := e.n } (.slice none 0 0)) hm b6 k6 rfl; clear b6 k6 z6; simp only [Act.put])
  clear c0 c1 c2 o1 o2 of hA a0
  obtain ⟨o, ho⟩ : ∃ o : Ev, o = { ev0 with kind := 7, n := e.n } := ⟨_, rfl⟩
  obtain ⟨bo, hbo⟩ : ∃ b : Value, b = .slice none 0 0 := ⟨_, rfl⟩
  have HBO := Lib.hid (show bo.oneCell' = true by rw [hbo]; exact rfl)
  have hm := hm.is (O' := evC o bo) (by rw [ho, hbo])
  have HO := Lib.hid ho
  have HB := Lib.hid hbo
  clear ho hbo
  refine wp_region_held_drew (S := fun w' => ∃ r, LM e va w.heap.size w r (evC o bo) w') (by kernel_rfl) ⟨_, hm.quiet 1⟩ (fun hHeld => ?_)
  clear hm
  refine wpAnyH_take (i := 0) (v := ?v1) rfl (by kernel_rfl) (by kernel_rfl) (by kernel_rfl) (fun _ _ _ h => h) (Or.inl ⟨by rfl, ?hy1⟩) (by assumption) ?rest1
  case hy1 => (intro w' hSw; obtain ⟨_, hSw⟩ := hSw; have q1 : w'.cell? ⟨w.heap.size, 1, none⟩ = some (.int .i64 e.client) := hSw.par.cell 1; have q2 : w'.cell? ⟨w.heap.size, 2, none⟩ = some (.int .i64 e.n) := hSw.par.cell 2; have q3 : w'.cell? ⟨w.heap.size, 3, none⟩ = some (va) := hSw.par.cell 3; clear hSw; go_simp; try with_reducible rfl)
  case rest1 =>
  change wpAnyH _ _ _ _ _ _ _ (Act.put _ (some 84) _) _
  try simp only [Act.put, List.setIfInBounds_toArray, List.set_cons_zero, List.set_cons_succ]
  refine wpAnyH_take (i := 1) (v := ?v2) rfl (by kernel_rfl) (by kernel_rfl) (by kernel_rfl) (fun _ _ _ h => h) (Or.inl ⟨by rfl, ?hy2⟩) (by assumption) ?rest2
  case hy2 => (intro w' hSw; obtain ⟨_, hSw⟩ := hSw; have q1 : w'.cell? ⟨w.heap.size, 1, none⟩ = some (.int .i64 e.client) := hSw.par.cell 1; have q2 : w'.cell? ⟨w.heap.size, 2, none⟩ = some (.int .i64 e.n) := hSw.par.cell 2; have q3 : w'.cell? ⟨w.heap.size, 3, none⟩ = some (va) := hSw.par.cell 3; clear hSw; go_simp; try with_reducible rfl)
  case rest2 =>
  change wpAnyH _ _ _ _ _ _ _ (Act.put _ (some 85) _) _
  try simp only [Act.put, List.setIfInBounds_toArray, List.set_cons_zero, List.set_cons_succ]
  refine' wpAnyH_take (i := 4) (v := _) rfl (by kernel_rfl) (by kernel_rfl) (by kernel_rfl) (fun _ _ _ h => h) (yieldsIf_load_mid (by rfl) _ _ rfl _ _ rfl (evC o bo) _ (fun _ h => by obtain ⟨_, h⟩ := h; exact blk_range h.onl (evC_self o bo)) Tryz.underlying34 rfl evC_size) (by assumption) ?_
  change wpAnyH _ _ _ _ _ _ _ (Act.put _ (some 88) _) _
  try simp only [Act.put, List.setIfInBounds_toArray, List.set_cons_zero, List.set_cons_succ]
  refine wpAnyH_ready (rs := [2]) (by kernel_rfl) (by simp) ?_
  refine AllReadyH.cons rfl (fun K hK => ?_) AllReadyH.nil
  go_simp
  go_at_call 42
  first | (with_reducible refine (hd1.out _).mono ?_) | (with_reducible refine (hd2.out _).mono ?_)
  rintro e5 w5 ⟨rfl, rfl⟩
  refine hK.out _ _ (by assumption) (fun hHeld => ?_)
  clear hK K
  try change wpAnyH _ _ _ _ _ _ _ (Act.put _ (some 86) _) _
  try simp only [Act.put, List.setIfInBounds_toArray, List.set_cons_zero, List.set_cons_succ]
  refine wpAnyH_take (i := 3) (v := ?v3) rfl (by kernel_rfl) (by kernel_rfl) (by kernel_rfl) (fun _ _ _ h => h) (Or.inl ⟨by rfl, ?hy3⟩) (by assumption) ?rest3
  case hy3 => (intro w' hSw; obtain ⟨_, hSw⟩ := hSw; have q1 : w'.cell? ⟨w.heap.size, 1, none⟩ = some (.int .i64 e.client) := hSw.par.cell 1; have q2 : w'.cell? ⟨w.heap.size, 2, none⟩ = some (.int .i64 e.n) := hSw.par.cell 2; have q3 : w'.cell? ⟨w.heap.size, 3, none⟩ = some (va) := hSw.par.cell 3; clear hSw; go_simp; (rw [if_neg (by omega)]))
  case rest3 =>
  change wpAnyH _ _ _ _ _ _ _ (Act.put _ (some 87) _) _
  try simp only [Act.put, List.setIfInBounds_toArray, List.set_cons_zero, List.set_cons_succ]
  refine wpAnyH_take (i := 5) (v := ?v4) rfl (by kernel_rfl) (by kernel_rfl) (by kernel_rfl) (fun _ _ _ h => h) (Or.inl ⟨by rfl, ?hy4⟩) (by assumption) ?rest4
  case hy4 => (intro w' hSw; obtain ⟨_, hSw⟩ := hSw; have q1 : w'.cell? ⟨w.heap.size, 1, none⟩ = some (.int .i64 e.client) := hSw.par.cell 1; have q2 : w'.cell? ⟨w.heap.size, 2, none⟩ = some (.int .i64 e.n) := hSw.par.cell 2; have q3 : w'.cell? ⟨w.heap.size, 3, none⟩ = some (va) := hSw.par.cell 3; clear hSw; go_simp; try with_reducible rfl)
  case rest4 =>
  change wpAnyH _ _ _ _ _ _ _ (Act.put _ (some 2) _) _
  try simp only [Act.put, List.setIfInBounds_toArray, List.set_cons_zero, List.set_cons_succ]
  refine wpAnyH_ready (rs := [6]) (by kernel_rfl) (by simp) ?_
  refine AllReadyH.cons rfl (fun K hK => ?_) AllReadyH.nil
  obtain ⟨r, hr⟩ := hHeld
  refine step_store_blk (by rfl) 34 _ _ (by rfl) (w.heap.size + 1) 0 34 r (evC o bo) (by rfl) hr.res (by rfl) (by rw [hr.rl, evC_len]; exact Nat.le_refl _) evC_size (evC_cells _ HBO.out) ?_
  intro w6 b6 k6 z6
  have hr6 := LM.ans hr b6 k6
  clear b6 k6 z6 hr
  refine hK.out _ _ ⟨_, hr6⟩ (fun hHeld => ?_)
  clear hK K
  try change wpAnyH _ _ _ _ _ _ _ (Act.put _ (none) _) _
  try simp only [Act.put]
  refine wpAnyH_take (i := 7) (v := ?v5) rfl (by kernel_rfl) (by kernel_rfl) (by kernel_rfl) (fun _ _ _ h => h) (Or.inl ⟨by rfl, ?hy5⟩) (by assumption) ?rest5
  case hy5 => (intro w' hSw; obtain ⟨_, hSw⟩ := hSw; have q1 : w'.cell? ⟨w.heap.size, 1, none⟩ = some (.int .i64 e.client) := hSw.par.cell 1; have q2 : w'.cell? ⟨w.heap.size, 2, none⟩ = some (.int .i64 e.n) := hSw.par.cell 2; have q3 : w'.cell? ⟨w.heap.size, 3, none⟩ = some (va) := hSw.par.cell 3; clear hSw; go_simp; try with_reducible rfl)
  case rest5 =>
  change wpAnyH _ _ _ _ _ _ _ (Act.put _ (some 4) _) _
  try simp only [Act.put, List.setIfInBounds_toArray, List.set_cons_zero, List.set_cons_succ]
  refine wpAnyH_done (by kernel_rfl) ?_ _
  go_wp2_with fail
  refine bodyPost_ret (results_tct rfl _ _ (w.heap.size + 1) 34 (evC o bo).toArray (0, 0) _ rfl hr6.res Tryz.underlying34 rfl evC_size) rfl ?_
  have hc := HC.out
  exact LinePost.done (x := [99, 111, 112, 121, 32] ++ Lib.itoa e.n) rfl hr6 (by rw [show ([99, 111, 112, 121, 32] ++ Lib.itoa e.n : List UInt8) = [99, 111, 112, 121, 32] ++ Lib.itoa e.n from by simp, ← mkB_append]; rfl) (by rw [HO.out]; unfold onlyR; simp [hc]; try rfl) rfl (by unfold isR; simp [hc]) (fun _ => by unfold wordsR; simp [hc, wordW, plainT, joinC]) (by have := itoa_size he.client; have := itoa_size he.n; simp only [mkB_size] at *; simp; omega) (Or.inl ⟨HB.out, by unfold onlyR; simp [hc]; rfl⟩)

set_option maxRecDepth 100000 in
set_option maxHeartbeats 8000000 in
theorem line8 (e : Ev) (he : e.Ok) (hc : e.kind = 8) (htx : e.text.length ≤ 4100) (hbl : e.bytes.length ≤ 3000) (va : Value) (w : World) (hyb : Byts w w.heap.size va e.bytes) :
    Calls Tryz.prog 15 #[.agg (evC e va).toArray] w (LinePost e va w) := by
  have hva := hyb.one
  have _ := htx
  have hyb := Lib.hid hyb
  have hA : (evC e va).toArray.size = 59 := rfl
  have a0 : (evC e va).toArray[0]'(by omega) = .int .u8 8 := by
    show Value.int .u8 (e.kind : Int) = _
    rw [hc]; rfl
  have HC := Lib.hid hc
  clear hc
  have hd1 := Lib.hid (fun W => digits_same he.client W)
  have hd2 := Lib.hid (fun W => digits_same he.n W)
  have z1 := itoa_size he.client
  have z2 := itoa_size he.n
  have z3 : (mkB (hexW e.bytes)).size ≤ 6001 := by rw [mkB_size]; exact hexW_len hbl
  go_enter Tryz.func15, Tryz.ntmps15
  go_upto_region 25 with (refine wpList_store_blk rfl 34 _ _ rfl (w.heap.size + 1 + 1) 0 34 (evC ev0 (.slice none 0 0)) (evC { ev0 with kind := 8 } (.slice none 0 0)) rfl (allocs_blk (lnObjs e va) w 2 _ _ rfl) rfl (by rw [evC_len, evC_len]; exact Nat.le_refl _) evC_size (evC_cells _ rfl) ?_; intro w1 b1 k1 z1; rw [setL_all (by rw [evC_len, evC_len])] at b1; have hm := LM.start (e := e) (va := va) b1 k1; clear b1 k1 z1; have c0 : w1.cell? ⟨w.heap.size, 0, none⟩ = some (.int .u8 8) := (hm.par.cell 0).trans (congrArg some a0); have c1 : w1.cell? ⟨w.heap.size, 1, none⟩ = some (.int .i64 e.client) := hm.par.cell 1; have c2 : w1.cell? ⟨w.heap.size, 2, none⟩ = some (.int .i64 e.n) := hm.par.cell 2; have o1 : w1.cell? ⟨w.heap.size + 1 + 1, 1, none⟩ = some (.int .i64 0) := hm.onl.cell 1; have o2 : w1.cell? ⟨w.heap.size + 1 + 1, 2, none⟩ = some (.int .i64 0) := hm.onl.cell 2; have of := hm.onl.frozen)
  refine wp_region_held_drew (S := fun w' => Blk w' w.heap.size 34 (evC e va).toArray) (by kernel_rfl) (Blk.drew hm.par) (fun hHeld => ?_)
  have hm := hm.quiet 1
  refine wpAnyH_take (i := 0) (v := ?vs1) rfl (by kernel_rfl) (by kernel_rfl) (by kernel_rfl) (fun _ _ _ h => h) (Or.inl ⟨by rfl, ?hys1⟩) (by assumption) ?rests1
  case hys1 => (intro w' hSw; have q1 : w'.cell? ⟨w.heap.size, 1, none⟩ = some (.int .i64 e.client) := (Blk.cell hSw 1); have q2 : w'.cell? ⟨w.heap.size, 2, none⟩ = some (.int .i64 e.n) := (Blk.cell hSw 2); have q3 : w'.cell? ⟨w.heap.size, 3, none⟩ = some (va) := (Blk.cell hSw 3); clear hSw; go_simp; try with_reducible rfl)
  case rests1 =>
  change wpAnyH _ _ _ _ _ _ _ (Act.put _ (some 91) _) _
  try simp only [Act.put, List.setIfInBounds_toArray, List.set_cons_zero, List.set_cons_succ]
  refine wpAnyH_take (i := 1) (v := ?vs2) rfl (by kernel_rfl) (by kernel_rfl) (by kernel_rfl) (fun _ _ _ h => h) (Or.inl ⟨by rfl, ?hys2⟩) (by assumption) ?rests2
  case hys2 => (intro w' hSw; have q1 : w'.cell? ⟨w.heap.size, 1, none⟩ = some (.int .i64 e.client) := (Blk.cell hSw 1); have q2 : w'.cell? ⟨w.heap.size, 2, none⟩ = some (.int .i64 e.n) := (Blk.cell hSw 2); have q3 : w'.cell? ⟨w.heap.size, 3, none⟩ = some (va) := (Blk.cell hSw 3); clear hSw; go_simp; try with_reducible rfl)
  case rests2 =>
  change wpAnyH _ _ _ _ _ _ _ (Act.put _ (some 92) _) _
  try simp only [Act.put, List.setIfInBounds_toArray, List.set_cons_zero, List.set_cons_succ]
  refine wpAnyH_take (i := 2) (v := ?vs3) rfl (by kernel_rfl) (by kernel_rfl) (by kernel_rfl) (fun _ _ _ h => h) (Or.inl ⟨by rfl, ?hys3⟩) (by assumption) ?rests3
  case hys3 => (intro w' hSw; have q1 : w'.cell? ⟨w.heap.size, 1, none⟩ = some (.int .i64 e.client) := (Blk.cell hSw 1); have q2 : w'.cell? ⟨w.heap.size, 2, none⟩ = some (.int .i64 e.n) := (Blk.cell hSw 2); have q3 : w'.cell? ⟨w.heap.size, 3, none⟩ = some (va) := (Blk.cell hSw 3); clear hSw; go_simp; try with_reducible rfl)
  case rests3 =>
  change wpAnyH _ _ _ _ _ _ _ (Act.put _ (some 93) _) _
  try simp only [Act.put, List.setIfInBounds_toArray, List.set_cons_zero, List.set_cons_succ]
  refine wpAnyH_take (i := 3) (v := ?vs4) rfl (by kernel_rfl) (by kernel_rfl) (by kernel_rfl) (fun _ _ _ h => h) (Or.inl ⟨by rfl, ?hys4⟩) (by assumption) ?rests4
  case hys4 => (intro w' hSw; have q1 : w'.cell? ⟨w.heap.size, 1, none⟩ = some (.int .i64 e.client) := (Blk.cell hSw 1); have q2 : w'.cell? ⟨w.heap.size, 2, none⟩ = some (.int .i64 e.n) := (Blk.cell hSw 2); have q3 : w'.cell? ⟨w.heap.size, 3, none⟩ = some (va) := (Blk.cell hSw 3); clear hSw; go_simp; try with_reducible rfl)
  case rests4 =>
  change wpAnyH _ _ _ _ _ _ _ (Act.put _ (some 94) _) _
  try simp only [Act.put, List.setIfInBounds_toArray, List.set_cons_zero, List.set_cons_succ]
  refine wpAnyH_take (i := 4) (v := ?vs5) rfl (by kernel_rfl) (by kernel_rfl) (by kernel_rfl) (fun _ _ _ h => h) (Or.inl ⟨by rfl, ?hys5⟩) (by assumption) ?rests5
  case hys5 => (intro w' hSw; have q1 : w'.cell? ⟨w.heap.size, 1, none⟩ = some (.int .i64 e.client) := (Blk.cell hSw 1); have q2 : w'.cell? ⟨w.heap.size, 2, none⟩ = some (.int .i64 e.n) := (Blk.cell hSw 2); have q3 : w'.cell? ⟨w.heap.size, 3, none⟩ = some (va) := (Blk.cell hSw 3); clear hSw; go_simp; try with_reducible rfl)
  case rests5 =>
  change wpAnyH _ _ _ _ _ _ _ (Act.put _ (some 95) _) _
  try simp only [Act.put, List.setIfInBounds_toArray, List.set_cons_zero, List.set_cons_succ]
  refine wpAnyH_ready (rs := [5]) (by kernel_rfl) (by simp) ?_
  refine AllReadyH.cons rfl (fun K hK => ?_) AllReadyH.nil
  refine step_store_one (by rfl) 3 _ _ (by rfl) (w.heap.size + 1 + 1) 2 34 _ _ (by rfl) hm.onl (by rfl) (by rw [evC_len]; omega) (by rfl) (storeVar_int _ _ _ _) ?_
  intro w6 b6 k6 z6
  have hm := LM.step (O' := evC { ev0 with kind := 8, n := e.n } (.slice none 0 0)) hm b6 k6 rfl
  clear b6 k6 z6
  refine hK.out _ _ hm.par (fun hHeld => ?_)
  clear hK K
  try change wpAnyH _ _ _ _ _ _ _ (Act.put _ (none) _) _
  try simp only [Act.put]
  refine wpAnyH_take (i := 6) (v := ?vs6) rfl (by kernel_rfl) (by kernel_rfl) (by kernel_rfl) (fun _ _ _ h => h) (Or.inl ⟨by rfl, ?hys6⟩) (by assumption) ?rests6
  case hys6 => (intro w' hSw; have q1 : w'.cell? ⟨w.heap.size, 1, none⟩ = some (.int .i64 e.client) := (Blk.cell hSw 1); have q2 : w'.cell? ⟨w.heap.size, 2, none⟩ = some (.int .i64 e.n) := (Blk.cell hSw 2); have q3 : w'.cell? ⟨w.heap.size, 3, none⟩ = some (va) := (Blk.cell hSw 3); clear hSw; go_simp; try with_reducible rfl)
  case rests6 =>
  change wpAnyH _ _ _ _ _ _ _ (Act.put _ (some 96) _) _
  try simp only [Act.put, List.setIfInBounds_toArray, List.set_cons_zero, List.set_cons_succ]
  refine wpAnyH_ready (rs := [7]) (by kernel_rfl) (by simp) ?_
  refine AllReadyH.cons rfl (fun K hK => ?_) AllReadyH.nil
  refine step_store_one (by rfl) 3 _ _ (by rfl) (w.heap.size + 1 + 1) 1 34 _ _ (by rfl) hm.onl (by rfl) (by rw [evC_len]; omega) (by rfl) (storeVar_int _ _ _ _) ?_
  intro w6 b6 k6 z6
  have hm := LM.step (O' := evC { ev0 with kind := 8, client := e.client, n := e.n } (.slice none 0 0)) hm b6 k6 rfl
  clear b6 k6 z6
  refine hK.out _ _ hm.par (fun hHeld => ?_)
  clear hK K
  try change wpAnyH _ _ _ _ _ _ _ (Act.put _ (none) _) _
  try simp only [Act.put]
  refine wpAnyH_done (by kernel_rfl) ?_ _
  skip
  go_upto_region 26 with fail
  clear c0 c1 c2 o1 o2 of hA a0
  obtain ⟨o, ho⟩ : ∃ o : Ev, o = { ev0 with kind := 8, client := e.client, n := e.n } := ⟨_, rfl⟩
  obtain ⟨bo, hbo⟩ : ∃ b : Value, b = .slice none 0 0 := ⟨_, rfl⟩
  have HBO := Lib.hid (show bo.oneCell' = true by rw [hbo]; exact rfl)
  have hm := hm.is (O' := evC o bo) (by rw [ho, hbo])
  have HO := Lib.hid ho
  have HB := Lib.hid hbo
  clear ho hbo
  refine wp_region_held_drew (S := fun w' => ∃ r, LM e va w.heap.size w r (evC o bo) w') (by kernel_rfl) ⟨_, hm.quiet 1⟩ (fun hHeld => ?_)
  clear hm
  refine wpAnyH_take (i := 0) (v := ?v1) rfl (by kernel_rfl) (by kernel_rfl) (by kernel_rfl) (fun _ _ _ h => h) (Or.inl ⟨by rfl, ?hy1⟩) (by assumption) ?rest1
  case hy1 => (intro w' hSw; obtain ⟨_, hSw⟩ := hSw; have q1 : w'.cell? ⟨w.heap.size, 1, none⟩ = some (.int .i64 e.client) := hSw.par.cell 1; have q2 : w'.cell? ⟨w.heap.size, 2, none⟩ = some (.int .i64 e.n) := hSw.par.cell 2; have q3 : w'.cell? ⟨w.heap.size, 3, none⟩ = some (va) := hSw.par.cell 3; clear hSw; go_simp; try with_reducible rfl)
  case rest1 =>
  change wpAnyH _ _ _ _ _ _ _ (Act.put _ (some 97) _) _
  try simp only [Act.put, List.setIfInBounds_toArray, List.set_cons_zero, List.set_cons_succ]
  refine wpAnyH_take (i := 1) (v := ?v2) rfl (by kernel_rfl) (by kernel_rfl) (by kernel_rfl) (fun _ _ _ h => h) (Or.inl ⟨by rfl, ?hy2⟩) (by assumption) ?rest2
  case hy2 => (intro w' hSw; obtain ⟨_, hSw⟩ := hSw; have q1 : w'.cell? ⟨w.heap.size, 1, none⟩ = some (.int .i64 e.client) := hSw.par.cell 1; have q2 : w'.cell? ⟨w.heap.size, 2, none⟩ = some (.int .i64 e.n) := hSw.par.cell 2; have q3 : w'.cell? ⟨w.heap.size, 3, none⟩ = some (va) := hSw.par.cell 3; clear hSw; go_simp; try with_reducible rfl)
  case rest2 =>
  change wpAnyH _ _ _ _ _ _ _ (Act.put _ (some 98) _) _
  try simp only [Act.put, List.setIfInBounds_toArray, List.set_cons_zero, List.set_cons_succ]
  refine wpAnyH_take (i := 5) (v := ?v3) rfl (by kernel_rfl) (by kernel_rfl) (by kernel_rfl) (fun _ _ _ h => h) (Or.inl ⟨by rfl, ?hy3⟩) (by assumption) ?rest3
  case hy3 => (intro w' hSw; obtain ⟨_, hSw⟩ := hSw; have q1 : w'.cell? ⟨w.heap.size, 1, none⟩ = some (.int .i64 e.client) := hSw.par.cell 1; have q2 : w'.cell? ⟨w.heap.size, 2, none⟩ = some (.int .i64 e.n) := hSw.par.cell 2; have q3 : w'.cell? ⟨w.heap.size, 3, none⟩ = some (va) := hSw.par.cell 3; clear hSw; go_simp; try with_reducible rfl)
  case rest3 =>
  change wpAnyH _ _ _ _ _ _ _ (Act.put _ (some 102) _) _
  try simp only [Act.put, List.setIfInBounds_toArray, List.set_cons_zero, List.set_cons_succ]
  refine wpAnyH_take (i := 6) (v := ?v4) rfl (by kernel_rfl) (by kernel_rfl) (by kernel_rfl) (fun _ _ _ h => h) (Or.inl ⟨by rfl, ?hy4⟩) (by assumption) ?rest4
  case hy4 => (intro w' hSw; obtain ⟨_, hSw⟩ := hSw; have q1 : w'.cell? ⟨w.heap.size, 1, none⟩ = some (.int .i64 e.client) := hSw.par.cell 1; have q2 : w'.cell? ⟨w.heap.size, 2, none⟩ = some (.int .i64 e.n) := hSw.par.cell 2; have q3 : w'.cell? ⟨w.heap.size, 3, none⟩ = some (va) := hSw.par.cell 3; clear hSw; go_simp; try with_reducible rfl)
  case rest4 =>
  change wpAnyH _ _ _ _ _ _ _ (Act.put _ (some 103) _) _
  try simp only [Act.put, List.setIfInBounds_toArray, List.set_cons_zero, List.set_cons_succ]
  refine' wpAnyH_take (i := 9) (v := _) rfl (by kernel_rfl) (by kernel_rfl) (by kernel_rfl) (fun _ _ _ h => h) (yieldsIf_load_mid (by rfl) _ _ rfl _ _ rfl (evC o bo) _ (fun _ h => by obtain ⟨_, h⟩ := h; exact blk_range h.onl (evC_self o bo)) Tryz.underlying34 rfl evC_size) (by assumption) ?_
  change wpAnyH _ _ _ _ _ _ _ (Act.put _ (some 106) _) _
  try simp only [Act.put, List.setIfInBounds_toArray, List.set_cons_zero, List.set_cons_succ]
  refine wpAnyH_ready (rs := [2]) (by kernel_rfl) (by simp) ?_
  refine AllReadyH.cons rfl (fun K hK => ?_) AllReadyH.nil
  go_simp
  go_at_call 42
  first | (with_reducible refine (hd1.out _).mono ?_) | (with_reducible refine (hd2.out _).mono ?_)
  rintro e5 w5 ⟨rfl, rfl⟩
  refine hK.out _ _ (by assumption) (fun hHeld => ?_)
  clear hK K
  try change wpAnyH _ _ _ _ _ _ _ (Act.put _ (some 99) _) _
  try simp only [Act.put, List.setIfInBounds_toArray, List.set_cons_zero, List.set_cons_succ]
  refine wpAnyH_take (i := 3) (v := ?v5) rfl (by kernel_rfl) (by kernel_rfl) (by kernel_rfl) (fun _ _ _ h => h) (Or.inl ⟨by rfl, ?hy5⟩) (by assumption) ?rest5
  case hy5 => (intro w' hSw; obtain ⟨_, hSw⟩ := hSw; have q1 : w'.cell? ⟨w.heap.size, 1, none⟩ = some (.int .i64 e.client) := hSw.par.cell 1; have q2 : w'.cell? ⟨w.heap.size, 2, none⟩ = some (.int .i64 e.n) := hSw.par.cell 2; have q3 : w'.cell? ⟨w.heap.size, 3, none⟩ = some (va) := hSw.par.cell 3; clear hSw; go_simp; (rw [if_neg (by omega)]))
  case rest5 =>
  change wpAnyH _ _ _ _ _ _ _ (Act.put _ (some 100) _) _
  try simp only [Act.put, List.setIfInBounds_toArray, List.set_cons_zero, List.set_cons_succ]
  refine wpAnyH_take (i := 4) (v := ?v6) rfl (by kernel_rfl) (by kernel_rfl) (by kernel_rfl) (fun _ _ _ h => h) (Or.inl ⟨by rfl, ?hy6⟩) (by assumption) ?rest6
  case hy6 => (intro w' hSw; obtain ⟨_, hSw⟩ := hSw; have q1 : w'.cell? ⟨w.heap.size, 1, none⟩ = some (.int .i64 e.client) := hSw.par.cell 1; have q2 : w'.cell? ⟨w.heap.size, 2, none⟩ = some (.int .i64 e.n) := hSw.par.cell 2; have q3 : w'.cell? ⟨w.heap.size, 3, none⟩ = some (va) := hSw.par.cell 3; clear hSw; go_simp; (rw [if_neg (by omega)]))
  case rest6 =>
  change wpAnyH _ _ _ _ _ _ _ (Act.put _ (some 101) _) _
  try simp only [Act.put, List.setIfInBounds_toArray, List.set_cons_zero, List.set_cons_succ]
  refine wpAnyH_ready (rs := [7]) (by kernel_rfl) (by simp) ?_
  refine AllReadyH.cons rfl (fun K hK => ?_) AllReadyH.nil
  go_simp
  go_at_call 42
  first | (with_reducible refine (hd1.out _).mono ?_) | (with_reducible refine (hd2.out _).mono ?_)
  rintro e5 w5 ⟨rfl, rfl⟩
  refine hK.out _ _ (by assumption) (fun hHeld => ?_)
  clear hK K
  try change wpAnyH _ _ _ _ _ _ _ (Act.put _ (some 104) _) _
  try simp only [Act.put, List.setIfInBounds_toArray, List.set_cons_zero, List.set_cons_succ]
  refine wpAnyH_take (i := 8) (v := ?v7) rfl (by kernel_rfl) (by kernel_rfl) (by kernel_rfl) (fun _ _ _ h => h) (Or.inl ⟨by rfl, ?hy7⟩) (by assumption) ?rest7
  case hy7 => (intro w' hSw; obtain ⟨_, hSw⟩ := hSw; have q1 : w'.cell? ⟨w.heap.size, 1, none⟩ = some (.int .i64 e.client) := hSw.par.cell 1; have q2 : w'.cell? ⟨w.heap.size, 2, none⟩ = some (.int .i64 e.n) := hSw.par.cell 2; have q3 : w'.cell? ⟨w.heap.size, 3, none⟩ = some (va) := hSw.par.cell 3; clear hSw; go_simp; (rw [if_neg (by omega)]))
  case rest7 =>
  change wpAnyH _ _ _ _ _ _ _ (Act.put _ (some 105) _) _
  try simp only [Act.put, List.setIfInBounds_toArray, List.set_cons_zero, List.set_cons_succ]
  refine wpAnyH_take (i := 10) (v := ?v8) rfl (by kernel_rfl) (by kernel_rfl) (by kernel_rfl) (fun _ _ _ h => h) (Or.inl ⟨by rfl, ?hy8⟩) (by assumption) ?rest8
  case hy8 => (intro w' hSw; obtain ⟨_, hSw⟩ := hSw; have q1 : w'.cell? ⟨w.heap.size, 1, none⟩ = some (.int .i64 e.client) := hSw.par.cell 1; have q2 : w'.cell? ⟨w.heap.size, 2, none⟩ = some (.int .i64 e.n) := hSw.par.cell 2; have q3 : w'.cell? ⟨w.heap.size, 3, none⟩ = some (va) := hSw.par.cell 3; clear hSw; go_simp; try with_reducible rfl)
  case rest8 =>
  change wpAnyH _ _ _ _ _ _ _ (Act.put _ (some 2) _) _
  try simp only [Act.put, List.setIfInBounds_toArray, List.set_cons_zero, List.set_cons_succ]
  refine wpAnyH_ready (rs := [11]) (by kernel_rfl) (by simp) ?_
  refine AllReadyH.cons rfl (fun K hK => ?_) AllReadyH.nil
  obtain ⟨r, hr⟩ := hHeld
  refine step_store_blk (by rfl) 34 _ _ (by rfl) (w.heap.size + 1) 0 34 r (evC o bo) (by rfl) hr.res (by rfl) (by rw [hr.rl, evC_len]; exact Nat.le_refl _) evC_size (evC_cells _ HBO.out) ?_
  intro w6 b6 k6 z6
  have hr6 := LM.ans hr b6 k6
  clear b6 k6 z6 hr
  refine hK.out _ _ ⟨_, hr6⟩ (fun hHeld => ?_)
  clear hK K
  try change wpAnyH _ _ _ _ _ _ _ (Act.put _ (none) _) _
  try simp only [Act.put]
  refine wpAnyH_take (i := 12) (v := ?v9) rfl (by kernel_rfl) (by kernel_rfl) (by kernel_rfl) (fun _ _ _ h => h) (Or.inl ⟨by rfl, ?hy9⟩) (by assumption) ?rest9
  case hy9 => (intro w' hSw; obtain ⟨_, hSw⟩ := hSw; have q1 : w'.cell? ⟨w.heap.size, 1, none⟩ = some (.int .i64 e.client) := hSw.par.cell 1; have q2 : w'.cell? ⟨w.heap.size, 2, none⟩ = some (.int .i64 e.n) := hSw.par.cell 2; have q3 : w'.cell? ⟨w.heap.size, 3, none⟩ = some (va) := hSw.par.cell 3; clear hSw; go_simp; try with_reducible rfl)
  case rest9 =>
  change wpAnyH _ _ _ _ _ _ _ (Act.put _ (some 4) _) _
  try simp only [Act.put, List.setIfInBounds_toArray, List.set_cons_zero, List.set_cons_succ]
  refine wpAnyH_done (by kernel_rfl) ?_ _
  go_wp2_with fail
  refine bodyPost_ret (results_tct rfl _ _ (w.heap.size + 1) 34 (evC o bo).toArray (0, 0) _ rfl hr6.res Tryz.underlying34 rfl evC_size) rfl ?_
  have hc := HC.out
  exact LinePost.done (x := [99, 111, 114, 114, 117, 112, 116, 32] ++ Lib.itoa e.n ++ [32] ++ Lib.itoa e.client) rfl hr6 (by rw [show ([99, 111, 114, 114, 117, 112, 116, 32] ++ Lib.itoa e.n ++ [32] ++ Lib.itoa e.client : List UInt8) = [99, 111, 114, 114, 117, 112, 116, 32] ++ Lib.itoa e.n ++ [32] ++ Lib.itoa e.client from by simp, ← mkB_append, ← mkB_append, ← mkB_append]; rfl) (by rw [HO.out]; unfold onlyR; simp [hc]; try rfl) rfl (by unfold isR; simp [hc]) (fun _ => by unfold wordsR; simp [hc, wordW, plainT, joinC]) (by have := itoa_size he.client; have := itoa_size he.n; simp only [mkB_size] at *; simp; omega) (Or.inl ⟨HB.out, by unfold onlyR; simp [hc]; rfl⟩)

set_option maxRecDepth 100000 in
set_option maxHeartbeats 8000000 in
theorem line9 (e : Ev) (he : e.Ok) (hc : e.kind = 9) (htx : e.text.length ≤ 4100) (hbl : e.bytes.length ≤ 3000) (va : Value) (w : World) (hyb : Byts w w.heap.size va e.bytes) :
    Calls Tryz.prog 15 #[.agg (evC e va).toArray] w (LinePost e va w) := by
  have hva := hyb.one
  have _ := htx
  have hyb := Lib.hid hyb
  have hA : (evC e va).toArray.size = 59 := rfl
  have a0 : (evC e va).toArray[0]'(by omega) = .int .u8 9 := by
    show Value.int .u8 (e.kind : Int) = _
    rw [hc]; rfl
  have HC := Lib.hid hc
  clear hc
  have hd1 := Lib.hid (fun W => digits_same he.client W)
  have hd2 := Lib.hid (fun W => digits_same he.n W)
  have z1 := itoa_size he.client
  have z2 := itoa_size he.n
  have z3 : (mkB (hexW e.bytes)).size ≤ 6001 := by rw [mkB_size]; exact hexW_len hbl
  go_enter Tryz.func15, Tryz.ntmps15
  go_upto_region 28 with (refine wpList_store_blk rfl 34 _ _ rfl (w.heap.size + 1 + 1) 0 34 (evC ev0 (.slice none 0 0)) (evC { ev0 with kind := 9 } (.slice none 0 0)) rfl (allocs_blk (lnObjs e va) w 2 _ _ rfl) rfl (by rw [evC_len, evC_len]; exact Nat.le_refl _) evC_size (evC_cells _ rfl) ?_; intro w1 b1 k1 z1; rw [setL_all (by rw [evC_len, evC_len])] at b1; have hm := LM.start (e := e) (va := va) b1 k1; clear b1 k1 z1; have c0 : w1.cell? ⟨w.heap.size, 0, none⟩ = some (.int .u8 9) := (hm.par.cell 0).trans (congrArg some a0); have c1 : w1.cell? ⟨w.heap.size, 1, none⟩ = some (.int .i64 e.client) := hm.par.cell 1; have c2 : w1.cell? ⟨w.heap.size, 2, none⟩ = some (.int .i64 e.n) := hm.par.cell 2; have o1 : w1.cell? ⟨w.heap.size + 1 + 1, 1, none⟩ = some (.int .i64 0) := hm.onl.cell 1; have o2 : w1.cell? ⟨w.heap.size + 1 + 1, 2, none⟩ = some (.int .i64 0) := hm.onl.cell 2; have of := hm.onl.frozen)
  refine wp_region_held_drew (S := fun w' => Blk w' w.heap.size 34 (evC e va).toArray) (by kernel_rfl) (Blk.drew hm.par) (fun hHeld => ?_)
  have hm := hm.quiet 1
  refine wpAnyH_take (i := 0) (v := ?vs1) rfl (by kernel_rfl) (by kernel_rfl) (by kernel_rfl) (fun _ _ _ h => h) (Or.inl ⟨by rfl, ?hys1⟩) (by assumption) ?rests1
  case hys1 => (intro w' hSw; have q1 : w'.cell? ⟨w.heap.size, 1, none⟩ = some (.int .i64 e.client) := (Blk.cell hSw 1); have q2 : w'.cell? ⟨w.heap.size, 2, none⟩ = some (.int .i64 e.n) := (Blk.cell hSw 2); have q3 : w'.cell? ⟨w.heap.size, 3, none⟩ = some (va) := (Blk.cell hSw 3); clear hSw; go_simp; try with_reducible rfl)
  case rests1 =>
  change wpAnyH _ _ _ _ _ _ _ (Act.put _ (some 109) _) _
  try simp only [Act.put, List.setIfInBounds_toArray, List.set_cons_zero, List.set_cons_succ]
  refine wpAnyH_take (i := 1) (v := ?vs2) rfl (by kernel_rfl) (by kernel_rfl) (by kernel_rfl) (fun _ _ _ h => h) (Or.inl ⟨by rfl, ?hys2⟩) (by assumption) ?rests2
  case hys2 => (intro w' hSw; have q1 : w'.cell? ⟨w.heap.size, 1, none⟩ = some (.int .i64 e.client) := (Blk.cell hSw 1); have q2 : w'.cell? ⟨w.heap.size, 2, none⟩ = some (.int .i64 e.n) := (Blk.cell hSw 2); have q3 : w'.cell? ⟨w.heap.size, 3, none⟩ = some (va) := (Blk.cell hSw 3); clear hSw; go_simp; try with_reducible rfl)
  case rests2 =>
  change wpAnyH _ _ _ _ _ _ _ (Act.put _ (some 110) _) _
  try simp only [Act.put, List.setIfInBounds_toArray, List.set_cons_zero, List.set_cons_succ]
  refine wpAnyH_take (i := 2) (v := ?vs3) rfl (by kernel_rfl) (by kernel_rfl) (by kernel_rfl) (fun _ _ _ h => h) (Or.inl ⟨by rfl, ?hys3⟩) (by assumption) ?rests3
  case hys3 => (intro w' hSw; have q1 : w'.cell? ⟨w.heap.size, 1, none⟩ = some (.int .i64 e.client) := (Blk.cell hSw 1); have q2 : w'.cell? ⟨w.heap.size, 2, none⟩ = some (.int .i64 e.n) := (Blk.cell hSw 2); have q3 : w'.cell? ⟨w.heap.size, 3, none⟩ = some (va) := (Blk.cell hSw 3); clear hSw; go_simp; try with_reducible rfl)
  case rests3 =>
  change wpAnyH _ _ _ _ _ _ _ (Act.put _ (some 111) _) _
  try simp only [Act.put, List.setIfInBounds_toArray, List.set_cons_zero, List.set_cons_succ]
  refine wpAnyH_take (i := 3) (v := ?vs4) rfl (by kernel_rfl) (by kernel_rfl) (by kernel_rfl) (fun _ _ _ h => h) (Or.inl ⟨by rfl, ?hys4⟩) (by assumption) ?rests4
  case hys4 => (intro w' hSw; have q1 : w'.cell? ⟨w.heap.size, 1, none⟩ = some (.int .i64 e.client) := (Blk.cell hSw 1); have q2 : w'.cell? ⟨w.heap.size, 2, none⟩ = some (.int .i64 e.n) := (Blk.cell hSw 2); have q3 : w'.cell? ⟨w.heap.size, 3, none⟩ = some (va) := (Blk.cell hSw 3); clear hSw; go_simp; try with_reducible rfl)
  case rests4 =>
  change wpAnyH _ _ _ _ _ _ _ (Act.put _ (some 112) _) _
  try simp only [Act.put, List.setIfInBounds_toArray, List.set_cons_zero, List.set_cons_succ]
  refine wpAnyH_take (i := 4) (v := ?vs5) rfl (by kernel_rfl) (by kernel_rfl) (by kernel_rfl) (fun _ _ _ h => h) (Or.inl ⟨by rfl, ?hys5⟩) (by assumption) ?rests5
  case hys5 => (intro w' hSw; have q1 : w'.cell? ⟨w.heap.size, 1, none⟩ = some (.int .i64 e.client) := (Blk.cell hSw 1); have q2 : w'.cell? ⟨w.heap.size, 2, none⟩ = some (.int .i64 e.n) := (Blk.cell hSw 2); have q3 : w'.cell? ⟨w.heap.size, 3, none⟩ = some (va) := (Blk.cell hSw 3); clear hSw; go_simp; try with_reducible rfl)
  case rests5 =>
  change wpAnyH _ _ _ _ _ _ _ (Act.put _ (some 113) _) _
  try simp only [Act.put, List.setIfInBounds_toArray, List.set_cons_zero, List.set_cons_succ]
  refine wpAnyH_ready (rs := [5]) (by kernel_rfl) (by simp) ?_
  refine AllReadyH.cons rfl (fun K hK => ?_) AllReadyH.nil
  refine step_store_one (by rfl) 3 _ _ (by rfl) (w.heap.size + 1 + 1) 1 34 _ _ (by rfl) hm.onl (by rfl) (by rw [evC_len]; omega) (by rfl) (storeVar_int _ _ _ _) ?_
  intro w6 b6 k6 z6
  have hm := LM.step (O' := evC { ev0 with kind := 9, client := e.client } (.slice none 0 0)) hm b6 k6 rfl
  clear b6 k6 z6
  refine hK.out _ _ hm.par (fun hHeld => ?_)
  clear hK K
  try change wpAnyH _ _ _ _ _ _ _ (Act.put _ (none) _) _
  try simp only [Act.put]
  refine wpAnyH_take (i := 6) (v := ?vs6) rfl (by kernel_rfl) (by kernel_rfl) (by kernel_rfl) (fun _ _ _ h => h) (Or.inl ⟨by rfl, ?hys6⟩) (by assumption) ?rests6
  case hys6 => (intro w' hSw; have q1 : w'.cell? ⟨w.heap.size, 1, none⟩ = some (.int .i64 e.client) := (Blk.cell hSw 1); have q2 : w'.cell? ⟨w.heap.size, 2, none⟩ = some (.int .i64 e.n) := (Blk.cell hSw 2); have q3 : w'.cell? ⟨w.heap.size, 3, none⟩ = some (va) := (Blk.cell hSw 3); clear hSw; go_simp; try with_reducible rfl)
  case rests6 =>
  change wpAnyH _ _ _ _ _ _ _ (Act.put _ (some 114) _) _
  try simp only [Act.put, List.setIfInBounds_toArray, List.set_cons_zero, List.set_cons_succ]
  refine wpAnyH_ready (rs := [7]) (by kernel_rfl) (by simp) ?_
  refine AllReadyH.cons rfl (fun K hK => ?_) AllReadyH.nil
  refine step_store_one (by rfl) 22 _ _ (by rfl) (w.heap.size + 1 + 1) 3 34 _ _ (by rfl) hm.onl (by rfl) (by rw [evC_len]; omega) hva (storeVar_slice _ _ hva) ?_
  intro w6 b6 k6 z6
  have hm := LM.step (O' := evC { ev0 with kind := 9, client := e.client, bytes := e.bytes } (va)) hm b6 k6 rfl
  clear b6 k6 z6
  refine hK.out _ _ hm.par (fun hHeld => ?_)
  clear hK K
  try change wpAnyH _ _ _ _ _ _ _ (Act.put _ (none) _) _
  try simp only [Act.put]
  refine wpAnyH_done (by kernel_rfl) ?_ _
  skip
  go_upto_region 29 with fail
  clear c0 c1 c2 o1 o2 of hA a0
  obtain ⟨o, ho⟩ : ∃ o : Ev, o = { ev0 with kind := 9, client := e.client, bytes := e.bytes } := ⟨_, rfl⟩
  obtain ⟨bo, hbo⟩ : ∃ b : Value, b = va := ⟨_, rfl⟩
  have HBO := Lib.hid (show bo.oneCell' = true by rw [hbo]; exact hva)
  have hm := hm.is (O' := evC o bo) (by rw [ho, hbo])
  have HO := Lib.hid ho
  have HB := Lib.hid hbo
  clear ho hbo
  refine wp_region_held_drew (S := fun w' => ∃ r, LM e va w.heap.size w r (evC o bo) w') (by kernel_rfl) ⟨_, hm.quiet 1⟩ (fun hHeld => ?_)
  clear hm
  refine wpAnyH_take (i := 0) (v := ?v1) rfl (by kernel_rfl) (by kernel_rfl) (by kernel_rfl) (fun _ _ _ h => h) (Or.inl ⟨by rfl, ?hy1⟩) (by assumption) ?rest1
  case hy1 => (intro w' hSw; obtain ⟨_, hSw⟩ := hSw; have q1 : w'.cell? ⟨w.heap.size, 1, none⟩ = some (.int .i64 e.client) := hSw.par.cell 1; have q2 : w'.cell? ⟨w.heap.size, 2, none⟩ = some (.int .i64 e.n) := hSw.par.cell 2; have q3 : w'.cell? ⟨w.heap.size, 3, none⟩ = some (va) := hSw.par.cell 3; clear hSw; go_simp; try with_reducible rfl)
  case rest1 =>
  change wpAnyH _ _ _ _ _ _ _ (Act.put _ (some 115) _) _
  try simp only [Act.put, List.setIfInBounds_toArray, List.set_cons_zero, List.set_cons_succ]
  refine wpAnyH_take (i := 1) (v := ?v2) rfl (by kernel_rfl) (by kernel_rfl) (by kernel_rfl) (fun _ _ _ h => h) (Or.inl ⟨by rfl, ?hy2⟩) (by assumption) ?rest2
  case hy2 => (intro w' hSw; obtain ⟨_, hSw⟩ := hSw; have q1 : w'.cell? ⟨w.heap.size, 1, none⟩ = some (.int .i64 e.client) := hSw.par.cell 1; have q2 : w'.cell? ⟨w.heap.size, 2, none⟩ = some (.int .i64 e.n) := hSw.par.cell 2; have q3 : w'.cell? ⟨w.heap.size, 3, none⟩ = some (va) := hSw.par.cell 3; clear hSw; go_simp; try with_reducible rfl)
  case rest2 =>
  change wpAnyH _ _ _ _ _ _ _ (Act.put _ (some 116) _) _
  try simp only [Act.put, List.setIfInBounds_toArray, List.set_cons_zero, List.set_cons_succ]
  refine wpAnyH_take (i := 5) (v := ?v3) rfl (by kernel_rfl) (by kernel_rfl) (by kernel_rfl) (fun _ _ _ h => h) (Or.inl ⟨by rfl, ?hy3⟩) (by assumption) ?rest3
  case hy3 => (intro w' hSw; obtain ⟨_, hSw⟩ := hSw; have q1 : w'.cell? ⟨w.heap.size, 1, none⟩ = some (.int .i64 e.client) := hSw.par.cell 1; have q2 : w'.cell? ⟨w.heap.size, 2, none⟩ = some (.int .i64 e.n) := hSw.par.cell 2; have q3 : w'.cell? ⟨w.heap.size, 3, none⟩ = some (va) := hSw.par.cell 3; clear hSw; go_simp; try with_reducible rfl)
  case rest3 =>
  change wpAnyH _ _ _ _ _ _ _ (Act.put _ (some 120) _) _
  try simp only [Act.put, List.setIfInBounds_toArray, List.set_cons_zero, List.set_cons_succ]
  refine wpAnyH_take (i := 6) (v := ?v4) rfl (by kernel_rfl) (by kernel_rfl) (by kernel_rfl) (fun _ _ _ h => h) (Or.inl ⟨by rfl, ?hy4⟩) (by assumption) ?rest4
  case hy4 => (intro w' hSw; obtain ⟨_, hSw⟩ := hSw; have q1 : w'.cell? ⟨w.heap.size, 1, none⟩ = some (.int .i64 e.client) := hSw.par.cell 1; have q2 : w'.cell? ⟨w.heap.size, 2, none⟩ = some (.int .i64 e.n) := hSw.par.cell 2; have q3 : w'.cell? ⟨w.heap.size, 3, none⟩ = some (va) := hSw.par.cell 3; clear hSw; go_simp; try with_reducible rfl)
  case rest4 =>
  change wpAnyH _ _ _ _ _ _ _ (Act.put _ (some 121) _) _
  try simp only [Act.put, List.setIfInBounds_toArray, List.set_cons_zero, List.set_cons_succ]
  refine' wpAnyH_take (i := 9) (v := _) rfl (by kernel_rfl) (by kernel_rfl) (by kernel_rfl) (fun _ _ _ h => h) (yieldsIf_load_mid (by rfl) _ _ rfl _ _ rfl (evC o bo) _ (fun _ h => by obtain ⟨_, h⟩ := h; exact blk_range h.onl (evC_self o bo)) Tryz.underlying34 rfl evC_size) (by assumption) ?_
  change wpAnyH _ _ _ _ _ _ _ (Act.put _ (some 124) _) _
  try simp only [Act.put, List.setIfInBounds_toArray, List.set_cons_zero, List.set_cons_succ]
  refine wpAnyH_ready (rs := [2]) (by kernel_rfl) (by simp) ?_
  refine AllReadyH.cons rfl (fun K hK => ?_) AllReadyH.nil
  go_simp
  go_at_call 42
  first | (with_reducible refine (hd1.out _).mono ?_) | (with_reducible refine (hd2.out _).mono ?_)
  rintro e5 w5 ⟨rfl, rfl⟩
  refine hK.out _ _ (by assumption) (fun hHeld => ?_)
  clear hK K
  try change wpAnyH _ _ _ _ _ _ _ (Act.put _ (some 117) _) _
  try simp only [Act.put, List.setIfInBounds_toArray, List.set_cons_zero, List.set_cons_succ]
  refine wpAnyH_take (i := 3) (v := ?v5) rfl (by kernel_rfl) (by kernel_rfl) (by kernel_rfl) (fun _ _ _ h => h) (Or.inl ⟨by rfl, ?hy5⟩) (by assumption) ?rest5
  case hy5 => (intro w' hSw; obtain ⟨_, hSw⟩ := hSw; have q1 : w'.cell? ⟨w.heap.size, 1, none⟩ = some (.int .i64 e.client) := hSw.par.cell 1; have q2 : w'.cell? ⟨w.heap.size, 2, none⟩ = some (.int .i64 e.n) := hSw.par.cell 2; have q3 : w'.cell? ⟨w.heap.size, 3, none⟩ = some (va) := hSw.par.cell 3; clear hSw; go_simp; (rw [if_neg (by omega)]))
  case rest5 =>
  change wpAnyH _ _ _ _ _ _ _ (Act.put _ (some 118) _) _
  try simp only [Act.put, List.setIfInBounds_toArray, List.set_cons_zero, List.set_cons_succ]
  refine wpAnyH_take (i := 4) (v := ?v6) rfl (by kernel_rfl) (by kernel_rfl) (by kernel_rfl) (fun _ _ _ h => h) (Or.inl ⟨by rfl, ?hy6⟩) (by assumption) ?rest6
  case hy6 => (intro w' hSw; obtain ⟨_, hSw⟩ := hSw; have q1 : w'.cell? ⟨w.heap.size, 1, none⟩ = some (.int .i64 e.client) := hSw.par.cell 1; have q2 : w'.cell? ⟨w.heap.size, 2, none⟩ = some (.int .i64 e.n) := hSw.par.cell 2; have q3 : w'.cell? ⟨w.heap.size, 3, none⟩ = some (va) := hSw.par.cell 3; clear hSw; go_simp; (rw [if_neg (by omega)]))
  case rest6 =>
  change wpAnyH _ _ _ _ _ _ _ (Act.put _ (some 119) _) _
  try simp only [Act.put, List.setIfInBounds_toArray, List.set_cons_zero, List.set_cons_succ]
  refine wpAnyH_ready (rs := [7]) (by kernel_rfl) (by simp) ?_
  refine AllReadyH.cons rfl (fun K hK => ?_) AllReadyH.nil
  go_simp
  go_at_call 43
  have hby : Byts _ w.heap.size va e.bytes := (by obtain ⟨r, hr⟩ := hHeld; exact hyb.out.below hr.bel)
  with_reducible refine (rbytes_any e.bytes hbl va w.heap.size _ hby).mono ?_
  clear hby
  rintro e5 w5 ⟨rfl, hq5⟩
  obtain ⟨m5, rfl⟩ := hq5
  refine hK.out _ _ (by obtain ⟨r, hr⟩ := hHeld; exact ⟨r, hr.quiet m5⟩) (fun hHeld => ?_)
  clear hK K
  try change wpAnyH _ _ _ _ _ _ _ (Act.put _ (some 122) _) _
  try simp only [Act.put, List.setIfInBounds_toArray, List.set_cons_zero, List.set_cons_succ]
  refine wpAnyH_take (i := 8) (v := ?v7) rfl (by kernel_rfl) (by kernel_rfl) (by kernel_rfl) (fun _ _ _ h => h) (Or.inl ⟨by rfl, ?hy7⟩) (by assumption) ?rest7
  case hy7 => (intro w' hSw; obtain ⟨_, hSw⟩ := hSw; have q1 : w'.cell? ⟨w.heap.size, 1, none⟩ = some (.int .i64 e.client) := hSw.par.cell 1; have q2 : w'.cell? ⟨w.heap.size, 2, none⟩ = some (.int .i64 e.n) := hSw.par.cell 2; have q3 : w'.cell? ⟨w.heap.size, 3, none⟩ = some (va) := hSw.par.cell 3; clear hSw; go_simp; (rw [if_neg (by omega)]))
  case rest7 =>
  change wpAnyH _ _ _ _ _ _ _ (Act.put _ (some 123) _) _
  try simp only [Act.put, List.setIfInBounds_toArray, List.set_cons_zero, List.set_cons_succ]
  refine wpAnyH_take (i := 10) (v := ?v8) rfl (by kernel_rfl) (by kernel_rfl) (by kernel_rfl) (fun _ _ _ h => h) (Or.inl ⟨by rfl, ?hy8⟩) (by assumption) ?rest8
  case hy8 => (intro w' hSw; obtain ⟨_, hSw⟩ := hSw; have q1 : w'.cell? ⟨w.heap.size, 1, none⟩ = some (.int .i64 e.client) := hSw.par.cell 1; have q2 : w'.cell? ⟨w.heap.size, 2, none⟩ = some (.int .i64 e.n) := hSw.par.cell 2; have q3 : w'.cell? ⟨w.heap.size, 3, none⟩ = some (va) := hSw.par.cell 3; clear hSw; go_simp; try with_reducible rfl)
  case rest8 =>
  change wpAnyH _ _ _ _ _ _ _ (Act.put _ (some 2) _) _
  try simp only [Act.put, List.setIfInBounds_toArray, List.set_cons_zero, List.set_cons_succ]
  refine wpAnyH_ready (rs := [11]) (by kernel_rfl) (by simp) ?_
  refine AllReadyH.cons rfl (fun K hK => ?_) AllReadyH.nil
  obtain ⟨r, hr⟩ := hHeld
  refine step_store_blk (by rfl) 34 _ _ (by rfl) (w.heap.size + 1) 0 34 r (evC o bo) (by rfl) hr.res (by rfl) (by rw [hr.rl, evC_len]; exact Nat.le_refl _) evC_size (evC_cells _ HBO.out) ?_
  intro w6 b6 k6 z6
  have hr6 := LM.ans hr b6 k6
  clear b6 k6 z6 hr
  refine hK.out _ _ ⟨_, hr6⟩ (fun hHeld => ?_)
  clear hK K
  try change wpAnyH _ _ _ _ _ _ _ (Act.put _ (none) _) _
  try simp only [Act.put]
  refine wpAnyH_take (i := 12) (v := ?v9) rfl (by kernel_rfl) (by kernel_rfl) (by kernel_rfl) (fun _ _ _ h => h) (Or.inl ⟨by rfl, ?hy9⟩) (by assumption) ?rest9
  case hy9 => (intro w' hSw; obtain ⟨_, hSw⟩ := hSw; have q1 : w'.cell? ⟨w.heap.size, 1, none⟩ = some (.int .i64 e.client) := hSw.par.cell 1; have q2 : w'.cell? ⟨w.heap.size, 2, none⟩ = some (.int .i64 e.n) := hSw.par.cell 2; have q3 : w'.cell? ⟨w.heap.size, 3, none⟩ = some (va) := hSw.par.cell 3; clear hSw; go_simp; try with_reducible rfl)
  case rest9 =>
  change wpAnyH _ _ _ _ _ _ _ (Act.put _ (some 4) _) _
  try simp only [Act.put, List.setIfInBounds_toArray, List.set_cons_zero, List.set_cons_succ]
  refine wpAnyH_done (by kernel_rfl) ?_ _
  go_wp2_with fail
  refine bodyPost_ret (results_tct rfl _ _ (w.heap.size + 1) 34 (evC o bo).toArray (0, 0) _ rfl hr6.res Tryz.underlying34 rfl evC_size) rfl ?_
  have hc := HC.out
  exact LinePost.done (x := [105, 110, 106, 101, 99, 116, 32] ++ Lib.itoa e.client ++ [32] ++ hexW e.bytes) rfl hr6 (by rw [show ([105, 110, 106, 101, 99, 116, 32] ++ Lib.itoa e.client ++ [32] ++ hexW e.bytes : List UInt8) = [105, 110, 106, 101, 99, 116, 32] ++ Lib.itoa e.client ++ [32] ++ hexW e.bytes from by simp, ← mkB_append, ← mkB_append, ← mkB_append]; rfl) (by rw [HO.out]; unfold onlyR; simp [hc]; try rfl) rfl (by unfold isR; simp [hc]) (fun _ => by unfold wordsR; simp [hc, injectB, joinC]) (by have := itoa_size he.client; have := itoa_size he.n; simp only [mkB_size] at *; simp; omega) (Or.inr ⟨HB.out, by unfold onlyR; simp [hc]⟩)

set_option maxRecDepth 100000 in
set_option maxHeartbeats 8000000 in
theorem line0 (e : Ev) (he : e.Ok) (hc : e.kind = 0 ∨ 9 < e.kind) (htx : e.text.length ≤ 4100) (hbl : e.bytes.length ≤ 3000) (va : Value) (w : World) (hyb : Byts w w.heap.size va e.bytes) :
    Calls Tryz.prog 15 #[.agg (evC e va).toArray] w (LinePost e va w) := by
  have hva := hyb.one
  have _ := htx
  have hyb := Lib.hid hyb
  have hA : (evC e va).toArray.size = 59 := rfl
  have a0 : (evC e va).toArray[0]'(by omega) = .int .u8 (e.kind : Int) := by
    show Value.int .u8 (e.kind : Int) = _
    rfl
  have n1 : (((e.kind : Nat) : Int) == 1) = false := by rw [beq_eq_false_iff_ne]; omega
  have n2 : (((e.kind : Nat) : Int) == 2) = false := by rw [beq_eq_false_iff_ne]; omega
  have n3 : (((e.kind : Nat) : Int) == 3) = false := by rw [beq_eq_false_iff_ne]; omega
  have n4 : (((e.kind : Nat) : Int) == 4) = false := by rw [beq_eq_false_iff_ne]; omega
  have n5 : (((e.kind : Nat) : Int) == 5) = false := by rw [beq_eq_false_iff_ne]; omega
  have n6 : (((e.kind : Nat) : Int) == 6) = false := by rw [beq_eq_false_iff_ne]; omega
  have n7 : (((e.kind : Nat) : Int) == 7) = false := by rw [beq_eq_false_iff_ne]; omega
  have n8 : (((e.kind : Nat) : Int) == 8) = false := by rw [beq_eq_false_iff_ne]; omega
  have n9 : (((e.kind : Nat) : Int) == 9) = false := by rw [beq_eq_false_iff_ne]; omega
  have HC := Lib.hid hc
  clear hc
  have hd1 := Lib.hid (fun W => digits_same he.client W)
  have hd2 := Lib.hid (fun W => digits_same he.n W)
  have z1 := itoa_size he.client
  have z2 := itoa_size he.n
  have z3 : (mkB (hexW e.bytes)).size ≤ 6001 := by rw [mkB_size]; exact hexW_len hbl
  go_enter Tryz.func15, Tryz.ntmps15
  go_upto_region 30 with (refine wpList_store_blk rfl 34 _ _ rfl (w.heap.size + 1 + 1) 0 34 (evC ev0 (.slice none 0 0)) (evC { ev0 with kind := e.kind } (.slice none 0 0)) rfl (allocs_blk (lnObjs e va) w 2 _ _ rfl) rfl (by rw [evC_len, evC_len]; exact Nat.le_refl _) evC_size (evC_cells _ rfl) ?_; intro w1 b1 k1 z1; rw [setL_all (by rw [evC_len, evC_len])] at b1; have hm := LM.start (e := e) (va := va) b1 k1; clear b1 k1 z1; have c0 : w1.cell? ⟨w.heap.size, 0, none⟩ = some (.int .u8 (e.kind : Int)) := (hm.par.cell 0).trans (congrArg some a0); have c1 : w1.cell? ⟨w.heap.size, 1, none⟩ = some (.int .i64 e.client) := hm.par.cell 1; have c2 : w1.cell? ⟨w.heap.size, 2, none⟩ = some (.int .i64 e.n) := hm.par.cell 2; have o1 : w1.cell? ⟨w.heap.size + 1 + 1, 1, none⟩ = some (.int .i64 0) := hm.onl.cell 1; have o2 : w1.cell? ⟨w.heap.size + 1 + 1, 2, none⟩ = some (.int .i64 0) := hm.onl.cell 2; have of := hm.onl.frozen)
  clear c0 c1 c2 o1 o2 of hA a0
  obtain ⟨o, ho⟩ : ∃ o : Ev, o = { ev0 with kind := e.kind } := ⟨_, rfl⟩
  obtain ⟨bo, hbo⟩ : ∃ b : Value, b = .slice none 0 0 := ⟨_, rfl⟩
  have HBO := Lib.hid (show bo.oneCell' = true by rw [hbo]; exact rfl)
  have hm := hm.is (O' := evC o bo) (by rw [ho, hbo])
  have HO := Lib.hid ho
  have HB := Lib.hid hbo
  clear ho hbo
  refine wp_region_held_drew (S := fun w' => ∃ r, LM e va w.heap.size w r (evC o bo) w') (by kernel_rfl) ⟨_, hm.quiet 1⟩ (fun hHeld => ?_)
  clear hm
  refine' wpAnyH_take (i := 0) (v := _) rfl (by kernel_rfl) (by kernel_rfl) (by kernel_rfl) (fun _ _ _ h => h) (yieldsIf_load_mid (by rfl) _ _ rfl _ _ rfl (evC o bo) _ (fun _ h => by obtain ⟨_, h⟩ := h; exact blk_range h.onl (evC_self o bo)) Tryz.underlying34 rfl evC_size) (by assumption) ?_
  change wpAnyH _ _ _ _ _ _ _ (Act.put _ (some 125) _) _
  try simp only [Act.put, List.setIfInBounds_toArray, List.set_cons_zero, List.set_cons_succ]
  refine wpAnyH_take (i := 1) (v := ?v1) rfl (by kernel_rfl) (by kernel_rfl) (by kernel_rfl) (fun _ _ _ h => h) (Or.inl ⟨by rfl, ?hy1⟩) (by assumption) ?rest1
  case hy1 => (intro w' hSw; obtain ⟨_, hSw⟩ := hSw; have q1 : w'.cell? ⟨w.heap.size, 1, none⟩ = some (.int .i64 e.client) := hSw.par.cell 1; have q2 : w'.cell? ⟨w.heap.size, 2, none⟩ = some (.int .i64 e.n) := hSw.par.cell 2; have q3 : w'.cell? ⟨w.heap.size, 3, none⟩ = some (va) := hSw.par.cell 3; clear hSw; go_simp; try with_reducible rfl)
  case rest1 =>
  change wpAnyH _ _ _ _ _ _ _ (Act.put _ (some 2) _) _
  try simp only [Act.put, List.setIfInBounds_toArray, List.set_cons_zero, List.set_cons_succ]
  refine wpAnyH_ready (rs := [2]) (by kernel_rfl) (by simp) ?_
  refine AllReadyH.cons rfl (fun K hK => ?_) AllReadyH.nil
  obtain ⟨r, hr⟩ := hHeld
  refine step_store_blk (by rfl) 34 _ _ (by rfl) (w.heap.size + 1) 0 34 r (evC o bo) (by rfl) hr.res (by rfl) (by rw [hr.rl, evC_len]; exact Nat.le_refl _) evC_size (evC_cells _ HBO.out) ?_
  intro w6 b6 k6 z6
  have hr6 := LM.ans hr b6 k6
  clear b6 k6 z6 hr
  refine hK.out _ _ ⟨_, hr6⟩ (fun hHeld => ?_)
  clear hK K
  try change wpAnyH _ _ _ _ _ _ _ (Act.put _ (none) _) _
  try simp only [Act.put]
  refine wpAnyH_take (i := 3) (v := ?v2) rfl (by kernel_rfl) (by kernel_rfl) (by kernel_rfl) (fun _ _ _ h => h) (Or.inl ⟨by rfl, ?hy2⟩) (by assumption) ?rest2
  case hy2 => (intro w' hSw; obtain ⟨_, hSw⟩ := hSw; have q1 : w'.cell? ⟨w.heap.size, 1, none⟩ = some (.int .i64 e.client) := hSw.par.cell 1; have q2 : w'.cell? ⟨w.heap.size, 2, none⟩ = some (.int .i64 e.n) := hSw.par.cell 2; have q3 : w'.cell? ⟨w.heap.size, 3, none⟩ = some (va) := hSw.par.cell 3; clear hSw; go_simp; try with_reducible rfl)
  case rest2 =>
  change wpAnyH _ _ _ _ _ _ _ (Act.put _ (some 4) _) _
  try simp only [Act.put, List.setIfInBounds_toArray, List.set_cons_zero, List.set_cons_succ]
  refine wpAnyH_done (by kernel_rfl) ?_ _
  go_wp2_with fail
  refine bodyPost_ret (results_tct rfl _ _ (w.heap.size + 1) 34 (evC o bo).toArray (0, 0) _ rfl hr6.res Tryz.underlying34 rfl evC_size) rfl ?_
  have hc := HC.out
  have hz : ∀ k, 1 ≤ k → k ≤ 9 → ¬ e.kind = k := by intro k h1 h2 h; omega
  have ho : onlyR e = { ev0 with kind := e.kind } := by unfold onlyR; rw [if_neg (by omega), if_neg (by omega), if_neg (by omega), if_neg (by omega), if_neg (by omega), if_neg (by omega), if_neg (by omega), if_neg (by omega), if_neg (by omega)]
  exact LinePost.done (x := []) rfl hr6 rfl (by rw [HO.out, ho]) rfl (by unfold isR; rw [if_neg (by omega)]; simp; omega) (fun h => by cases h) (by simp) (Or.inl ⟨HB.out, by rw [ho]; rfl⟩)

/-- AN EVENT'S LINE. -/
theorem line_any (e : Ev) (he : e.Ok) (htx : e.text.length ≤ 4100) (hbl : e.bytes.length ≤ 3000) (va : Value) (w : World) (hyb : Byts w w.heap.size va e.bytes) :
    Calls Tryz.prog 15 #[.agg (evC e va).toArray] w (LinePost e va w) := by
  by_cases c1 : e.kind = 1
  · exact line1 e he c1 htx hbl va w hyb
  by_cases c2 : e.kind = 2
  · exact line2 e he c2 htx hbl va w hyb
  by_cases c3 : e.kind = 3
  · exact line3 e he c3 htx hbl va w hyb
  by_cases c4 : e.kind = 4
  · exact line4 e he c4 htx hbl va w hyb
  by_cases c5 : e.kind = 5
  · exact line5 e he c5 htx hbl va w hyb
  by_cases c6 : e.kind = 6
  · exact line6 e he c6 htx hbl va w hyb
  by_cases c7 : e.kind = 7
  · exact line7 e he c7 htx hbl va w hyb
  by_cases c8 : e.kind = 8
  · exact line8 e he c8 htx hbl va w hyb
  by_cases c9 : e.kind = 9
  · exact line9 e he c9 htx hbl va w hyb
  exact line0 e he (by omega) htx hbl va w hyb

end Go.Proofs.YtaoehdmdjplegaaGreatDoor
