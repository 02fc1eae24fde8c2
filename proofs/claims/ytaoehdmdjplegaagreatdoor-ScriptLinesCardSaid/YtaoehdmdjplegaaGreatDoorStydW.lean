/-
  A row of words of the call's own: appended to, read.
-/
import Derived.Test.YtaoehdmdjplegaaGreatDoorScrW
import Derived.Deep.LoopGhost
import Derived.Test.YtaoehdmdjplegaaGreatDoorStylP
import Derived.Test.YtaoehdmdjplegaaGreatDoorWantW
namespace Go.Proofs.YtaoehdmdjplegaaGreatDoor
open Go.RowKit Go.Shelf

theorem Tryz.infoStr : (Tryz.prog.info? 9).map (fun i => (i.zero, i.size, i.bytes)) = some (some (.string ⟨#[]⟩), 1, 16) := by kernel_rfl
def strV (l : List (List UInt8)) : List Value := l.map fun x => Value.string (mkB x)
/-- A row of words of the call's own. -/
def OwnsS (w : World) (base : Nat) (v : Value) (l : List (List UInt8)) : Prop := w.ownsRow base 9 1 v l.length (strV l)
theorem OwnsS.nil (w : World) (base : Nat) : OwnsS w base (.slice none 0 0) [] := World.ownsRow_nil _ _ _ _
theorem OwnsS.drewN {w : World} {base : Nat} {v : Value} {l : List (List UInt8)} (h : OwnsS w base v l) (n : Nat) : OwnsS (w.drewN n) base v l := h
theorem OwnsS.below {w w' : World} {base : Nat} {v : Value} {l : List (List UInt8)} (h : OwnsS w base v l) (hb : Below w.heap.size w w') : OwnsS w' base v l := by
  refine World.ownsRow.kept (row := none) h ⟨hb.os, hb.tape, hb.output, hb.size, fun k hk _ => hb.block k hk⟩ ?_
  cases hv : v.ownBlock with
  | none => exact .inl rfl
  | some g => exact .inr (by simp)
theorem OwnsS.base_le {w : World} {base base' : Nat} {v : Value} {l : List (List UInt8)} (h : OwnsS w base v l) (hb : base' ≤ base) : OwnsS w base' v l := by
  obtain ⟨h1, h2⟩ := h
  refine ⟨h1, ?_⟩
  rcases h2 with h2 | ⟨g, cap, cur, e, hg, r⟩
  · exact .inl h2
  · exact .inr ⟨g, cap, cur, e, by omega, r⟩
/-- It can be read. -/
theorem OwnsS.strs {w : World} {base : Nat} {v : Value} {l : List (List UInt8)} (h : OwnsS w base v l) : Strs w w.heap.size v l := by
  rcases h.2 with ⟨rfl, h0⟩ | ⟨g, cap, cur, rfl, hg, hb, hc, _, hs, ht⟩
  · refine ⟨none, 0, by rw [h0], by omega, by simp, fun hn => absurd hn (by omega)⟩
  · exact ⟨_, _, rfl, hc, Reads.of_own h⟩
/-- 'l = append(l, words...)', the words in whatever row. -/
theorem append_strs {ops : Array Oper} {rest : List Oper} {o : Oper} {a : Act} {Q : Exit → Act → World → Prop} (w : World) (hgd : o.guard = none) (s x : Operand)
    (ho : o.op = .call { callee := .builtin .append, args := #[s, x], argTypes := #[47, 47] })
    (base : Nat) (v : Value) (l : List (List UInt8)) (hs : a.eval s = v) (hown : OwnsS w base v l) (B : Nat) (v2 : Value) (l2 : List (List UInt8)) (hx : a.eval x = v2) (hb : Strs w B v2 l2)
    (h47 : l.length + l2.length < 1000000) (hbase : base ≤ w.heap.size)
    (h : ∀ v' w', OwnsS w' base v' (l ++ l2) → Below base w w' → wpList Tryz.prog ops Q rest (a.put o.dst v') w') : wpList Tryz.prog ops Q (o :: rest) a w := by
  obtain ⟨i0, hi0, hz0, hz1, hz2⟩ := info_parts Tryz.infoStr
  have hlt := fun k (e : v.ownBlock = some k) => (World.ownsRow.lt hown k e).1
  obtain ⟨A, c, rfl, _, hr⟩ := hb
  refine wpList_append_any w hgd s x _ ho base 9 i0 _ 1 16 Tryz.underlying47 hi0 hz0 hz1 hz2 rfl (by omega) v _ _ hs hown B A l2.length c (strV l2) hx hr ?_ (by simp only [maxLen]; omega) (by omega) hbase ?_
  · intro u hu
    unfold strV at hu
    obtain ⟨y, _, rfl⟩ := List.mem_map.1 hu
    rfl
  · intro v' w' h1 h2 _
    refine h v' w' (by unfold OwnsS; rw [List.length_append, show strV (l ++ l2) = strV l ++ strV l2 by simp [strV]]; exact h1) ?_
    exact (Below.refl base w).grown h2 hbase (fun k e => hlt k e)

end Go.Proofs.YtaoehdmdjplegaaGreatDoor
namespace Go.Proofs.YtaoehdmdjplegaaGreatDoor
open Go.RowKit Go.Shelf

theorem styC_pickAt (s : Sty) (j : Fin 7) : (styC s)[pickO.getD j.val 0]? = some (.int .u8 ((s.picks.getD j.val 0 : Nat) : Int)) := by
  obtain ⟨j, hj⟩ := j
  have h : j = 0 ∨ j = 1 ∨ j = 2 ∨ j = 3 ∨ j = 4 ∨ j = 5 ∨ j = 6 := by omega
  rcases h with rfl | rfl | rfl | rfl | rfl | rfl | rfl <;> rfl
theorem styC_lenAt (s : Sty) (j : Fin 11) : (styC s)[lensO.getD j.val 0]? = some (.int .u8 (((s.lens.getD j.val (0, 0)).1 : Nat) : Int)) ∧ (styC s)[lensO.getD j.val 0 + 1]? = some (.int .i64 (s.lens.getD j.val (0, 0)).2) := by
  obtain ⟨j, hj⟩ := j
  have h : j = 0 ∨ j = 1 ∨ j = 2 ∨ j = 3 ∨ j = 4 ∨ j = 5 ∨ j = 6 ∨ j = 7 ∨ j = 8 ∨ j = 9 ∨ j = 10 := by omega
  rcases h with rfl | rfl | rfl | rfl | rfl | rfl | rfl | rfl | rfl | rfl | rfl <;> exact ⟨rfl, rfl⟩
theorem styC_numAt (s : Sty) (j : Fin 16) : (styC s)[numsO.getD j.val 0]? = some (.int .i64 (s.nums.getD j.val 0)) := by
  obtain ⟨j, hj⟩ := j
  have h : j = 0 ∨ j = 1 ∨ j = 2 ∨ j = 3 ∨ j = 4 ∨ j = 5 ∨ j = 6 ∨ j = 7 ∨ j = 8 ∨ j = 9 ∨ j = 10 ∨ j = 11 ∨ j = 12 ∨ j = 13 ∨ j = 14 ∨ j = 15 := by omega
  rcases h with rfl | rfl | rfl | rfl | rfl | rfl | rfl | rfl | rfl | rfl | rfl | rfl | rfl | rfl | rfl | rfl <;> rfl
/-- What a style's words leave. -/
def StydPost (o : Option (List (List UInt8))) (w : World) (e : Ending) (w' : World) : Prop :=
  Below w.heap.size w w' ∧ (o = none → e = .returned (.tuple #[.slice none 0 0, .bool false])) ∧ (∀ l, o = some l → ∃ v, e = .returned (.tuple #[v, .bool true]) ∧ OwnsS w' w.heap.size v l)
theorem StydPost.no {o : Option (List (List UInt8))} {w w' : World} (h : o = none) (hb : Below w.heap.size w w') : StydPost o w (.returned (.tuple #[.slice none 0 0, .bool false])) w' :=
  ⟨hb, fun _ => rfl, fun l hl => by rw [h] at hl; cases hl⟩
theorem StydPost.yes {o : Option (List (List UInt8))} {l : List (List UInt8)} {v : Value} {w w' : World} (h : o = some l) (hb : Below w.heap.size w w') (ho : OwnsS w' w.heap.size v l) : StydPost o w (.returned (.tuple #[v, .bool true])) w' :=
  ⟨hb, fun hn => (by rw [h] at hn; cases hn), fun l' hl => (by rw [h] at hl; injection hl with hl; subst hl; exact ⟨v, rfl, ho⟩)⟩
/-- What lies in memory while a style's words are written. -/
structure SdM (s : Sty) (w0 : World) (v : Value) (o : List (List UInt8)) (w : World) : Prop where
  bel : Below w0.heap.size w0 w
  sty : Blk w w0.heap.size 28 (styC s).toArray
  own : OwnsS w (w0.heap.size + 1) v o
  sz : w0.heap.size + 1 ≤ w.heap.size
theorem SdM.more {s : Sty} {w0 w w' : World} {v : Value} {o : List (List UInt8)} (h : SdM s w0 v o w) (hb : Below w.heap.size w w') : SdM s w0 v o w' :=
  ⟨h.bel.trans (hb.mono h.bel.size), h.sty.below hb h.sty.lt, h.own.below hb, Nat.le_trans h.sz hb.size⟩
theorem SdM.app {s : Sty} {w0 w w' : World} {v v' : Value} {o o' : List (List UInt8)} (h : SdM s w0 v o w) (hb : Below (w0.heap.size + 1) w w') (ho : OwnsS w' (w0.heap.size + 1) v' o') : SdM s w0 v' o' w' :=
  ⟨h.bel.trans (hb.mono (by omega)), h.sty.below hb (by omega), ho, Nat.le_trans h.sz hb.size⟩

theorem strs_one (w : World) (x : List UInt8) : Strs (w.alloc (.cells #[.string (mkB x)] 9)) (w.heap.size + 1) (.slice (some ⟨w.heap.size, 0, none⟩) 1 1) [x] := by
  refine ⟨some ⟨w.heap.size, 0, none⟩, 1, rfl, Nat.le_refl _, by simp, fun _ => ⟨_, rfl, by simp, fun j u hu => ?_⟩⟩
  have e : (⟨w.heap.size, 0, none⟩ : Addr).add j = ⟨w.heap.size, j, none⟩ := by unfold Addr.add; split <;> simp_all
  rw [e, (Blk.new w 9 #[.string (mkB x)]).cell j]
  simpa using hu
/-- 'l = append(l, x)': the one word lies in a new block of its own. -/
theorem append_word {ops : Array Oper} {rest : List Oper} {o : Oper} {a : Act} {Q : Exit → Act → World → Prop} (w : World) (x : List UInt8) (cv : Value) (hcv : cv = .string (mkB x)) (hgd : o.guard = none) (s y : Operand)
    (ho : o.op = .call { callee := .builtin .append, args := #[s, y], argTypes := #[47, 47] })
    (base : Nat) (v : Value) (l : List (List UInt8)) (hs : a.eval s = v) (hown : OwnsS w base v l) (hx : a.eval y = .slice (some ⟨w.heap.size, 0, none⟩) 1 1)
    (h47 : l.length < 900000) (hbase : base ≤ w.heap.size)
    (h : ∀ v' w', OwnsS w' base v' (l ++ [x]) → Below base w w' → wpList Tryz.prog ops Q rest (a.put o.dst v') w') : wpList Tryz.prog ops Q (o :: rest) a (w.alloc (.cells #[cv] 9)) := by
  subst hcv
  refine append_strs _ hgd s y ho base v l hs (World.ownsRow.alloc hown _) (w.heap.size + 1) _ [x] hx (strs_one w x) (by simp; omega) (by simp; omega) ?_
  intro v' w' h1 h2
  exact h v' w' h1 (((Below.refl base w).alloc hbase _).trans h2)
/-- .. in a region that draws its order. -/
theorem step_append_word {ops : Array Oper} {o : Oper} {a : Act} {K : Act → World → Prop} {Q : Exit → Act → World → Prop} {E : Prop} (w : World) (x : List UInt8) (cv : Value) (hcv : cv = .string (mkB x)) (hgd : o.guard = none) (s y : Operand)
    (ho : o.op = .call { callee := .builtin .append, args := #[s, y], argTypes := #[47, 47] })
    (base : Nat) (v : Value) (l : List (List UInt8)) (hs : a.eval s = v) (hown : OwnsS w base v l) (hx : a.eval y = .slice (some ⟨w.heap.size, 0, none⟩) 1 1)
    (h47 : l.length < 900000) (hbase : base ≤ w.heap.size)
    (h : ∀ v' w', OwnsS w' base v' (l ++ [x]) → Below base w w' → K (a.put o.dst v') w') :
    if Region.wanted o (yielded ops a.tmps) = true then Oper.wp Tryz.prog o a (w.alloc (.cells #[cv] 9)) K Q else E := by
  subst hcv
  obtain ⟨i0, hi0, hz0, hz1, hz2⟩ := info_parts Tryz.infoStr
  have hlt := fun k (e : v.ownBlock = some k) => (World.ownsRow.lt hown k e).1
  obtain ⟨A, c, hA, _, hr⟩ := strs_one w x
  refine step_append_any _ hgd s y _ ho base 9 i0 _ 1 16 Tryz.underlying47 hi0 hz0 hz1 hz2 rfl (by omega) v _ _ hs (World.ownsRow.alloc hown _) (w.heap.size + 1) A 1 c (strV [x]) (hx.trans hA) hr ?_ (by simp only [maxLen]; omega) (by omega) (by simp; omega) ?_
  · intro u hu
    simp [strV] at hu
    subst hu
    rfl
  · intro v' w' h1 h2 _
    refine h v' w' (by unfold OwnsS; rw [List.length_append, show strV (l ++ [x]) = strV l ++ strV [x] by simp [strV]]; exact h1) ?_
    exact ((Below.refl base w).alloc hbase _).grown h2 (by simp; omega) (fun k e => hlt k e)

theorem picks_step (s : Sty) (hs : s.Ok) (k : Nat) (hk : k < 7) : pickWs (picksT.drop k) (s.picks.drop k) = match pickW (picksT.getD k []) (s.picks.getD k 0) with
    | none => none
    | some w => (pickWs (picksT.drop (k + 1)) (s.picks.drop (k + 1))).map (w ++ ·) := by
  rw [List.drop_eq_getElem_cons (show k < picksT.length from hk), List.drop_eq_getElem_cons (show k < s.picks.length by rw [hs.p]; exact hk), pickWs, List.getD_eq_getElem?_getD, List.getD_eq_getElem?_getD, List.getElem?_eq_getElem (show k < picksT.length from hk), List.getElem?_eq_getElem (show k < s.picks.length by rw [hs.p]; exact hk)]
  rfl
theorem lens_step (s : Sty) (hs : s.Ok) (k : Nat) (hk : k < 11) : lenWs (lensT.drop k) (s.lens.drop k) = match lenW (lensT.getD k []) (s.lens.getD k (0, 0)) with
    | none => none
    | some w => (lenWs (lensT.drop (k + 1)) (s.lens.drop (k + 1))).map (w ++ ·) := by
  rw [List.drop_eq_getElem_cons (show k < lensT.length from hk), List.drop_eq_getElem_cons (show k < s.lens.length by rw [hs.l]; exact hk), lenWs, List.getD_eq_getElem?_getD, List.getD_eq_getElem?_getD, List.getElem?_eq_getElem (show k < lensT.length from hk), List.getElem?_eq_getElem (show k < s.lens.length by rw [hs.l]; exact hk)]
  rfl
theorem nums_step (s : Sty) (hs : s.Ok) (k : Nat) (hk : k < 16) : numWs (numsT.drop k) (s.nums.drop k) = numW (numsT.getD k []) (s.nums.getD k 0) ++ numWs (numsT.drop (k + 1)) (s.nums.drop (k + 1)) := by
  rw [List.drop_eq_getElem_cons (show k < numsT.length from hk), List.drop_eq_getElem_cons (show k < s.nums.length by rw [hs.n]; exact hk), numWs, List.getD_eq_getElem?_getD, List.getD_eq_getElem?_getD, List.getElem?_eq_getElem (show k < numsT.length from hk), List.getElem?_eq_getElem (show k < s.nums.length by rw [hs.n]; exact hk)]
  rfl
theorem getD_mem_small {T : List (List UInt8)} {n : Nat} (h : ∀ t ∈ T, t.length ≤ n) (k : Nat) : (T.getD k []).length ≤ n := by
  rw [List.getD_eq_getElem?_getD]
  cases hk : T[k]? with
  | none => simp
  | some t => exact h t (List.mem_of_getElem? hk)
def PdA (s : Sty) (w0 : World) (g : Nat) (l i : Value) (w : World) : Prop :=
  ∃ (k : Nat) (o : List (List UInt8)), k + g = 7 ∧ i = .int .i64 k ∧ o.length ≤ k ∧ SdM s w0 l o w ∧ pickWs picksT s.picks = (pickWs (picksT.drop k) (s.picks.drop k)).map (o ++ ·)
def LdA (s : Sty) (w0 : World) (f : List (List UInt8)) (g : Nat) (l i : Value) (w : World) : Prop :=
  ∃ (k : Nat) (o : List (List UInt8)), k + g = 11 ∧ i = .int .i64 k ∧ o.length ≤ k ∧ SdM s w0 l (f ++ o) w ∧ lenWs lensT s.lens = (lenWs (lensT.drop k) (s.lens.drop k)).map (o ++ ·)
def NdA (s : Sty) (w0 : World) (f : List (List UInt8)) (g : Nat) (l i : Value) (w : World) : Prop :=
  ∃ (k : Nat) (o : List (List UInt8)), k + g = 16 ∧ i = .int .i64 k ∧ o.length ≤ k ∧ SdM s w0 l (f ++ o) w ∧ numWs numsT s.nums = o ++ numWs (numsT.drop k) (s.nums.drop k)
theorem stylW_pick {s : Sty} (h : pickWs picksT s.picks = none) : stylW s = none := by unfold stylW; rw [h]
theorem shp_length : shp Tryz.prog 10 24 = some [5, 3] := by kernel_rfl
theorem length_formed (a n : Int) : (Value.agg #[.int .u8 a, .int .i64 n]).formed Tryz.prog 24 = true := by
  have h : Tryz.prog.cellsOf 24 = 2 := by kernel_rfl
  simp [Value.formed, Tryz.underlying24, h]
theorem length_equal {a : Nat} {n : Int} (ha : a < 256) (hn : I64 n) (w : World) :
    ∃ r : Bool, (Op.equal 24 (.agg #[.int .u8 ((a : Nat) : Int), .int .i64 n]) (.agg #[.int .u8 0, .int .i64 0])).run Tryz.prog w = .ok r w ∧ (r = true ↔ a = 0 ∧ n = 0) := by
  have h1 := shp_lits 10 _ _ shp_length [.int .u8 ((a : Nat) : Int), .int .i64 n] [.int .u8 ((a : Nat) : Int), .int .i64 n] ⟨lit_u8 ha, lit_int hn, trivial⟩
  have h2 := shp_lits 10 _ _ shp_length [.int .u8 ((0 : Nat) : Int), .int .i64 0] [.int .u8 ((0 : Nat) : Int), .int .i64 0] ⟨lit_u8 (by omega), lit_int I64_zero, trivial⟩
  obtain ⟨r, hr, hi⟩ := run_equalIn_deep (P := Tryz.prog) 9990 10 24 (by kernel_rfl) w 10 10 _ _ _ _ (length_formed _ _) (length_formed _ _) h1 h2
  refine ⟨r, hr, hi.trans ?_⟩
  constructor
  · intro h
    simp at h
    exact h
  · rintro ⟨rfl, rfl⟩; rfl

end Go.Proofs.YtaoehdmdjplegaaGreatDoor
namespace Go.Proofs.YtaoehdmdjplegaaGreatDoor
open Go.RowKit Go.Shelf

set_option maxRecDepth 100000 in
set_option maxHeartbeats 8000000 in
theorem styled_any (s : Sty) (hs : s.Ok) (w : World) (hw : ScrW w) :
    Calls Tryz.prog 30 #[.agg (styC s).toArray] w (StydPost (stylW s) w) := by
  have hm0 : SdM s w (.slice none 0 0) [] (w.alloc (.cells (styC s).toArray 28)) := ⟨below_one _ _, Blk.new w _ _, OwnsS.nil _ _, by simp⟩
  go_enter Tryz.func30, Tryz.ntmps30
  go_wp2_with fail
  refine (picked_of w.heap.size 0 _).mono ?_
  rintro e w1 ⟨rfl, hb1⟩
  have hm1 := hm0.more hb1
  clear hm0 hb1
  go_wp2_with fail
  go_loopg [4, 13] 7 (PdA s w)
  case atStart => exact ⟨0, [], rfl, rfl, by simp, hm1, by simp⟩
  case round =>
    obtain ⟨k, o, hkg, rfl, hol, hm, hpw⟩ := hrel
    have HPW := Lib.hid hpw
    clear hpw hm1
    have HSW := Lib.hid (hw.below hm.bel (Nat.le_refl _))
    cases gk with
    | zero =>
      have HP := Lib.hid (show pickWs picksT s.picks = some o by rw [HPW.out, show k = 7 by omega, List.drop_of_length_le (show picksT.length ≤ 7 from Nat.le_refl _)]; simp [pickWs])
      have hol7 : o.length ≤ 7 := by omega
      have hk7 : ¬ ((k : Nat) : Int) < 7 := by omega
      clear HPW
      have s1 : wr.cell? ⟨w.heap.size, 1, none⟩ = some (.bool s.whole) := hm.sty.cell 1
      have s38 : wr.cell? ⟨w.heap.size, 38, none⟩ = some (.bool s.wrap) := hm.sty.cell 38
      obtain ⟨f1, hf1⟩ : ∃ f, f = (if s.whole then [wholeB] else []) := ⟨_, rfl⟩
      obtain ⟨f2, hf2⟩ : ∃ f, f = (if s.wrap then [wrapB] else []) := ⟨_, rfl⟩
      have HF := Lib.hid (show flagW s = f1 ++ f2 by rw [hf1, hf2]; rfl)
      have hl1 : f1.length ≤ 1 := by rw [hf1]; cases s.whole <;> decide
      have hl2 : f2.length ≤ 1 := by rw [hf2]; cases s.wrap <;> decide
      have HF1 := Lib.hid hf1
      have HF2 := Lib.hid hf2
      clear hf1 hf2
      obtain ⟨bw, hbw⟩ : ∃ b, b = s.whole := ⟨_, rfl⟩
      obtain ⟨bp, hbp⟩ : ∃ b, b = s.wrap := ⟨_, rfl⟩
      rw [← hbw] at s1 HF1
      rw [← hbp] at s38 HF2
      have HBP := Lib.hid hbp
      clear hbw hbp
      go_upto_if 54 with fail
      go_cut [4] (fun s4 wx => SdM s w s4 (o ++ f1) wx)
      case first =>
        cases bw with
        | false =>
          go_wp2_with fail
          go_meet
          exact (by rw [HF1.out]; simpa using hm)
        | true =>
          have hsz := hm.sz
          go_wp2_with (at_builtin; refine append_word _ wholeB _ (by rfl) (by rfl) _ _ (by rfl) (w.heap.size + 1) _ o (by rfl) hm.own (by rfl) (by omega) hsz ?_; intro v3 w3 hown3 hb3)
          go_meet
          exact (by rw [HF1.out]; exact hm.app hb3 hown3)
      case rest =>
        have hm1 := hcut
        clear hm hcut HSW s1 HF1 s38
        have s38 : wc.cell? ⟨w.heap.size, 38, none⟩ = some (.bool s.wrap) := hm1.sty.cell 38
        rw [← HBP.out] at s38
        go_upto_if 59 with fail
        go_cut [4] (fun s4 wx => SdM s w s4 ((o ++ f1) ++ f2) wx)
        case first =>
          cases bp with
          | false =>
            go_wp2_with fail
            go_meet
            exact (by rw [HF2.out]; simpa using hm1)
          | true =>
            have hsz := hm1.sz
            have hol8 : (o ++ f1).length < 900000 := by rw [List.length_append]; omega
            go_wp2_with (at_builtin; refine append_word _ wrapB _ (by rfl) (by rfl) _ _ (by rfl) (w.heap.size + 1) _ (o ++ f1) (by rfl) hm1.own (by rfl) hol8 hsz ?_; intro v3 w3 hown3 hb3)
            go_meet
            exact (by rw [HF2.out]; exact hm1.app hb3 hown3)
        case rest =>
          have hm2 := hcut
          have hF : ((o ++ f1) ++ f2).length ≤ 9 := by rw [List.length_append, List.length_append]; omega
          have HFin := Lib.hid (show ∀ b, lenWs lensT s.lens = some b → stylW s = some (((o ++ f1) ++ f2) ++ (b ++ numWs numsT s.nums)) by
            intro b hb
            unfold stylW
            rw [HP.out, hb, HF.out]
            simp)
          clear hm1 hcut s38 HF2 HBP HP HF
          generalize (o ++ f1) ++ f2 = F at *
          go_wp2_with fail
          refine (lengths_of w.heap.size 0 _).mono ?_
          rintro e w5 ⟨rfl, hb5⟩
          have hm5 := hm2.more hb5
          clear hm2 hb5
          go_wp2_with fail
          go_loopg [4, 64] 11 (LdA s w F)
          case atStart => exact ⟨0, [], rfl, rfl, by simp, by simpa using hm5, by simp⟩
          case round =>
            clear hm5 hk7 hol
            obtain ⟨k, ol, hkg, rfl, hol, hm, hlw⟩ := hrel
            have HLW := Lib.hid hlw
            clear hlw
            cases gk with
            | zero =>
              have hke : k = 11 := by omega
              have hk11 : ¬ ((k : Nat) : Int) < 11 := by omega
              have HLL := Lib.hid (show lenWs lensT s.lens = some ol by rw [HLW.out, hke, List.drop_of_length_le (show lensT.length ≤ 11 from Nat.le_refl _)]; simp [lenWs])
              have HFin2 := Lib.hid (HFin.out _ HLL.out)
              have hG : (F ++ ol).length ≤ 20 := by rw [List.length_append]; omega
              have HFin3 := Lib.hid (HFin2.out.trans (by rw [← List.append_assoc]))
              clear hke HLW HLL HFin HFin2 hol hkg
              generalize F ++ ol = G at *
              go_wp2_with fail
              refine (numbers_of w.heap.size 0 _).mono ?_
              rintro e w6 ⟨rfl, hb6⟩
              have hm6 := hm.more hb6
              clear hm hb6
              go_wp2_with fail
              go_loopg [4, 104] 16 (NdA s w G)
              case atStart => exact ⟨0, [], rfl, rfl, by simp, by simpa using hm6, by simp⟩
              case round =>
                clear hm6 hk11
                obtain ⟨k, ol, hkg, rfl, hol, hm, hlw⟩ := hrel
                have HNW := Lib.hid hlw
                clear hlw
                cases gk with
                | zero =>
                  have hke : k = 16 := by omega
                  have hk16 : ¬ ((k : Nat) : Int) < 16 := by omega
                  have HR := Lib.hid (show stylW s = some (G ++ ol) by rw [HFin3.out, HNW.out, hke, List.drop_of_length_le (show numsT.length ≤ 16 from Nat.le_refl _)]; simp [numWs])
                  clear hke
                  go_wp2_with fail
                  go_ret2
                  exact StydPost.yes HR.out hm.bel (hm.own.base_le (Nat.le_succ _))
                | succ g1 =>
                  have hk16 : k < 16 := by omega
                  have hl16 : ((k : Nat) : Int) < 16 := by omega
                  have hpp := ptr_num w.heap.size ⟨k, hk16⟩
                  simp only at hpp
                  have p1w := hw.nms k hk16
                  have ltg := World.block_lt_of_cell? w _ p1w
                  simp only at ltg
                  have p1 := cell_stays p1w hm.bel (Nat.le_refl _)
                  clear p1w
                  have s1 := styC_numAt s ⟨k, hk16⟩
                  simp only at s1
                  have hTl := getD_mem_small numsT_small k
                  have hn := nk_at hs k
                  have HST := Lib.hid (nums_step s hs k hk16)
                  generalize numsO.getD k 0 = lo at *
                  generalize numsT.getD k [] = T at *
                  generalize s.nums.getD k 0 = n at *
                  have c0 : wr.cell? ⟨w.heap.size, lo, none⟩ = some (.int .i64 n) := by rw [hm.sty.cell, List.getElem?_toArray]; exact s1
                  clear s1
                  by_cases hz : n = 0
                  · have t0 : (n != 0) = false := by rw [hz]; rfl
                    have HN := Lib.hid (show numWs numsT s.nums = ol ++ numWs (numsT.drop (k + 1)) (s.nums.drop (k + 1)) by rw [HNW.out, HST.out, show numW T n = [] from if_pos hz]; simp)
                    clear hz
                    go_wp2_with fail
                    go_roundg g1
                    case measure => omega
                    case rel => exact ⟨k + 1, ol, by omega, by go_num, by omega, hm, HN.out⟩
                  · have t0 : (n != 0) = true := by rw [bne_iff_ne]; exact hz
                    have HN := Lib.hid (show numWs numsT s.nums = (ol ++ [T ++ 61 :: Lib.itoa n]) ++ numWs (numsT.drop (k + 1)) (s.nums.drop (k + 1)) by rw [HNW.out, HST.out, show numW T n = [T ++ 61 :: Lib.itoa n] from if_neg hz]; simp)
                    clear hz
                    have z1 : (mkB T).size ≤ 100 := by rw [mkB_size]; exact hTl
                    have z2 := itoa_size hn
                    have hsz := hm.sz
                    have hol9 : (G ++ ol).length < 900000 := by rw [List.length_append]; omega
                    have HE61 : (⟨#[61]⟩ : ByteArray) = mkB [61] := rfl
                    have HCV := Lib.hid (show Value.string (mkB T ++ ⟨#[61]⟩ ++ mkB (Lib.itoa n)) = .string (mkB (T ++ 61 :: Lib.itoa n)) from congrArg Value.string (by rw [HE61, mkB_append, mkB_append]; simp))
                    clear HE61
                    have hkeep : ∀ w', Below (w.heap.size + 1) wr.drew w' → w'.cell? ⟨2, k, none⟩ = some (.string (mkB T)) ∧ w'.cell? ⟨w.heap.size, lo, none⟩ = some (.int .i64 n) := fun w' hb' =>
                      ⟨(hb'.cell (p := ⟨2, k, none⟩) (show 2 < w.heap.size + 1 by omega)).trans p1, (hb'.cell (p := ⟨w.heap.size, lo, none⟩) (Nat.lt_succ_self _)).trans c0⟩
                    have hnum : NumW wr.drew := (hw.below (hm.bel.trans (below_drewN (Below.refl _ wr) 1)) (Nat.le_refl _)).num
                    have HIT := Lib.hid (itoa_num (w := wr.drew) hn hnum)
                    clear hnum
                    have hadd1 : ∀ W, (Op.stringOp .add (mkB T) ⟨#[61]⟩).run Tryz.prog W = .ok (.string (mkB T ++ ⟨#[61]⟩)) W := fun W => run_string_add_sum W _ _ (by show (mkB T).size + 1 ≤ _; omega)
                    have hadd2 : ∀ W, (Op.stringOp .add (mkB T ++ ⟨#[61]⟩) (mkB (Lib.itoa n))).run Tryz.prog W = .ok (.string ((mkB T ++ ⟨#[61]⟩) ++ mkB (Lib.itoa n))) W := fun W => run_string_add_sum W _ _ (by rw [ByteArray.size_append]; show (mkB T).size + 1 + _ ≤ _; omega)
                    go_wp2_with fail
                    go_region_held3 (fun w' => w'.cell? ⟨2, k, none⟩ = some (.string (mkB T)) ∧ w'.cell? ⟨w.heap.size, lo, none⟩ = some (.int .i64 n)) (first | exact hkeep _ (by assumption) | go_keep)
                      (first | (go_at_call 26; (with_reducible refine HIT.out.mono ?_); rintro e w7 ⟨rfl, hb7⟩; have hb7w : Below wr.heap.size wr w7 := (below_drewN (Below.refl _ wr) 1).trans hb7; have hb7s : Below (w.heap.size + 1) wr.drew w7 := hb7.mono hsz; clear hb7) | (refine step_append_word _ (T ++ 61 :: Lib.itoa n) _ HCV.out (by rfl) _ _ (by rfl) (w.heap.size + 1) u4 (G ++ ol) (by rfl) (hm.own.below hb7w) (by rfl) hol9 (Nat.le_trans hsz hb7w.size) ?_; intro v3 w3 hown3 hb3; have hb8 : Below (w.heap.size + 1) wr.drew w3 := hb7s.trans hb3) | fail)
                    have hm7 := hm.more hb7w
                    go_wp2_with fail
                    go_roundg g1
                    case measure => omega
                    case rel => exact ⟨k + 1, ol ++ [T ++ 61 :: Lib.itoa n], by omega, by go_num, by simp; omega, hm7.app hb3 (by rw [← List.append_assoc]; exact hown3), HN.out⟩
            | succ g1 =>
              have hk11 : k < 11 := by omega
              have hl11 : ((k : Nat) : Int) < 11 := by omega
              have hpp := ptr_len w.heap.size ⟨k, hk11⟩
              simp only at hpp
              have p1w := hw.len k hk11
              have ltg := World.block_lt_of_cell? w _ p1w
              simp only at ltg
              have p1 := cell_stays p1w hm.bel (Nat.le_refl _)
              clear p1w
              obtain ⟨s1, s2⟩ := styC_lenAt s ⟨k, hk11⟩
              simp only at s1 s2
              have hTl := getD_mem_small lensT_small k
              obtain ⟨ha, hn⟩ := lk_at hs k
              have HST := Lib.hid (lens_step s hs k hk11)
              generalize lensO.getD k 0 = lo at *
              generalize lensT.getD k [] = T at *
              generalize s.lens.getD k (0, 0) = x at *
              obtain ⟨a, n⟩ := x
              simp only at s1 s2 ha hn
              have c0 : wr.cell? ⟨w.heap.size, lo, none⟩ = some (.int .u8 ((a : Nat) : Int)) := by rw [hm.sty.cell, List.getElem?_toArray]; exact s1
              have c1 : wr.cell? ⟨w.heap.size, lo + 1, none⟩ = some (.int .i64 n) := by rw [hm.sty.cell, List.getElem?_toArray]; exact s2
              have HCS := Lib.hid (show ∀ j v, ([.int .u8 ((a : Nat) : Int), .int .i64 n] : List Value)[j]? = some v → (styC s)[lo + j]? = some v from fun j v hv => by
                match j, hv with
                | 0, hv => injection hv with hv; rw [← hv]; exact s1
                | 1, hv => injection hv with hv; rw [← hv]; exact s2
                | j + 2, hv => simp at hv)
              clear s1 s2
              have z1 : (mkB T).size ≤ 100 := by rw [mkB_size]; exact hTl
              have z2 := itoa_size hn
              have hsz := hm.sz
              have hkeep : ∀ w', Below wr.drew.heap.size wr.drew w' → w'.cell? ⟨1, k, none⟩ = some (.string (mkB T)) ∧ w'.cell? ⟨w.heap.size, lo + 1, none⟩ = some (.int .i64 n) := fun w' hb' =>
                ⟨(hb'.cell (p := ⟨1, k, none⟩) (show 1 < wr.heap.size by omega)).trans p1, (hb'.cell (p := ⟨w.heap.size, lo + 1, none⟩) (show w.heap.size < wr.heap.size by omega)).trans c1⟩
              have hnum : NumW wr.drew := (hw.below (hm.bel.trans (below_drewN (Below.refl _ wr) 1)) (Nat.le_refl _)).num
              have HIT := Lib.hid (itoa_num (w := wr.drew) hn hnum)
              clear hnum
              have hadd1 : ∀ W, (Op.stringOp .add (mkB T) ⟨#[61]⟩).run Tryz.prog W = .ok (.string (mkB T ++ ⟨#[61]⟩)) W := fun W => run_string_add_sum W _ _ (by show (mkB T).size + 1 ≤ _; omega)
              have hadd2 : ∀ W, (Op.stringOp .add (mkB T ++ ⟨#[61]⟩) (mkB (Lib.itoa n))).run Tryz.prog W = .ok (.string ((mkB T ++ ⟨#[61]⟩) ++ mkB (Lib.itoa n))) W := fun W => run_string_add_sum W _ _ (by rw [ByteArray.size_append]; show (mkB T).size + 1 + _ ≤ _; omega)
              go_wp2_with fail
              go_region_held3 (fun w' => w'.cell? ⟨1, k, none⟩ = some (.string (mkB T)) ∧ w'.cell? ⟨w.heap.size, lo + 1, none⟩ = some (.int .i64 n)) (first | exact hkeep _ (by assumption) | go_keep)
                (first | (go_at_call 26; with_reducible refine HIT.out.mono ?_; rintro e w6 ⟨rfl, hb6⟩))
              have hb6w : Below wr.heap.size wr w6 := (below_drewN (Below.refl _ wr) 1).trans hb6
              have hm6 := hm.more hb6w
              have q0 : w6.cell? ⟨w.heap.size, lo, none⟩ = some (.int .u8 ((a : Nat) : Int)) := cell_stays c0 hb6w (Nat.le_refl _)
              have hol9 : (F ++ ol).length < 900000 := by rw [List.length_append]; omega
              have hsz6 := hm6.sz
              obtain ⟨r, hr, hi⟩ := length_equal ha hn w6
              have HE61 : (⟨#[61]⟩ : ByteArray) = mkB [61] := rfl
              have HCV := Lib.hid (show Value.string (mkB T ++ ⟨#[61]⟩ ++ mkB (Lib.itoa n)) = .string (mkB (T ++ 61 :: Lib.itoa n)) from congrArg Value.string (by rw [HE61, mkB_append, mkB_append]; simp))
              have HCW := Lib.hid (show Value.string (mkB T ++ ⟨#[61]⟩ ++ mkB (Lib.itoa n) ++ ⟨#[112]⟩) = .string (mkB (T ++ 61 :: (Lib.itoa n ++ [112]))) from congrArg Value.string (by rw [HE61, show (⟨#[112]⟩ : ByteArray) = mkB [112] from rfl, mkB_append, mkB_append, mkB_append]; simp))
              clear hkeep HIT hadd1 hadd2 hb6 p1 c0 c1 hb6w HE61 hpp
              by_cases hz : a = 0 ∧ n = 0
              · have hrt : r = true := hi.2 hz
                subst hrt
                have HN := Lib.hid (show lenWs lensT s.lens = (lenWs (lensT.drop (k + 1)) (s.lens.drop (k + 1))).map (ol ++ ·) by rw [HLW.out, HST.out, show lenW T (a, n) = some [] by (unfold lenW; rw [if_pos (by rw [hz.1, hz.2])])]; simp)
                clear hi hz
                go_wp2_with (first | (refine wpList_load_blk rfl 24 _ rfl w.heap.size lo 28 (styC s) [.int .u8 ((a : Nat) : Int), .int .i64 n] _ rfl hm6.sty HCS.out Tryz.underlying24 rfl (by kernel_rfl) ?_) | (refine wpList_eql_agg (by rfl) 24 _ _ _ rfl _ _ rfl rfl (by kernel_rfl) _ hr ?_))
                go_roundg g1
                case measure => omega
                case rel => exact ⟨k + 1, ol, by omega, by go_num, by omega, hm6, HN.out⟩
              · have hrf : r = false := by
                  cases r with
                  | false => rfl
                  | true => exact absurd (hi.1 rfl) hz
                subst hrf
                clear hi
                have hnz : ¬ ((a, n) : Nat × Int) = (0, 0) := fun h => hz (by injection h with h1 h2; exact ⟨h1, h2⟩)
                by_cases h2 : a = 2
                · have t2 : (((a : Nat) : Int) == 2) = true := by rw [beq_iff_eq]; omega
                  have HN := Lib.hid (show lenWs lensT s.lens = (lenWs (lensT.drop (k + 1)) (s.lens.drop (k + 1))).map ((ol ++ [T ++ 61 :: (Lib.itoa n ++ [112])]) ++ ·) by rw [HLW.out, HST.out, show lenW T (a, n) = some [T ++ 61 :: (Lib.itoa n ++ [112])] by (unfold lenW; rw [if_neg hnz, if_pos h2])]; simp [Function.comp_def])
                  have z3 : (mkB T ++ ⟨#[61]⟩ ++ mkB (Lib.itoa n)).size ≤ 200 := by rw [ByteArray.size_append, ByteArray.size_append]; show (mkB T).size + 1 + _ ≤ _; omega
                  clear hz hnz h2
                  go_wp2_with (first | (refine wpList_load_blk rfl 24 _ rfl w.heap.size lo 28 (styC s) [.int .u8 ((a : Nat) : Int), .int .i64 n] _ rfl hm6.sty HCS.out Tryz.underlying24 rfl (by kernel_rfl) ?_) | (refine wpList_eql_agg (by rfl) 24 _ _ _ rfl _ _ rfl rfl (by kernel_rfl) _ hr ?_) | (at_builtin; refine append_word _ (T ++ 61 :: (Lib.itoa n ++ [112])) _ HCW.out (by rfl) _ _ (by rfl) (w.heap.size + 1) _ (F ++ ol) (by rfl) hm6.own (by rfl) hol9 hsz6 ?_; intro v3 w3 hown3 hb3))
                  go_roundg g1
                  case measure => omega
                  case rel => exact ⟨k + 1, ol ++ [T ++ 61 :: (Lib.itoa n ++ [112])], by omega, by go_num, by simp; omega, hm6.app hb3 (by rw [← List.append_assoc]; exact hown3), HN.out⟩
                · have t2 : (((a : Nat) : Int) == 2) = false := by rw [beq_eq_false_iff_ne]; omega
                  by_cases h1 : a = 1
                  · have t1 : (((a : Nat) : Int) != 1) = false := by rw [h1]; rfl
                    have HN := Lib.hid (show lenWs lensT s.lens = (lenWs (lensT.drop (k + 1)) (s.lens.drop (k + 1))).map ((ol ++ [T ++ 61 :: Lib.itoa n]) ++ ·) by rw [HLW.out, HST.out, show lenW T (a, n) = some [T ++ 61 :: Lib.itoa n] by (unfold lenW; rw [if_neg hnz, if_neg h2, if_pos h1])]; simp [Function.comp_def])
                    clear hz hnz h2 h1
                    go_wp2_with (first | (refine wpList_load_blk rfl 24 _ rfl w.heap.size lo 28 (styC s) [.int .u8 ((a : Nat) : Int), .int .i64 n] _ rfl hm6.sty HCS.out Tryz.underlying24 rfl (by kernel_rfl) ?_) | (refine wpList_eql_agg (by rfl) 24 _ _ _ rfl _ _ rfl rfl (by kernel_rfl) _ hr ?_) | (at_builtin; refine append_word _ (T ++ 61 :: Lib.itoa n) _ HCV.out (by rfl) _ _ (by rfl) (w.heap.size + 1) _ (F ++ ol) (by rfl) hm6.own (by rfl) hol9 hsz6 ?_; intro v3 w3 hown3 hb3))
                    go_roundg g1
                    case measure => omega
                    case rel => exact ⟨k + 1, ol ++ [T ++ 61 :: Lib.itoa n], by omega, by go_num, by simp; omega, hm6.app hb3 (by rw [← List.append_assoc]; exact hown3), HN.out⟩
                  · have t1 : (((a : Nat) : Int) != 1) = true := by rw [bne_iff_ne]; omega
                    have HN := Lib.hid (show stylW s = none by
                      have : lenWs lensT s.lens = none := by rw [HLW.out, HST.out, show lenW T (a, n) = none by (unfold lenW; rw [if_neg hnz, if_neg h2, if_neg h1])]; rfl
                      unfold stylW
                      rw [this]
                      cases pickWs picksT s.picks <;> rfl)
                    clear hz hnz h2 h1
                    go_wp2_with (first | (refine wpList_load_blk rfl 24 _ rfl w.heap.size lo 28 (styC s) [.int .u8 ((a : Nat) : Int), .int .i64 n] _ rfl hm6.sty HCS.out Tryz.underlying24 rfl (by kernel_rfl) ?_) | (refine wpList_eql_agg (by rfl) 24 _ _ _ rfl _ _ rfl rfl (by kernel_rfl) _ hr ?_))
                    go_ret2
                    exact StydPost.no HN.out hm6.bel
    | succ g1 =>
      have hk7 : k < 7 := by omega
      have hl7 : ((k : Nat) : Int) < 7 := by omega
      have hpp := ptr_pick w.heap.size ⟨k, hk7⟩
      simp only at hpp
      obtain ⟨b, oo, cc, p1w, p2, p3w⟩ := hw.pck k hk7
      have p1 := cell_stays p1w hm.bel (Nat.le_refl _)
      have p3 : ∀ j, j < (picksT.getD k []).length → wr.cell? ⟨b, oo + j, none⟩ = some (.string (mkB ((picksT.getD k []).getD j []))) := fun j hj => cell_stays (p3w j hj) hm.bel (Nat.le_refl _)
      have ltg := World.block_lt_of_cell? w _ p1w
      have ltb : ∀ j, j < (picksT.getD k []).length → b < w.heap.size := fun j hj => World.block_lt_of_cell? w _ (p3w j hj)
      simp only at ltg
      clear p1w p3w
      have hcx : wr.cell? ⟨w.heap.size, pickO.getD k 0, none⟩ = some (.int .u8 ((s.picks.getD k 0 : Nat) : Int)) := by rw [hm.sty.cell, List.getElem?_toArray]; exact styC_pickAt s ⟨k, hk7⟩
      have hx256 := pk_at hs k
      have HST := Lib.hid (picks_step s hs k hk7)
      have HP3 := Lib.hid p3
      clear p3
      have HLB := Lib.hid ltb
      clear ltb
      generalize pickO.getD k 0 = po at *
      generalize picksT.getD k [] = T at *
      generalize s.picks.getD k 0 = x at *
      have i1 : IntKind.i64.wrap ((x : Nat) : Int) = ((x : Nat) : Int) := by rw [IntKind.wrap_i64]; omega
      by_cases hle : T.length ≤ x
      · have d1 : decide (T.length ≤ x) = true := by simpa using hle
        have HN := Lib.hid (stylW_pick (by rw [HPW.out, HST.out, show pickW T x = none by (unfold pickW; rw [List.getElem?_eq_none hle])]; rfl))
        clear hle
        go_wp2_with fail
        go_quiet (fail)
        go_wp2_with fail
        go_ret2
        exact StydPost.no HN.out (below_drewN hm.bel _)
      · have hlt : x < T.length := by omega
        have d1 : decide (T.length ≤ x) = false := by simpa using hlt
        have hcell := HP3.out x hlt
        have HPK := Lib.hid (show pickW T x = if T.getD x [] = [63] then none else if x = 0 then some [] else some [T.getD x []] by
          unfold pickW
          rw [List.getD_eq_getElem?_getD, List.getElem?_eq_getElem hlt]; rfl)
        generalize T.getD x [] = y at *
        clear hle
        by_cases h63 : y = [63]
        · have q1 : ((mkB y).toList == ([63] : List UInt8)) = true := str_eq' (b := [63]) h63
          have HN := Lib.hid (stylW_pick (by rw [HPW.out, HST.out, HPK.out, if_pos h63]; rfl))
          clear h63
          go_wp2_with fail
          go_quiet (fail)
          go_wp2_with fail
          go_ret2
          exact StydPost.no HN.out (below_drewN hm.bel _)
        · have q1 : ((mkB y).toList == ([63] : List UInt8)) = false := str_ne' (b := [63]) h63
          by_cases h0 : x = 0
          · have z0 : ¬ (0 : Int) < ((x : Nat) : Int) := by omega
            have HN := Lib.hid (show pickWs picksT s.picks = (pickWs (picksT.drop (k + 1)) (s.picks.drop (k + 1))).map (o ++ ·) by rw [HPW.out, HST.out, HPK.out, if_neg h63, if_pos h0]; simp)
            clear h63 h0
            go_wp2_with fail
            go_quiet (fail)
            go_wp2_with fail
            go_roundg g1
            case measure => omega
            case rel => exact ⟨k + 1, o, by omega, by go_num, by omega, hm.more (below_drewN (Below.refl _ _) _), HN.out⟩
          · have z0 : (0 : Int) < ((x : Nat) : Int) := by omega
            have HN := Lib.hid (show pickWs picksT s.picks = (pickWs (picksT.drop (k + 1)) (s.picks.drop (k + 1))).map ((o ++ [y]) ++ ·) by rw [HPW.out, HST.out, HPK.out, if_neg h63, if_neg h0]; simp [Function.comp_def])
            clear h63 h0
            have hsz := hm.sz
            go_wp2_with fail
            go_quiet (fail)
            go_wp2_with fail
            have hbq : Below w.heap.size w (wr.drewN nq) := below_drewN hm.bel _
            have hownq : OwnsS (wr.drewN nq) (w.heap.size + 1) u4 o := hm.own
            have hmq := hm.more (below_drewN (Below.refl _ wr) nq)
            have hszq : w.heap.size + 1 ≤ (wr.drewN nq).heap.size := hsz
            have r1 : (wr.drewN nq).cell? ⟨0, k, none⟩ = some (.slice (some ⟨b, oo, none⟩) T.length cc) := p1
            have r2 : (wr.drewN nq).cell? ⟨w.heap.size, po, none⟩ = some (.int .u8 ((x : Nat) : Int)) := hcx
            have r3 : (wr.drewN nq).cell? ⟨b, oo + x, none⟩ = some (.string (mkB y)) := hcell
            have r4 : ((x : Nat) : Int) < ((T.length : Nat) : Int) := by omega
            have hol9 : o.length < 900000 := by omega
            have ltb := HLB.out x hlt
            clear p1 hcx hcell hm
            generalize wr.drewN nq = wq at *
            have hkeep : ∀ w', Below (w.heap.size + 1) wq.drew w' → w'.cell? ⟨0, k, none⟩ = some (.slice (some ⟨b, oo, none⟩) T.length cc) ∧ w'.cell? ⟨w.heap.size, po, none⟩ = some (.int .u8 ((x : Nat) : Int)) ∧ w'.cell? ⟨b, oo + x, none⟩ = some (.string (mkB y)) := fun w' hb' =>
              ⟨(hb'.cell (p := ⟨0, k, none⟩) (Nat.lt_succ_of_lt ltg)).trans r1, (hb'.cell (p := ⟨w.heap.size, po, none⟩) (Nat.lt_succ_self _)).trans r2, (hb'.cell (p := ⟨b, oo + x, none⟩) (Nat.lt_succ_of_lt ltb)).trans r3⟩
            go_region_held3 (fun w' => w'.cell? ⟨0, k, none⟩ = some (.slice (some ⟨b, oo, none⟩) T.length cc) ∧ w'.cell? ⟨w.heap.size, po, none⟩ = some (.int .u8 ((x : Nat) : Int)) ∧ w'.cell? ⟨b, oo + x, none⟩ = some (.string (mkB y))) (first | exact hkeep _ (by assumption) | go_keep)
              (first | (refine step_append_word _ y _ (by rfl) (by rfl) _ _ (by rfl) (w.heap.size + 1) u4 o (by rfl) (hownq.drewN 1) (by rfl) hol9 hszq ?_; intro v3 w3 hown3 hb3))
            go_wp2_with fail
            go_roundg g1
            case measure => omega
            case rel => exact ⟨k + 1, o ++ [y], by omega, by go_num, by simp; omega, (hmq.more (below_drewN (Below.refl _ wq) 1)).app hb3 hown3, HN.out⟩

end Go.Proofs.YtaoehdmdjplegaaGreatDoor
