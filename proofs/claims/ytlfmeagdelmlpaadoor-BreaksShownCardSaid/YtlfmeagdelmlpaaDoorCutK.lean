/-
  Walks: breaks.Cut of WsKeep, of any other Ws: what it answers.
-/
import Derived.Test.YtlfmeagdelmlpaaDoorCutS
import Derived.Test.YtlfmeagdelmlpaaDoorShelf
namespace Go.Proofs.YtlfmeagdelmlpaaDoor
open Go.RowKit Go.Shelf

/-- 'l = append(l, p)' where l lies in a box: the append; what the store behind it leaves. -/
theorem append_box {ops : Array Oper} {rest : List Oper} {o : Oper} {a : Act} {Q : Exit → Act → World → Prop} (w : World) (p : Pc) (k : Value) (t : Value) (hk : k = .int .u8 (p.1 : Nat)) (ht : t = .string (mkB p.2)) (hgd : o.guard = none) (s y : Operand)
    (ho : o.op = .call { callee := .builtin .append, args := #[s, y], argTypes := #[22, 22] })
    (base B : Nat) (v : Value) (L : List Pc) (hs : a.eval s = v) (hown : OwnsP w base v L) (hv : Boxed w B 22 v)
    (nn : Nat) (hn : nn = w.heap.size) (hx : a.eval y = .slice (some ⟨nn, 0, none⟩) 1 1)
    (h47 : L.length < 1000000) (hbase : base ≤ w.heap.size) (hB : base ≤ B)
    (h : ∀ g cap w', Boxed w' B 22 v → Boxed (w'.setCell ⟨B, 0, none⟩ (.slice (some ⟨g, 0, none⟩) (L.length + 1) cap)) B 22 (.slice (some ⟨g, 0, none⟩) (L.length + 1) cap) →
      OwnsP (w'.setCell ⟨B, 0, none⟩ (.slice (some ⟨g, 0, none⟩) (L.length + 1) cap)) base (.slice (some ⟨g, 0, none⟩) (L.length + 1) cap) (L ++ [p]) →
      Below base w (w'.setCell ⟨B, 0, none⟩ (.slice (some ⟨g, 0, none⟩) (L.length + 1) cap)) →
      (∀ k cs t, t ≠ 26 → k ≠ B → Blk w k t cs → Blk (w'.setCell ⟨B, 0, none⟩ (.slice (some ⟨g, 0, none⟩) (L.length + 1) cap)) k t cs) →
      wpList Tryd.prog ops Q rest (a.put o.dst (.slice (some ⟨g, 0, none⟩) (L.length + 1) cap)) w') : wpList Tryd.prog ops Q (o :: rest) a (w.alloc (.cells #[k, t] 26)) := by
  subst hk ht hn
  obtain ⟨i0, hi0, hz0, hz1, hz2⟩ := info_parts Tryd.infoPiece
  refine wpList_append_any _ hgd s y _ ho base 26 i0 _ 2 24 Tryd.underlying22 hi0 hz0 hz1 hz2 rfl (by omega) v _ _ hs (World.ownsRow.alloc hown _) (w.heap.size + 1) _ 1 1 (encP p) hx ?_ ?_ (by simp only [maxLen]; omega) (by omega) (by simp; omega) ?_
  · exact ⟨rfl, fun _ => ⟨_, rfl, by simp, cells_piece w p⟩⟩
  · intro u hu
    simp [encP] at hu
    rcases hu with rfl | rfl <;> rfl
  · intro v' w' h1 h2 _
    obtain ⟨g, cap, rfl⟩ : ∃ g cap, v' = .slice (some ⟨g, 0, none⟩) (L.length + 1) cap := by
      rcases h1.2 with ⟨_, e⟩ | ⟨g, cap, cur, rfl, _⟩
      · omega
      · exact ⟨g, cap, rfl⟩
    obtain ⟨k1, k2, k3, k4, k5⟩ := hv.appended (by decide) hown hbase hB h1 h2
    refine h g cap w' k1 k2 (by unfold OwnsP; rw [List.length_append, rowP_snoc]; exact k3) k5 fun k cs t ht hk hb => ?_
    have hb1 : Blk w' k t cs := (hb.alloc _).grown h2 (own_blk_ne hown hb (Ne.symm ht)).symm
    exact hb1.far (p := ⟨B, 0, none⟩) hk _

def linesB (s : ByteArray) : List ByteArray := Lib.splitB ⟨#[10]⟩ 0 (Lib.countB s ⟨#[10]⟩) s
def linesL (s : ByteArray) : List (List UInt8) := (linesB s).map (·.data.toList)
theorem linesB_len (s : ByteArray) : (linesB s).length = Lib.countB s ⟨#[10]⟩ + 1 := Lib.splitB_all _ (by decide) 0 _ s rfl
theorem lines_le (s : ByteArray) : Lib.countB s ⟨#[10]⟩ ≤ s.size := Lib.countB_le _ (by decide) s.size s (Nat.le_refl _)
theorem lines_cut (s : ByteArray) : keepOf (linesL s) = cutK s.data.toList := by
  have h := (cutK_split _ s.data.toList (Nat.le_refl _)).1
  rw [← h]
  unfold linesL linesB
  rw [Lib.splitB_data]
  rfl
theorem keepOf_take {Ls : List (List UInt8)} {k : Nat} (h : k < Ls.length) : keepOf (Ls.take (k + 1)) = keepOf (Ls.take k) ++ keepPart (decide (k = 0)) Ls[k] := by
  rw [List.take_succ_eq_append_getElem h, keepOf_snoc, List.length_take]
  congr 2
  rw [decide_eq_decide]
  omega
theorem keepOf_len : ∀ (Ls : List (List UInt8)), (keepOf Ls).length ≤ 2 * Ls.length := by
  intro Ls
  rcases List.eq_nil_or_concat Ls with rfl | ⟨M, a, rfl⟩
  · simp [keepOf]
  · rw [List.concat_eq_append, keepOf_snoc]
    have := keepOf_len M
    have h2 : (keepPart (decide (M.length = 0)) a).length ≤ 2 := by unfold keepPart; split <;> split <;> simp
    simp at h2 ⊢
    omega
termination_by Ls => Ls.length

def KpA (s : ByteArray) (B : Nat) (w : World) (i : Value) (wr : World) : Prop :=
  ∃ k : Nat, k ≤ (linesB s).length ∧ i = .int .i64 k ∧ (∃ v, Boxed wr B 22 v ∧ OwnsP wr B v (keepOf ((linesL s).take k))) ∧ Below B w wr ∧ Blk wr (B + 1) 9 ((linesB s).map Value.string).toArray

theorem str_nil {t : ByteArray} : t.data.toList = [] ↔ t.toList.isEmpty = true := by
  rw [Go.Lib.toList_data]
  simp

set_option maxRecDepth 100000 in
set_option maxHeartbeats 4000000 in
theorem cut_keep (s : ByteArray) (hs : s.size ≤ 4000) (m : Int) (w : World) (hm : w.cell? ⟨0, 0, none⟩ = some (.int .i64 m)) :
    Calls Tryd.prog 9 #[.string s, .int .u8 2] w (CutPost 2 s w) := by
  have hb0 : Below w.heap.size w (w.alloc (.cells #[.slice none 0 0] 22)) := (Below.refl _ w).alloc (Nat.le_refl _) _
  have bO := Boxed.new w 22 (.slice none 0 0)
  have hz0 : (w.alloc (.cells #[.slice none 0 0] 22)).heap.size = w.heap.size + 1 := by simp
  have hsp := Tryd.strings_Split s ⟨#[10]⟩ m (w.alloc (.cells #[.slice none 0 0] 22)) (by omega) (cell_later hb0 hm) (by decide)
  have HC := Lib.hid (lines_cut s)
  have hll := linesB_len s
  have hle := lines_le s
  have hLL : (linesL s).length = (linesB s).length := by unfold linesL; simp
  change Calls _ _ _ _ fun e w' => e = _ ∧ w' = World.alloc _ (.cells ((linesB s).map Value.string).toArray 9) at hsp
  rw [← hll] at hsp
  have HLL := Lib.hid hLL
  have hle2 : (linesB s).length ≤ 4001 := by omega
  clear hll hle hLL
  go_enter Tryd.func9, Tryd.ntmps9
  go_wp2_with fail
  refine hsp.mono ?_
  rintro e w2 ⟨rfl, hw2⟩
  have hb2 : Below w.heap.size w w2 := by rw [hw2]; exact hb0.alloc (by omega) _
  have bO2 : Boxed w2 w.heap.size 22 (.slice none 0 0) := by rw [hw2]; exact bO.alloc _
  have hL2 : Blk w2 (w.heap.size + 1) 9 ((linesB s).map Value.string).toArray := by rw [hw2, ← hz0]; exact Blk.new _ _ _
  rw [hz0]
  clear hw2 hsp hb0 bO hz0
  go_wp2_with fail
  go_loopw [51] (KpA s w.heap.size w) (fun i _ => (linesB s).length - (intOf i).toNat)
  case atStart => exact ⟨0, by omega, rfl, ⟨_, bO2, OwnsP.nil _ _⟩, hb2, hL2⟩
  case round =>
    obtain ⟨k, hk, rfl, ⟨v, hv, ho⟩, hbr, hLr⟩ := hrel
    have hc := hv.cell
    have hsz := hbr.size
    by_cases hlt : k < (linesB s).length
    · have hcl : wr.cell? ⟨w.heap.size + 1, k, none⟩ = some (.string (linesB s)[k]) := by rw [hLr.cell]; simp [hlt]
      have hlen := keepOf_len ((linesL s).take k)
      rw [List.length_take, HLL.out] at hlen
      have hl46 : (keepOf ((linesL s).take k)).length < 9000 := by omega
      have hl47 : (keepOf ((linesL s).take k)).length < 1000000 := by omega
      clear hlen
      have HT := Lib.hid (keepOf_take (show k < (linesL s).length by rw [HLL.out]; exact hlt))
      have hel : (linesL s)[k]'(by rw [HLL.out]; exact hlt) = (linesB s)[k].data.toList := by simp [linesL]
      rw [hel] at HT
      clear hel
      have hsn := @str_nil (linesB s)[k]
      generalize (linesB s)[k] = x at *
      generalize keepOf ((linesL s).take k) = L at *
      generalize hL' : keepOf ((linesL s).take (k + 1)) = L' at *
      have HL' := Lib.hid hL'
      clear hL'
      by_cases hk0 : k = 0
      · subst hk0
        by_cases hx : x.data.toList = []
        · have HE := Lib.hid (show L' = L by rw [HT.out, hx]; simp [keepPart])
          have hx2 : x.toList.isEmpty = true := hsn.1 hx
          have hx3 : x.toList = [] := by simpa using hx2
          clear hsn hx
          go_wp2_with fail
          go_roundw
          case rel => exact ⟨1, by omega, by go_num, ⟨v, hv, by rw [HL'.out, HE.out]; exact ho⟩, hbr, hLr⟩
          case measure => simp [intOf] <;> omega
        · have HE := Lib.hid (show L' = L ++ [(0, x.data.toList)] by rw [HT.out]; simp [keepPart, hx])
          have hx2 : x.toList.isEmpty = false := by
            cases h : x.toList.isEmpty with
            | true => exact absurd (hsn.2 h) hx
            | false => rfl
          have hx3 : ¬ x.toList = [] := by simpa using hx2
          clear hsn hx
          go_wp2_with (at_builtin; refine append_box _ (0, x.data.toList) _ _ rfl rfl rfl _ _ rfl w.heap.size w.heap.size v L rfl ho hv _ rfl rfl hl47 hsz (Nat.le_refl _) ?_; intro g1 cap1 w1 hv1 hv2 ho2 hb2' hk2; have hc1 := hv1.cell; have hf1 := hv1.frozen)
          go_roundw
          case rel => exact ⟨1, by omega, by go_num, ⟨_, hv2, by rw [HL'.out, HE.out]; exact ho2⟩, hbr.trans hb2', hk2 _ _ _ (by decide) (by omega) hLr⟩
          case measure => simp [intOf] <;> omega
      · have hk1 : (0 : Int) < (k : Int) := by omega
        have hk2' : 0 < k := by omega
        by_cases hx : x.data.toList = []
        · have HE := Lib.hid (show L' = L ++ [(2, [])] by rw [HT.out, hx]; simp [keepPart, hk0])
          have hx2 : x.toList.isEmpty = true := hsn.1 hx
          have hx3 : x.toList = [] := by simpa using hx2
          clear hsn hx
          go_wp2_with (at_builtin; refine append_box _ (2, []) _ _ rfl rfl rfl _ _ rfl w.heap.size w.heap.size v L rfl ho hv _ rfl rfl hl47 hsz (Nat.le_refl _) ?_; intro g1 cap1 w1 hv1 hv2 ho2 hb2' hk2; have hc1 := hv1.cell; have hf1 := hv1.frozen)
          go_roundw
          case rel => exact ⟨k + 1, by omega, by go_num, ⟨_, hv2, by rw [HL'.out, HE.out]; exact ho2⟩, hbr.trans hb2', hk2 _ _ _ (by decide) (by omega) hLr⟩
          case measure => simp [intOf] <;> omega
        · have HE := Lib.hid (show L' = L ++ [(2, [])] ++ [(0, x.data.toList)] by rw [HT.out]; simp [keepPart, hx, hk0])
          have hx2 : x.toList.isEmpty = false := by
            cases h : x.toList.isEmpty with
            | true => exact absurd (hsn.2 h) hx
            | false => rfl
          have hx3 : ¬ x.toList = [] := by simpa using hx2
          clear hsn hx
          have hl48 : (L ++ [((2, []) : Pc)]).length < 1000000 := by rw [List.length_append]; simp; omega
          go_wp2_with (first | (at_builtin; refine append_box _ (2, []) _ _ rfl rfl rfl (.tmp 58) (.tmp 60) rfl w.heap.size w.heap.size v L rfl ho hv _ rfl rfl hl47 hsz (Nat.le_refl _) ?_; intro g1 cap1 w1 hv1 hv2 ho2 hb2' hk2; have hc1 := hv1.cell; have hf1 := hv1.frozen; have hc2 := hv2.cell; have hsz1 : w1.heap.size = (w1.setCell ⟨w.heap.size, 0, none⟩ (.slice (some ⟨g1, 0, none⟩) (L.length + 1) cap1)).heap.size := (World.size_setCell _ _ _).symm; have HSZ := Lib.hid hsz1; clear hsz1) | (at_builtin; refine append_box _ (0, x.data.toList) _ _ rfl rfl rfl (.tmp 64) (.tmp 67) rfl w.heap.size w.heap.size _ (L ++ [(2, [])]) rfl ho2 hv2 _ HSZ.out rfl hl48 (Nat.le_trans hsz hb2'.size) (Nat.le_refl _) ?_; intro g3 cap3 w3 hv3 hv4 ho4 hb4 hk4; have hc3 := hv3.cell; have hf3 := hv3.frozen))
          rw [show (L ++ [((2, []) : Pc)]).length = L.length + 1 by simp] at hv4 ho4 hb4 hk4
          go_roundw
          case rel => exact ⟨k + 1, by omega, by go_num, ⟨_, hv4, by rw [HL'.out, HE.out]; exact ho4⟩, hbr.trans (hb2'.trans hb4), hk4 _ _ _ (by decide) (by omega) (hk2 _ _ _ (by decide) (by omega) hLr)⟩
          case measure => simp [intOf] <;> omega
    · obtain rfl : k = (linesB s).length := by omega
      go_wp2_with fail
      go_ret
      refine ⟨v, rfl, ?_, hbr⟩
      show OwnsP _ _ _ (cutK s.data.toList)
      rw [← HC.out, ← HLL.out, List.take_of_length_le (Nat.le_refl _)] at *
      exact ho

set_option maxHeartbeats 1000000 in
theorem cut_none (s : ByteArray) (ws : Int) (h0 : ws ≠ 0) (h1 : ws ≠ 1) (h2 : ws ≠ 2) (w : World) : Calls Tryd.prog 9 #[.string s, .int .u8 ws] w (CutPost ws s w) := by
  have e0 : (ws == 0) = false := by simpa using h0
  have e1 : (ws == 1) = false := by simpa using h1
  have e2 : (ws == 2) = false := by simpa using h2
  have HE := Lib.hid (show cutR ws s.data.toList = [] by unfold cutR; rw [if_neg h0, if_neg h1, if_neg h2])
  clear h0 h1 h2
  go_enter Tryd.func9, Tryd.ntmps9
  go_wp2_with fail
  go_ret
  exact ⟨_, rfl, by rw [HE.out]; exact OwnsP.nil _ _, (Below.refl _ _).alloc (Nat.le_refl _) _⟩

/-- breaks.Cut, of any Ws. -/
theorem cut_any (s : ByteArray) (hs : s.size ≤ 4000) (ws : Int) (m : Int) (w : World) (hm : w.cell? ⟨0, 0, none⟩ = some (.int .i64 m)) :
    Calls Tryd.prog 9 #[.string s, .int .u8 ws] w (CutPost ws s w) := by
  by_cases h0 : ws = 0
  · subst h0; exact cut_normal s hs w
  · by_cases h1 : ws = 1
    · subst h1; exact cut_stay s hs w
    · by_cases h2 : ws = 2
      · subst h2; exact cut_keep s hs m w hm
      · exact cut_none s ws h0 h1 h2 w

end Go.Proofs.YtlfmeagdelmlpaaDoor
