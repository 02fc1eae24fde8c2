/-
  Walks: breaks.Cut of WsNormal: what it answers.
-/
import Derived.Test.YtlfmeagdelmlpaaDoorRowsB
namespace Go.Proofs.YtlfmeagdelmlpaaDoor
open Go.RowKit Go.Shelf

attribute [local go_sem] Oper.semAt_some

def CutPost (ws : Int) (s : ByteArray) (w : World) (e : Ending) (w' : World) : Prop :=
  ∃ v, e = .returned v ∧ OwnsP w' w.heap.size v (cutR ws s.data.toList) ∧ Below w.heap.size w w'
/-- A round's slots. -/
def CnAx (bO : Nat) (l : List UInt8) (x : Nat × Nat) (a' : Act) (_ : World) : Prop :=
  ∃ u0 u1 u2 u3 u4 u8 u9 u10 u11 u12 u13 u14 u15 u16 u17 u18 u19 u20 u21 u22 u23 u24 u25 u26 u27 u28 u29 u30 u31 u32 u33 u34 u35 u36 u37 u38 u39 u40 u41 u42 u43 u44 u45 u46 u47 u48 u49 u50 u51 u52 u53 u54 u55 u56 u57 u58 u59 u60 u61 u62 u63 u64 u65 u66 u67 u68 u69 u70 : Value, a' = { tmps := #[u0, u1, u2, u3, u4, .pointer (some ⟨bO, 0, none⟩), .string (mkB (sub l x)), .bool (bAt l x.1), u8, u9, u10, u11, u12, u13, u14, u15, u16, u17, u18, u19, u20, u21, u22, u23, u24, u25, u26, u27, u28, u29, u30, u31, u32, u33, u34, u35, u36, u37, u38, u39, u40, u41, u42, u43, u44, u45, u46, u47, u48, u49, u50, u51, u52, u53, u54, u55, u56, u57, u58, u59, u60, u61, u62, u63, u64, u65, u66, u67, u68, u69, u70], defers := [] }
def CnI (l : List UInt8) (s : Nat) (w : World) (pre : List (Nat × Nat)) (W : World) : Prop := (∃ v, Boxed W s 22 v ∧ OwnsP W s v (pre.map (pcN l))) ∧ Below s w W
theorem cnI_own (l : List UInt8) (s B : Nat) (w : World) (hs : s ≤ w.heap.size) (hB : s ≤ B) : OwnFrom B (CnI l s w) :=
  OwnFrom.and (fun pre X Y row h hg hr => by
    obtain ⟨v, h1, h2⟩ := h
    obtain ⟨v', h1', h2', _⟩ := (Own.from (holdsRow_own s s 22 26 2 (fun pre : List (Nat × Nat) => (pre.map (pcN l)).length) (fun pre => rowP (pre.map (pcN l))) (fun _ _ => True)) B) pre X Y row ⟨v, h1, h2, trivial⟩ hg hr
    exact ⟨v', h1', h2'⟩) (ownFrom_below hs hB)

set_option maxRecDepth 100000 in
set_option maxHeartbeats 4000000 in
theorem cut_normal (s : ByteArray) (hs : s.size ≤ 4000) (w : World) : Calls Tryd.prog 9 #[.string s, .int .u8 0] w (CutPost 0 s w) := by
  have HR := Lib.hid (show cutR 0 s.data.toList = (rowsR s.data.toList).map (pcN s.data.toList) from cutN_rows _)
  obtain ⟨i0, hi, hz0, hz1, hz2⟩ := info_parts Tryd.infoPiece

  refine (callsIn_wide (n := 6)).1 ?_
  refine callsIn_of_wp_marks Tryd.func9 rfl trivial ?_ rfl
  simp only [Tryd.ntmps9, List.size_toArray, List.length_cons, List.length_nil, Nat.reduceAdd, Nat.reduceSub, Array.replicate_succ, Array.replicate_zero, List.push_toArray, List.append_toArray, List.nil_append, List.cons_append]

  gi_wp2
  have hb2 : Below w.heap.size w (w.alloc (.cells #[.slice none 0 0] 22)) := (Below.refl _ w).alloc (Nat.le_refl _) _
  have hs2 : (w.alloc (.cells #[.slice none 0 0] 22)).heap.size = w.heap.size + 1 := by simp
  have bO2 := Boxed.new w 22 (.slice none 0 0)
  generalize w.alloc (.cells #[.slice none 0 0] 22) = W2 at *
  refine ⟨trivial, (rows_in _ s W2).mono ?_⟩
  rintro e w3 ⟨rfl, rfl⟩
  simp only [hs2]
  have bS := Boxed.new W2 9 (.string s)
  rw [hs2] at bS
  have bO := bO2.alloc (.cells #[.string s] 9)
  have hb0 : Below w.heap.size w (W2.alloc (.cells #[.string s] 9)) := hb2.alloc (by omega) _
  have hs0 : (W2.alloc (.cells #[.string s] 9)).heap.size = w.heap.size + 2 := by simp; omega
  generalize W2.alloc (.cells #[.string s] 9) = W0 at *
  clear bO2 hb2 hs2
  gi_wp2
  refine wpIn_rangeFunc_ownH rfl (by omega) (gf := 23) (lb := #[.pointer (some ⟨w.heap.size + 1, 0, none⟩)]) rfl trivial (enters_of Tryd.func23 (by kernel_rfl) rfl)
    (rows_stops 5 (by omega) (w.heap.size + 1) w.heap.size s hs W0 bS) KeepS.trans (KeepS.put (by omega)) (Below.refl _ _) (fun _ => rfl)
    (CnI s.data.toList w.heap.size w) (fun _ _ _ => False) (cnI_own _ _ _ _ (Nat.le_refl _) (by omega)) (fun _ _ _ _ _ hs _ _ => hs)
    ⟨⟨_, bO, OwnsP.nil _ _⟩, hb0⟩ (CnAx w.heap.size s.data.toList) (fun x a' => fun _ _ _ _ h _ _ => h) ?assign ?body ?done ?stop
  case assign =>
    rintro l pre x W K hi1 hK
    unfold encR
    gi_wp2
    exact hK _ _ (KeepsFrom.refl _ _) (KeepS.refl _ _ _) hi1 ⟨_, _, _, _, _, _, _, _, _, _, _, _, _, _, _, _, _, _, _, _, _, _, _, _, _, _, _, _, _, _, _, _, _, _, _, _, _, _, _, _, _, _, _, _, _, _, _, _, _, _, _, _, _, _, _, _, _, _, _, _, _, _, _, _, _, _, _, _, rfl⟩
  case body =>
    rintro l pre x a' W hl _ ⟨⟨v, hv, ho⟩, hB1⟩ ⟨u0, u1, u2, u3, u4, u8, u9, u10, u11, u12, u13, u14, u15, u16, u17, u18, u19, u20, u21, u22, u23, u24, u25, u26, u27, u28, u29, u30, u31, u32, u33, u34, u35, u36, u37, u38, u39, u40, u41, u42, u43, u44, u45, u46, u47, u48, u49, u50, u51, u52, u53, u54, u55, u56, u57, u58, u59, u60, u61, u62, u63, u64, u65, u66, u67, u68, u69, u70, rfl⟩ hlt
    have hc := hv.cell
    have hsW := hB1.size
    have hpl : (pre.map (pcN s.data.toList)).length < 4000 := by rw [List.length_map]; omega
    have hb0 : bAt s.data.toList x.1 = isB (s.data.toList.getD x.1 0) := rfl
    generalize hP : pre.map (pcN s.data.toList) = P at *
    have HM := Lib.hid hP
    clear hP
    cases hb : bAt s.data.toList x.1 with
    | true =>
      have HP := Lib.hid (show pcN s.data.toList x = (1, [32]) by unfold pcN; rw [if_pos (hb0.symm.trans hb)])
      clear hb hb0
      gi_wp2_with (gi_at_builtin; refine wpListIn_append_own _ rfl _ _ 22 rfl w.heap.size 26 i0 (.agg #[.int .u8 0, .string ⟨#[]⟩]) 2 24 Tryd.underlying22 hi hz0 hz1 hz2 rfl (by decide) _ _ _ rfl (World.ownsRow.alloc ho _) ⟨W.heap.size, 0, none⟩ 1 1 (encP (1, [32])) rfl rfl (cells_piece W (1, [32])) (by simp [encP, Value.oneCell']) (by simp only [maxLen]; omega) (by omega) (by simp; omega) ?_; intro v' w1 hown' hgrow _; obtain ⟨g', cap', rfl⟩ := ownsRow_succ hown'; obtain ⟨hv1, hv2, hr2, hk2, hb2⟩ := hv.appended (by decide) ho hsW (by omega) hown' hgrow; have hc1 := hv1.cell; have hf1 := hv1.frozen)
      refine ⟨hk2.from _, ⟨hb2, fun u h4 => ?_⟩, ⟨⟨_, hv2, ?_⟩, hB1.trans hb2⟩⟩
      · have h5 := h4.alloc (.cells #[.int .u8 1, .string ⟨#[32]⟩] 26)
        exact (h5.kept hgrow (h4.not_row (by decide) ho)).other (by omega) _
      · unfold OwnsP
        rw [List.map_append, HM.out, List.length_append, List.map_cons, List.map_nil, rowP_snoc, HP.out]
        exact hr2
    | false =>
      have HP := Lib.hid (show pcN s.data.toList x = (0, sub s.data.toList x) by unfold pcN; rw [if_neg (by rw [← hb0, hb]; decide)])
      clear hb hb0
      gi_wp2_with (gi_at_builtin; refine wpListIn_append_own _ rfl _ _ 22 rfl w.heap.size 26 i0 (.agg #[.int .u8 0, .string ⟨#[]⟩]) 2 24 Tryd.underlying22 hi hz0 hz1 hz2 rfl (by decide) _ _ _ rfl (World.ownsRow.alloc ho _) ⟨W.heap.size, 0, none⟩ 1 1 (encP (0, sub s.data.toList x)) rfl rfl (cells_piece W (0, sub s.data.toList x)) (by simp [encP, Value.oneCell']) (by simp only [maxLen]; omega) (by omega) (by simp; omega) ?_; intro v' w1 hown' hgrow _; obtain ⟨g', cap', rfl⟩ := ownsRow_succ hown'; obtain ⟨hv1, hv2, hr2, hk2, hb2⟩ := hv.appended (by decide) ho hsW (by omega) hown' hgrow; have hc1 := hv1.cell; have hf1 := hv1.frozen)
      refine ⟨hk2.from _, ⟨hb2, fun u h4 => ?_⟩, ⟨⟨_, hv2, ?_⟩, hB1.trans hb2⟩⟩
      · have h5 := h4.alloc (.cells #[.int .u8 0, .string (mkB (sub s.data.toList x))] 26)
        exact (h5.kept hgrow (h4.not_row (by decide) ho)).other (by omega) _
      · unfold OwnsP
        rw [List.map_append, HM.out, List.length_append, List.map_cons, List.map_nil, rowP_snoc, HP.out]
        exact hr2
  case done =>
    rintro D ys W hD rfl ⟨⟨v, hv, ho⟩, hB1⟩ hK
    have hc := hv.cell
    gi_wp2
    refine ⟨by simp, .inl ⟨_, _, rfl, run_takeDeferred hK, ?_⟩⟩
    refine ⟨_, results_tmp rfl _ _ _, v, rfl, ?_, hB1.trans (belowK_b (w := W0) (by omega) W D _ _ hD hK rfl rfl)⟩
    rw [HR.out]
    exact ownsRow_putObj ho _ hK rfl
  case stop =>
    rintro D c pre W _ _ h _
    exact h.elim

end Go.Proofs.YtlfmeagdelmlpaaDoor
