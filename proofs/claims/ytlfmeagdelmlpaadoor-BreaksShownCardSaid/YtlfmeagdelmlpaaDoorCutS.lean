/-
  Walks: breaks.Cut of WsStay: what it answers.
-/
import Derived.Test.YtlfmeagdelmlpaaDoorRowsB
import Derived.Test.YtlfmeagdelmlpaaDoorCutN
import Derived.Test.YtlfmeagdelmlpaaDoorBuilder
import Derived.Test.YtlfmeagdelmlpaaDoorShelf
namespace Go.Proofs.YtlfmeagdelmlpaaDoor
open Go.RowKit Go.Shelf

attribute [local go_sem] Oper.semAt_some

theorem builder_own {β : Type} (B : Nat) (T e : TypeId) (n b : Nat) (f : β → List Value) : OwnFrom B (fun (s : β) W => Lib.IsBuilderF T e n b (f s) W) := fun s X Y row hs hg hr => by
  have ne : ∀ k c t fz, X.heap[k]? = some (.cells c t fz) → some k ≠ row := fun k c t fz h e => by
    obtain ⟨_, o, ho, hc⟩ := hr k e.symm
    rw [h] at ho
    cases ho
    cases hc
  have key : ∀ p, Lib.BuilderAtF T e n b p (f s) X → Lib.BuilderAtF T e n b p (f s) Y := fun p ⟨hb, v, hk, hv, hne⟩ => by
    have hlt : b < X.heap.size := (Array.getElem?_eq_some_iff.1 hk).1
    refine ⟨hb, v, (hg.block b hlt (ne _ _ _ _ hk)).trans hk, hv.kept hg ?_, hne⟩
    rcases hv.2 with ⟨rfl, _⟩ | ⟨g, cap, cur, fz, rfl, _, hgk, _⟩
    · exact .inl rfl
    · exact .inr (fun e => ne _ _ _ _ hgk (by simpa [Value.ownBlock] using e))
  exact hs.imp (key _) (key _)
theorem isBuilder_below {T e : TypeId} {n b : Nat} {bs : List Value} {X Y : World} (h : Lib.IsBuilderF T e n b bs X) (hb : Below X.heap.size X Y) : Lib.IsBuilderF T e n b bs Y :=
  builder_own (β := Unit) 0 T e n b (fun _ => bs) () X Y none h ⟨hb.os, hb.tape, hb.output, hb.size, fun k hk _ => hb.block k hk⟩ (fun r e => by cases e)
/-- A box that is no row of the builder's. -/
theorem boxed_others {e : TypeId} {b k : Nat} {t : TypeId} {v : Value} {X Y : World} (h : Boxed X k t v) (ho : Lib.OthersKept e (some b) X Y) (hk : k ≠ b) (ht : t ≠ e) : Boxed Y k t v :=
  ho k _ h (fun e => hk (Option.some.inj e)) (fun c fz e => by cases e; exact ht rfl)
theorem boxed_grown {k : Nat} {t : TypeId} {v : Value} {X Z Y : World} {row : Option Nat} (h : Boxed X k t v) (hx : X.heap = Z.heap) (g : Z.grownBy Y row) (hne : row = none) : Boxed Y k t v := by
  subst hne
  have h' : Boxed Z k t v := by unfold Boxed at *; rw [← hx]; exact h
  exact h'.kept g (by simp)
theorem keepsFrom_others {e : TypeId} {B b : Nat} {X Y : World} {cs : Array Value} {t : TypeId} {fz : Nat × Nat} (hs : X.heap.size ≤ Y.heap.size) (ho : Lib.OthersKept e (some b) X Y) (hb : X.heap[b]? = some (.cells cs t fz)) : KeepsFrom B X Y :=
  ⟨hs, fun k o _ hk hc => ho k o hk (fun e => by cases e; rw [hb] at hk; cases hk; cases hc) (fun c fz e => by subst e; cases hc)⟩
theorem isBuilder_block {T e : TypeId} {n b : Nat} {bs : List Value} {X : World} (h : Lib.IsBuilderF T e n b bs X) : ∃ cs, X.heap[b]? = some (.cells cs T (0, 0)) := by
  rcases h with ⟨_, v, hk, _⟩ | ⟨_, v, hk, _⟩ <;> exact ⟨_, hk⟩
theorem step_append_piece {ops : Array Oper} {o : Oper} {a : Act} {K : Act → World → Prop} {Q : Exit → Act → World → Prop} {E : Prop} (w : World) (p : Pc) (k : Value) (t : Value) (hk : k = .int .u8 (p.1 : Nat)) (ht : t = .string (mkB p.2)) (hgd : o.guard = none) (s y : Operand)
    (ho : o.op = .call { callee := .builtin .append, args := #[s, y], argTypes := #[22, 22] })
    (base : Nat) (v : Value) (L : List Pc) (hs : a.eval s = v) (hown : OwnsP w base v L)
    (hx : a.eval y = .slice (some ⟨w.heap.size, 0, none⟩) 1 1)
    (h47 : L.length < 1000000) (hbase : base ≤ w.heap.size)
    (h : ∀ v' w', OwnsP w' base v' (L ++ [p]) → Below base w w' → w.grownBy w' v.ownBlock → K (a.put o.dst v') w') :
    if Region.wanted o (yielded ops a.tmps) = true then Oper.wp Tryd.prog o a (w.alloc (.cells #[k, t] 26)) K Q else E := by
  subst hk ht
  obtain ⟨i0, hi0, hz0, hz1, hz2⟩ := info_parts Tryd.infoPiece
  have hlt := fun k (e : v.ownBlock = some k) => (World.ownsRow.lt hown k e).1
  refine step_append_any _ hgd s y _ ho base 26 i0 _ 2 24 Tryd.underlying22 hi0 hz0 hz1 hz2 rfl (by omega) v _ _ hs (World.ownsRow.alloc hown _) (w.heap.size + 1) _ 1 1 (encP p) hx ?_ ?_ (by simp only [maxLen]; omega) (by omega) (by simp; omega) ?_
  · exact ⟨rfl, fun _ => ⟨_, rfl, by simp, cells_piece w p⟩⟩
  · intro u hu
    simp [encP] at hu
    rcases hu with rfl | rfl <;> rfl
  · intro v' w' h1 h2 _
    refine h v' w' (by unfold OwnsP; rw [List.length_append, rowP_snoc]; exact h1) ?_ ⟨h2.os, h2.tape, h2.output, Nat.le_trans (by simp) h2.size, fun i hi hne => (h2.block i (by simp; omega) hne).trans (Below.heap_alloc w _ i hi)⟩
    exact ((Below.refl base w).alloc hbase _).grown h2 (by simp; omega) (fun k e => hlt k e)

theorem owns_one {w : World} {base : Nat} {v : Value} {p : Pc} (h : OwnsP w base v ([] ++ [p])) : ∃ g cap, v = .slice (some ⟨g, 0, none⟩) 1 cap := by
  rcases h.2 with ⟨_, e⟩ | ⟨g, cap, cur, rfl, _⟩
  · simp at e
  · exact ⟨g, cap, rfl⟩
theorem stay_end {M : List UInt8} {B D g cap : Nat} {w w4 w5 w6 : World} (hB1 : Below B w w4) (hK : w4.heap[D]? = some (.deferred (some []))) (hD : B + 3 ≤ D)
    (h2 : Below (B + 1) w4.drew w5) (h3 : Lib.OthersKept 5 (some (B + 1)) w4.drew w5) (h6 : Boxed w6 B 22 (.slice none 0 0))
    (g1 : OwnsP w6 B (.slice (some ⟨g, 0, none⟩) 1 cap) ([] ++ [(0, M)])) (g2 : Below B w5 w6) (g3 : w5.grownBy w6 (Value.slice none 0 0).ownBlock) :
    (w6.setCell ⟨B, 0, none⟩ (.slice (some ⟨g, 0, none⟩) 1 cap)).heap[D]? = some (.deferred (some [])) ∧ (w6.setCell ⟨B, 0, none⟩ (.slice (some ⟨g, 0, none⟩) 1 cap)).cell? ⟨B, 0, none⟩ = some (.slice (some ⟨g, 0, none⟩) 1 cap) ∧
    OwnsP (w6.setCell ⟨B, 0, none⟩ (.slice (some ⟨g, 0, none⟩) 1 cap)) B (.slice (some ⟨g, 0, none⟩) 1 cap) [(0, M)] ∧ Below B w (w6.setCell ⟨B, 0, none⟩ (.slice (some ⟨g, 0, none⟩) 1 cap)) := by
  have hK5 : w5.heap[D]? = some (.deferred (some [])) := h3 D _ hK (fun e => by have := Option.some.inj e; omega) (fun c fz e => by cases e)
  have hK6 : w6.heap[D]? = some (.deferred (some [])) := (g3.block D (Array.getElem?_eq_some_iff.1 hK5).1 (by simp [Value.ownBlock])).trans hK5
  refine ⟨(KeepsOthers.setCell w6 ⟨B, 0, none⟩ _).same D _ hK6 rfl, (h6.set _).cell, ?_, ?_⟩
  · exact World.ownsRow.kept (row := some B) g1 (only_setCell (World.grownBy.refl w6 (some B)) (.inl rfl) _) (.inr (own_blk_ne g1 (show Blk w6 B 22 #[.slice none 0 0] from h6) (by decide)))
  · exact (hB1.trans ((((Below.refl (B + 1) w4).drew.trans h2).mono (by omega)).trans g2)).setCell (p := ⟨B, 0, none⟩) (Nat.le_refl _) _
theorem flat_len (l : List UInt8) (pre : List (Nat × Nat)) : (pre.flatMap (txS l)).length ≤ pre.length * (l.length + 1) := by
  induction pre with
  | nil => simp
  | cons x pre ih =>
    have h1 : (txS l x).length ≤ l.length + 1 := by
      unfold txS sub
      split
      · simp
      · simp; omega
    rw [List.flatMap_cons, List.length_append, List.length_cons, Nat.add_mul]
    omega
theorem nrm_nil {l : List UInt8} (h : nrm false l = []) : l = [] := by
  cases l with
  | nil => rfl
  | cons c l =>
    rw [nrm_cons] at h
    split at h
    · simp at h
    · simp at h

/-- A round's slots. -/
def CsAx (s : Nat) (l : List UInt8) (x : Nat × Nat) (a' : Act) (_ : World) : Prop :=
  ∃ u0 u1 u2 u3 u4 u6 u7 u11 u12 u13 u14 u15 u16 u17 u18 u19 u20 u21 u22 u23 u24 u25 u26 u27 u28 u29 u30 u31 u32 u33 u34 u35 u36 u37 u38 u39 u40 u41 u42 u43 u44 u45 u46 u47 u48 u49 u50 u51 u52 u53 u54 u55 u56 u57 u58 u59 u60 u61 u62 u63 u64 u65 u66 u67 u68 u69 u70 : Value, a' = { tmps := #[u0, u1, u2, u3, u4, .pointer (some ⟨s, 0, none⟩), u6, u7, .pointer (some ⟨s + 1, 0, none⟩), .string (mkB (sub l x)), .bool (bAt l x.1), u11, u12, u13, u14, u15, u16, u17, u18, u19, u20, u21, u22, u23, u24, u25, u26, u27, u28, u29, u30, u31, u32, u33, u34, u35, u36, u37, u38, u39, u40, u41, u42, u43, u44, u45, u46, u47, u48, u49, u50, u51, u52, u53, u54, u55, u56, u57, u58, u59, u60, u61, u62, u63, u64, u65, u66, u67, u68, u69, u70], defers := [] }
def CsI (l : List UInt8) (s : Nat) (w : World) (pre : List (Nat × Nat)) (W : World) : Prop :=
  (Lib.IsBuilderF 40 5 (s + 1) (s + 1) (Lib.byteCells (pre.flatMap (txS l))) W ∧ Boxed W s 22 (.slice none 0 0)) ∧ Below s w W
theorem csI_own (l : List UInt8) (s B : Nat) (w : World) (hs : s ≤ w.heap.size) (hB : s ≤ B) : OwnFrom B (CsI l s w) :=
  OwnFrom.and (OwnFrom.and (builder_own B _ _ _ _ fun pre : List (Nat × Nat) => Lib.byteCells (pre.flatMap (txS l))) (Own.from (boxed_own s 22 (fun _ : List (Nat × Nat) => .slice none 0 0)) _)) (ownFrom_below hs hB)

set_option maxRecDepth 100000 in
set_option maxHeartbeats 4000000 in
theorem cut_stay (s : ByteArray) (hs : s.size ≤ 4000) (w : World) : Calls Tryd.prog 9 #[.string s, .int .u8 1] w (CutPost 1 s w) := by
  have HR := Lib.hid (nrm_rows s.data.toList)

  refine (callsIn_wide (n := 6)).1 ?_
  refine callsIn_of_wp_marks Tryd.func9 rfl trivial ?_ rfl
  simp only [Tryd.ntmps9, List.size_toArray, List.length_cons, List.length_nil, Nat.reduceAdd, Nat.reduceSub, Array.replicate_succ, Array.replicate_zero, List.push_toArray, List.append_toArray, List.nil_append, List.cons_append]

  gi_wp2
  have hb2 : Below w.heap.size w ((w.alloc (.cells #[.slice none 0 0] 22)).alloc (.cells #[.pointer none, .slice none 0 0] 40)) := ((Below.refl _ w).alloc (Nat.le_refl _) _).alloc (by simp) _
  have hs2 : ((w.alloc (.cells #[.slice none 0 0] 22)).alloc (.cells #[.pointer none, .slice none 0 0] 40)).heap.size = w.heap.size + 2 := by simp
  have bO2 := (Boxed.new w 22 (.slice none 0 0)).alloc (.cells #[.pointer none, .slice none 0 0] 40)
  have bB2 : Lib.IsBuilderF 40 5 (w.heap.size + 1) (w.heap.size + 1) [] ((w.alloc (.cells #[.slice none 0 0] 22)).alloc (.cells #[.pointer none, .slice none 0 0] 40)) :=
    .inl ⟨Nat.le_refl _, .slice none 0 0, by have := heap_alloc_new (w.alloc (.cells #[.slice none 0 0] 22)) (.cells #[.pointer none, .slice none 0 0] 40); rwa [World.size_alloc] at this, World.ownsRowF_nil _ _ _ _, by simp [Value.ownBlock]⟩
  generalize (w.alloc (.cells #[.slice none 0 0] 22)).alloc (.cells #[.pointer none, .slice none 0 0] 40) = W2 at *
  refine ⟨trivial, (rows_in _ s W2).mono ?_⟩
  rintro e w3 ⟨rfl, rfl⟩
  simp only [hs2]
  have bS := Boxed.new W2 9 (.string s)
  rw [hs2] at bS
  have bO := bO2.alloc (.cells #[.string s] 9)
  have bB := bB2.alloc (.cells #[.string s] 9)
  have hb0 : Below w.heap.size w (W2.alloc (.cells #[.string s] 9)) := hb2.alloc (by omega) _
  have hs0 : (W2.alloc (.cells #[.string s] 9)).heap.size = w.heap.size + 3 := by simp; omega
  generalize W2.alloc (.cells #[.string s] 9) = W0 at *
  clear bO2 bB2 hb2 hs2
  gi_wp2
  refine wpIn_rangeFunc_ownH rfl (by omega) (gf := 23) (lb := #[.pointer (some ⟨w.heap.size + 2, 0, none⟩)]) rfl trivial (enters_of Tryd.func23 (by kernel_rfl) rfl)
    (rows_stops 5 (by omega) (w.heap.size + 2) w.heap.size s hs W0 bS) KeepS.trans (KeepS.put (by omega)) (Below.refl _ _) (fun _ => rfl)
    (CsI s.data.toList w.heap.size w) (fun _ _ _ => False) (csI_own _ _ _ _ (Nat.le_refl _) (by omega)) (fun _ _ _ _ _ hs _ _ => hs)
    ⟨⟨bB, bO⟩, hb0⟩ (CsAx w.heap.size s.data.toList) (fun x a' => fun _ _ _ _ h _ _ => h) ?assign ?body ?done ?stop
  case assign =>
    rintro l pre x W K hi1 hK
    unfold encR
    gi_wp2
    exact hK _ _ (KeepsFrom.refl _ _) (KeepS.refl _ _ _) hi1 ⟨_, _, _, _, _, _, _, _, _, _, _, _, _, _, _, _, _, _, _, _, _, _, _, _, _, _, _, _, _, _, _, _, _, _, _, _, _, _, _, _, _, _, _, _, _, _, _, _, _, _, _, _, _, _, _, _, _, _, _, _, _, _, _, _, _, _, _, rfl⟩
  case body =>
    rintro l pre x a' W hl _ ⟨⟨hv, ho⟩, hB1⟩ ⟨u0, u1, u2, u3, u4, u6, u7, u11, u12, u13, u14, u15, u16, u17, u18, u19, u20, u21, u22, u23, u24, u25, u26, u27, u28, u29, u30, u31, u32, u33, u34, u35, u36, u37, u38, u39, u40, u41, u42, u43, u44, u45, u46, u47, u48, u49, u50, u51, u52, u53, u54, u55, u56, u57, u58, u59, u60, u61, u62, u63, u64, u65, u66, u67, u68, u69, u70, rfl⟩ hlt
    have hsW := hB1.size
    have hfl := flat_len s.data.toList pre
    rw [size_len] at hfl
    have hbd : (pre.flatMap (txS s.data.toList)).length ≤ 4000 * 4001 := Nat.le_trans hfl (Nat.mul_le_mul (by omega) (by omega))
    have hb0 : bAt s.data.toList x.1 = isB (s.data.toList.getD x.1 0) := rfl
    have hsub : (sub s.data.toList x).length ≤ 4000 := by unfold sub; simp; omega
    have hws := fun (t : List UInt8) (ht : t.length ≤ 4000) => Tryd.Builder_WriteString_k (w.heap.size + 1) (w.heap.size + 1) _ (mkB t) W hv (by rw [mkB_size]; simp [Lib.byteCells]; simp at hbd; omega) (by
      obtain ⟨cs, hk⟩ := isBuilder_block hv
      have := (Array.getElem?_eq_some_iff.1 hk).1
      omega)
    have fin : ∀ (t : List UInt8) (W' : World), txS s.data.toList x = t → Lib.BuilderAtF 40 5 (w.heap.size + 1) (w.heap.size + 1) (.pointer (some ⟨w.heap.size + 1, 0, none⟩)) (Lib.byteCells (pre.flatMap (txS s.data.toList)) ++ Lib.byteCells (mkB t).data.toList) W' →
        Below (w.heap.size + 1) W W' → Lib.OthersKept 5 (some (w.heap.size + 1)) W W' → KeepsFrom W0.heap.size W W' ∧ KeepS w.heap.size (w.heap.size + 2) W W' ∧ CsI s.data.toList w.heap.size w (pre ++ [x]) W' := fun t W' ht h1 h2 h3 => by
      obtain ⟨cs, hk⟩ := isBuilder_block hv
      refine ⟨keepsFrom_others h2.size h3 hk, ⟨h2.mono (by omega), fun v hb => boxed_others hb h3 (by omega) (by decide)⟩, ⟨.inr ?_, boxed_others ho h3 (by omega) (by decide)⟩, hB1.trans (h2.mono (by omega))⟩
      rw [List.flatMap_append, List.flatMap_cons, List.flatMap_nil, List.append_nil, ht]
      unfold Lib.byteCells
      rw [List.map_append]
      exact h1
    clear hfl hbd
    cases hb : bAt s.data.toList x.1 with
    | true =>
      have HP := Lib.hid (show txS s.data.toList x = [32] by unfold txS; rw [if_pos (hb0.symm.trans hb)])
      clear hb hb0
      have hw1 := hws [32] (by decide)
      have HF := Lib.hid (fin [32])
      clear hws fin
      gi_wp2
      refine ⟨trivial, (CallsIn.inRound l (callsIn_wide.2 hw1)).mono ?_⟩
      rintro e W' ⟨rfl, h1, h2, h3⟩
      gi_wp2
      exact HF.out W' HP.out h1 h2 h3
    | false =>
      have HP := Lib.hid (show txS s.data.toList x = sub s.data.toList x by unfold txS; rw [if_neg (by rw [← hb0, hb]; decide)])
      clear hb hb0
      have hw1 := hws (sub s.data.toList x) hsub
      have HF := Lib.hid (fin (sub s.data.toList x))
      clear hws fin
      gi_wp2
      refine ⟨trivial, (CallsIn.inRound l (callsIn_wide.2 hw1)).mono ?_⟩
      rintro e W' ⟨rfl, h1, h2, h3⟩
      gi_wp2
      exact HF.out W' HP.out h1 h2 h3
  case done =>
    rintro D ys W hD rfl ⟨⟨hv, ho⟩, hB1⟩ hK
    rw [← HR.out] at hv
    have hln := Tryd.Builder_Len_f _ _ _ _ hv
    have hc := ho.cell
    have hf := ho.frozen
    have hBl : (Lib.byteCells (nrm false s.data.toList)).length = (nrm false s.data.toList).length := by simp [Lib.byteCells]
    rw [hBl] at hln
    gi_wp2
    refine ⟨trivial, (callsIn_wide.2 hln).mono ?_⟩
    rintro e w4 ⟨rfl, rfl⟩
    rcases List.eq_nil_or_concat (nrm false s.data.toList) with hn | ⟨M, cc, hn⟩
    · have HE := Lib.hid (show cutR 1 s.data.toList = [] by show cutS _ = []; rw [nrm_nil hn]; rfl)
      rw [hn]
      clear hln hv hn
      gi_wp2
      refine ⟨by simp, .inl ⟨_, _, rfl, run_takeDeferred hK, ?_⟩⟩
      refine ⟨_, results_tmp rfl _ _ _, _, rfl, ?_, hB1.trans (belowK_b (w := W0) (by omega) w4 D _ _ hD hK rfl rfl)⟩
      rw [HE.out]
      exact OwnsP.nil _ _
    · have HE := Lib.hid (show cutR 1 s.data.toList = [(0, nrm false s.data.toList)] by
        show cutS _ = _
        unfold cutS
        rw [if_neg (fun e => by rw [e] at hn; simp [nrm] at hn)])
      have h0 : (0 : Int) < ((nrm false s.data.toList).length : Nat) := by rw [hn]; simp
      have hod : Boxed w4.drew w.heap.size 22 (.slice none 0 0) := ho
      have hst := Tryd.Builder_String_any_k (w.heap.size + 1) (w.heap.size + 1) _ w4.drew hv (by
        obtain ⟨cs, hk⟩ := isBuilder_block hv
        exact Nat.le_of_lt (Array.getElem?_eq_some_iff.1 hk).1)
      generalize nrm false s.data.toList = M at *
      clear hn hln
      have HV := Lib.hid hv
      clear hv
      gi_wp2_with fail
      refine wpIn_wide.2 ?_
      have hbw : w.heap.size ≤ w4.heap.size := hB1.size
      refine wp_region_noPanic ?_
      go_region_law (first | (go_simp; go_at_call 19; with_reducible refine hst.mono ?_; rintro e w5 ⟨rfl, h1, h2, h3⟩; have ho5 := boxed_others hod h3 (by omega) (by decide); have hc5 := ho5.cell; have hf5 := ho5.frozen; have hc5a := (ho5.alloc (.cells #[.int .u8 0, .string ⟨M.toArray⟩] 26)).cell; have hz5 := Nat.le_trans hbw h2.size) | (refine step_append_piece _ (0, M) _ _ (by rfl) (by rfl) (by rfl) _ _ (by rfl) w.heap.size _ [] (by rfl) (OwnsP.nil _ _) (by rfl) (by decide) hz5 ?_; intro v6 w6 g1 g2 g3; obtain ⟨g', cap', rfl⟩ := owns_one g1; have ho6 := boxed_grown ho5 rfl g3 rfl; have hc6 := ho6.cell; have hf6 := ho6.frozen))
      all_goals
        obtain ⟨hK7, hc7, hO7, hB7⟩ := stay_end hB1 hK (by omega) h2 h3 ho6 g1 g2 g3
        refine NoPanic.normal ?_
        clear g1 g2 g3 ho5 ho6 hc5 hc6 hf5 hf6 hc5a h1 h2 h3 hst hod
        generalize w6.setCell ⟨w.heap.size, 0, none⟩ (.slice (some ⟨g', 0, none⟩) 1 cap') = W7 at *
        gi_wp2
        refine ⟨by simp, .inl ⟨_, _, rfl, run_takeDeferred hK7, ?_⟩⟩
        refine ⟨_, results_tmp rfl _ _ _, _, rfl, ?_, hB7.trans (belowK_b (w := W0) (by omega) W7 D _ _ hD hK7 rfl rfl)⟩
        rw [HE.out]
        exact ownsRow_putObj hO7 _ hK7 rfl
  case stop =>
    rintro D c pre W _ _ h _
    exact h.elim

end Go.Proofs.YtlfmeagdelmlpaaDoor
