/-
  Walks: flexline.Split: what it answers.
-/
import Derived.Test.YtbhdolghokhfnaaSplit
import Derived.Test.YtbhdolghokhfnaaFixed
namespace Go.Proofs.Ytbhdolghokhfnaa
open Go.RowKit Go.Shelf

attribute [local go_sem] Oper.semAt_some

def SplitPost (zs : List Int) (gap room : Int) (wrap : Bool) (w : World) (e : Ending) (w' : World) : Prop :=
  ∃ v, e = .returned (.tuple #[v, .int .i64 (splitR zs gap room wrap).2]) ∧ OwnsL w' w.heap.size v (splitR zs gap room wrap).1 ∧ Below w.heap.size w w'

set_option maxRecDepth 100000 in
set_option maxHeartbeats 4000000 in
theorem split_bad (zs : List Int) (gap room : Int) (wrap : Bool) (v : Value) (B : Nat) (w : World) (h : Ints w B v zs) (hm : zs.length ≤ 17592186044416) (hbad : 2048 < zs.length ∨ gap < 0 ∨ room < -1) :
    Calls Try.prog 32 #[v, .int .i64 gap, .int .i64 room, .bool wrap] w (SplitPost zs gap room wrap w) := by
  have HR := Lib.hid (split_arg (wrap := wrap) hbad)
  obtain ⟨A, c, rfl, _, _⟩ := h
  have h3 : 2048 < zs.length ∨ (¬ 2048 < zs.length ∧ gap < 0) ∨ (¬ 2048 < zs.length ∧ ¬ gap < 0 ∧ room < -1) := by omega
  clear hbad
  rcases h3 with g1 | ⟨g1, g2⟩ | ⟨g1, g2, g3⟩
  all_goals
    go_enter Try.func32, Try.ntmps32
    go_wp2_with fail
    go_ret2
    exact ⟨_, by rw [HR.out]; rfl, by rw [HR.out]; exact OwnsL.nil _ _, Below.refl _ _⟩

set_option maxRecDepth 100000 in
set_option maxHeartbeats 4000000 in
theorem split_unfit (zs : List Int) (gap room : Int) (wrap : Bool) (v : Value) (B : Nat) (w : World) (h : Ints w B v zs)
    (g1 : ¬ 2048 < zs.length) (g2 : ¬ gap < 0) (g3 : ¬ room < -1) (hun : ¬ (zs.all fit = true ∧ fit gap = true ∧ fit room = true)) :
    Calls Try.prog 32 #[v, .int .i64 gap, .int .i64 room, .bool wrap] w (SplitPost zs gap room wrap w) := by
  have HR := Lib.hid (split_over (wrap := wrap) (show ¬ (2048 < zs.length ∨ gap < 0 ∨ room < -1) by omega) hun)
  have hf1 := fits_any zs v B w h (by omega)
  have hf2 := fits_two gap room 3 w
  obtain ⟨A, c, rfl, _, _⟩ := h
  cases hA : zs.all fit with
  | false =>
    rw [hA] at hf1
    clear hun hA hf2
    go_enter Try.func32, Try.ntmps32
    go_wp2_with fail
    refine hf1.mono ?_
    rintro e w2 ⟨rfl, rfl⟩
    go_wp2_with fail
    go_ret2
    exact ⟨_, by rw [HR.out]; rfl, by rw [HR.out]; exact OwnsL.nil _ _, Below.refl _ _⟩
  | true =>
    have hb : (fit gap && fit room) = false := by
      cases h1 : fit gap <;> cases h2 : fit room <;> simp_all
    rw [hA] at hf1
    rw [hb] at hf2
    clear hun hA hb
    go_enter Try.func32, Try.ntmps32
    go_wp2_with fail
    refine hf1.mono ?_
    rintro e w2 ⟨rfl, rfl⟩
    go_wp2_with fail
    refine hf2.mono ?_
    rintro e w2 ⟨rfl, rfl⟩
    go_wp2_with fail
    go_ret2
    exact ⟨_, by rw [HR.out]; rfl, by rw [HR.out]; exact OwnsL.nil _ _, (Below.refl _ _).alloc (Nat.le_refl _) _⟩

theorem cells_two (W : World) (x : Nat × Nat) : ∀ j u, (encL x)[j]? = some u → (W.alloc (.cells #[.int .i64 (x.1 : Int), .int .i64 (x.2 : Int)] 90)).cell? ((⟨W.heap.size, 0, none⟩ : Addr).add j) = some u := fun j u hu => by
  have e : (⟨W.heap.size, 0, none⟩ : Addr).add j = ⟨W.heap.size, j, none⟩ := by unfold Addr.add; split <;> simp_all
  rw [e, (Blk.new W 90 #[.int .i64 (x.1 : Int), .int .i64 (x.2 : Int)]).cell j]
  simpa [encL] using hu

/-- A round's slots: the loop variable lies in a block of its own. -/
def SpAx (bO s : Nat) (x : Nat × Nat) (a' : Act) (W : World) : Prop :=
  ∃ Bx, s ≤ Bx ∧ bO < Bx ∧ Blk W Bx 90 #[.int .i64 (x.1 : Int), .int .i64 (x.2 : Int)] ∧ ∃ u0 u1 u2 u3 u4 u5 u6 u7 u8 u9 u12 u13 u14 u15 u16 u17 u18 u19 u20 u21 u22 u23 u24 u25 u26 u27 u28 u29 u30 u31 u32 u33 u34 u35 u36 u37 u38 u39 u40 u41 u42 u43 u44 u45 u46 u47 u48 u49 u50 : Value, a' = { tmps := #[u0, u1, u2, u3, u4, u5, u6, u7, u8, u9, .pointer (some ⟨bO, 0, none⟩), .pointer (some ⟨Bx, 0, none⟩), u12, u13, u14, u15, u16, u17, u18, u19, u20, u21, u22, u23, u24, u25, u26, u27, u28, u29, u30, u31, u32, u33, u34, u35, u36, u37, u38, u39, u40, u41, u42, u43, u44, u45, u46, u47, u48, u49, u50], defers := [] }
theorem spAx_own (bO s B : Nat) (x : Nat × Nat) (a' : Act) : OwnFrom B (fun (_ : Unit) W => SpAx bO s x a' W) := fun _ X Y row hs hg hr => by
  obtain ⟨Bx, h1, h2, hb, ha⟩ := hs
  refine ⟨Bx, h1, h2, (hg.block Bx hb.lt fun e => ?_).trans hb, ha⟩
  obtain ⟨_, o, ho, hc⟩ := hr Bx e.symm
  rw [show X.heap[Bx]? = _ from hb] at ho
  cases ho
  cases hc
def SpI (bO s : Nat) (w : World) (pre : List (Nat × Nat)) (W : World) : Prop := (∃ v, Boxed W bO 48 v ∧ OwnsL W s v pre) ∧ Below s w W
theorem spI_own (bO s B : Nat) (w : World) (hs : s ≤ w.heap.size) (hB : s ≤ B) : OwnFrom B (SpI bO s w) :=
  OwnFrom.and (fun pre X Y row h hg hr => by
    obtain ⟨v, h1, h2⟩ := h
    obtain ⟨v', h1', h2', _⟩ := (Own.from (holdsRow_own s bO 48 90 2 (fun pre : List (Nat × Nat) => pre.length) rowL (fun _ _ => True)) B) pre X Y row ⟨v, h1, h2, trivial⟩ hg hr
    exact ⟨v', h1', h2'⟩) (ownFrom_below hs hB)
theorem KeepB.alloc {n₀ b : Nat} {A W : World} (h : KeepB n₀ b A W) (hn : n₀ ≤ W.heap.size) (o : Obj) : KeepB n₀ b A (W.alloc o) := ⟨h.1.alloc hn o, fun k t v h1 h2 h3 h4 => (h.2 k t v h1 h2 h3 h4).alloc o⟩
set_option maxRecDepth 100000 in
set_option maxHeartbeats 4000000 in
theorem split_good (zs : List Int) (gap room : Int) (wrap : Bool) (v : Value) (B : Nat) (w : World) (h : Ints w B v zs) (hB : B ≤ w.heap.size)
    (g1 : ¬ 2048 < zs.length) (g2 : ¬ gap < 0) (g3 : ¬ room < -1) (hA : zs.all fit = true) (hg : fit gap = true) (hr : fit room = true) :
    Calls Try.prog 32 #[v, .int .i64 gap, .int .i64 room, .bool wrap] w (SplitPost zs gap room wrap w) := by
  have HR := Lib.hid (split_ok (wrap := wrap) (show ¬ (2048 < zs.length ∨ gap < 0 ∨ room < -1) by omega) ⟨hA, hg, hr⟩)
  have hf1 := fits_any zs v B w h (by omega)
  have hf2 := fits_two gap room 3 w
  rw [hA] at hf1
  rw [hg, hr] at hf2
  obtain ⟨p1, p2⟩ := (fit_iff _).1 hg
  obtain ⟨p3, p4⟩ := (fit_iff _).1 hr
  have h' := h
  obtain ⟨A, c, rfl, _, _⟩ := h'
  obtain ⟨R, hR⟩ : ∃ R : Int, R = if !wrap || decide (room < 0) then 4611686018427387904 else room := ⟨_, rfl⟩
  have HL := Lib.hid (okIn_split (wrap := wrap) hA (by omega) (by omega) p2 (by omega) R hR)
  have es := fun n hn b W (hn₀ : w.heap.size ≤ W.heap.size) bS bG bR hI => each_stops n hn b w.heap.size (.slice A zs.length c) zs gap R (by omega) hA (by omega) p2 W hn₀ bS bG bR hI
  obtain ⟨i0, hi, hz0, hz1, hz2⟩ := info_parts Try.infoLine
  have h3 : (wrap = false ∧ R = 4611686018427387904) ∨ (wrap = true ∧ room < 0 ∧ R = 4611686018427387904) ∨ (wrap = true ∧ ¬ room < 0 ∧ R = room) := by
    cases wrap with
    | false => exact .inl ⟨rfl, by simpa using hR⟩
    | true =>
      by_cases hn : room < 0
      · exact .inr (.inl ⟨rfl, hn, by simpa [hn] using hR⟩)
      · exact .inr (.inr ⟨rfl, hn, by simpa [hn] using hR⟩)
  clear hR hg hr
  rcases h3 with ⟨rfl, rfl⟩ | ⟨rfl, hn, rfl⟩ | ⟨rfl, hn, rfl⟩
  · refine (callsIn_wide (n := 6)).1 ?_
    refine callsIn_of_wp_marks Try.func32 rfl trivial ?_ rfl
    simp only [Try.ntmps32, List.size_toArray, List.length_cons, List.length_nil, Nat.reduceAdd, Nat.reduceSub, Array.replicate_succ, Array.replicate_zero, List.push_toArray, List.append_toArray, List.nil_append, List.cons_append]
    gi_wp2
    refine ⟨trivial, (callsIn_wide.2 hf1).mono ?_⟩
    rintro e w2 ⟨rfl, rfl⟩
    gi_wp2
    refine ⟨trivial, (callsIn_wide.2 hf2).mono ?_⟩
    rintro e w2 ⟨rfl, rfl⟩
    gi_wp2
    have hb2 : Below w.heap.size w ((w.alloc (.cells #[.int .i64 gap, .int .i64 room] 3)).alloc (.cells #[.slice none 0 0] 48)) := ((Below.refl _ w).alloc (Nat.le_refl _) _).alloc (by simp) _
    have hs2 : ((w.alloc (.cells #[.int .i64 gap, .int .i64 room] 3)).alloc (.cells #[.slice none 0 0] 48)).heap.size = w.heap.size + 2 := by simp
    have bO2 := Boxed.new (w.alloc (.cells #[.int .i64 gap, .int .i64 room] 3)) 48 (.slice none 0 0)
    rw [World.size_alloc] at bO2
    generalize (w.alloc (.cells #[.int .i64 gap, .int .i64 room] 3)).alloc (.cells #[.slice none 0 0] 48) = W2 at *
    refine ⟨trivial, (each_in _ _ gap _ W2 A _ c rfl).mono ?_⟩
    rintro e w3 ⟨rfl, rfl⟩
    simp only [hs2]
    have bS := ((Boxed.new W2 22 (.slice A zs.length c)).alloc (.cells #[.int .i64 gap] 3)).alloc (.cells #[.int .i64 4611686018427387904] 3)
    have bG := (Boxed.new (W2.alloc (.cells #[.slice A zs.length c] 22)) 3 (.int .i64 gap)).alloc (.cells #[.int .i64 4611686018427387904] 3)
    have bR := Boxed.new ((W2.alloc (.cells #[.slice A zs.length c] 22)).alloc (.cells #[.int .i64 gap] 3)) 3 (.int .i64 4611686018427387904)
    simp only [World.size_alloc, hs2] at bS bG bR
    have bO := ((bO2.alloc (.cells #[.slice A zs.length c] 22)).alloc (.cells #[.int .i64 gap] 3)).alloc (.cells #[.int .i64 4611686018427387904] 3)
    have hb0 : Below w.heap.size w (((W2.alloc (.cells #[.slice A zs.length c] 22)).alloc (.cells #[.int .i64 gap] 3)).alloc (.cells #[.int .i64 4611686018427387904] 3)) := ((hb2.alloc (by omega) _).alloc (by simp; omega) _).alloc (by simp; omega) _
    have hs0 : (((W2.alloc (.cells #[.slice A zs.length c] 22)).alloc (.cells #[.int .i64 gap] 3)).alloc (.cells #[.int .i64 4611686018427387904] 3)).heap.size = w.heap.size + 5 := by simp; omega
    generalize ((W2.alloc (.cells #[.slice A zs.length c] 22)).alloc (.cells #[.int .i64 gap] 3)).alloc (.cells #[.int .i64 4611686018427387904] 3) = W0 at *
    have hI0 := (h.more hB).below hb0
    clear bO2 hb2 hs2 hf1 hf2 h
    gi_wp2
    refine wpIn_rangeFunc_ownH rfl (by omega) (gf := 74) (lb := #[.pointer (some ⟨w.heap.size + 2, 0, none⟩), .pointer (some ⟨w.heap.size + 2 + 1, 0, none⟩), .pointer (some ⟨w.heap.size + 2 + 2, 0, none⟩)]) rfl trivial (enters_of Try.func74 (by kernel_rfl) rfl)
      (es 5 (by omega) (w.heap.size + 2) W0 (by omega) bS bG bR hI0) KeepB.trans (KeepB.put (by omega)) (Below.refl _ _) (fun _ => rfl)
      (SpI (w.heap.size + 1) w.heap.size w) (fun _ _ _ => False) (spI_own _ _ _ _ (Nat.le_refl _) (by omega)) (fun _ _ _ _ _ hs _ _ => hs)
      ⟨⟨_, bO, OwnsL.nil _ _⟩, hb0⟩ (SpAx (w.heap.size + 1) w.heap.size) (fun x a' => spAx_own _ _ _ x a') ?assign ?body ?done ?stop
    case assign =>
      rintro l pre x W K ⟨⟨v, hv, ho⟩, hB1⟩ hK
      have hsW := hB1.size
      unfold valL
      gi_wp2
      exact hK _ _ ((KeepsOthers.alloc _ _).from _) ((KeepB.refl _ _ _).alloc hsW _) ⟨⟨v, hv.alloc _, World.ownsRow.alloc ho _⟩, hB1.alloc hsW _⟩ ⟨W.heap.size, hsW, hv.lt, Blk.new _ _ _, _, _, _, _, _, _, _, _, _, _, _, _, _, _, _, _, _, _, _, _, _, _, _, _, _, _, _, _, _, _, _, _, _, _, _, _, _, _, _, _, _, _, _, _, _, _, _, _, _, rfl⟩
    case body =>
      rintro l pre x a' W hl _ ⟨⟨v, hv, ho⟩, hB1⟩ ⟨Bx, hx1, hx2, hbx, u0, u1, u2, u3, u4, u5, u6, u7, u8, u9, u12, u13, u14, u15, u16, u17, u18, u19, u20, u21, u22, u23, u24, u25, u26, u27, u28, u29, u30, u31, u32, u33, u34, u35, u36, u37, u38, u39, u40, u41, u42, u43, u44, u45, u46, u47, u48, u49, u50, rfl⟩ hlt
      have hc := hv.cell
      have c0 := hbx.cell 0
      have c1 := hbx.cell 1
      have hsW := hB1.size
      have hpl : pre.length < 2048 := by omega
      gi_wp2_with (gi_at_builtin; refine wpListIn_append_own _ rfl _ _ 48 rfl w.heap.size 90 i0 (.agg #[.int .i64 0, .int .i64 0]) 2 16 Try.underlying48 hi hz0 hz1 hz2 rfl (by decide) _ _ _ rfl (World.ownsRow.alloc ho _) ⟨W.heap.size, 0, none⟩ 1 1 (encL x) rfl rfl (cells_two W x) (by simp [encL, Value.oneCell']) (by simp only [maxLen]; omega) (by omega) (by simp; omega) ?_; intro v' w1 hown' hgrow _; obtain ⟨g', cap', rfl⟩ := ownsRow_succ hown'; obtain ⟨hv1, hv2, hr2, hk2, hb2⟩ := hv.appended (by decide) ho hsW (by omega) hown' hgrow; have hc1 := hv1.cell; have hf1 := hv1.frozen)
      refine ⟨hk2.from _, ⟨hb2, fun k t u h1 h2 h3 h4 => ?_⟩, ⟨⟨_, hv2, ?_⟩, hB1.trans hb2⟩⟩
      · have h5 := h4.alloc (.cells #[.int .i64 (x.1 : Int), .int .i64 (x.2 : Int)] 90)
        exact (h5.kept hgrow (h4.not_row h3 ho)).other (by omega) _
      · unfold OwnsL
        rw [List.length_append, rowL_snoc]
        exact hr2
    case done =>
      rintro D ys W hD rfl ⟨⟨v, hv, ho⟩, hB1⟩ hK
      have hc := hv.cell
      gi_wp2
      refine ⟨by simp, .inl ⟨_, _, rfl, run_takeDeferred hK, ?_⟩⟩
      refine ⟨_, results_tmp2 rfl _ _ _, v, by rw [HR.out]; rfl, ?_, hB1.trans (belowK_b (w := W0) (by omega) W D _ _ hD hK rfl rfl)⟩
      rw [HR.out, ← HL.out]
      exact ownsRow_putObj ho _ hK rfl
    case stop =>
      rintro D c pre W _ _ h _
      exact h.elim
  · refine (callsIn_wide (n := 6)).1 ?_
    refine callsIn_of_wp_marks Try.func32 rfl trivial ?_ rfl
    simp only [Try.ntmps32, List.size_toArray, List.length_cons, List.length_nil, Nat.reduceAdd, Nat.reduceSub, Array.replicate_succ, Array.replicate_zero, List.push_toArray, List.append_toArray, List.nil_append, List.cons_append]
    gi_wp2
    refine ⟨trivial, (callsIn_wide.2 hf1).mono ?_⟩
    rintro e w2 ⟨rfl, rfl⟩
    gi_wp2
    refine ⟨trivial, (callsIn_wide.2 hf2).mono ?_⟩
    rintro e w2 ⟨rfl, rfl⟩
    gi_wp2
    have hb2 : Below w.heap.size w ((w.alloc (.cells #[.int .i64 gap, .int .i64 room] 3)).alloc (.cells #[.slice none 0 0] 48)) := ((Below.refl _ w).alloc (Nat.le_refl _) _).alloc (by simp) _
    have hs2 : ((w.alloc (.cells #[.int .i64 gap, .int .i64 room] 3)).alloc (.cells #[.slice none 0 0] 48)).heap.size = w.heap.size + 2 := by simp
    have bO2 := Boxed.new (w.alloc (.cells #[.int .i64 gap, .int .i64 room] 3)) 48 (.slice none 0 0)
    rw [World.size_alloc] at bO2
    generalize (w.alloc (.cells #[.int .i64 gap, .int .i64 room] 3)).alloc (.cells #[.slice none 0 0] 48) = W2 at *
    refine ⟨trivial, (each_in _ _ gap _ W2 A _ c rfl).mono ?_⟩
    rintro e w3 ⟨rfl, rfl⟩
    simp only [hs2]
    have bS := ((Boxed.new W2 22 (.slice A zs.length c)).alloc (.cells #[.int .i64 gap] 3)).alloc (.cells #[.int .i64 4611686018427387904] 3)
    have bG := (Boxed.new (W2.alloc (.cells #[.slice A zs.length c] 22)) 3 (.int .i64 gap)).alloc (.cells #[.int .i64 4611686018427387904] 3)
    have bR := Boxed.new ((W2.alloc (.cells #[.slice A zs.length c] 22)).alloc (.cells #[.int .i64 gap] 3)) 3 (.int .i64 4611686018427387904)
    simp only [World.size_alloc, hs2] at bS bG bR
    have bO := ((bO2.alloc (.cells #[.slice A zs.length c] 22)).alloc (.cells #[.int .i64 gap] 3)).alloc (.cells #[.int .i64 4611686018427387904] 3)
    have hb0 : Below w.heap.size w (((W2.alloc (.cells #[.slice A zs.length c] 22)).alloc (.cells #[.int .i64 gap] 3)).alloc (.cells #[.int .i64 4611686018427387904] 3)) := ((hb2.alloc (by omega) _).alloc (by simp; omega) _).alloc (by simp; omega) _
    have hs0 : (((W2.alloc (.cells #[.slice A zs.length c] 22)).alloc (.cells #[.int .i64 gap] 3)).alloc (.cells #[.int .i64 4611686018427387904] 3)).heap.size = w.heap.size + 5 := by simp; omega
    generalize ((W2.alloc (.cells #[.slice A zs.length c] 22)).alloc (.cells #[.int .i64 gap] 3)).alloc (.cells #[.int .i64 4611686018427387904] 3) = W0 at *
    have hI0 := (h.more hB).below hb0
    clear bO2 hb2 hs2 hf1 hf2 h
    gi_wp2
    refine wpIn_rangeFunc_ownH rfl (by omega) (gf := 74) (lb := #[.pointer (some ⟨w.heap.size + 2, 0, none⟩), .pointer (some ⟨w.heap.size + 2 + 1, 0, none⟩), .pointer (some ⟨w.heap.size + 2 + 2, 0, none⟩)]) rfl trivial (enters_of Try.func74 (by kernel_rfl) rfl)
      (es 5 (by omega) (w.heap.size + 2) W0 (by omega) bS bG bR hI0) KeepB.trans (KeepB.put (by omega)) (Below.refl _ _) (fun _ => rfl)
      (SpI (w.heap.size + 1) w.heap.size w) (fun _ _ _ => False) (spI_own _ _ _ _ (Nat.le_refl _) (by omega)) (fun _ _ _ _ _ hs _ _ => hs)
      ⟨⟨_, bO, OwnsL.nil _ _⟩, hb0⟩ (SpAx (w.heap.size + 1) w.heap.size) (fun x a' => spAx_own _ _ _ x a') ?assign ?body ?done ?stop
    case assign =>
      rintro l pre x W K ⟨⟨v, hv, ho⟩, hB1⟩ hK
      have hsW := hB1.size
      unfold valL
      gi_wp2
      exact hK _ _ ((KeepsOthers.alloc _ _).from _) ((KeepB.refl _ _ _).alloc hsW _) ⟨⟨v, hv.alloc _, World.ownsRow.alloc ho _⟩, hB1.alloc hsW _⟩ ⟨W.heap.size, hsW, hv.lt, Blk.new _ _ _, _, _, _, _, _, _, _, _, _, _, _, _, _, _, _, _, _, _, _, _, _, _, _, _, _, _, _, _, _, _, _, _, _, _, _, _, _, _, _, _, _, _, _, _, _, _, _, _, _, rfl⟩
    case body =>
      rintro l pre x a' W hl _ ⟨⟨v, hv, ho⟩, hB1⟩ ⟨Bx, hx1, hx2, hbx, u0, u1, u2, u3, u4, u5, u6, u7, u8, u9, u12, u13, u14, u15, u16, u17, u18, u19, u20, u21, u22, u23, u24, u25, u26, u27, u28, u29, u30, u31, u32, u33, u34, u35, u36, u37, u38, u39, u40, u41, u42, u43, u44, u45, u46, u47, u48, u49, u50, rfl⟩ hlt
      have hc := hv.cell
      have c0 := hbx.cell 0
      have c1 := hbx.cell 1
      have hsW := hB1.size
      have hpl : pre.length < 2048 := by omega
      gi_wp2_with (gi_at_builtin; refine wpListIn_append_own _ rfl _ _ 48 rfl w.heap.size 90 i0 (.agg #[.int .i64 0, .int .i64 0]) 2 16 Try.underlying48 hi hz0 hz1 hz2 rfl (by decide) _ _ _ rfl (World.ownsRow.alloc ho _) ⟨W.heap.size, 0, none⟩ 1 1 (encL x) rfl rfl (cells_two W x) (by simp [encL, Value.oneCell']) (by simp only [maxLen]; omega) (by omega) (by simp; omega) ?_; intro v' w1 hown' hgrow _; obtain ⟨g', cap', rfl⟩ := ownsRow_succ hown'; obtain ⟨hv1, hv2, hr2, hk2, hb2⟩ := hv.appended (by decide) ho hsW (by omega) hown' hgrow; have hc1 := hv1.cell; have hf1 := hv1.frozen)
      refine ⟨hk2.from _, ⟨hb2, fun k t u h1 h2 h3 h4 => ?_⟩, ⟨⟨_, hv2, ?_⟩, hB1.trans hb2⟩⟩
      · have h5 := h4.alloc (.cells #[.int .i64 (x.1 : Int), .int .i64 (x.2 : Int)] 90)
        exact (h5.kept hgrow (h4.not_row h3 ho)).other (by omega) _
      · unfold OwnsL
        rw [List.length_append, rowL_snoc]
        exact hr2
    case done =>
      rintro D ys W hD rfl ⟨⟨v, hv, ho⟩, hB1⟩ hK
      have hc := hv.cell
      gi_wp2
      refine ⟨by simp, .inl ⟨_, _, rfl, run_takeDeferred hK, ?_⟩⟩
      refine ⟨_, results_tmp2 rfl _ _ _, v, by rw [HR.out]; rfl, ?_, hB1.trans (belowK_b (w := W0) (by omega) W D _ _ hD hK rfl rfl)⟩
      rw [HR.out, ← HL.out]
      exact ownsRow_putObj ho _ hK rfl
    case stop =>
      rintro D c pre W _ _ h _
      exact h.elim
  · refine (callsIn_wide (n := 6)).1 ?_
    refine callsIn_of_wp_marks Try.func32 rfl trivial ?_ rfl
    simp only [Try.ntmps32, List.size_toArray, List.length_cons, List.length_nil, Nat.reduceAdd, Nat.reduceSub, Array.replicate_succ, Array.replicate_zero, List.push_toArray, List.append_toArray, List.nil_append, List.cons_append]
    gi_wp2
    refine ⟨trivial, (callsIn_wide.2 hf1).mono ?_⟩
    rintro e w2 ⟨rfl, rfl⟩
    gi_wp2
    refine ⟨trivial, (callsIn_wide.2 hf2).mono ?_⟩
    rintro e w2 ⟨rfl, rfl⟩
    gi_wp2
    have hb2 : Below w.heap.size w ((w.alloc (.cells #[.int .i64 gap, .int .i64 R] 3)).alloc (.cells #[.slice none 0 0] 48)) := ((Below.refl _ w).alloc (Nat.le_refl _) _).alloc (by simp) _
    have hs2 : ((w.alloc (.cells #[.int .i64 gap, .int .i64 R] 3)).alloc (.cells #[.slice none 0 0] 48)).heap.size = w.heap.size + 2 := by simp
    have bO2 := Boxed.new (w.alloc (.cells #[.int .i64 gap, .int .i64 R] 3)) 48 (.slice none 0 0)
    rw [World.size_alloc] at bO2
    generalize (w.alloc (.cells #[.int .i64 gap, .int .i64 R] 3)).alloc (.cells #[.slice none 0 0] 48) = W2 at *
    refine ⟨trivial, (each_in _ _ gap _ W2 A _ c rfl).mono ?_⟩
    rintro e w3 ⟨rfl, rfl⟩
    simp only [hs2]
    have bS := ((Boxed.new W2 22 (.slice A zs.length c)).alloc (.cells #[.int .i64 gap] 3)).alloc (.cells #[.int .i64 R] 3)
    have bG := (Boxed.new (W2.alloc (.cells #[.slice A zs.length c] 22)) 3 (.int .i64 gap)).alloc (.cells #[.int .i64 R] 3)
    have bR := Boxed.new ((W2.alloc (.cells #[.slice A zs.length c] 22)).alloc (.cells #[.int .i64 gap] 3)) 3 (.int .i64 R)
    simp only [World.size_alloc, hs2] at bS bG bR
    have bO := ((bO2.alloc (.cells #[.slice A zs.length c] 22)).alloc (.cells #[.int .i64 gap] 3)).alloc (.cells #[.int .i64 R] 3)
    have hb0 : Below w.heap.size w (((W2.alloc (.cells #[.slice A zs.length c] 22)).alloc (.cells #[.int .i64 gap] 3)).alloc (.cells #[.int .i64 R] 3)) := ((hb2.alloc (by omega) _).alloc (by simp; omega) _).alloc (by simp; omega) _
    have hs0 : (((W2.alloc (.cells #[.slice A zs.length c] 22)).alloc (.cells #[.int .i64 gap] 3)).alloc (.cells #[.int .i64 R] 3)).heap.size = w.heap.size + 5 := by simp; omega
    generalize ((W2.alloc (.cells #[.slice A zs.length c] 22)).alloc (.cells #[.int .i64 gap] 3)).alloc (.cells #[.int .i64 R] 3) = W0 at *
    have hI0 := (h.more hB).below hb0
    clear bO2 hb2 hs2 hf1 hf2 h
    gi_wp2
    refine wpIn_rangeFunc_ownH rfl (by omega) (gf := 74) (lb := #[.pointer (some ⟨w.heap.size + 2, 0, none⟩), .pointer (some ⟨w.heap.size + 2 + 1, 0, none⟩), .pointer (some ⟨w.heap.size + 2 + 2, 0, none⟩)]) rfl trivial (enters_of Try.func74 (by kernel_rfl) rfl)
      (es 5 (by omega) (w.heap.size + 2) W0 (by omega) bS bG bR hI0) KeepB.trans (KeepB.put (by omega)) (Below.refl _ _) (fun _ => rfl)
      (SpI (w.heap.size + 1) w.heap.size w) (fun _ _ _ => False) (spI_own _ _ _ _ (Nat.le_refl _) (by omega)) (fun _ _ _ _ _ hs _ _ => hs)
      ⟨⟨_, bO, OwnsL.nil _ _⟩, hb0⟩ (SpAx (w.heap.size + 1) w.heap.size) (fun x a' => spAx_own _ _ _ x a') ?assign ?body ?done ?stop
    case assign =>
      rintro l pre x W K ⟨⟨v, hv, ho⟩, hB1⟩ hK
      have hsW := hB1.size
      unfold valL
      gi_wp2
      exact hK _ _ ((KeepsOthers.alloc _ _).from _) ((KeepB.refl _ _ _).alloc hsW _) ⟨⟨v, hv.alloc _, World.ownsRow.alloc ho _⟩, hB1.alloc hsW _⟩ ⟨W.heap.size, hsW, hv.lt, Blk.new _ _ _, _, _, _, _, _, _, _, _, _, _, _, _, _, _, _, _, _, _, _, _, _, _, _, _, _, _, _, _, _, _, _, _, _, _, _, _, _, _, _, _, _, _, _, _, _, _, _, _, _, rfl⟩
    case body =>
      rintro l pre x a' W hl _ ⟨⟨v, hv, ho⟩, hB1⟩ ⟨Bx, hx1, hx2, hbx, u0, u1, u2, u3, u4, u5, u6, u7, u8, u9, u12, u13, u14, u15, u16, u17, u18, u19, u20, u21, u22, u23, u24, u25, u26, u27, u28, u29, u30, u31, u32, u33, u34, u35, u36, u37, u38, u39, u40, u41, u42, u43, u44, u45, u46, u47, u48, u49, u50, rfl⟩ hlt
      have hc := hv.cell
      have c0 := hbx.cell 0
      have c1 := hbx.cell 1
      have hsW := hB1.size
      have hpl : pre.length < 2048 := by omega
      gi_wp2_with (gi_at_builtin; refine wpListIn_append_own _ rfl _ _ 48 rfl w.heap.size 90 i0 (.agg #[.int .i64 0, .int .i64 0]) 2 16 Try.underlying48 hi hz0 hz1 hz2 rfl (by decide) _ _ _ rfl (World.ownsRow.alloc ho _) ⟨W.heap.size, 0, none⟩ 1 1 (encL x) rfl rfl (cells_two W x) (by simp [encL, Value.oneCell']) (by simp only [maxLen]; omega) (by omega) (by simp; omega) ?_; intro v' w1 hown' hgrow _; obtain ⟨g', cap', rfl⟩ := ownsRow_succ hown'; obtain ⟨hv1, hv2, hr2, hk2, hb2⟩ := hv.appended (by decide) ho hsW (by omega) hown' hgrow; have hc1 := hv1.cell; have hf1 := hv1.frozen)
      refine ⟨hk2.from _, ⟨hb2, fun k t u h1 h2 h3 h4 => ?_⟩, ⟨⟨_, hv2, ?_⟩, hB1.trans hb2⟩⟩
      · have h5 := h4.alloc (.cells #[.int .i64 (x.1 : Int), .int .i64 (x.2 : Int)] 90)
        exact (h5.kept hgrow (h4.not_row h3 ho)).other (by omega) _
      · unfold OwnsL
        rw [List.length_append, rowL_snoc]
        exact hr2
    case done =>
      rintro D ys W hD rfl ⟨⟨v, hv, ho⟩, hB1⟩ hK
      have hc := hv.cell
      gi_wp2
      refine ⟨by simp, .inl ⟨_, _, rfl, run_takeDeferred hK, ?_⟩⟩
      refine ⟨_, results_tmp2 rfl _ _ _, v, by rw [HR.out]; rfl, ?_, hB1.trans (belowK_b (w := W0) (by omega) W D _ _ hD hK rfl rfl)⟩
      rw [HR.out, ← HL.out]
      exact ownsRow_putObj ho _ hK rfl
    case stop =>
      rintro D c pre W _ _ h _
      exact h.elim

end Go.Proofs.Ytbhdolghokhfnaa
