/-
  Walks: right.last over slices.Backward, right.Hit.
-/
import Derived.Test.YtpelapdadgmlkaaHit
namespace Go.Proofs.Ytpelapdadgmlkaa
open Go.RowKit Go.Shelf

attribute [local go_sem] Oper.semAt_some

def frCells (f : Fr) : Array Value := #[.int .i64 f.node, .int .i64 f.part, .int .i64 f.depth, .int .i64 f.x, .int .i64 f.y, .int .i64 f.w, .int .i64 f.h, .string f.text]
def LsAx (fs : List Fr) (s : Nat) (x : Nat) (a' : Act) (W : World) : Prop :=
  ∃ Bx, Blk W Bx 107 (frCells (frAt fs x)) ∧ ∃ u0 u1 u2 u7 u8 u9 u10 u11 u12 u13 u14 : Value, a' = { tmps := #[u0, u1, u2, .pointer (some ⟨s, 0, none⟩), .pointer (some ⟨s + 1, 0, none⟩), .int .i64 (x : Nat), .pointer (some ⟨Bx, 0, none⟩), u7, u8, u9, u10, u11, u12, u13, u14], defers := [] }
theorem lsAx_own (fs : List Fr) (s B : Nat) (x : Nat) (a' : Act) : OwnFrom B (fun (_ : Unit) W => LsAx fs s x a' W) := fun _ X Y row hs hg hr => by
  obtain ⟨Bx, hb, ha⟩ := hs
  refine ⟨Bx, (hg.block Bx hb.lt fun e => ?_).trans hb, ha⟩
  obtain ⟨_, o, ho, hc⟩ := hr Bx e.symm
  rw [show X.heap[Bx]? = _ from hb] at ho
  cases ho
  cases hc
def LsI (fs : List Fr) (x y : Int) (s bx bY : Nat) (w : World) (pre : List Nat) (W : World) : Prop :=
  ((∀ i ∈ pre, hitP fs x y i = false) ∧ (Boxed W s 109 (.func (.func 102) #[] #[.pointer (some ⟨bx, 0, none⟩), .pointer (some ⟨bY, 0, none⟩)]) ∧ Boxed W (s + 1) 3 (.int .i64 0))) ∧ (Below s w W ∧ s + 3 ≤ W.heap.size)
def LsX (fs : List Fr) (x y : Int) (s : Nat) (w : World) (c : Code) (pre : List Nat) (W : World) : Prop :=
  ((c = .ret ∧ (∃ q i, pre = q ++ [i] ∧ (∀ j ∈ q, hitP fs x y j = false) ∧ hitP fs x y i = true ∧ Boxed W (s + 1) 3 (.int .i64 (i : Nat))))) ∧ Below s w W

set_option maxRecDepth 100000 in
set_option maxHeartbeats 4000000 in
theorem last_hit (fs : List Fr) (x y : Int) (v : Value) (B bx bY : Nat) (w : World) (h : Frags w B v fs) (hB : B ≤ w.heap.size) (hm : fs.length ≤ 2100)
    (hx : w.cell? ⟨bx, 0, none⟩ = some (.int .i64 x)) (hy : w.cell? ⟨bY, 0, none⟩ = some (.int .i64 y)) (b1 : bx < w.heap.size) (b2 : bY < w.heap.size) :
    Calls Try.prog 101 #[v, .func (.func 102) #[] #[.pointer (some ⟨bx, 0, none⟩), .pointer (some ⟨bY, 0, none⟩)]] w fun e w' => e = .returned (.int .i64 (lastTo (hitP fs x y) fs.length)) ∧ Below w.heap.size w w' := by
  have h' := h
  obtain ⟨A, c, rfl, _, _⟩ := h'
  refine (callsIn_wide (n := 6)).1 ?_
  refine callsIn_of_wp_marks Try.func101 rfl trivial ?_ rfl
  simp only [Try.ntmps101, List.size_toArray, List.length_cons, List.length_nil, Nat.reduceAdd, Nat.reduceSub, Array.replicate_succ, Array.replicate_zero, List.push_toArray, List.append_toArray, List.nil_append, List.cons_append]
  gi_wp2
  have hb2 : Below w.heap.size w ((w.alloc (.cells #[.func (.func 102) #[] #[.pointer (some ⟨bx, 0, none⟩), .pointer (some ⟨bY, 0, none⟩)]] 109)).alloc (.cells #[.int .i64 0] 3)) := ((Below.refl _ w).alloc (Nat.le_refl _) _).alloc (by simp) _
  have hs2 : ((w.alloc (.cells #[.func (.func 102) #[] #[.pointer (some ⟨bx, 0, none⟩), .pointer (some ⟨bY, 0, none⟩)]] 109)).alloc (.cells #[.int .i64 0] 3)).heap.size = w.heap.size + 2 := by simp
  have bF := (Boxed.new w 109 (.func (.func 102) #[] #[.pointer (some ⟨bx, 0, none⟩), .pointer (some ⟨bY, 0, none⟩)])).alloc (.cells #[.int .i64 0] 3)
  have bR := Boxed.new (w.alloc (.cells #[.func (.func 102) #[] #[.pointer (some ⟨bx, 0, none⟩), .pointer (some ⟨bY, 0, none⟩)]] 109)) 3 (.int .i64 0)
  rw [World.size_alloc] at bR
  generalize (w.alloc (.cells #[.func (.func 102) #[] #[.pointer (some ⟨bx, 0, none⟩), .pointer (some ⟨bY, 0, none⟩)]] 109)).alloc (.cells #[.int .i64 0] 3) = W2 at *
  refine ⟨trivial, (back_in _ A _ c W2).mono ?_⟩
  rintro e w3 ⟨rfl, rfl⟩
  simp only [hs2]
  have bL := Boxed.new W2 44 (.slice A fs.length c)
  rw [hs2] at bL
  have bF0 := bF.alloc (.cells #[.slice A fs.length c] 44)
  have bR0 := bR.alloc (.cells #[.slice A fs.length c] 44)
  have hb0 : Below w.heap.size w (W2.alloc (.cells #[.slice A fs.length c] 44)) := hb2.alloc (by omega) _
  have hs0 : (W2.alloc (.cells #[.slice A fs.length c] 44)).heap.size = w.heap.size + 3 := by rw [World.size_alloc]; omega
  generalize W2.alloc (.cells #[.slice A fs.length c] 44) = W0 at *
  have hF0 := (h.below (hb0.mono hB)).more (show B ≤ W0.heap.size by omega)
  clear bF bR hb2 hs2 h
  gi_wp2
  refine wpIn_rangeFunc_ownH rfl (by omega) (gf := 147) (lb := #[.pointer (some ⟨w.heap.size + 2, 0, none⟩)]) rfl trivial (enters_of Try.func147 (by kernel_rfl) rfl)
    (back_stops 5 (by omega) (w.heap.size + 2) W0.heap.size (.slice A fs.length c) fs hm W0 (Nat.le_refl _) (by omega) bL.cell hF0) belowK_t (belowK_b (Nat.le_refl _)) (Below.refl _ _) (fun _ => rfl)
    (LsI fs x y w.heap.size bx bY w) (LsX fs x y w.heap.size w)
    (OwnFrom.and (OwnFrom.and (ownFrom_pure _ _) (OwnFrom.and (Own.from (boxed_own _ _ _) _) (Own.from (boxed_own _ _ _) _))) (OwnFrom.and (ownFrom_below (Nat.le_refl _) (by omega)) (fun _ _ _ _ hs hg _ => Nat.le_trans hs hg.size)))
    (fun c => OwnFrom.and (fun pre X Y row hs hg hr => by
      obtain ⟨e, q, i, e1, h1, h2, h3⟩ := hs
      exact ⟨e, q, i, e1, h1, h2, Own.from (boxed_own (w.heap.size + 1) 3 (fun _ : Unit => .int .i64 (i : Nat))) _ () X Y row h3 hg hr⟩) (ownFrom_below (Nat.le_refl _) (by omega)))
    ⟨⟨by simp, bF0, bR0⟩, hb0, by omega⟩ (LsAx fs w.heap.size) (fun x a' => lsAx_own _ _ _ x a') ?assign ?body ?done ?stop
  case assign =>
    rintro l pre i W K ⟨⟨hp, h1, h2⟩, hB1, hs3⟩ hK
    have hsW := hB1.size
    unfold Fr.val
    gi_wp2
    exact hK _ _ ((KeepsOthers.alloc _ _).from _) ((Below.refl _ W).alloc (by omega) _) ⟨⟨hp, h1.alloc _, h2.alloc _⟩, hB1.alloc hsW _, by rw [World.size_alloc]; omega⟩ ⟨W.heap.size, Blk.new _ _ _, _, _, _, _, _, _, _, _, _, _, _, rfl⟩
  case body =>
    rintro l pre i a' W hl _ ⟨⟨hp, h1, h2⟩, hB1, hs3⟩ ⟨Bx, hbx, u0, u1, u2, u7, u8, u9, u10, u11, u12, u13, u14, rfl⟩ hlt
    have hsW := hB1.size
    have hcF := h1.cell
    have hx' := (hB1.cell (p := ⟨bx, 0, none⟩) b1).trans hx
    have hy' := (hB1.cell (p := ⟨bY, 0, none⟩) b2).trans hy
    have hc := hit1 (frAt fs i) x y bx bY W hx' hy' (by omega) (by omega)
    have HP := Lib.hid (show hitP fs x y i = cov (frAt fs i) x y from rfl)
    unfold Fr.val at hc
    have k0 := hbx.cell 0
    have k1 := hbx.cell 1
    have k2 := hbx.cell 2
    have k3 := hbx.cell 3
    have k4 := hbx.cell 4
    have k5 := hbx.cell 5
    have k6 := hbx.cell 6
    have k7 := hbx.cell 7
    unfold frCells at k0 k1 k2 k3 k4 k5 k6 k7
    generalize frAt fs i = f at *
    obtain ⟨n1, p1, d1, fx, fy, fw, fh, s1⟩ := f
    simp at k0 k1 k2 k3 k4 k5 k6 k7
    have HB := Lib.hid hbx
    clear hbx hx' hy'
    cases hcv : cov ⟨n1, p1, d1, fx, fy, fw, fh, s1⟩ x y with
    | false =>
      rw [hcv] at hc HP
      gi_wp2
      refine ⟨trivial, (CallsIn.inRound l (callsIn_wide.2 hc)).mono ?_⟩
      rintro e w' ⟨rfl, o, rfl⟩
      gi_wp2
      exact ⟨(KeepsOthers.alloc _ _).from _, (Below.refl _ W).alloc (by omega) _, ⟨fun j hj => (List.mem_append.1 hj).elim (hp j) (fun e => by simp at e; subst e; exact HP.out), h1.alloc _, h2.alloc _⟩, hB1.alloc hsW _, by rw [World.size_alloc]; omega⟩
    | true =>
      rw [hcv] at hc HP
      gi_wp2
      refine ⟨trivial, (CallsIn.inRound l (callsIn_wide.2 hc)).mono ?_⟩
      rintro e w' ⟨rfl, o, rfl⟩
      have c2 := (h2.alloc o).cell
      have f2 := (h2.alloc o).frozen
      gi_wp2
      exact ⟨((KeepsOthers.alloc _ _).trans (KeepsOthers.setCell _ _ _)).from _, ⟨rfl, pre, i, rfl, hp, HP.out, (h2.alloc o).set _⟩, (hB1.alloc hsW _).setCell (p := ⟨w.heap.size + 1, 0, none⟩) (by simp) _⟩
  case done =>
    rintro D ys W hD rfl ⟨⟨hp, h1, h2⟩, hB1, hs3⟩ hK
    have c2 := h2.cell
    have f2 := h2.frozen
    gi_wp2
    have hK' := (KeepsOthers.setCell W ⟨w.heap.size + 1, 0, none⟩ (.int .i64 (-1))).same D _ hK rfl
    refine ⟨by simp, .inl ⟨_, _, rfl, run_takeDeferred hK', ?_⟩⟩
    have hc5 := cell_kept (World.cell?_setCell_same' W ⟨w.heap.size + 1, 0, none⟩ (.int .i64 (-1)) (by rw [c2]; rfl)) (grownBy_putObj' _ D (.deferred none)) (fun r e => by cases e; exact ⟨_, hK', rfl⟩)
    refine ⟨.int .i64 (-1), ?_, by rw [lastTo_none fun i hi => hp i (downTo_mem.2 ⟨Nat.zero_le i, hi⟩)], (hB1.setCell (p := ⟨w.heap.size + 1, 0, none⟩) (by simp) _).trans (belowK_b (w := W0) (by omega) _ D _ _ hD hK' rfl rfl)⟩
    simp [results, Try.f101, go_sem, hc5]
  case stop =>
    rintro D c pre W hD ⟨m, hm1, hpre⟩ ⟨⟨rfl, q, i, e1, h1, h2, h3⟩, hB1⟩ hK
    have c2 := h3.cell
    gi_wp2
    refine ⟨by simp, .inl ⟨_, _, rfl, run_takeDeferred hK, ?_⟩⟩
    have hc5 := cell_kept c2 (grownBy_putObj' _ D (.deferred none)) (fun r e => by cases e; exact ⟨_, hK, rfl⟩)
    have hlast : lastTo (hitP fs x y) fs.length = i := by
      rw [e1] at hpre
      have hmn : m < fs.length := by
        rcases Nat.lt_or_ge m fs.length with h | h
        · exact h
        · have : m = fs.length := by omega
          rw [this, downTo_top] at hpre
          simp at hpre
      rw [downTo_step hmn] at hpre
      obtain ⟨e2, e3⟩ := List.append_inj' hpre rfl
      simp at e3
      subst e3
      exact lastTo_some h2 hmn fun j h4 h5 => h1 j (by rw [e2]; exact downTo_mem.2 ⟨by omega, h5⟩)
    refine ⟨.int .i64 (i : Nat), ?_, by rw [hlast], hB1.trans (belowK_b (w := W0) (by omega) W D _ _ hD hK rfl rfl)⟩
    simp [results, Try.f101, go_sem, hc5]

set_option maxRecDepth 100000 in
set_option maxHeartbeats 2000000 in
theorem hit_any (fs : List Fr) (x y : Int) (v : Value) (B : Nat) (w : World) (h : Frags w B v fs) (hB : B ≤ w.heap.size) (hm : fs.length ≤ 2100) :
    Calls Try.prog 51 #[v, .int .i64 x, .int .i64 y] w fun e w' => e = .returned (.int .i64 (lastTo (hitP fs x y) fs.length)) ∧ Below w.heap.size w w' := by
  have hb2 : Below w.heap.size w ((w.alloc (.cells #[.int .i64 x] 3)).alloc (.cells #[.int .i64 y] 3)) := ((Below.refl _ w).alloc (Nat.le_refl _) _).alloc (by simp) _
  have hs2 : ((w.alloc (.cells #[.int .i64 x] 3)).alloc (.cells #[.int .i64 y] 3)).heap.size = w.heap.size + 2 := by simp
  have bx := ((Boxed.new w 3 (.int .i64 x)).alloc (.cells #[.int .i64 y] 3)).cell
  have bY := (Boxed.new (w.alloc (.cells #[.int .i64 x] 3)) 3 (.int .i64 y)).cell
  rw [World.size_alloc] at bY
  have hl := last_hit fs x y v B w.heap.size (w.heap.size + 1) _ (h.below (hb2.mono hB)) (by omega) hm bx bY (by omega) (by omega)
  have h' := h
  obtain ⟨A, c, rfl, _, _⟩ := h'
  clear h bx bY
  generalize lastTo (hitP fs x y) fs.length = r at *
  go_enter Try.func51, Try.ntmps51
  go_wp2_with fail
  refine hl.mono ?_
  rintro e w3 ⟨rfl, hb3⟩
  go_wp2_with fail
  go_ret
  exact ⟨rfl, hb2.trans (hb3.mono (by omega))⟩

end Go.Proofs.Ytpelapdadgmlkaa
