/-
  Walks: flexline.Order at the chapter's four Orders.
-/
import Derived.Test.YtbhdolghokhfnaaAwake01
import Derived.Test.YtbhdolghokhfnaaShelfI
import Derived.Deep.QuietTactic
import Derived.BigQuiet
namespace Go.Proofs.Ytbhdolghokhfnaa
open Go.Shelf Go.RowKit Go.Lib Go.Sort

def z4 (i : Fin 4) : Int := if i.1 % 2 = 0 then 0 else -1
def cf4 (x y : Fin 4) : Int := cmpI (z4 x) (z4 y)
def enc4 (x : Fin 4) : Value := .int .i64 (x.1 : Int)
theorem sorted4 : Sort.insertionSort (ltOf cf4) #[0, 1, 2, 3] 0 4 = #[1, 3, 0, 2] := by
  unfold Sort.insertionSort
  rw [insOuter, if_pos (by decide), insOuter, if_pos (by decide), insOuter, if_pos (by decide), insOuter, if_neg (by decide)]
  decide

theorem ord4_cmp (Bx : Nat) (ad : Addr) (c : Nat) (x y : Fin 4) (W : World) (hs : W.cell? ⟨Bx, 0, none⟩ = some (.slice (some ad) 4 c)) (hc : ∀ i : Fin 4, W.cell? (ad.add i.1) = some (.int .i64 (z4 i))) :
    Calls Try.prog 30 #[enc4 x, enc4 y, .pointer (some ⟨Bx, 0, none⟩)] W fun e w' => e = .returned (.int .i64 (cf4 x y)) ∧ ∃ q, w' = W.drewN q := by
  have hx := hc x
  have hy := hc y
  have HF := Lib.hid (show cf4 x y = cmpI (z4 x) (z4 y) from rfl)
  have hx4 : ((x.1 : Nat) : Int) < 4 := by have := x.2; omega
  have hy4 : ((y.1 : Nat) : Int) < 4 := by have := y.2; omega
  unfold enc4
  generalize z4 x = a at *
  generalize z4 y = b at *
  generalize x.1 = i at *
  generalize y.1 = j at *
  clear hc
  go_enter Try.func30, Try.ntmps30
  go_wp2_with fail
  go_quiet (first | (go_at_call 31; exact Calls.quiet_of_same (compare_int a b _)))
  go_wp2_with fail
  go_ret
  exact ⟨by rw [HF.out]; rfl, nq, rfl⟩

theorem sw_cell (W : World) (g m : Nat) (dk : Array (Fin 4)) (os : Array Obj) (a : Addr) (h1 : a.block ≠ g) (h2 : a.block < W.heap.size) : (sortWorld enc4 W g 0 m dk os).cell? a = W.cell? a := by
  unfold sortWorld
  rw [cell?_grow _ _ _ (by rw [Sort.size_putRow]; exact h2), cell?_putRow_other _ _ g 0 dk _ (Or.inl h1)]
  rfl
theorem ord4_reads (g Bx : Nat) (ad : Addr) (c : Nat) (W : World) (hs : W.cell? ⟨Bx, 0, none⟩ = some (.slice (some ad) 4 c)) (hc : ∀ i : Fin 4, W.cell? (ad.add i.1) = some (.int .i64 (z4 i)))
    (b1 : Bx ≠ g) (b2 : Bx < W.heap.size) (b3 : ad.block ≠ g) (b4 : ad.block < W.heap.size) :
    CmpReads Try.prog 30 #[.pointer (some ⟨Bx, 0, none⟩)] enc4 cf4 g 0 4 W := fun m os dk _ x y =>
  ord4_cmp Bx ad c x y _ ((sw_cell W g m dk os ⟨Bx, 0, none⟩ b1 b2).trans hs) fun i => (sw_cell W g m dk os _ (by rw [block_of_add]; exact b3) (by rw [block_of_add]; exact b4)).trans (hc i)

set_option maxRecDepth 100000 in
set_option maxHeartbeats 2000000 in
theorem stable4 (g cap Bx : Nat) (ad : Addr) (c : Nat) (W : World) (hs : W.cell? ⟨Bx, 0, none⟩ = some (.slice (some ad) 4 c)) (hc : ∀ i : Fin 4, W.cell? (ad.add i.1) = some (.int .i64 (z4 i)))
    (b1 : Bx ≠ g) (b2 : Bx < W.heap.size) (b3 : ad.block ≠ g) (b4 : ad.block < W.heap.size) (hH : Holds enc4 W g 0 #[0, 1, 2, 3]) :
    Calls Try.prog 29 #[.slice (some ⟨g, 0, none⟩) 4 cap, .func (.func 30) #[] #[.pointer (some ⟨Bx, 0, none⟩)]] W fun e w' =>
      e = .returned (.tuple #[]) ∧ ∃ n, w' = (putRow enc4 W g 0 #[1, 3, 0, 2]).drewN n := by
  have eg : ∀ args w, (callFunc 30 args).run Try.prog w = .ok (.enter 30 args) w := enters_of Try.func30 (by kernel_rfl) rfl
  have hI := Any.insertionSortCmpFunc_one Try.laysIns enc4 (fun _ => rfl) cf4 30 #[.pointer (some ⟨Bx, 0, none⟩)] g 0 cap 0 4 #[0, 1, 2, 3] W eg (ord4_reads g Bx ad c W hs hc b1 b2 b3 b4) hH (by omega) (by decide) (by decide)
  rw [sorted4] at hI
  change Calls Try.prog 72 #[.slice (some ⟨g, 0, none⟩) 4 cap, .int .i64 0, .int .i64 4, .func (.func 30) #[] #[.pointer (some ⟨Bx, 0, none⟩)]] W _ at hI
  have hS : Calls Try.prog 56 #[.slice (some ⟨g, 0, none⟩) 4 cap, .int .i64 4, .func (.func 30) #[] #[.pointer (some ⟨Bx, 0, none⟩)]] W fun e w' =>
      e = .returned (.tuple #[]) ∧ ∃ n, w' = (putRow enc4 W g 0 #[1, 3, 0, 2]).drewN n := by
    go_enter Try.func56, Try.ntmps56
    go_wp2_with fail
    refine wp_loop_rounds 1 ?_
    rw [rounds_succ]
    go_wp2_with fail
    refine hI.mono ?_
    rintro e w' ⟨rfl, n, rfl⟩
    go_wp2_with fail
    refine wp_loop_rounds 1 ?_
    rw [rounds_succ]
    go_wp2_with fail
    go_end0
    exact ⟨rfl, n, rfl⟩
  clear hI hc hs hH
  go_enter Try.func29, Try.ntmps29
  go_wp2_with fail
  refine hS.mono ?_
  rintro e w' ⟨rfl, n, rfl⟩
  go_wp2_with fail
  go_end0
  exact ⟨rfl, n, rfl⟩

/-- Places so far. -/
def O4A (b : Nat) (w1 : World) (places i : Value) (wr : World) : Prop :=
  ∃ k : Nat, k ≤ 4 ∧ i = .int .i64 k ∧ Owns wr b places ((List.range k).map fun j => ((j : Nat) : Int)) ∧ Below b w1 wr
theorem range_snoc_int (k : Nat) : ((List.range (k + 1)).map fun j => ((j : Nat) : Int)) = ((List.range k).map fun j => ((j : Nat) : Int)) ++ [(k : Int)] := by simp [List.range_succ]

set_option maxRecDepth 100000 in
set_option maxHeartbeats 2000000 in
theorem order4 (v : Value) (B : Nat) (w : World) (h : Ints w B v [0, -1, 0, -1]) (hB : B ≤ w.heap.size) :
    Calls Try.prog 14 #[v] w fun e w' => ∃ g cap, e = .returned (.slice (some ⟨g, 0, none⟩) 4 cap) ∧ 4 ≤ cap ∧
      w'.cell? ⟨g, 0, none⟩ = some (.int .i64 1) ∧ w'.cell? ⟨g, 1, none⟩ = some (.int .i64 3) ∧ w'.cell? ⟨g, 2, none⟩ = some (.int .i64 0) ∧ w'.cell? ⟨g, 3, none⟩ = some (.int .i64 2) ∧ g < w'.heap.size ∧ Below w.heap.size w w' := by
  obtain ⟨A, c, rfl, hc, hr⟩ := h
  obtain ⟨ad, rfl, hbk, _⟩ := hr.val (show 0 < [(0 : Int), -1, 0, -1].length by decide)
  have hcz : ∀ i : Fin 4, w.cell? (ad.add i.1) = some (.int .i64 (z4 i)) := fun i => by
    obtain ⟨_, e, _, k⟩ := hr.val (show i.1 < [(0 : Int), -1, 0, -1].length from i.2)
    cases e
    rw [k]
    match i with
    | 0 => rfl
    | 1 => rfl
    | 2 => rfl
    | 3 => rfl
  have hb0 : Below w.heap.size w (w.alloc (.cells #[.slice (some ad) 4 c] 22)) := (Below.refl _ _).alloc (Nat.le_refl _) _
  have hs0 : (w.alloc (.cells #[.slice (some ad) 4 c] 22)).heap.size = w.heap.size + 1 := World.size_alloc _ _
  have hc0 : (w.alloc (.cells #[.slice (some ad) 4 c] 22)).cell? ⟨w.heap.size, 0, none⟩ = some (.slice (some ad) 4 c) := by simp [go_sem]
  go_enter Try.func14, Try.ntmps14
  go_wp2_with fail
  generalize w.alloc (.cells #[.slice (some ad) 4 c] 22) = w0 at *
  obtain ⟨s, hs⟩ : ∃ s, w.heap.size = s := ⟨_, rfl⟩
  rw [hs] at hb0 hs0 hc0 hB
  have HS := Lib.hid hs; clear hs
  rw [HS.out]
  go_loopw [3, 7] (O4A (s + 1) w0) (fun _ i _ => 4 - (intOf i).toNat)
  case atStart => exact ⟨0, by omega, rfl, Owns.nil _ _, Below.refl _ _⟩
  case round =>
    obtain ⟨k, hk, rfl, hown, hbr⟩ := hrel
    have hbase : s + 1 ≤ wr.heap.size := by have := hbr.size; omega
    by_cases hlt : k < 4
    · have hl4 : (k : Int) < 4 := by omega
      have hlk : ((List.range k).map fun j => ((j : Nat) : Int)).length < 17592186044416 := by simp; omega
      go_wp2_with (at_builtin; refine append_int _ (k : Int) rfl _ _ rfl (s + 1) u3 _ rfl hown rfl hlk hbase ?_; intro v3 w3 hown3 hb3)
      go_roundw
      case rel => exact ⟨k + 1, hlt, by go_num, by rw [range_snoc_int]; exact hown3, hbr.trans hb3⟩
      case measure => simp [intOf] <;> omega
    · obtain rfl : k = 4 := by omega
      obtain ⟨g, cap, rfl, hcap, hg, hgl, hcc, hff⟩ := hown.open_ (by simp)
      simp only [List.length_map, List.length_range] at hcap hcc ⊢
      have hH : Holds enc4 wr g 0 #[0, 1, 2, 3] := fun j hj => by
        have hj4 : j < 4 := by simpa using hj
        refine ⟨?_, by rw [Nat.zero_add]; exact hff j⟩
        rw [Nat.zero_add, hcc j (by simpa using hj4)]
        match j, hj4 with
        | 0, _ => rfl
        | 1, _ => rfl
        | 2, _ => rfl
        | 3, _ => rfl
      have hbs := (hbr.cell (p := ⟨s, 0, none⟩) (by show s < _; omega)).trans hc0
      have hcs : ∀ i : Fin 4, wr.cell? (ad.add i.1) = some (.int .i64 (z4 i)) := fun i => (hbr.cell (by rw [block_of_add]; omega)).trans ((hb0.cell (by rw [block_of_add]; omega)).trans (hcz i))
      have st := stable4 g cap s ad c wr hbs hcs (by omega) (by omega) (by omega) (by omega) hH
      have hbf : Below s w wr := hb0.trans (hbr.mono (by omega))
      clear hown hcc hff hcz hr
      go_wp2_with fail
      refine st.mono ?_
      rintro e w' ⟨rfl, n, rfl⟩
      go_wp2_with fail
      go_ret
      have hput := fun j (hj : j < 4) => cell?_putRow enc4 wr g 0 #[0, 1, 2, 3] #[1, 3, 0, 2] hH rfl j hj
      refine ⟨g, cap, rfl, hcap, ?_, ?_, ?_, ?_, by simpa using hgl, ?_⟩
      · exact hput 0 (by omega)
      · exact hput 1 (by omega)
      · exact hput 2 (by omega)
      · exact hput 3 (by omega)
      · rw [HS.out]
        have hgr : wr.grownBy (putRow enc4 wr g 0 #[1, 3, 0, 2]) (some g) := ⟨rfl, rfl, rfl, by simp, fun i hi hne => by
          unfold putRow mapBlock
          simp only [Array.getElem?_modify]
          rw [if_neg (fun e => hne (by rw [e]))]⟩
        exact below_drewN (hbf.grown hgr (by omega) (fun k e => by cases e; omega)) n

end Go.Proofs.Ytbhdolghokhfnaa
