/-
  Walks: flexline.Order at any Orders.
-/
import Derived.Test.YtbhdolghokhfnaaStable
import Derived.Test.YtbhdolghokhfnaaOrdPlain
import Derived.Test.YtbhdolghokhfnaaGiven
import Derived.Sort.OwnSortedInts
namespace Go.Proofs.Ytbhdolghokhfnaa
open Go.Shelf Go.RowKit Go.Lib Go.Sort

def cfF {N : Nat} (l : List Int) (x y : Fin (N + 1)) : Int := cmpI (zF l x) (zF l y)
theorem cfF_later {N : Nat} (l : List Int) (x y : Fin (N + 1)) (h : y.1 < x.1) : ltOf (cfF l) x y = befF l x y := by
  unfold ltOf cfF befF bef zF cmpI
  rw [Bool.eq_iff_iff]
  simp only [decide_eq_true_eq]
  split
  · omega
  · split <;> omega

theorem ord_cmp {N : Nat} (l : List Int) (n : Nat) (hn : n = N + 1) (Bx : Nat) (ad : Addr) (c : Nat) (x y : Fin (N + 1)) (W : World) (hs : W.cell? ⟨Bx, 0, none⟩ = some (.slice (some ad) n c)) (hc : ∀ i : Fin (N + 1), W.cell? (ad.add i.1) = some (.int .i64 (zF l i))) :
    Calls Try.prog 30 #[encF x, encF y, .pointer (some ⟨Bx, 0, none⟩)] W fun e w' => e = .returned (.int .i64 (cfF l x y)) ∧ ∃ q, w' = W.drewN q := by
  have hx := hc x
  have hy := hc y
  have HF := Lib.hid (show cfF l x y = cmpI (zF l x) (zF l y) from rfl)
  have hx4 : ((x.1 : Nat) : Int) < (n : Int) := by have := x.2; omega
  have hy4 : ((y.1 : Nat) : Int) < (n : Int) := by have := y.2; omega
  unfold encF
  generalize zF l x = a at *
  generalize zF l y = b at *
  generalize x.1 = i at *
  generalize y.1 = j at *
  clear hc hn
  go_enter Try.func30, Try.ntmps30
  go_wp2_with fail
  go_quiet (first | (go_at_call 31; exact Calls.quiet_of_same (compare_int a b _)))
  go_wp2_with fail
  go_ret
  exact ⟨by rw [HF.out]; rfl, nq, rfl⟩

theorem sw_cellF {N : Nat} (W : World) (g m : Nat) (dk : Array (Fin (N + 1))) (os : Array Obj) (a : Addr) (h1 : a.block ≠ g) (h2 : a.block < W.heap.size) : (sortWorld encF W g 0 m dk os).cell? a = W.cell? a := by
  unfold sortWorld
  rw [cell?_grow _ _ _ (by rw [Sort.size_putRow]; exact h2), cell?_putRow_other _ _ g 0 dk _ (Or.inl h1)]
  rfl
theorem ord_reads {N : Nat} (l : List Int) (n : Nat) (hn : n = N + 1) (g Bx : Nat) (ad : Addr) (c : Nat) (W : World) (hs : W.cell? ⟨Bx, 0, none⟩ = some (.slice (some ad) n c)) (hc : ∀ i : Fin (N + 1), W.cell? (ad.add i.1) = some (.int .i64 (zF l i)))
    (b1 : Bx ≠ g) (b2 : Bx < W.heap.size) (b3 : ad.block ≠ g) (b4 : ad.block < W.heap.size) (k : Nat) :
    CmpReads Try.prog 30 #[.pointer (some ⟨Bx, 0, none⟩)] encF (cfF (N := N) l) g 0 k W := fun m os dk _ x y =>
  ord_cmp l n hn Bx ad c x y _ ((sw_cellF W g m dk os ⟨Bx, 0, none⟩ b1 b2).trans hs) fun i => (sw_cellF W g m dk os _ (by rw [block_of_add]; exact b3) (by rw [block_of_add]; exact b4)).trans (hc i)

/-- The places as they stand. -/
def rowF (N : Nat) : Array (Fin (N + 1)) := Array.ofFn (n := N + 1) id
theorem rowF_size (N : Nat) : (rowF N).size = N + 1 := Array.size_ofFn
theorem rowF_get (N i : Nat) (h : i < N + 1) : ((rowF N)[i]!).1 = i := by
  rw [getElem!_pos _ i (by rw [rowF_size]; exact h)]
  simp [rowF]

theorem sorted_any {N : Nat} (l : List Int) (n : Nat) (hn : n = N + 1) (hl : l.length = n) (h300 : n ≤ 1000000) (g cap Bx : Nat) (ad : Addr) (c : Nat) (W : World) (hs : W.cell? ⟨Bx, 0, none⟩ = some (.slice (some ad) n c)) (hc : ∀ i : Fin (N + 1), W.cell? (ad.add i.1) = some (.int .i64 (zF l i)))
    (b1 : Bx ≠ g) (b2 : Bx < W.heap.size) (b3 : ad.block ≠ g) (b4 : ad.block < W.heap.size) (hH : Holds encF W g 0 (rowF N)) :
    Calls Try.prog 29 #[.slice (some ⟨g, 0, none⟩) n cap, .func (.func 30) #[] #[.pointer (some ⟨Bx, 0, none⟩)]] W fun e w' =>
      e = .returned (.tuple #[]) ∧ ∃ (os : List Nat) (d' : Array (Fin (N + 1))) (k : Nat), IsOrd l os ∧ os = d'.toList.map (·.1) ∧ w' = (putRow encF W g 0 d').drewN k := by
  have eg : ∀ args w, (callFunc 30 args).run Try.prog w = .ok (.enter 30 args) w := enters_of Try.func30 (by kernel_rfl) rfl
  have hz : (rowF N).size = n := by rw [rowF_size]; omega
  have hS := stable_any g cap 30 #[.pointer (some ⟨Bx, 0, none⟩)] (cfF l) (befF l) (befF_swo l) W (rowF N) hH (by rw [hz]; omega) eg (ord_reads l n hn g Bx ad c W hs hc b1 b2 b3 b4 _) n hz.symm (fun i hi => rowF_get N i (by omega)) (cfF_later l)
  rw [hz] at hS
  have HS : Aside _ := hS
  have HO := Lib.hid (fun d' (h1 : PermIn 0 n (rowF N) d') (h2 : SortedIn (befF l) 0 n d') => ord_of_row (l := l) (by omega) (rowF_size N) (fun i hi => rowF_get N i hi) (hn ▸ h1) (hn ▸ h2))
  clear hS hc hs hH hz eg hn hl
  go_enter Try.func29, Try.ntmps29
  go_wp2_with fail
  refine Calls.mono HS.out ?_
  rintro e w' ⟨rfl, d', k, h1, h2, rfl⟩
  go_wp2_with fail
  go_end0
  exact ⟨rfl, _, d', k, HO.out d' h1 h2, rfl, rfl⟩

/-- A slice of the call's own that is not empty, written out. -/
theorem Owns.open1 {w : World} {base : Nat} {v : Value} {zs : List Int} (h : Owns w base v zs) (h0 : 0 < zs.length) :
    ∃ g cap, v = .slice (some ⟨g, 0, none⟩) zs.length cap ∧ zs.length ≤ cap ∧ base ≤ g ∧ g < w.heap.size ∧ (∀ k (hk : k < zs.length), w.cell? ⟨g, k, none⟩ = some (.int .i64 zs[k])) ∧ ∀ k, w.frozen? ⟨g, k, none⟩ = false := by
  rcases h.2 with ⟨_, e⟩ | ⟨g, cap, cur, rfl, hg, hb, hc, _, _, ht⟩
  · omega
  · refine ⟨g, cap, rfl, hc, hg, (Array.getElem?_eq_some_iff.1 hb).1, fun k hk => ?_, fun k => by simp [World.frozen?, hb]⟩
    rw [cell_of_row w g k cur _ _ hb, ← Array.getElem?_toList]
    have h1 : (cur.toList.take (zs.length * 1))[k]? = some (.int .i64 zs[k]) := by rw [ht]; simp [hk]
    rw [List.getElem?_take_of_lt (by omega)] at h1
    exact h1

/-- Places so far. -/
def OrdA (b n : Nat) (w1 : World) (places i : Value) (wr : World) : Prop :=
  ∃ k : Nat, k ≤ n ∧ i = .int .i64 k ∧ Owns wr b places ((List.range k).map fun j => ((j : Nat) : Int)) ∧ Below b w1 wr
theorem range_snoc (k : Nat) : ((List.range (k + 1)).map fun j => ((j : Nat) : Int)) = ((List.range k).map fun j => ((j : Nat) : Int)) ++ [(k : Int)] := by simp [List.range_succ]

theorem putRowF {N : Nat} (w : World) (g : Nat) (d : Array (Fin (N + 1))) : putRow encF w g 0 d = putRow (Value.int .i64) w g 0 ((d.toList.map (·.1)).map fun j => ((j : Nat) : Int)).toArray := by
  unfold putRow
  congr 1
  funext c
  unfold putCells
  have hz : (((d.toList.map (·.1)).map fun j => ((j : Nat) : Int)).toArray).size = d.size := by simp
  congr 1
  funext k x
  rw [hz]
  by_cases h : 0 ≤ k ∧ k < 0 + d.size
  · rw [if_pos h, if_pos h, getElem!_pos _ (k - 0) (by omega), getElem!_pos _ (k - 0) (by simp; omega)]
    simp [encF]
  · rw [if_neg h, if_neg h]
theorem owns_sortedF {N : Nat} {w : World} {base g cap : Nat} {zs : List Int} (h : Owns w base (.slice (some ⟨g, 0, none⟩) zs.length cap) zs) (os : List Nat) (d : Array (Fin (N + 1))) (hd : os = d.toList.map (·.1)) (hl : os.length = zs.length) (k : Nat) :
    Owns ((putRow encF w g 0 d).drewN k) base (.slice (some ⟨g, 0, none⟩) zs.length cap) (os.map fun j => ((j : Nat) : Int)) ∧ w.grownBy (putRow encF w g 0 d) (some g) := by
  rcases h.2 with ⟨e, _⟩ | ⟨g2, cap2, cur, e, hg, hb, hc, hm, hz, _⟩
  · cases e
  · injection e with e1 e2 e3
    injection e1 with e1
    injection e1 with e1
    subst e1 e3
    have h1 := ownsRow_sortedI (w := w) (base := base) (cap := cap) (n := k) (os := #[]) (ss := zs) (ts := os.map fun j => ((j : Nat) : Int)) (by simp [hl]) hg hb hc hm hz
    have h2 := grownBy_sortedI (w := w) (g := g) (n := 0) (os := #[]) (os.map fun j => ((j : Nat) : Int)).toArray
    rw [grow_empty] at h1 h2
    rw [putRowF, ← hd]
    refine ⟨?_, h2⟩
    have hz : (os.map fun j => ((j : Nat) : Int)).length = zs.length := by simp [hl]
    unfold Owns
    rw [hz]
    exact h1

def OrderPost (l : List Int) (w : World) (e : Ending) (w' : World) : Prop := ∃ v os, e = .returned v ∧ IsOrd l os ∧ Owns w' (w.heap.size + 1) v (os.map fun j => ((j : Nat) : Int)) ∧ Below w.heap.size w w'

set_option maxRecDepth 100000 in
set_option maxHeartbeats 4000000 in
theorem order_some {N : Nat} (l : List Int) (n : Nat) (hn : n = N + 1) (hl : l.length = n) (h300 : n ≤ 1000000) (v : Value) (B : Nat) (w : World) (h : Ints w B v l) (hB : B ≤ w.heap.size) :
    Calls Try.prog 14 #[v] w (OrderPost l w) := by
  obtain ⟨A, c, rfl, hc, hr⟩ := h
  obtain ⟨ad, rfl, hbk, hx⟩ := hr.val (show 0 < l.length by omega)
  clear hx
  have hcz : ∀ i : Fin (N + 1), w.cell? (ad.add i.1) = some (.int .i64 (zF l i)) := fun i => by
    have hi : i.1 < l.length := by have := i.2; omega
    obtain ⟨_, e, _, k⟩ := hr.val hi
    cases e
    rw [k]
    unfold zF
    simp [hi]
  rw [hl] at hc hr ⊢
  have hb0 : Below w.heap.size w (w.alloc (.cells #[.slice (some ad) n c] 22)) := (Below.refl _ _).alloc (Nat.le_refl _) _
  have hs0 : (w.alloc (.cells #[.slice (some ad) n c] 22)).heap.size = w.heap.size + 1 := World.size_alloc _ _
  have hc0 : (w.alloc (.cells #[.slice (some ad) n c] 22)).cell? ⟨w.heap.size, 0, none⟩ = some (.slice (some ad) n c) := by simp [go_sem]
  have HN := Lib.hid hn
  have HL := Lib.hid hl
  clear hn hl hr
  go_enter Try.func14, Try.ntmps14
  go_wp2_with fail
  generalize w.alloc (.cells #[.slice (some ad) n c] 22) = w0 at *
  obtain ⟨s, hs⟩ : ∃ s, w.heap.size = s := ⟨_, rfl⟩
  rw [hs] at hb0 hs0 hc0 hB
  have HS := Lib.hid hs; clear hs
  rw [HS.out]
  go_loopw [3, 7] (OrdA (s + 1) n w0) (fun _ i _ => n - (intOf i).toNat)
  case atStart => exact ⟨0, by omega, rfl, Owns.nil _ _, Below.refl _ _⟩
  case round =>
    obtain ⟨k, hk, rfl, hown, hbr⟩ := hrel
    have hbase : s + 1 ≤ wr.heap.size := by have := hbr.size; omega
    by_cases hlt : k < n
    · have hl4 : (k : Int) < (n : Int) := by omega
      have hlk : ((List.range k).map fun j => ((j : Nat) : Int)).length < 17592186044416 := by simp; omega
      go_wp2_with (at_builtin; refine append_int _ (k : Int) rfl _ _ rfl (s + 1) u3 _ rfl hown rfl hlk hbase ?_; intro v3 w3 hown3 hb3)
      go_roundw
      case rel => exact ⟨k + 1, hlt, by go_num, by rw [range_snoc]; exact hown3, hbr.trans hb3⟩
      case measure => simp [intOf] <;> omega
    · obtain rfl : k = n := by omega
      obtain ⟨g, cap, rfl, hcap, hg, hgl, hcc, hff⟩ := Owns.open1 hown (by have := HN.out; simp; omega)
      have hlen : ((List.range k).map fun j => ((j : Nat) : Int)).length = k := by simp
      have hH : Holds encF wr g 0 (rowF N) := fun j hj => by
        rw [rowF_size] at hj
        have hjk : j < k := by have := HN.out; omega
        refine ⟨?_, by rw [Nat.zero_add]; exact hff j⟩
        rw [Nat.zero_add, hcc j (by rw [hlen]; exact hjk)]
        unfold encF
        rw [rowF_get N j (by omega)]
        simp
      have hbs := (hbr.cell (p := ⟨s, 0, none⟩) (by show s < _; omega)).trans hc0
      have hcs : ∀ i : Fin (N + 1), wr.cell? (ad.add i.1) = some (.int .i64 (zF l i)) := fun i => (hbr.cell (by rw [block_of_add]; omega)).trans ((hb0.cell (by rw [block_of_add]; omega)).trans (hcz i))
      have st := sorted_any l k HN.out HL.out h300 g cap s ad c wr hbs hcs (by omega) (by omega) (by omega) (by omega) hH
      have hbf : Below s w wr := hb0.trans (hbr.mono (by omega))
      have HOW := Lib.hid hown
      have hlen2 := Lib.hid hlen
      rw [hlen]
      clear hown hcc hff hcz hH hcs hcap hlen
      go_wp2_with fail
      refine st.mono ?_
      clear st
      rintro e w' ⟨rfl, os, d', m, ho, hd, rfl⟩
      have HO := Lib.hid ho
      have HD := Lib.hid hd
      clear ho hd
      go_wp2_with fail
      go_ret
      obtain ⟨o1, o2⟩ := owns_sortedF HOW.out os d' HD.out (by rw [HO.out.len, HL.out, hlen2.out]) m
      rw [hlen2.out] at o1
      refine ⟨_, os, rfl, HO.out, ?_, ?_⟩
      · rw [HS.out]
        exact o1
      · rw [HS.out]
        exact below_drewN (hbf.grown o2 (by omega) (fun k e => by cases e; omega)) m

end Go.Proofs.Ytbhdolghokhfnaa
