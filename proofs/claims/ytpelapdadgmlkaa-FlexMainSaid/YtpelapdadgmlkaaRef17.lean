/-
  Walks: package windowpaneref17: places, Main: what each call answers.
-/
import Derived.Test.YtpelapdadgmlkaaOnes
import Derived.Test.YtpelapdadgmlkaaRShare
import Derived.Test.YtpelapdadgmlkaaFlexMain2
namespace Go.Proofs.Ytpelapdadgmlkaa
open Go.RowKit

def PlPost (n : Nat) (left : Int) (j : Nat) (w : World) (e : Ending) (w' : World) : Prop := ∃ v, e = .returned v ∧ Owns w' w.heap.size v (placesR n left j) ∧ Below w.heap.size w w'
theorem plPost_zero {n : Nat} {left : Int} {j g : Nat} {w w2 : World} (h : placesR n left j = List.replicate n 0) (hb : Blk w2 g 3 ((List.replicate n (0 : Int)).map (Value.int .i64)).toArray) (hg : w.heap.size ≤ g) (hn : n ≤ 300) (hbw : Below w.heap.size w w2) :
    PlPost n left j w (.returned (.slice (some ⟨g, 0, none⟩) n n)) w2 := by
  have ho := owns_of_blk (base := w.heap.size) hb hg (by simp; omega)
  rw [List.length_replicate] at ho
  exact ⟨_, rfl, by rw [h]; exact ho, hbw⟩
theorem plPost_first {n : Nat} {left x : Int} {j g : Nat} {w w2 : World} (h : placesR n left j = (List.replicate n 0).set 0 x) (hb : Blk w2 g 3 ((List.replicate n (0 : Int)).map (Value.int .i64)).toArray) (hg : w.heap.size ≤ g) (hn : n ≤ 300) (hbw : Below w.heap.size w w2) :
    PlPost n left j w (.returned (.slice (some ⟨g, 0, none⟩) n n)) (w2.setCell ⟨g, 0, none⟩ (.int .i64 x)) := by
  have ho := owns_of_blk (base := w.heap.size) (blk_out (j := 0) (x := x) hb rfl) hg (by simp; omega)
  rw [List.length_set, List.length_replicate] at ho
  exact ⟨_, rfl, by rw [h]; exact ho, hbw.setCell (p := ⟨g, 0, none⟩) hg _⟩
theorem plPost_all {n : Nat} {left : Int} {j g a : Nat} {w w2 : World} (h : plTo n left j a n = placesR n left j) (hb : Blk w2 g 3 ((plTo n left j a n).map (Value.int .i64)).toArray) (hg : w.heap.size ≤ g) (hn : n ≤ 300) (hbw : Below w.heap.size w w2) :
    PlPost n left j w (.returned (.slice (some ⟨g, 0, none⟩) n n)) w2 := by
  have ho := owns_of_blk (base := w.heap.size) hb hg (by rw [plTo_len]; omega)
  rw [plTo_len] at ho
  exact ⟨_, rfl, by rw [← h]; exact ho, hbw⟩

/-- The weights so far. -/
def RpW (a cnt b : Nat) (w2 : World) (weights i : Value) (wr : World) : Prop :=
  ∃ k : Nat, k ≤ cnt ∧ i = .int .i64 ((k + a : Nat) : Int) ∧ Owns wr b weights (List.replicate k 1) ∧ Below b w2 wr
theorem rep_weight (k : Nat) : (List.replicate k (1 : Int)).all isWeight = true := List.all_eq_true.2 fun x hx => by
  obtain ⟨_, rfl⟩ := List.mem_replicate.1 hx
  decide
/-- The places so far. -/
def RpO (n : Nat) (left : Int) (j a g gl : Nat) (zs : List Int) (base : Nat) (w : World) (i : Value) (wr : World) : Prop :=
  ∃ k : Nat, a ≤ k ∧ k ≤ n ∧ i = .int .i64 (k : Int) ∧ Blk wr g 3 ((plTo n left j a k).map (Value.int .i64)).toArray ∧ (∀ m (h : m < zs.length), wr.cell? ⟨gl, m, none⟩ = some (.int .i64 zs[m])) ∧ Below base w wr

set_option maxRecDepth 100000 in
set_option maxHeartbeats 4000000 in
theorem rplaces_flat (n : Nat) (h1 : 1 ≤ n) (hn : n ≤ 300) (left : Int) (hf : fit left = true) (j : Nat) (w : World) (h : j = 0 ∨ ((j = 3 ∨ j = 4) ∧ left ≤ 0) ∨ (j = 3 ∧ 0 < left ∧ n = 1)) :
    Calls Try.prog 120 #[.int .i64 n, .int .i64 left, .int .u8 j] w (PlPost n left j w) := by
  have HZ := Lib.hid (show placesR n left j = List.replicate n 0 from by
    refine places_zero fun i hi => ?_
    rcases h with rfl | ⟨h, hl⟩ | ⟨rfl, hl, rfl⟩
    · exact start_m hn hf hi
    · exact less_m hn hf hl h hi
    · obtain rfl : i = 0 := by omega
      exact between_one hf hl)
  obtain ⟨i0, hi0, hz0, hzs, hzb⟩ := info_parts Try.infoInt
  have hmk := fun W : World => run_make_rowN (P := Try.prog) 22 3 i0 _ Try.underlying22 hi0 hz0 .i64 .i64 n n (Nat.le_refl _) (by rw [hzb]; omega) (by omega) W
  rw [hzs, Nat.mul_one] at hmk
  clear hi0 hz0 hzs hzb
  rw [show (Value.int .i64 0).cells = #[Value.int .i64 0] from rfl, made_zeros] at hmk
  have hblk : Blk (w.alloc (.cells ((List.replicate n (0 : Int)).map (Value.int .i64)).toArray 3)) w.heap.size 3 ((List.replicate n (0 : Int)).map (Value.int .i64)).toArray := Blk.new _ _ _
  have hb2 : Below w.heap.size w (w.alloc (.cells ((List.replicate n (0 : Int)).map (Value.int .i64)).toArray 3)) := (Below.refl _ _).alloc (Nat.le_refl _) _
  have hmk1 := hmk w
  generalize w.alloc (.cells ((List.replicate n (0 : Int)).map (Value.int .i64)).toArray 3) = w2 at *
  clear hmk
  have n0 : ((n : Int) == 0) = false := beq_eq_false_iff_ne.2 (by omega)
  have h5 : (j = 0 ∧ left ≤ 0) ∨ (j = 0 ∧ ¬ left ≤ 0) ∨ (j = 3 ∧ left ≤ 0) ∨ (j = 4 ∧ left ≤ 0) ∨ (j = 3 ∧ ¬ left ≤ 0 ∧ ¬ (1 : Int) < (n : Int)) := by omega
  clear h
  rcases h5 with ⟨rfl, hl⟩ | ⟨rfl, hl⟩ | ⟨rfl, hl⟩ | ⟨rfl, hl⟩ | ⟨rfl, hl, hn1⟩
  all_goals
    go_enter Try.func120, Try.ntmps120
    go_wp2_with fail
    go_ret
    exact plPost_zero HZ.out hblk (Nat.le_refl _) hn hb2

set_option maxRecDepth 100000 in
set_option maxHeartbeats 4000000 in
theorem rplaces_first (n : Nat) (h1 : 1 ≤ n) (hn : n ≤ 300) (left : Int) (hf : fit left = true) (j : Nat) (w : World) (h : j = 1 ∨ j = 2) :
    Calls Try.prog 120 #[.int .i64 n, .int .i64 left, .int .u8 j] w (PlPost n left j w) := by
  obtain ⟨f1, f2⟩ := (fit_iff _).1 hf
  have HZ1 := Lib.hid (show placesR n left 1 = (List.replicate n 0).set 0 left from by
    have e := part_first (n := n + 1) (fun i h0 hi => end_m hn hf (i := i) h0 (by omega)) 0 (by omega)
    rw [end_part hn hf (by omega)] at e
    rw [places_first fun i h0 hi => end_m hn hf h0 (by omega), ← e])
  have HZ2 := Lib.hid (show placesR n left 2 = (List.replicate n 0).set 0 (left.tdiv 2) from by
    rw [places_first fun i h0 hi => mid_m hn hf h0, mid_first hn hf])
  have ht := tdiv_two left
  obtain ⟨i0, hi0, hz0, hzs, hzb⟩ := info_parts Try.infoInt
  have hmk := fun W : World => run_make_rowN (P := Try.prog) 22 3 i0 _ Try.underlying22 hi0 hz0 .i64 .i64 n n (Nat.le_refl _) (by rw [hzb]; omega) (by omega) W
  rw [hzs, Nat.mul_one] at hmk
  clear hi0 hz0 hzs hzb
  rw [show (Value.int .i64 0).cells = #[Value.int .i64 0] from rfl, made_zeros] at hmk
  have hblk : Blk (w.alloc (.cells ((List.replicate n (0 : Int)).map (Value.int .i64)).toArray 3)) w.heap.size 3 ((List.replicate n (0 : Int)).map (Value.int .i64)).toArray := Blk.new _ _ _
  have hb2 : Below w.heap.size w (w.alloc (.cells ((List.replicate n (0 : Int)).map (Value.int .i64)).toArray 3)) := (Below.refl _ _).alloc (Nat.le_refl _) _
  have hmk1 := hmk w
  generalize w.alloc (.cells ((List.replicate n (0 : Int)).map (Value.int .i64)).toArray 3) = w2 at *
  clear hmk
  have n0 : ((n : Int) == 0) = false := beq_eq_false_iff_ne.2 (by omega)
  have n1 : (0 : Int) < (n : Int) := by omega
  have c0 : w2.cell? ⟨w.heap.size, 0, none⟩ = some (.int .i64 0) := by rw [hblk.cell 0]; simp [show 0 < n by omega]
  have fr0 := hblk.frozen 0
  have hd2 : IntKind.i64.wrap (left.tdiv 2) = left.tdiv 2 := by rw [IntKind.wrap_i64]; omega
  have hd3 : wrap64 (left.tdiv 2) = left.tdiv 2 := by unfold wrap64; omega
  have h5 : (j = 1 ∧ left ≤ 0) ∨ (j = 1 ∧ ¬ left ≤ 0) ∨ (j = 2 ∧ left ≤ 0) ∨ (j = 2 ∧ ¬ left ≤ 0) := by omega
  clear h
  rcases h5 with ⟨rfl, hl⟩ | ⟨rfl, hl⟩ | ⟨rfl, hl⟩ | ⟨rfl, hl⟩
  all_goals
    go_enter Try.func120, Try.ntmps120
    go_wp2_with fail
    go_ret
    first
    | exact plPost_first HZ1.out hblk (Nat.le_refl _) hn hb2
    | exact plPost_first HZ2.out hblk (Nat.le_refl _) hn hb2

set_option maxRecDepth 100000 in
set_option maxHeartbeats 4000000 in
theorem rplaces_between (n : Nat) (h1 : 1 < n) (hn : n ≤ 300) (left : Int) (hf : fit left = true) (hl : ¬ left ≤ 0) (w : World) :
    Calls Try.prog 120 #[.int .i64 n, .int .i64 left, .int .u8 3] w (PlPost n left 3 w) := by
  have HZ := Lib.hid (show plTo n left 3 1 n = placesR n left 3 from plTo_all fun i hi _ => by
    obtain rfl : i = 0 := by omega
    rw [between_eq hn hf (by omega) h1]
    exact zs_zero hf (by simp) (by simp) (by simp) (by omega) (by simp [wgAt]))
  have HS := Lib.hid (plTo_start n left 3 1)
  have HT := Lib.hid (fun k (hk : 1 ≤ k) => plTo_step n left 3 hk)
  have HV := Lib.hid (fun i (h0 : 0 < i) (hi : i < n) => show (moreR n left 3).getD i 0 = (zsOf left (List.replicate (n - 1) 1)).getD (i - 1) 0 by rw [between_eq hn hf (by omega) h1, between_same h1 (by omega) h0 hi])
  have sh := fun v B w h hB => rshare_any left (List.replicate (n - 1) 1) v B w h hB (by simp; omega)
  unfold SharePost at sh
  rw [shareR_ok hf (by simp; omega) (rep_weight _)] at sh
  have hzl : (zsOf left (List.replicate (n - 1) 1)).length = n - 1 := by rw [zsOf_len, List.length_replicate]
  generalize zsOf left (List.replicate (n - 1) 1) = zs at *
  obtain ⟨i0, hi0, hz0, hzs, hzb⟩ := info_parts Try.infoInt
  have hmk := fun W : World => run_make_rowN (P := Try.prog) 22 3 i0 _ Try.underlying22 hi0 hz0 .i64 .i64 n n (Nat.le_refl _) (by rw [hzb]; omega) (by omega) W
  rw [hzs, Nat.mul_one] at hmk
  clear hi0 hz0 hzs hzb hf
  rw [show (Value.int .i64 0).cells = #[Value.int .i64 0] from rfl, made_zeros] at hmk
  have hblk : Blk (w.alloc (.cells ((List.replicate n (0 : Int)).map (Value.int .i64)).toArray 3)) w.heap.size 3 ((List.replicate n (0 : Int)).map (Value.int .i64)).toArray := Blk.new _ _ _
  have hs2 : (w.alloc (.cells ((List.replicate n (0 : Int)).map (Value.int .i64)).toArray 3)).heap.size = w.heap.size + 1 := World.size_alloc _ _
  have hb2 : Below w.heap.size w (w.alloc (.cells ((List.replicate n (0 : Int)).map (Value.int .i64)).toArray 3)) := (Below.refl _ _).alloc (Nat.le_refl _) _
  have hmk1 := hmk w
  generalize w.alloc (.cells ((List.replicate n (0 : Int)).map (Value.int .i64)).toArray 3) = w2 at *
  clear hmk
  have n0 : ((n : Int) == 0) = false := beq_eq_false_iff_ne.2 (by omega)
  have n1 : (1 : Int) < (n : Int) := by omega
  go_enter Try.func120, Try.ntmps120
  go_wp2_with fail
  obtain ⟨g, hgw⟩ : ∃ g, w.heap.size = g := ⟨_, rfl⟩
  rw [hgw] at hblk hs2 hb2 ⊢
  have HG := Lib.hid hgw; clear hgw
  go_loopw [8, 9] (RpW 1 (n - 1) (g + 1) w2) (fun _ i _ => n - (intOf i).toNat)
  case atStart => exact ⟨0, by omega, rfl, Owns.nil _ _, Below.refl _ _⟩
  case round =>
    obtain ⟨k, hk, rfl, hown, hbr⟩ := hrel
    have hbase : g + 1 ≤ wr.heap.size := by have := hbr.size; omega
    by_cases hlt : k < n - 1
    · have hc : ((k + 1 : Nat) : Int) < (n : Int) := by omega
      have hlk : (List.replicate k (1 : Int)).length < 17592186044416 := by simp; omega
      go_wp2_with (at_builtin; refine append_int _ 1 rfl _ _ rfl (g + 1) u8 _ rfl hown rfl hlk hbase ?_; intro v3 w3 hown3 hb3)
      go_roundw
      case rel => exact ⟨k + 1, hlt, by go_num, by rw [List.replicate_succ']; exact hown3, hbr.trans hb3⟩
      case measure => simp [intOf] <;> omega
    · obtain rfl : k = n - 1 := by omega
      have hc : ¬ ((n - 1 + 1 : Nat) : Int) < (n : Int) := by omega
      go_wp2_with fail
      refine (sh _ _ wr hown.ints (Nat.le_refl _)).mono ?_
      rintro e w3 ⟨v3, rfl, ho3, hb3⟩
      obtain ⟨gl, cap, rfl, hcap, hgl, _, hcl, _⟩ := ho3.open_ (by omega)
      have hblk3 := (hblk.below hbr (Nat.lt_succ_self g)).below hb3 (by omega)
      have hgn : gl ≠ g := by omega
      have hb03 : Below g w w3 := hb2.trans ((hbr.mono (by omega)).trans (hb3.mono (by omega)))
      clear sh ho3 hown hblk
      go_wp2_with fail
      go_loopw [12] (RpO n left 3 1 g gl zs g w) (fun i _ => n - (intOf i).toNat)
      case atStart => exact ⟨1, by omega, by omega, rfl, by rw [HS.out]; exact hblk3, hcl, hb03⟩
      case round =>
        obtain ⟨k, hk1, hk, rfl, hbk, hcs, hbr2⟩ := hrel
        by_cases hlt : k < n
        · have hki : IntKind.i64.wrap ((k : Int) - 1) = ((k - 1 : Nat) : Int) := by rw [IntKind.wrap_i64]; omega
          have hzk : k - 1 < zs.length := by omega
          have hzk' : ((k - 1 : Nat) : Int) < (zs.length : Int) := by omega
          have c1 := hcs (k - 1) hzk
          have hko : k < (plTo n left 3 1 k).length := by rw [plTo_len]; exact hlt
          have c4 : wr.cell? ⟨g, k, none⟩ = some (.int .i64 (plTo n left 3 1 k)[k]) := by rw [hbk.cell k]; simp
          have f4 := hbk.frozen k
          generalize (plTo n left 3 1 k)[k] = z at c4
          have HVk := Lib.hid ((HV.out k (by omega) hlt).trans (getD_at hzk))
          have HCS := Lib.hid hcs; clear hcs
          generalize zs[k - 1] = y at *
          generalize k - 1 = k1 at *
          go_wp2_with fail
          go_roundw
          case rel =>
            refine ⟨k + 1, by omega, hlt, by go_num, by rw [HT.out k hk1, HVk.out]; exact blk_out hbk rfl, fun m hm => ?_, hbr2.setCell (p := ⟨g, k, none⟩) (Nat.le_refl _) _⟩
            exact (World.cell?_of_block (a := ⟨gl, m, none⟩) (Below.heap_setCell wr ⟨g, k, none⟩ _ gl hgn)).trans (HCS.out m hm)
          case measure => simp [intOf] <;> omega
        · obtain rfl : k = n := by omega
          go_wp2_with fail
          go_ret
          exact plPost_all HZ.out hbk (by rw [HG.out]; exact Nat.le_refl _) hn (by rw [HG.out]; exact hbr2)

set_option maxRecDepth 100000 in
set_option maxHeartbeats 4000000 in
theorem rplaces_evenly (n : Nat) (h1 : 1 ≤ n) (hn : n ≤ 300) (left : Int) (hf : fit left = true) (hl : ¬ left ≤ 0) (w : World) :
    Calls Try.prog 120 #[.int .i64 n, .int .i64 left, .int .u8 4] w (PlPost n left 4 w) := by
  have HZ := Lib.hid (show plTo n left 4 0 n = placesR n left 4 from plTo_all fun i hi _ => absurd hi (by omega))
  have HS := Lib.hid (plTo_start n left 4 0)
  have HT := Lib.hid (fun k => plTo_step n left 4 (Nat.zero_le k))
  have HV := Lib.hid (fun i => show (moreR n left 4).getD i 0 = (zsOf left (List.replicate (n + 1) 1)).getD i 0 by rw [evenly_eq hn hf (by omega), rep_all])
  have sh := fun v B w h hB => rshare_any left (List.replicate (n + 1) 1) v B w h hB (by simp; omega)
  unfold SharePost at sh
  rw [shareR_ok hf (by simp; omega) (rep_weight _)] at sh
  have hzl : (zsOf left (List.replicate (n + 1) 1)).length = n + 1 := by rw [zsOf_len, List.length_replicate]
  generalize zsOf left (List.replicate (n + 1) 1) = zs at *
  obtain ⟨i0, hi0, hz0, hzs, hzb⟩ := info_parts Try.infoInt
  have hmk := fun W : World => run_make_rowN (P := Try.prog) 22 3 i0 _ Try.underlying22 hi0 hz0 .i64 .i64 n n (Nat.le_refl _) (by rw [hzb]; omega) (by omega) W
  rw [hzs, Nat.mul_one] at hmk
  clear hi0 hz0 hzs hzb hf
  rw [show (Value.int .i64 0).cells = #[Value.int .i64 0] from rfl, made_zeros] at hmk
  have hblk : Blk (w.alloc (.cells ((List.replicate n (0 : Int)).map (Value.int .i64)).toArray 3)) w.heap.size 3 ((List.replicate n (0 : Int)).map (Value.int .i64)).toArray := Blk.new _ _ _
  have hs2 : (w.alloc (.cells ((List.replicate n (0 : Int)).map (Value.int .i64)).toArray 3)).heap.size = w.heap.size + 1 := World.size_alloc _ _
  have hb2 : Below w.heap.size w (w.alloc (.cells ((List.replicate n (0 : Int)).map (Value.int .i64)).toArray 3)) := (Below.refl _ _).alloc (Nat.le_refl _) _
  have hmk1 := hmk w
  generalize w.alloc (.cells ((List.replicate n (0 : Int)).map (Value.int .i64)).toArray 3) = w2 at *
  clear hmk
  have n0 : ((n : Int) == 0) = false := beq_eq_false_iff_ne.2 (by omega)
  go_enter Try.func120, Try.ntmps120
  go_wp2_with fail
  obtain ⟨g, hgw⟩ : ∃ g, w.heap.size = g := ⟨_, rfl⟩
  rw [hgw] at hblk hs2 hb2 ⊢
  have HG := Lib.hid hgw; clear hgw
  go_loopw [8, 13] (RpW 0 (n + 1) (g + 1) w2) (fun _ i _ => n + 1 - (intOf i).toNat)
  case atStart => exact ⟨0, by omega, rfl, Owns.nil _ _, Below.refl _ _⟩
  case round =>
    obtain ⟨k, hk, rfl, hown, hbr⟩ := hrel
    have hbase : g + 1 ≤ wr.heap.size := by have := hbr.size; omega
    by_cases hlt : k < n + 1
    · have hc : ((k + 0 : Nat) : Int) ≤ (n : Int) := by omega
      have hlk : (List.replicate k (1 : Int)).length < 17592186044416 := by simp; omega
      go_wp2_with (at_builtin; refine append_int _ 1 rfl _ _ rfl (g + 1) u8 _ rfl hown rfl hlk hbase ?_; intro v3 w3 hown3 hb3)
      go_roundw
      case rel => exact ⟨k + 1, hlt, by go_num, by rw [List.replicate_succ']; exact hown3, hbr.trans hb3⟩
      case measure => simp [intOf] <;> omega
    · obtain rfl : k = n + 1 := by omega
      have hc : ¬ ((n + 1 + 0 : Nat) : Int) ≤ (n : Int) := by omega
      go_wp2_with fail
      refine (sh _ _ wr hown.ints (Nat.le_refl _)).mono ?_
      rintro e w3 ⟨v3, rfl, ho3, hb3⟩
      obtain ⟨gl, cap, rfl, hcap, hgl, _, hcl, _⟩ := ho3.open_ (by omega)
      have hblk3 := (hblk.below hbr (Nat.lt_succ_self g)).below hb3 (by omega)
      have hgn : gl ≠ g := by omega
      have hb03 : Below g w w3 := hb2.trans ((hbr.mono (by omega)).trans (hb3.mono (by omega)))
      clear sh ho3 hown hblk
      go_wp2_with fail
      go_loopw [16] (RpO n left 4 0 g gl zs g w) (fun i _ => n - (intOf i).toNat)
      case atStart => exact ⟨0, by omega, by omega, rfl, by rw [HS.out]; exact hblk3, hcl, hb03⟩
      case round =>
        obtain ⟨k, hk1, hk, rfl, hbk, hcs, hbr2⟩ := hrel
        by_cases hlt : k < n
        · have hzk : k < zs.length := by omega
          have hzk' : (k : Int) < (zs.length : Int) := by omega
          have c1 := hcs k hzk
          have hko : k < (plTo n left 4 0 k).length := by rw [plTo_len]; exact hlt
          have c4 : wr.cell? ⟨g, k, none⟩ = some (.int .i64 (plTo n left 4 0 k)[k]) := by rw [hbk.cell k]; simp
          have f4 := hbk.frozen k
          generalize (plTo n left 4 0 k)[k] = z at c4
          have HVk := Lib.hid ((HV.out k).trans (getD_at hzk))
          have HCS := Lib.hid hcs; clear hcs
          generalize zs[k] = y at *
          go_wp2_with fail
          go_roundw
          case rel =>
            refine ⟨k + 1, by omega, hlt, by go_num, by rw [HT.out k, HVk.out]; exact blk_out hbk rfl, fun m hm => ?_, hbr2.setCell (p := ⟨g, k, none⟩) (Nat.le_refl _) _⟩
            exact (World.cell?_of_block (a := ⟨gl, m, none⟩) (Below.heap_setCell wr ⟨g, k, none⟩ _ gl hgn)).trans (HCS.out m hm)
          case measure => simp [intOf] <;> omega
        · obtain rfl : k = n := by omega
          go_wp2_with fail
          go_ret
          exact plPost_all HZ.out hbk (by rw [HG.out]; exact Nat.le_refl _) hn (by rw [HG.out]; exact hbr2)

theorem rplaces_any (n : Nat) (h1 : 1 ≤ n) (hn : n ≤ 300) (left : Int) (hf : fit left = true) (j : Nat) (hj : j ≤ 4) (w : World) :
    Calls Try.prog 120 #[.int .i64 n, .int .i64 left, .int .u8 j] w (PlPost n left j w) := by
  by_cases h12 : j = 1 ∨ j = 2
  · exact rplaces_first n h1 hn left hf j w h12
  · by_cases hfl : j = 0 ∨ ((j = 3 ∨ j = 4) ∧ left ≤ 0) ∨ (j = 3 ∧ 0 < left ∧ n = 1)
    · exact rplaces_flat n h1 hn left hf j w hfl
    · by_cases h3 : j = 3
      · subst h3
        exact rplaces_between n (by omega) hn left hf (by omega) w
      · obtain rfl : j = 4 := by omega
        exact rplaces_evenly n h1 hn left hf (by omega) w

/-! Main. -/
def endAt (M outer : List Int) (gap : Int) (k : Nat) : Int := if k = 0 then 0 else yB M outer gap k + outer.getD (k - 1) 0
theorem endAt_succ (M outer : List Int) (gap : Int) (k : Nat) : endAt M outer gap (k + 1) = yB M outer gap (k + 1) + outer.getD k 0 := by simp [endAt]
theorem yB_end (M outer : List Int) (gap : Int) (k : Nat) : yB M outer gap (k + 1) = endAt M outer gap k + M.getD k 0 + (if 0 < k then gap else 0) := by
  rw [yB]
  unfold endAt
  rcases Nat.eq_zero_or_pos k with h | h
  · subst h; simp [yB]
  · rw [if_pos h, if_pos h, if_neg (by omega)]; omega
def RmL (outer : List Int) (gap room : Int) (w1 : World) (l i : Value) (wr : World) : Prop :=
  ∃ k : Nat, k ≤ outer.length ∧ i = .int .i64 k ∧ l = .int .i64 (lfTo outer gap room k) ∧ wr = w1
def RmA (M outer : List Int) (gap room : Int) (back : Bool) (w2 : World) (out end_ i : Value) (wr : World) : Prop :=
  ∃ k : Nat, k ≤ outer.length ∧ i = .int .i64 k ∧ end_ = .int .i64 (endAt M outer gap k) ∧ Owns wr w2.heap.size out (atTo M outer gap room back k) ∧ Below w2.heap.size w2 wr

end Go.Proofs.Ytpelapdadgmlkaa
