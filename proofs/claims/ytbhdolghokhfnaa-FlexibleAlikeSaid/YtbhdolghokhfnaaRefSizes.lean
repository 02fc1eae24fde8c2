/-
  Walks: windowpaneref16.Sizes.
-/
import Derived.Test.YtbhdolghokhfnaaRefRound
import Derived.Test.YtbhdolghokhfnaaSizesNear
import Derived.Test.YtbhdolghokhfnaaSizesAny
import Derived.BigRegion
import Derived.RegionTactic
import Derived.ChangeAlike
namespace Go.Proofs.Ytbhdolghokhfnaa
open Go.RowKit

/-! Plain. -/
def arT (l : List It) (gap : Int) (k : Nat) : Int := outTo l k + ((k - 1 : Nat) : Int) * gap
def fsT (l : List It) (k : Nat) : Int := sumF (fstI l) k
theorem arT_first (l : List It) (gap : Int) {k : Nat} (h : ¬ 0 < k) : arT l gap (k + 1) = arT l gap k + (itAt l k).outer := by
  obtain rfl : k = 0 := by omega
  simp [arT, outTo]
theorem arT_step (l : List It) (gap : Int) {k : Nat} (h : 0 < k) : arT l gap (k + 1) = arT l gap k + (itAt l k).outer + gap := by
  unfold arT
  rw [outTo, show k + 1 - 1 = k - 1 + 1 by omega, Int.natCast_succ, Int.add_mul, Int.one_mul]
  omega
theorem arT_bd {l : List It} {gap : Int} (h : ∀ i, i < l.length → GoodI (itAt l i)) (h0 : 0 ≤ gap) (h1 : gap ≤ 1099511627776) (hl : l.length ≤ 2048) {k : Nat} (hk : k ≤ l.length) : -2251799813685248 ≤ arT l gap k ∧ arT l gap k ≤ 4503599627370496 := by
  have h2 := outTo_bd h k hk
  have a1 : (0 : Int) ≤ ((k - 1 : Nat) : Int) := by omega
  have a2 : ((k - 1 : Nat) : Int) ≤ 2048 := by omega
  have a3 := Int.mul_nonneg a1 h0
  have a4 := Int.mul_le_mul a2 h1 h0 (by omega : (0 : Int) ≤ 2048)
  unfold arT
  omega
theorem fsT_bd {l : List It} (h : ∀ i, i < l.length → GoodI (itAt l i)) (hl : l.length ≤ 2048) {k : Nat} (hk : k ≤ l.length) : -2251799813685248 ≤ fsT l k ∧ fsT l k ≤ 2251799813685248 := by
  have h1 := sumF_lo (f := fstI l) (c := -1099511627776) (n := k) fun i hi => ((fit_iff _).1 (h i (by omega)).first).1
  have h2 := sumF_hi (f := fstI l) (c := 1099511627776) (n := k) fun i hi => ((fit_iff _).1 (h i (by omega)).first).2
  unfold fsT
  omega
theorem around_arT (l : List It) (gap : Int) : aroundR l gap = arT l gap l.length := by rw [aroundR_eq]; unfold gapsR arT; omega
theorem all_arT (l : List It) (gap : Int) : allR l gap = fsT l l.length + arT l gap l.length := by
  unfold allR
  rw [firsts_sum, around_arT]
  rfl
def isF : Option Value → Bool
  | some (.bool b) => !b
  | _ => false
/-- How many are not settled, as memory tells it. -/
def openW (w : World) (gs n : Nat) : Nat := (List.range n).countP fun i => isF (w.cell? ⟨gs, i, none⟩)
theorem openW_eq {w : World} {gs n : Nat} {s : List Bo} (h : BBlk w gs ((List.range n).map (stB s))) (hn : s.length = n) : openW w gs n = openR s := by
  unfold openW
  rw [openR_range, hn]
  refine List.countP_congr fun i hi => ?_
  have h1 := h.at_ (i := i) (by simpa using hi)
  rw [h1]
  simp [isF, stB]
def cfF (_ : Nat) : Bool := false
def Rs1 (l : List It) (gap : Int) (b : Nat) (w : World) (out around all i : Value) (wr : World) : Prop :=
  ∃ k : Nat, k ≤ l.length ∧ i = .int .i64 k ∧ Owns wr b out ((l.take k).map firstR) ∧ around = .int .i64 (arT l gap k) ∧ all = .int .i64 (fsT l k) ∧ Below b w wr
def Rs2 (l : List It) (grow : Bool) (gs : Nat) (w : World) (i : Value) (wr : World) : Prop :=
  ∃ k : Nat, k ≤ l.length ∧ i = .int .i64 k ∧ BBlk wr gs (mixI l.length k (stB (startS grow l)) cfF) ∧ Below gs w wr
structure Rs3M (l : List It) (grow : Bool) (R : Int) (RR : Option (List Int)) (b g cap gs : Nat) (w : World) (s : List Bo) (o : Nat → Int) (wr : World) : Prop where
  mem : RMem wr b l.length o (stB s) g cap gs
  ok : SzOk s o
  good : GoodS s
  sn : s.length = l.length
  it : ∀ i, i < l.length → (boAt s i).1 = itAt l i
  run : ∃ f, openR s < f ∧ roundsR f grow R s = RR
  below : Below b w wr
def Rs3 (l : List It) (grow : Bool) (R : Int) (RR : Option (List Int)) (b g cap gs : Nat) (w : World) (_ : Value) (wr : World) : Prop :=
  ∃ s o, Rs3M l grow R RR b g cap gs w s o wr

theorem Try.infoBoolV : (Try.prog.info? 4).map (fun i => (i.zero, i.size, i.bytes)) = some (some (.bool false), 1, 1) := by kernel_rfl
theorem made_falses16 (n : Nat) : madeCells #[.bool false] n = ((List.replicate n false).map Value.bool).toArray := by
  apply Array.ext'
  rw [toList_madeCells_one]
  simp

theorem szOk_start (grow : Bool) (l : List It) : SzOk (startS grow l) (fstI l) := fun i hi hs => by
  rw [startS_len] at hi
  cases grow with
  | true =>
    rcases start_grow hi with ⟨_, h, _⟩ | ⟨h, _⟩
    · exact h.symm
    · rw [hs] at h; cases h
  | false =>
    rcases start_shrink hi with ⟨_, h, _⟩ | ⟨h, _⟩
    · exact h.symm
    · rw [hs] at h; cases h

set_option maxRecDepth 1000000 in
set_option maxHeartbeats 16000000 in
theorem rsizes_good (l : List It) (gap room : Int) (v : Value) (B : Nat) (w : World) (h : Items w B v l) (hB : B ≤ w.heap.size) (hok : checkR l gap room = 0) (h0 : 0 < l.length) :
    Calls Try.prog 22 #[v, .int .i64 gap, .int .i64 room] w (SizesPost l gap room w) := by
  have hch := asked_any l gap room v B w h hB
  rw [hok] at hch
  have C := check_ok hok
  have HC := Lib.hid C
  have HIS := Lib.hid h
  obtain ⟨A, c, rfl, hc, hf⟩ := h
  obtain ⟨n, hn⟩ : ∃ n, l.length = n := ⟨_, rfl⟩
  have hn2 : n ≤ 2048 := by rw [← hn]; exact C.len
  have hn1 : 0 < n := by rw [← hn]; exact h0
  have hit : ∀ k (hk : k < n), ∃ ad, A = some ad ∧ ad.block < B ∧ ItemAt w (ad.add (k * 6)) (itAt l k) := fun k hk => by
    obtain ⟨ad, e, hb, hh⟩ := hf (by omega)
    exact ⟨ad, e, hb, by rw [itAt_at (by omega)]; exact hh k (by omega)⟩
  have HIT : Aside _ := hit
  obtain ⟨g1, g2⟩ := (fit_iff _).1 C.fgap
  obtain ⟨r1, r2⟩ := (fit_iff _).1 C.froom
  have gap0 := C.gap0
  have room0 := C.room0
  have HAB := Lib.hid (fun k (hk : k ≤ n) => arT_bd (gap := gap) C.good gap0 g2 C.len (k := k) (by omega))
  have HFB := Lib.hid (fun k (hk : k ≤ n) => fsT_bd C.good C.len (k := k) (by omega))
  have HN := Lib.hid hn
  rw [hn] at hc hch ⊢
  have HOK := Lib.hid hok
  have hb0 : Below w.heap.size w w := Below.refl _ _
  clear hf hit C hok hn h0
  go_enter Try.func22, Try.ntmps22
  go_wp2_with fail
  refine hch.mono ?_
  clear hch
  rintro e w1 ⟨rfl, hb1⟩
  go_wp2_with fail
  go_loopw [9, 10, 11, 12] (Rs1 l gap w.heap.size w) (fun _ _ _ i _ => n - (intOf i).toNat)
  case atStart => exact ⟨0, by omega, rfl, Owns.nil _ _, by simp [arT, outTo], rfl, hb1⟩
  case round =>
    obtain ⟨k, hk, rfl, hown, rfl, rfl, hbr⟩ := hrel
    have hbs := hbr.size
    rw [HN.out] at hk
    have hab := HAB.out k hk
    have hfb := HFB.out k hk
    by_cases hlt : k < n
    · have hltz : (k : Int) < (n : Int) := by omega
      obtain ⟨ad, rfl, hadb, hat⟩ := HIT.out k hlt
      have hat2 := hat.below hbr (by rw [block_of_add]; omega)
      have HAT := Lib.hid hat2
      obtain ⟨k0, k1, k2, k3, k4, k5⟩ := hat2
      have hgd := HC.out.good k (by have := HN.out; omega)
      have hfx := (fit_iff _).1 hgd.first
      have hob := (fit_iff _).1 hgd.fo
      have HT := Lib.hid (show (l.take (k + 1)).map firstR = (l.take k).map firstR ++ [firstR (itAt l k)] by rw [List.take_succ_eq_append_getElem (by have := HN.out; omega), itAt_at (by have := HN.out; omega), List.map_append, List.map_singleton])
      have HFS := Lib.hid (show fsT l (k + 1) = fsT l k + firstR (itAt l k) from rfl)
      have hA1 := fun (h : ¬ 0 < k) => arT_first l gap h
      have hA2 := fun (h : 0 < k) => arT_step l gap h
      have hlk : ((l.take k).map firstR).length < 17592186044416 := by simp; omega
      have hlen : ∀ x : Int, ((l.take k).map firstR ++ [x]).length = k + 1 := fun x => by simp; have := HN.out; omega
      have hlast : ∀ (x : Int) (hh : k < ((l.take k).map firstR ++ [x]).length), ((l.take k).map firstR ++ [x])[k] = x := fun x hh => by
        have hl2 : ((l.take k).map firstR).length = k := by simp; have := HN.out; omega
        rw [List.getElem_append_right (by omega)]
        simp
      have HLAST := Lib.hid hlast
      have HLEN := Lib.hid hlen
      clear hat hgd hlast hlen
      generalize itAt l k = x at *
      have f1 := fun W => rfirst_any x W
      obtain ⟨fx, hfxe⟩ : ∃ z, firstR x = z := ⟨_, rfl⟩
      rw [hfxe] at hfx HT HFS
      simp only [hfxe] at f1
      clear hfxe
      obtain ⟨bs, le, mo, gr, sh, ou⟩ := x
      unfold It.val at f1
      dsimp only at f1 k0 k1 k2 k3 k4 k5 hob hA1 hA2
      obtain ⟨ar, har⟩ : ∃ z, arT l gap k = z := ⟨_, rfl⟩
      obtain ⟨fs, hfs⟩ : ∃ z, fsT l k = z := ⟨_, rfl⟩
      rw [har] at hab hA1 hA2 ⊢
      rw [hfs] at hfb HFS ⊢
      have HA1 := Lib.hid hA1
      have HA2 := Lib.hid hA2
      clear har hfs hA1 hA2
      have hw1 : IntKind.i64.wrap (ar + ou) = ar + ou := by rw [IntKind.wrap_i64]; omega
      have hw2 : IntKind.i64.wrap (ar + ou + gap) = ar + ou + gap := by rw [IntKind.wrap_i64]; omega
      have hw3 : IntKind.i64.wrap (fs + fx) = fs + fx := by rw [IntKind.wrap_i64]; omega
      go_wp2_with fail
      refine (f1 _).mono ?_
      rintro e w2 ⟨rfl, hb2⟩
      have hs2 : w.heap.size ≤ w2.heap.size := by have := hb2.size; omega
      have hown2 := hown.below hb2
      rcases (show 0 < k ∨ ¬ 0 < k by omega) with hk0 | hk0
      · have hkz : (0 : Int) < (k : Int) := by omega
        go_wp2_with (at_builtin; refine append_int _ fx rfl _ _ rfl w.heap.size u9 _ rfl hown2 rfl hlk hs2 ?_; intro v3 w3 hown3 hb3; have q5 := (HAT.out.below ((hb2.mono hbs).trans hb3) (by rw [block_of_add]; omega)).2.2.2.2.2; obtain ⟨g3, cap3, hv3, hcap3, hg3, hgl3, hc3, _⟩ := hown3.openI (by rw [HLEN.out]; omega); have c3 := (hc3 k (by rw [HLEN.out]; omega)); rw [HLAST.out] at c3; rw [HLEN.out] at hv3 hcap3; subst hv3; clear hc3)
        go_roundw
        case rel => exact ⟨k + 1, by have := HN.out; omega, by go_num, by rw [HT.out]; exact hown3, by rw [HA2.out hk0], by rw [HFS.out], hbr.trans ((hb2.mono hbs).trans hb3)⟩
        case measure => simp [intOf]; omega
      · have hkz : ¬ (0 : Int) < (k : Int) := by omega
        go_wp2_with (at_builtin; refine append_int _ fx rfl _ _ rfl w.heap.size u9 _ rfl hown2 rfl hlk hs2 ?_; intro v3 w3 hown3 hb3; have q5 := (HAT.out.below ((hb2.mono hbs).trans hb3) (by rw [block_of_add]; omega)).2.2.2.2.2; obtain ⟨g3, cap3, hv3, hcap3, hg3, hgl3, hc3, _⟩ := hown3.openI (by rw [HLEN.out]; omega); have c3 := (hc3 k (by rw [HLEN.out]; omega)); rw [HLAST.out] at c3; rw [HLEN.out] at hv3 hcap3; subst hv3; clear hc3)
        go_roundw
        case rel => exact ⟨k + 1, by have := HN.out; omega, by go_num, by rw [HT.out]; exact hown3, by rw [HA1.out hk0], by rw [HFS.out], hbr.trans ((hb2.mono hbs).trans hb3)⟩
        case measure => simp [intOf]; omega
    · obtain rfl : k = n := by omega
      have hltz : ¬ (k : Int) < (k : Int) := by omega
      rw [List.take_of_length_le (by have := HN.out; omega)] at hown
      by_cases hr : room = -1
      · have hrz : (room == -1) = true := by simp [hr]
        have HZ := Lib.hid (show sizesR l gap room = (l.map firstR, 0) by unfold sizesR; rw [HOK.out, if_neg (by omega), if_pos (by omega)])
        clear hr
        go_wp2_with fail
        go_ret2
        exact ⟨u9, by rw [HZ.out]; rfl, by rw [HZ.out]; exact hown, hbr⟩
      · have hrz : (room == -1) = false := by simp [hr]
        have hAL := all_arT l gap
        have hAR := around_arT l gap
        rw [HN.out] at hAL hAR
        obtain ⟨ar, har⟩ : ∃ z, arT l gap k = z := ⟨_, rfl⟩
        obtain ⟨fs, hfs⟩ : ∃ z, fsT l k = z := ⟨_, rfl⟩
        rw [har] at hab hAL hAR ⊢
        rw [hfs] at hfb hAL ⊢
        have HGR := Lib.hid (show growR l gap room = decide (fs + ar < room) by unfold growR; rw [hAL])
        have HSZ := Lib.hid (show sizesR l gap room = lastR (roundsR (l.length + 1) (growR l gap room) (room - ar) (startS (growR l gap room) l)) by unfold sizesR; rw [HOK.out, if_neg (by omega), if_neg (by omega), hAR]; rfl)
        have hwal : IntKind.i64.wrap (fs + ar) = fs + ar := by rw [IntKind.wrap_i64]; omega
        have hR1 : -9007199254740992 ≤ room - ar ∧ room - ar ≤ 9007199254740992 := by omega
        have hwR : IntKind.i64.wrap (room - ar) = room - ar := by rw [IntKind.wrap_i64]; omega
        have hlm : (l.map firstR).length = k := by rw [List.length_map, HN.out]
        obtain ⟨g, cap, rfl, hcap, hg, hgw, hoc, hofz⟩ := hown.openI (by rw [hlm]; exact hn1)
        rw [hlm] at hcap hown ⊢
        have hOC : ∀ j, j < k → wr.cell? ⟨g, j, none⟩ = some (.int .i64 (fstI l j)) := fun j hj => by
          rw [hoc j (by rw [hlm]; exact hj)]
          unfold fstI
          rw [itAt_at (by rw [HN.out]; exact hj)]
          simp
        have HOC : Aside _ := hOC
        have hmapr : l.map firstR = (List.range k).map (fstI l) := range_at hlm fun i hi => by
          unfold fstI
          rw [itAt_at (by simpa using hi)]
          simp
        rw [hmapr] at hown
        have HOWN := Lib.hid hown
        clear hoc hofz hOC hAL hAR har hfs hr hmapr hown hlm
        obtain ⟨i0, hi0, hz0, hzs, hzb⟩ := info_parts Try.infoBoolV
        have hmk := fun W : World => run_make_rowN (P := Try.prog) 27 4 i0 _ Try.underlying27 hi0 hz0 .i64 .i64 k k (Nat.le_refl _) (by rw [hzb]; omega) (by omega) W
        rw [hzs, Nat.mul_one] at hmk
        clear hi0 hz0 hzs hzb
        rw [show (Value.bool false).cells = #[Value.bool false] from rfl, made_falses16] at hmk
        have hblk : BBlk (wr.alloc (.cells ((List.replicate k false).map Value.bool).toArray 4)) wr.heap.size (List.replicate k false) := Blk.new _ _ _
        have hb2 : Below wr.heap.size wr (wr.alloc (.cells ((List.replicate k false).map Value.bool).toArray 4)) := (Below.refl _ _).alloc (Nat.le_refl _) _
        have hmk1 := hmk wr
        generalize wr.alloc (.cells ((List.replicate k false).map Value.bool).toArray 4) = w2 at *
        clear hmk
        have hbs2 : w.heap.size ≤ wr.heap.size := hbs
        obtain ⟨gs, hgs⟩ : ∃ x, wr.heap.size = x := ⟨_, rfl⟩
        rw [hgs] at hblk hb2 hgw hmk1 hbs2
        go_wp2_with fail
        rw [← HGR.out]
        obtain ⟨grow, hgrow⟩ : ∃ x, growR l gap room = x := ⟨_, rfl⟩
        rw [hgrow] at HSZ HGR ⊢
        have HGW := Lib.hid hgrow
        clear hgrow hmk1
        go_loopw [15] (Rs2 l grow gs wr) (fun i _ => k - (intOf i).toNat)
        case atStart => exact ⟨0, by omega, rfl, by rw [HN.out, show mixI k 0 (stB (startS grow l)) cfF = List.replicate k false from mixI_rep k _ false]; exact hblk, hb2⟩
        case round =>
          clear hblk hb2
          rename_i wl _ _ _ _ _
          obtain ⟨j, hj, rfl, hF, hbr2⟩ := hrel
          rw [HN.out] at hj hF
          by_cases hlt : j < k
          · have hltz2 : (j : Int) < (k : Int) := by omega
            obtain ⟨ad, rfl, hadb, hat⟩ := HIT.out j hlt
            obtain ⟨k0, k1, k2, k3, k4, k5⟩ := (hat.below hbr (by rw [block_of_add]; omega)).below hbr2 (by rw [block_of_add]; omega)
            have co := (hbr2.cell (p := ⟨g, j, none⟩) hgw).trans (HOC.out j hlt)
            have cfl : wr.cell? ⟨gs, j, none⟩ = some (.bool (mixI k j (stB (startS grow l)) cfF)[j]!) := by
              rw [hF.at_ (i := j) (by rw [mixI_len]; exact hlt)]
              simp [mixI_len, hlt]
            have ffl := Blk.frozen hF j
            obtain ⟨z0, hz0⟩ : ∃ z, (mixI k j (stB (startS grow l)) cfF)[j]! = z := ⟨_, rfl⟩
            rw [hz0] at cfl
            have hjl : j < l.length := by rw [HN.out]; exact hlt
            have hstep := mixI_step k j (stB (startS grow l)) cfF
            have hst : stB (startS grow l) j = if grow = true then decide ((itAt l j).grow = 0 ∨ fstI l j < (itAt l j).base) else decide ((itAt l j).shrink = 0 ∨ (itAt l j).base < fstI l j) := by
              unfold stB
              rw [startS_bo hjl]
              unfold startAt fstI
              cases grow
              · simp only [Bool.false_eq_true, if_false]
                by_cases hh : (itAt l j).shrink = 0 ∨ (itAt l j).base < firstR (itAt l j)
                · rw [if_pos (decide_eq_true hh), decide_eq_true hh]; rfl
                · rw [if_neg (by rw [decide_eq_true_eq]; exact hh), decide_eq_false hh]; rfl
              · simp only [if_true]
                by_cases hh : (itAt l j).grow = 0 ∨ firstR (itAt l j) < (itAt l j).base
                · rw [if_pos (decide_eq_true hh), decide_eq_true hh]; rfl
                · rw [if_neg (by rw [decide_eq_true_eq]; exact hh), decide_eq_false hh]; rfl
            rw [hst] at hstep
            generalize fstI l j = fx at *
            generalize itAt l j = x at *
            obtain ⟨bs, le, mo, gr, sh, ou⟩ := x
            dsimp only at k0 k1 k2 k3 k4 k5 hstep
            have HFF := Lib.hid hF
            have hadg : (ad.add (j * 6)).block ≠ gs := by rw [block_of_add]; omega
            have hput : ∀ (b : Bool) (W : World), W = (wr.setCell ⟨gs, j, none⟩ (.bool b)).drew → mixI k (j + 1) (stB (startS grow l)) cfF = (mixI k j (stB (startS grow l)) cfF).set j b → Rs2 l grow gs wl (.int .i64 ((j + 1 : Nat) : Int)) W := fun b W e hs => by
              subst e
              refine ⟨j + 1, by rw [HN.out]; exact hlt, rfl, ?_, (hbr2.setCell (p := ⟨gs, j, none⟩) (Nat.le_refl _) _).drew⟩
              rw [HN.out, hs]
              exact HFF.out.put j b
            have HPUT : Aside _ := hput
            clear hput hst hz0 hat hF
            cases grow with
            | true =>
              simp only [if_true] at hstep
              by_cases hz : gr = 0
              · have t1 : (gr == 0) = true := by simp [hz]
                rw [decide_eq_true (Or.inl hz)] at hstep
                have HSTEP := Lib.hid hstep
                clear hstep hz
                go_wp2_with fail
                go_big_region
                go_wp2_with fail
                go_roundw
                case rel => exact HPUT.out true _ rfl HSTEP.out
                case measure => simp [intOf]; omega
              · have t1 : (gr == 0) = false := by simp [hz]
                have e1 : decide (gr = 0 ∨ fx < bs) = decide (fx < bs) := by simp [hz]
                rw [e1] at hstep
                obtain ⟨d, hd⟩ : ∃ d, decide (fx < bs) = d := ⟨_, rfl⟩
                rw [hd] at hstep
                have HD := Lib.hid hd
                have HSTEP := Lib.hid hstep
                clear hstep hz e1 hd
                go_wp2_with fail
                go_big_region
                go_wp2_with fail
                go_roundw
                case rel => exact HPUT.out d _ (by rw [← HD.out]) HSTEP.out
                case measure => simp [intOf]; omega
            | false =>
              simp only [Bool.false_eq_true, if_false] at hstep
              by_cases hz : sh = 0
              · have t1 : (sh == 0) = true := by simp [hz]
                rw [decide_eq_true (Or.inl hz)] at hstep
                have HSTEP := Lib.hid hstep
                clear hstep hz
                go_wp2_with fail
                go_big_region
                go_wp2_with fail
                go_roundw
                case rel => exact HPUT.out true _ rfl HSTEP.out
                case measure => simp [intOf]; omega
              · have t1 : (sh == 0) = false := by simp [hz]
                have e1 : decide (sh = 0 ∨ bs < fx) = decide (bs < fx) := by simp [hz]
                rw [e1] at hstep
                obtain ⟨d, hd⟩ : ∃ d, decide (bs < fx) = d := ⟨_, rfl⟩
                rw [hd] at hstep
                have HD := Lib.hid hd
                have HSTEP := Lib.hid hstep
                clear hstep hz e1 hd
                go_wp2_with fail
                go_big_region
                go_wp2_with fail
                go_roundw
                case rel => exact HPUT.out d _ (by rw [← HD.out]) HSTEP.out
                case measure => simp [intOf]; omega
          · obtain rfl : j = k := by omega
            have hltz2 : ¬ (j : Int) < (j : Int) := by omega
            rw [mixI_all] at hF
            obtain ⟨R, hR⟩ : ∃ z, room - ar = z := ⟨_, rfl⟩
            rw [hR] at hR1 HSZ
            have hwR2 : IntKind.i64.wrap (room - ar) = R := by rw [hwR, hR]
            clear hwR
            obtain ⟨RR, hRR⟩ : ∃ z, roundsR (l.length + 1) grow R (startS grow l) = z := ⟨_, rfl⟩
            rw [hRR] at HSZ
            have hM0 : ∀ u, Rs3 l grow R RR w.heap.size g cap gs w u wr := fun _ => by
              refine ⟨startS grow l, fstI l, ⟨?_, by rw [HN.out]; exact hF, by omega, hbs2⟩, szOk_start grow l, startS_good HC.out.good, startS_len _ _, fun i hi => startS_it hi, ⟨l.length + 1, by have := openR_le (startS grow l); rw [startS_len] at this; omega, hRR⟩, hbr.trans (hbr2.mono hbs2)⟩
              rw [HN.out]
              exact HOWN.out.below (by rw [hgs]; exact hbr2)
            clear hF hRR hR hbr2
            go_wp2_with fail
            go_loopw [115] (Rs3 l grow R RR w.heap.size g cap gs w) (fun _ wr => openW wr gs j)
            case atStart => exact hM0 _
            case round =>
              clear hM0
              obtain ⟨s, o, hMM⟩ := hrel
              have M := Lib.hid hMM
              have hsn : s.length = j := by rw [hMM.sn, HN.out]
              have hmem := hMM.mem
              rw [HN.out] at hmem
              have ev := every_any _ gs wr hmem.fl (by simp; omega)
              rw [List.length_map, List.length_range] at ev
              have hev : ((List.range j).map (stB s)).all id = decide (openR s = 0) := by rw [← every_open, flags_eq, hsn]
              rw [hev] at ev
              have hMW := openW_eq hmem.fl hsn
              have HMEM := Lib.hid hmem
              have HSN := Lib.hid hsn
              by_cases ho : openR s = 0
              · rw [decide_eq_true ho] at ev
                have hout := hMM.ok.all ho
                rw [hsn] at hout
                obtain ⟨f, hf1, hf2⟩ := hMM.run
                rw [roundsR_done ho (by omega)] at hf2
                have al := rall _ _ _ wr hmem.out.ints (by simp; omega)
                rw [hout] at al
                have HOUT := Lib.hid hout
                have HEND := Lib.hid (show sizesR l gap room = lastR (some (s.map szOf)) by rw [HSZ.out, hf2])
                cases hfit : (s.map szOf).all fit with
                | true =>
                  rw [hfit] at al
                  have HR := Lib.hid (show sizesR l gap room = (s.map szOf, 0) by rw [HEND.out]; unfold lastR; dsimp only; rw [if_pos hfit])
                  clear hfit hf1 hf2 hout hev hsn hmem hMM ho hMW
                  go_wp2_with fail
                  refine ev.mono ?_
                  clear ev
                  rintro e w' ⟨rfl, rfl⟩
                  go_wp2_with fail
                  refine al.mono ?_
                  clear al
                  rintro e w' ⟨rfl, rfl⟩
                  go_wp2_with fail
                  go_ret2
                  exact ⟨_, by rw [HR.out]; rfl, by rw [HR.out, ← HOUT.out]; exact HMEM.out.out, M.out.below⟩
                | false =>
                  rw [hfit] at al
                  have HR := Lib.hid (show sizesR l gap room = ([], 10) by rw [HEND.out]; unfold lastR; dsimp only; rw [if_neg (by rw [hfit]; decide)])
                  clear hfit hf1 hf2 hout hev hsn hmem hMM ho hMW
                  go_wp2_with fail
                  refine ev.mono ?_
                  clear ev
                  rintro e w' ⟨rfl, rfl⟩
                  go_wp2_with fail
                  refine al.mono ?_
                  clear al
                  rintro e w' ⟨rfl, rfl⟩
                  go_wp2_with fail
                  go_ret2
                  exact ⟨_, by rw [HR.out]; rfl, by rw [HR.out]; exact Owns.nil _ _, M.out.below⟩
              · rw [decide_eq_false ho] at ev
                have hIw : Items wr w.heap.size (.slice A l.length c) l := (HIS.out.more hB).below hMM.below
                have rr := rround_any wr l _ s R grow w.heap.size j o g cap gs ⟨hIw, HN.out, hsn, fun i hi => hMM.it i (by rw [HN.out]; exact hi), hMM.good, hn1, hn2, hmem, hMM.ok, hR1.1, hR1.2⟩
                rw [HN.out] at rr
                unfold RrPost at rr
                have HO := Lib.hid ho
                cases hfit : fit (leftR R s) with
                | false =>
                  rw [hfit] at rr
                  obtain ⟨f, hf1, hf2⟩ := hMM.run
                  rw [roundsR_no ho hfit] at hf2
                  have HR := Lib.hid (show sizesR l gap room = ([], 10) by rw [HSZ.out, ← hf2]; rfl)
                  clear hfit hf1 hf2 hev hsn hmem hMM ho hMW hIw
                  go_wp2_with fail
                  refine ev.mono ?_
                  clear ev
                  rintro e w' ⟨rfl, rfl⟩
                  go_wp2_with fail
                  refine rr.mono ?_
                  clear rr
                  rintro e w' ⟨rfl, hbw, _⟩
                  go_wp2_with fail
                  go_ret2
                  exact ⟨_, by rw [HR.out]; rfl, by rw [HR.out]; exact Owns.nil _ _, M.out.below.trans hbw⟩
                | true =>
                  rw [hfit] at rr
                  have HFIT := Lib.hid hfit
                  have HMW := Lib.hid hMW
                  clear hfit hev hsn hmem hMM ho hMW hIw
                  go_wp2_with fail
                  refine ev.mono ?_
                  clear ev
                  rintro e w' ⟨rfl, rfl⟩
                  go_wp2_with fail
                  refine rr.mono ?_
                  clear rr
                  rintro e w' ⟨rfl, hbw, hnx⟩
                  have hnx2 := hnx trivial
                  have HNX := Lib.hid hnx2
                  clear hnx hnx2
                  go_wp2_with fail
                  go_roundw
                  case rel =>
                    refine ⟨nextR (giveR grow (leftR R s) s) s, _, by rw [HN.out]; exact HNX.out, M.out.ok.next, M.out.good.next, by rw [nextR_len]; exact M.out.sn, fun i hi => ?_, ?_, M.out.below.trans hbw⟩
                    · rw [nextR_bo (by rw [M.out.sn]; exact hi), nextAt_it]
                      exact M.out.it i hi
                    · obtain ⟨f, hf1, hf2⟩ := M.out.run
                      have hlt := openR_next (zs := giveR grow (leftR R s) s) (by have := HO.out; omega : 0 < openR s)
                      obtain ⟨f', rfl⟩ : ∃ f', f = f' + 1 := ⟨f - 1, by omega⟩
                      rw [roundsR_yes HO.out HFIT.out] at hf2
                      exact ⟨f', by omega, hf2⟩
                  case measure =>
                    have hlt := openR_next (zs := giveR grow (leftR R s) s) (by have := HO.out; omega : 0 < openR s)
                    rw [HMW.out, openW_eq (s := nextR (giveR grow (leftR R s) s) s) HNX.out.fl (by rw [nextR_len, HSN.out])]
                    exact hlt

set_option maxRecDepth 100000 in
set_option maxHeartbeats 4000000 in
theorem rsizes_nil (gap room : Int) (v : Value) (B : Nat) (w : World) (h : Items w B v []) (hB : B ≤ w.heap.size) (hok : checkR [] gap room = 0) :
    Calls Try.prog 22 #[v, .int .i64 gap, .int .i64 room] w (SizesPost [] gap room w) := by
  have hch := asked_any [] gap room v B w h hB
  rw [hok] at hch
  have C := check_ok hok
  obtain ⟨A, c, rfl, hc, hf⟩ := h
  obtain ⟨r1, r2⟩ := (fit_iff _).1 C.froom
  have room0 := C.room0
  have HZ := Lib.hid (show sizesR [] gap room = ([], 0) by
    unfold sizesR
    rw [hok, if_neg (by omega)]
    split
    · rfl
    · rw [List.map_nil, roundsR_done (by rfl) (by simp)]
      rfl)
  obtain ⟨i0, hi0, hz0, hzs, hzb⟩ := info_parts Try.infoBoolV
  have hmk := fun W : World => run_make_rowN (P := Try.prog) 27 4 i0 _ Try.underlying27 hi0 hz0 .i64 .i64 0 0 (Nat.le_refl _) (by rw [hzb]; omega) (by omega) W
  rw [hzs, Nat.mul_one, show (Value.bool false).cells = #[Value.bool false] from rfl, made_falses16] at hmk
  simp only [show ((0 : Nat) : Int) = 0 from rfl] at hmk
  clear hi0 hz0 hzs hzb hf C hok
  simp only [List.length_nil] at hch hc ⊢
  by_cases hr : room = -1
  · have hrz : (room == -1) = true := by simp [hr]
    clear hr
    go_enter Try.func22, Try.ntmps22
    go_wp2_with fail
    refine hch.mono ?_
    clear hch
    rintro e w1 ⟨rfl, hb1⟩
    go_wp2_with fail
    refine wp_loop_rounds 1 ?_
    rw [rounds_succ]
    go_wp2_with fail
    go_ret2
    exact ⟨_, by rw [HZ.out]; rfl, by rw [HZ.out]; exact Owns.nil _ _, hb1⟩
  · have hrz : (room == -1) = false := by simp [hr]
    clear hr
    go_enter Try.func22, Try.ntmps22
    go_wp2_with fail
    refine hch.mono ?_
    clear hch
    rintro e w1 ⟨rfl, hb1⟩
    have hmk1 := hmk w1
    have hblk : BBlk (w1.alloc (.cells ((List.replicate 0 false).map Value.bool).toArray 4)) w1.heap.size [] := Blk.new _ _ _
    have hb2 : Below w1.heap.size w1 (w1.alloc (.cells ((List.replicate 0 false).map Value.bool).toArray 4)) := (Below.refl _ _).alloc (Nat.le_refl _) _
    clear hmk
    generalize w1.alloc (.cells ((List.replicate 0 false).map Value.bool).toArray 4) = w2 at *
    have ev := every_any [] w1.heap.size w2 hblk (by simp)
    have al := rall [] _ _ w2 (Ints.nil w2 0) (by simp)
    simp only [List.all_nil, List.length_nil] at ev al
    go_wp2_with fail
    refine wp_loop_rounds 1 ?_
    rw [rounds_succ]
    go_wp2_with fail
    refine wp_loop_rounds 1 ?_
    rw [rounds_succ]
    go_wp2_with fail
    refine wp_loop_rounds 1 ?_
    rw [rounds_succ]
    go_wp2_with fail
    refine ev.mono ?_
    clear ev
    rintro e w' ⟨rfl, rfl⟩
    go_wp2_with fail
    refine al.mono ?_
    clear al
    rintro e w' ⟨rfl, rfl⟩
    go_wp2_with fail
    go_ret2
    exact ⟨_, by rw [HZ.out]; rfl, by rw [HZ.out]; exact Owns.nil _ _, hb1.trans (hb2.mono hb1.size)⟩
set_option maxRecDepth 100000 in
set_option maxHeartbeats 1000000 in
theorem rsizes_bad (l : List It) (gap room : Int) (v : Value) (B : Nat) (w : World) (h : Items w B v l) (hB : B ≤ w.heap.size) (hok : checkR l gap room ≠ 0) :
    Calls Try.prog 22 #[v, .int .i64 gap, .int .i64 room] w (SizesPost l gap room w) := by
  have hch := asked_any l gap room v B w h hB
  have HS := Lib.hid (show sizesR l gap room = ([], checkR l gap room) by unfold sizesR; rw [if_pos hok])
  obtain ⟨A, c, rfl, hc, hf⟩ := h
  clear hf
  obtain ⟨e0, he0⟩ : ∃ z, checkR l gap room = z := ⟨_, rfl⟩
  rw [he0] at hch HS hok
  have h1 : (e0 == 0) = false := by simp [hok]
  have h2 : (e0 != 0) = true := by simp [hok]
  clear he0
  go_enter Try.func22, Try.ntmps22
  go_wp2_with fail
  refine hch.mono ?_
  clear hch
  rintro e w1 ⟨rfl, hb1⟩
  go_wp2_with fail
  go_ret2
  exact ⟨_, by rw [HS.out]; rfl, by rw [HS.out]; exact Owns.nil _ _, hb1⟩
theorem rsizes_any (l : List It) (gap room : Int) (v : Value) (B : Nat) (w : World) (h : Items w B v l) (hB : B ≤ w.heap.size) :
    Calls Try.prog 22 #[v, .int .i64 gap, .int .i64 room] w (SizesPost l gap room w) := by
  by_cases hok : checkR l gap room = 0
  · by_cases h0 : 0 < l.length
    · exact rsizes_good l gap room v B w h hB hok h0
    · obtain rfl := List.eq_nil_of_length_eq_zero (by omega : l.length = 0)
      exact rsizes_nil gap room v B w h hB hok
  · exact rsizes_bad l gap room v B w h hB hok

end Go.Proofs.Ytbhdolghokhfnaa
