/-
  Walks: fixed.Share: what it answers, in memory of its own.
-/
import Derived.Test.YtbhdolghokhfnaaFixed
import Derived.Test.YtbhdolghokhfnaaSharePlain2
import Derived.Test.YtbhdolghokhfnaaDiv2
import Derived.Test.YtbhdolghokhfnaaSortG
namespace Go.Proofs.Ytbhdolghokhfnaa
open Go.RowKit

def SharePost (total : Int) (ws : List Int) (w : World) (e : Ending) (w' : World) : Prop :=
  ∃ v, e = .returned (.tuple #[v, .int .i64 (shareR total ws).2]) ∧ Owns w' w.heap.size v (shareR total ws).1 ∧ Below w.heap.size w w'

theorem share_nofit (total : Int) (ws : List Int) (v : Value) (B : Nat) (w : World) (h : Ints w B v ws) (hf : fit total = false) :
    Calls Try.prog 19 #[.int .i64 total, v] w (SharePost total ws w) := by
  have hs := Lib.hid (show shareR total ws = ([], 2) by unfold shareR; rw [if_pos (by simp [hf])])
  have hg := fits_one total 3 w
  rw [hf] at hg
  clear hf
  obtain ⟨A, c, rfl, _, _⟩ := h
  go_enter Try.func19, Try.ntmps19
  go_wp2_with (go_at_call 38; with_reducible refine hg.mono ?_; rintro e w' ⟨rfl, rfl⟩)
  go_ret2
  exact ⟨.slice none 0 0, by rw [hs.out]; rfl, by rw [hs.out]; exact Owns.nil _ _, (Below.refl _ _).alloc (Nat.le_refl _) _⟩

theorem share_long (total : Int) (ws : List Int) (v : Value) (B : Nat) (w : World) (h : Ints w B v ws) (hm : ws.length ≤ 17592186044416) (hf : fit total = true) (hl : 2048 < ws.length) :
    Calls Try.prog 19 #[.int .i64 total, v] w (SharePost total ws w) := by
  have hs := Lib.hid (show shareR total ws = ([], 2) by unfold shareR; rw [if_pos (by simp [hl])])
  have hg := fits_one total 3 w
  rw [hf] at hg
  clear hf
  obtain ⟨A, c, rfl, _, _⟩ := h
  go_enter Try.func19, Try.ntmps19
  go_wp2_with (go_at_call 38; with_reducible refine hg.mono ?_; rintro e w' ⟨rfl, rfl⟩)
  go_ret2
  exact ⟨.slice none 0 0, by rw [hs.out]; rfl, by rw [hs.out]; exact Owns.nil _ _, (Below.refl _ _).alloc (Nat.le_refl _) _⟩

theorem sum_step {ws : List Int} {k : Nat} (hk : k < ws.length) (h : isWeight ws[k] = true) : ((sumTo (wAt ws) (k + 1) : Nat) : Int) = (sumTo (wAt ws) k : Nat) + ws[k] := by
  have := (isWeight_iff _).1 h
  rw [sumTo, wAt_at hk]
  omega
theorem take_sum_bd {ws : List Int} : ∀ {k : Nat}, k ≤ ws.length → (ws.take k).all isWeight = true → sumTo (wAt ws) k ≤ k * 1125899906842624
  | 0, _, _ => by simp [sumTo]
  | k + 1, hk, h => by
    rw [List.take_succ_eq_append_getElem hk, List.all_append] at h
    simp at h
    have := take_sum_bd (ws := ws) (k := k) (by omega) (by simpa using h.1)
    have := (isWeight_iff _).1 h.2
    rw [sumTo, wAt_at hk]
    omega
theorem take_all_w {ws : List Int} {k : Nat} (hk : k < ws.length) (h : (ws.take k).all isWeight = true) (h2 : isWeight ws[k] = true) : (ws.take (k + 1)).all isWeight = true := by
  rw [List.take_succ_eq_append_getElem hk, List.all_append, h]
  simp [h2]

def LoopA (ws : List Int) (s i : Value) : Prop := ∃ k : Nat, k ≤ ws.length ∧ i = .int .i64 k ∧ s = .int .u64 (sumTo (wAt ws) k : Nat) ∧ (ws.take k).all isWeight = true

/-- The slice of shares, the first k of which (by what was lost) are given. -/
def outs (total : Int) (ws : List Int) (k : Nat) : List Int := (List.range ws.length).map fun i => if rank (lost total.natAbs ws) ws.length i < k then shareAt total ws i else 0
theorem outs_zero (total : Int) (ws : List Int) : outs total ws 0 = List.replicate ws.length 0 := by
  unfold outs
  refine List.ext_getElem (by simp) fun i h1 h2 => by simp
theorem outs_all (total : Int) (ws : List Int) : outs total ws ws.length = shares total ws := by
  unfold outs shares
  refine List.map_congr_left fun i hi => ?_
  rw [if_pos (rank_lt _ (by simpa using hi))]
theorem outs_len (total : Int) (ws : List Int) (k : Nat) : (outs total ws k).length = ws.length := by simp [outs]
theorem outs_step (total : Int) (ws : List Int) {k : Nat} (hk : k < (order (lost total.natAbs ws) ws.length).length) :
    outs total ws (k + 1) = (outs total ws k).set (order (lost total.natAbs ws) ws.length)[k] (shareAt total ws (order (lost total.natAbs ws) ws.length)[k]) := by
  refine List.ext_getElem (by simp [outs]) fun i h1 h2 => ?_
  have hi : i < ws.length := by simpa [outs] using h1
  have hr := rank_order (lost total.natAbs ws) ws.length hk
  rw [List.getElem_set]
  by_cases e : (order (lost total.natAbs ws) ws.length)[k] = i
  · rw [if_pos e]
    rw [e] at hr
    simp [outs, hr, e]
  · rw [if_neg e]
    have : rank (lost total.natAbs ws) ws.length i ≠ k := fun h => e (order_of_rank _ hi hk h)
    simp only [outs, List.getElem_map, List.getElem_range]
    by_cases h : rank (lost total.natAbs ws) ws.length i < k
    · rw [if_pos h, if_pos (by omega)]
    · rw [if_neg h, if_neg (by omega)]

theorem blk_out {w : World} {g : Nat} {zs : List Int} {j : Nat} {x : Int} {v : Value} (h : Blk w g 3 (zs.map (Value.int .i64)).toArray) (hv : v = .int .i64 x) : Blk (w.setCell ⟨g, j, none⟩ v) g 3 ((zs.set j x).map (Value.int .i64)).toArray := by
  have h2 := h.set_ j v
  have e : (zs.map (Value.int .i64)).toArray.setIfInBounds j v = ((zs.set j x).map (Value.int .i64)).toArray := by
    rw [hv]
    simp [List.map_set]
  rwa [e] at h2

def LoopB (t : Nat) (ws : List Int) (base g : Nat) (w1 : World) (all left i : Value) (wr : World) : Prop :=
  ∃ k L : Nat, k ≤ ws.length ∧ i = .int .i64 k ∧ left = .int .u64 L ∧ L + sumTo (quo t ws) k = t ∧ OwnsG wr base all (quo t ws) (lost t ws) k ∧ Blk wr g 3 ((List.replicate ws.length (0 : Int)).map (Value.int .i64)).toArray ∧ Below base w1 wr
def LoopC (total : Int) (ws : List Int) (base g gg : Nat) (w1 : World) (i : Value) (wr : World) : Prop :=
  ∃ k : Nat, k ≤ ws.length ∧ i = .int .i64 k ∧ Sort.HoldsK (encG (quo total.natAbs ws) (lost total.natAbs ws)) 3 wr gg 0 (order (lost total.natAbs ws) ws.length).toArray ∧ Blk wr g 3 ((outs total ws k).map (Value.int .i64)).toArray ∧ gg < wr.heap.size ∧ Below base w1 wr

set_option maxRecDepth 100000 in
set_option maxHeartbeats 4000000 in
theorem share_main (total : Int) (ws : List Int) (v : Value) (B : Nat) (w : World) (h : Ints w B v ws) (hB : B ≤ w.heap.size) (hf : fit total = true) (hl : ws.length ≤ 2048) :
    Calls Try.prog 19 #[.int .i64 total, v] w (SharePost total ws w) := by
  have hg := fits_one total 3 w
  obtain ⟨hf1, hf2⟩ := (fit_iff total).1 hf
  have HFT := Lib.hid hf
  rw [hf] at hg
  clear hf
  obtain ⟨w1, hw1⟩ : ∃ w1, w.alloc (.cells #[.int .i64 total] 3) = w1 := ⟨_, rfl⟩
  rw [hw1] at hg
  have hb1 : Below w.heap.size w w1 := by rw [← hw1]; exact (Below.refl _ _).alloc (Nat.le_refl _) _
  have hz1 : w.heap.size < w1.heap.size := by rw [← hw1]; simp
  have HW1 := Lib.hid hw1; clear hw1
  have h' := (h.more hB).below hb1
  obtain ⟨A, c, rfl, hc, hr⟩ := h'
  obtain ⟨i0, hi0, hz0, hzs, hzb⟩ := info_parts Try.infoInt
  have hmk := fun W : World => run_make_rowN (P := Try.prog) 22 3 i0 _ Try.underlying22 hi0 hz0 .i64 .i64 ws.length ws.length (Nat.le_refl _) (by rw [hzb]; omega) (by omega) W
  rw [hzs, Nat.mul_one] at hmk
  clear hi0 hz0 hzs hzb
  go_enter Try.func19, Try.ntmps19
  go_wp2_with fail
  rw [HW1.out]
  refine hg.mono ?_
  rintro e w' ⟨rfl, rfl⟩
  go_wp2_with fail
  go_loop [6, 32] (LoopA ws) (fun _ i => ws.length - (intOf i).toNat)
  case atStart => exact ⟨0, by omega, rfl, rfl, rfl⟩
  case round =>
    obtain ⟨k, hk, rfl, rfl, hall⟩ := hrel
    have hsb := take_sum_bd hk hall
    have Hall := Lib.hid hall; clear hall
    by_cases hlt : k < ws.length
    · obtain ⟨ad, rfl, hb, hcell⟩ := hr.val hlt
      by_cases hwk : isWeight ws[k] = true
      · obtain ⟨q1, q2⟩ := (isWeight_iff _).1 hwk
        have hn1 : ¬ ws[k] < 0 := by omega
        have hn2 : ¬ 1125899906842624 < ws[k] := by omega
        have HS := Lib.hid (sum_step hlt hwk)
        have HA := Lib.hid (take_all_w hlt Hall.out hwk)
        clear hwk
        go_wp2_with fail
        go_round
        case rel => exact ⟨k + 1, by omega, by go_num, by rw [HS.out], HA.out⟩
        case measure => simp [intOf]; omega
      · have hbad := Lib.hid (show shareR total ws = ([], 2) by
          unfold shareR
          rw [if_pos]
          have : ws.all isWeight = false := by
            rw [← Bool.not_eq_true]
            intro ha
            exact hwk (List.all_eq_true.1 ha _ (List.getElem_mem hlt))
          simp [this])
        have hwk2 : ws[k] < 0 ∨ 1125899906842624 < ws[k] := by
          rcases Int.lt_or_le ws[k] 0 with h | h
          · exact .inl h
          · refine .inr (Int.not_le.1 fun h2 => hwk ((isWeight_iff _).2 ⟨h, h2⟩))
        clear hwk
        rcases hwk2 with hwk2 | hwk2
        all_goals
          go_wp2_with fail
          all_goals
            go_ret2
            exact ⟨.slice none 0 0, by rw [hbad.out]; rfl, by rw [hbad.out]; exact Owns.nil _ _, hb1⟩
    · obtain rfl : k = ws.length := by omega
      have hall' : ws.all isWeight = true := by have := Hall.out; rwa [List.take_of_length_le (Nat.le_refl _)] at this
      have HALL := Lib.hid hall'
      have HW := Lib.hid (fun k => wAt_le hall' k)
      have hSb := wSum_bd hall' hl
      clear Hall hall' hsb hlt
      change sumTo (wAt ws) ws.length ≤ _ at hSb
      have HS := Lib.hid (show sumTo (wAt ws) ws.length = wSum ws from rfl)
      obtain ⟨S, hS⟩ : ∃ S, wSum ws = S := ⟨_, rfl⟩
      have eS : sumTo (wAt ws) ws.length = S := hS
      rw [eS] at hSb ⊢
      have HSS := Lib.hid hS; clear hS eS
      have ht := Int.natAbs_of_nonneg (a := total)
      obtain ⟨t, ht⟩ : ∃ t, total.natAbs = t := ⟨_, rfl⟩
      have htb : t ≤ 1099511627776 := by omega
      have hsz := fun W => size_any total W ⟨by omega, by omega⟩
      rw [ht] at hsz
      have HT := Lib.hid ht; clear ht
      rw [show (Value.int .i64 0).cells = #[Value.int .i64 0] from rfl, made_zeros] at hmk
      have hz2 : (w1.alloc (.cells ((List.replicate ws.length (0 : Int)).map (Value.int .i64)).toArray 3)).heap.size = w1.heap.size + 1 := by simp
      have hblk : Blk (w1.alloc (.cells ((List.replicate ws.length (0 : Int)).map (Value.int .i64)).toArray 3)) w1.heap.size 3 ((List.replicate ws.length (0 : Int)).map (Value.int .i64)).toArray := Blk.new _ _ _
      have hb2 : Below w.heap.size w1 (w1.alloc (.cells ((List.replicate ws.length (0 : Int)).map (Value.int .i64)).toArray 3)) := (Below.refl _ _).alloc (by omega) _
      obtain ⟨w2, hw2⟩ : ∃ w2, w1.alloc (.cells ((List.replicate ws.length (0 : Int)).map (Value.int .i64)).toArray 3) = w2 := ⟨_, rfl⟩
      rw [hw2] at hz2 hblk hb2
      have hmk1 := hmk w1
      rw [hw2] at hmk1
      clear hmk
      have HZ2 := Lib.hid hz2; clear hz2
      have HW2 := Lib.hid hw2; clear hw2
      obtain ⟨g, hgw⟩ : ∃ g, w1.heap.size = g := ⟨_, rfl⟩
      rw [hgw] at hmk1 hblk hz1
      have HG := Lib.hid hgw; clear hgw
      by_cases hS0 : S = 0
      · subst hS0
        have hs : shareR total ws = (List.replicate ws.length 0, 0) := by
          unfold shareR
          rw [if_neg (by simp [HFT.out, HALL.out]; omega), if_pos HSS.out]
        have HR := Lib.hid hs; clear hs
        go_wp2_with fail
        go_ret2
        have ho := owns_of_blk (base := w.heap.size) hblk (by omega) (by simp; omega)
        rw [List.length_replicate] at ho
        exact ⟨_, by rw [HR.out]; rfl, by rw [HR.out]; exact ho, hb1.trans hb2⟩
      · have hS1 : ((S : Int) == 0) = false := by simp; omega
        by_cases hneg : total < 0
        all_goals
          go_wp2_with fail
          refine (hsz _).mono ?_
          rintro e w' ⟨rfl, rfl⟩
          go_wp2_with fail
          go_loopw [11, 12, 59] (LoopB t ws w.heap.size g w1) (fun _ _ i _ => ws.length - (intOf i).toNat)
          case atStart => exact ⟨0, t, by omega, rfl, rfl, by simp [sumTo], OwnsG.nil _ _ _ _, hblk, hb2⟩
          case round =>
            obtain ⟨k, L, hk, rfl, rfl, hL, hown, hblkr, hbr⟩ := hrel
            have hbase : w.heap.size ≤ wr.heap.size := Nat.le_trans hb1.size hbr.size
            have hLt : L ≤ t := by omega
            by_cases hlt : k < ws.length
            · have hr2 := hr.below hbr
              obtain ⟨ad, rfl, hbA, hcell⟩ := hr2.val hlt
              obtain ⟨y, hy⟩ := Int.eq_ofNat_of_zero_le (weight_at HALL.out k hlt).1
              rw [hy] at hcell
              have hyb : y ≤ 1125899906842624 := by have := (weight_at HALL.out k hlt).2; omega
              have Hy := Lib.hid (show wAt ws k = y by rw [wAt_at hlt, hy]; rfl)
              have hyS : y ≤ S := by rw [← Hy.out, ← HSS.out]; exact wAt_le_sum ws hlt
              obtain ⟨hi, hhi⟩ : ∃ hi, t * y / 18446744073709551616 = hi := ⟨_, rfl⟩
              obtain ⟨lo, hlo⟩ : ∃ lo, t * y % 18446744073709551616 = lo := ⟨_, rfl⟩
              have hmul := fun W => mul64_any t y (hi : Int) (lo : Int) (by omega) (by omega) (by rw [hhi]) (by rw [hlo]) W
              have hlob : lo < 18446744073709551616 := by rw [← hlo]; exact Nat.mod_lt _ (by omega)
              have hhS : hi < S := by
                rw [← hhi]
                refine Nat.div_lt_of_lt_mul ?_
                have h1 : t * y ≤ 1099511627776 * S := Nat.mul_le_mul htb hyS
                omega
              have hX : hi * 18446744073709551616 + lo = t * y := by rw [← hhi, ← hlo, Nat.mul_comm]; exact Nat.div_add_mod _ _
              have hdiv := fun W => div64_any hi lo S W hhS hlob (by omega)
              rw [hX] at hdiv
              obtain ⟨q, hq⟩ : ∃ q, t * y / S = q := ⟨_, rfl⟩
              obtain ⟨l, hlq⟩ : ∃ l, t * y % S = l := ⟨_, rfl⟩
              rw [hq, hlq] at hdiv
              have Hq := Lib.hid (show quo t ws k = q by unfold quo; rw [Hy.out, HSS.out, hq])
              have Hl := Lib.hid (show lost t ws k = l by unfold lost; rw [Hy.out, HSS.out, hlq])
              have hqL : q ≤ L := by
                have := quos_le t ws (by rw [HSS.out]; omega) (show k + 1 ≤ ws.length from hlt)
                rw [sumTo, Hq.out] at this
                omega
              have HL := Lib.hid hL
              clear hL hhi hlo hX hq hlq hy hlob hhS
              go_wp2_with fail
              refine (hsz _).mono ?_
              rintro e w5 ⟨rfl, rfl⟩
              go_wp2_with fail
              refine (hmul _).mono ?_
              rintro e w5 ⟨rfl, rfl⟩
              go_wp2_with fail
              refine (hdiv _).mono ?_
              rintro e w5 ⟨rfl, m, rfl⟩
              have hown' : OwnsG (wr.drewN m) w.heap.size u11 (quo t ws) (lost t ws) k := hown
              go_wp2_with (at_builtin; refine append_given _ (quo t ws) (lost t ws) k rfl _ _ rfl w.heap.size u11 rfl hown' rfl (by omega) hbase _ _ _ (congrArg (fun n : Nat => Value.int .i64 (n : Int)) Hq.out.symm) rfl (congrArg (fun n : Nat => Value.int .u64 (n : Int)) Hl.out.symm) ?_; intro v3 w3 hown3 hgrow3)
              have hblk3 : Blk w3 g 3 ((List.replicate ws.length (0 : Int)).map (Value.int .i64)).toArray := (show Blk (wr.drewN m) g 3 _ from hblkr).grown hgrow3 (own_blk_ne hown' hblkr (by decide)).symm
              have hb3 : Below w.heap.size w1 w3 := (below_drewN hbr m).grown hgrow3 hbase (fun j e => (World.ownsRow.lt hown' j e).1)
              go_roundw
              case rel => exact ⟨k + 1, L - q, hlt, by go_num, by go_num, by rw [sumTo, Hq.out]; have := HL.out; omega, hown3, hblk3, hb3⟩
              case measure => simp [intOf]; omega
            · obtain rfl : k = ws.length := by omega
              have hLo : L = over t ws := by unfold over; omega
              have HLo := Lib.hid hLo
              clear hLo hL hlt
              have h0 : 0 < ws.length := by
                rcases Nat.eq_zero_or_pos ws.length with h | h
                · exact absurd (by rw [← HSS.out]; simp [wSum, h, sumTo]) hS0
                · exact h
              have hLn : L ≤ ws.length := by rw [HLo.out]; exact over_le t ws (by rw [HSS.out]; omega)
              have hsort := sort_given (quo t ws) (lost t ws) ws.length w.heap.size u11 wr hown h0 (by omega)
              have hne := own_blk_ne hown hblkr (by decide)
              go_wp2_with fail
              refine hsort.mono ?_
              rintro e w5 ⟨rfl, gg, cap, rfl, hcap, hgg, hglt, hH, hgr⟩
              have hblk5 := Blk.grown hblkr hgr hne.symm
              have hb5 : Below w.heap.size w1 w5 := hbr.grown hgr hbase (fun j e => by cases e; exact hgg)
              have hgg5 : gg < w5.heap.size := Nat.lt_of_lt_of_le hglt hgr.size
              have hgn : gg ≠ g := fun e => hne (by rw [e]; rfl)
              clear hsort hgr hown hblkr hbr hne
              go_wp2_with fail
              go_loopw [95] (LoopC total ws w.heap.size g gg w1) (fun i _ => ws.length - (intOf i).toNat)
              case atStart => exact ⟨0, by omega, rfl, by rw [HT.out]; exact hH, by rw [outs_zero]; exact hblk5, hgg5, hb5⟩
              case round =>
                obtain ⟨k, hk, rfl, hH3, hblk3, hgg3, hb3⟩ := hrel
                rw [HT.out] at hH3
                by_cases hlt : k < ws.length
                · have hkL : k < (order (lost t ws) ws.length).length := by rw [order_len]; exact hlt
                  obtain ⟨c1, c2, c3⟩ := sorted_cells hH3 hkL
                  have hat := order_lt (lost t ws) ws.length hkL
                  have hstep := outs_step total ws (k := k) (by rw [HT.out]; exact hkL)
                  have hrk := rank_order (lost t ws) ws.length hkL
                  have hstep' : ∃ j, j < ws.length ∧ (order (lost t ws) ws.length)[k] = j ∧ rank (lost t ws) ws.length j = k ∧ outs total ws (k + 1) = (outs total ws k).set j (shareAt total ws j) := by
                    refine ⟨_, hat, rfl, hrk, ?_⟩
                    rw [hstep]
                    simp only [HT.out]
                  obtain ⟨j, hj, ej, hrj, hset⟩ := hstep'
                  rw [ej] at c1 c2 c3
                  clear hstep hrk hat ej
                  have hval := Lib.hid (show shareAt total ws j = sgn total * ((quo t ws j + if k < L then 1 else 0 : Nat) : Int) by
                    unfold shareAt gets
                    rw [HT.out, hrj, ← HLo.out])
                  have hqt := quo_le t ws hj
                  obtain ⟨q, hq⟩ : ∃ q, quo t ws j = q := ⟨_, rfl⟩
                  rw [hq] at c1 hqt
                  obtain ⟨l, hl3⟩ : ∃ l, lost t ws j = l := ⟨_, rfl⟩
                  rw [hl3] at c3
                  have Hq := Lib.hid hq
                  have Hset := Lib.hid hset
                  have hjo : j < (outs total ws k).length := by rw [outs_len]; exact hj
                  have c4 : wr.cell? ⟨g, j, none⟩ = some (.int .i64 (outs total ws k)[j]) := by rw [hblk3.cell j]; simp
                  have f4 := hblk3.frozen j
                  have hglt := hblk3.lt
                  generalize (outs total ws k)[j] = z at c4
                  clear hrj hq hl3 hset hjo
                  have hwg : w.heap.size ≤ wr.heap.size := by omega
                  by_cases hov : k < L
                  · go_wp2_with fail
                    go_roundw
                    case rel => exact ⟨k + 1, by omega, by go_num, by rw [HT.out]; exact HoldsG.block hH3 ((Below.heap_alloc _ _ gg (by simpa [World.setCell] using hgg3)).trans (Below.heap_setCell wr ⟨g, j, none⟩ _ gg hgn)), by
                      rw [Hset.out]
                      refine Blk.alloc (blk_out hblk3 (congrArg (Value.int .i64) ?_)) _
                      rw [hval.out, Hq.out, if_pos hov]
                      unfold sgn
                      first | rw [if_pos hneg] | rw [if_neg (show ¬ total < 0 by omega)]
                      omega, by simp [World.setCell]; omega, (hb3.setCell (p := ⟨g, j, none⟩) (show w.heap.size ≤ g by omega) _).alloc (by simpa [World.setCell] using hwg) _⟩
                    case measure => simp [intOf]; omega
                  · go_wp2_with fail
                    go_roundw
                    case rel => exact ⟨k + 1, by omega, by go_num, by rw [HT.out]; exact HoldsG.block hH3 ((Below.heap_alloc _ _ gg (by simpa [World.setCell] using hgg3)).trans (Below.heap_setCell wr ⟨g, j, none⟩ _ gg hgn)), by
                      rw [Hset.out]
                      refine Blk.alloc (blk_out hblk3 (congrArg (Value.int .i64) ?_)) _
                      rw [hval.out, Hq.out, if_neg hov]
                      unfold sgn
                      first | rw [if_pos hneg] | rw [if_neg (show ¬ total < 0 by omega)]
                      omega, by simp [World.setCell]; omega, (hb3.setCell (p := ⟨g, j, none⟩) (show w.heap.size ≤ g by omega) _).alloc (by simpa [World.setCell] using hwg) _⟩
                    case measure => simp [intOf]; omega
                · obtain rfl : k = ws.length := by omega
                  rw [outs_all] at hblk3
                  have hs : shareR total ws = (shares total ws, 0) := by
                    unfold shareR
                    rw [if_neg (by simp [HFT.out, HALL.out]; omega), if_neg (by rw [HSS.out]; exact hS0)]
                  have HR := Lib.hid hs; clear hs
                  have ho := owns_of_blk (base := w.heap.size) hblk3 (by omega) (by simp [shares]; omega)
                  rw [show (shares total ws).length = ws.length by simp [shares]] at ho
                  go_wp2_with fail
                  go_ret2
                  exact ⟨_, by rw [HR.out]; rfl, by rw [HR.out]; exact ho, hb1.trans hb3⟩

/-- fixed.Share: what it answers. -/
theorem share_any (total : Int) (ws : List Int) (v : Value) (B : Nat) (w : World) (h : Ints w B v ws) (hB : B ≤ w.heap.size) (hm : ws.length ≤ 17592186044416) :
    Calls Try.prog 19 #[.int .i64 total, v] w (SharePost total ws w) := by
  cases hf : fit total with
  | false => exact share_nofit total ws v B w h hf
  | true =>
    rcases Nat.lt_or_ge 2048 ws.length with hl | hl
    · exact share_long total ws v B w h hm hf hl
    · exact share_main total ws v B w h hB hf hl

end Go.Proofs.Ytbhdolghokhfnaa
