/-
  Walks: the reference's Share.
-/
import Derived.Test.YtbhdolghokhfnaaShareWalk
import Derived.Test.YtbhdolghokhfnaaDivided
import Derived.Deep.QuietTactic
import Derived.BigQuiet
import Derived.RegionTactic
import Derived.ChangeAlike
namespace Go.Proofs.Ytbhdolghokhfnaa
open Go.RowKit

theorem map_range_set {n b : Nat} (f g : Nat → Int) (h : ∀ j, j ≠ b → g j = f j) : (List.range n).map g = ((List.range n).map f).set b (g b) := by
  refine List.ext_getElem (by simp) fun i h1 h2 => ?_
  rw [List.getElem_set]
  by_cases e : b = i
  · subst e
    simp
  · rw [if_neg e]
    simp [h i (fun e' => e e'.symm)]
def qF (t : Nat) (ws : List Int) (k j : Nat) : Int := if j < k then ((quo t ws j : Nat) : Int) else 0
def lF (t : Nat) (ws : List Int) (k j : Nat) : Int := if j < k then ((lost t ws j : Nat) : Int) else 0
def oF (t : Nat) (ws : List Int) (m j : Nat) : Int := ((quo t ws j + if rank (lost t ws) ws.length j < m then 1 else 0 : Nat) : Int)
def pF (t : Nat) (ws : List Int) (m j : Nat) : Int := if rank (lost t ws) ws.length j < m then -1 else ((lost t ws j : Nat) : Int)
def nF (t : Nat) (ws : List Int) (k j : Nat) : Int := if j < k then -((gets t ws j : Nat) : Int) else ((gets t ws j : Nat) : Int)
def mapR (ws : List Int) (f : Nat → Int) : List Int := (List.range ws.length).map f
theorem mapR_len (ws : List Int) (f : Nat → Int) : (mapR ws f).length = ws.length := by simp [mapR]
theorem mapR_at (ws : List Int) (f : Nat → Int) {j : Nat} (h : j < (mapR ws f).length) : (mapR ws f)[j] = f j := by simp [mapR]
theorem mapR_congr (ws : List Int) {f g : Nat → Int} (h : ∀ j, j < ws.length → f j = g j) : mapR ws f = mapR ws g := List.map_congr_left fun j hj => h j (by simpa using hj)
theorem mapR_set (ws : List Int) {b : Nat} (f g : Nat → Int) (h : ∀ j, j ≠ b → g j = f j) : mapR ws g = (mapR ws f).set b (g b) := map_range_set f g h
theorem qF_zero (t : Nat) (ws : List Int) : mapR ws (qF t ws 0) = List.replicate ws.length 0 := List.ext_getElem (by simp [mapR]) fun i h1 h2 => by simp [mapR, qF]
theorem lF_zero (t : Nat) (ws : List Int) : mapR ws (lF t ws 0) = List.replicate ws.length 0 := List.ext_getElem (by simp [mapR]) fun i h1 h2 => by simp [mapR, lF]
theorem qF_step (t : Nat) (ws : List Int) {k : Nat} : mapR ws (qF t ws (k + 1)) = (mapR ws (qF t ws k)).set k ((quo t ws k : Nat) : Int) := by
  have e : ∀ j, j ≠ k → qF t ws (k + 1) j = qF t ws k j := fun j hj => by
    simp only [qF]
    by_cases h : j < k
    · rw [if_pos h, if_pos (by omega)]
    · rw [if_neg h, if_neg (by omega)]
  rw [mapR_set ws (qF t ws k) (qF t ws (k + 1)) e]
  simp [qF]
theorem lF_step (t : Nat) (ws : List Int) {k : Nat} : mapR ws (lF t ws (k + 1)) = (mapR ws (lF t ws k)).set k ((lost t ws k : Nat) : Int) := by
  have e : ∀ j, j ≠ k → lF t ws (k + 1) j = lF t ws k j := fun j hj => by
    simp only [lF]
    by_cases h : j < k
    · rw [if_pos h, if_pos (by omega)]
    · rw [if_neg h, if_neg (by omega)]
  rw [mapR_set ws (lF t ws k) (lF t ws (k + 1)) e]
  simp [lF]
theorem qF_all (t : Nat) (ws : List Int) : mapR ws (qF t ws ws.length) = mapR ws (oF t ws 0) := mapR_congr ws fun j hj => by simp [qF, oF, hj]
theorem lF_all (t : Nat) (ws : List Int) : mapR ws (lF t ws ws.length) = mapR ws (pF t ws 0) := mapR_congr ws fun j hj => by simp [lF, pF, hj]
theorem oF_step (t : Nat) (ws : List Int) {b m : Nat} (hb : b < ws.length) (hr : rank (lost t ws) ws.length b = m) : mapR ws (oF t ws (m + 1)) = (mapR ws (oF t ws m)).set b (oF t ws m b + 1) := by
  have hne : ∀ j, j < ws.length → j ≠ b → rank (lost t ws) ws.length j ≠ m := fun j hj hjb e => hjb (rank_inj _ hj hb (e.trans hr.symm))
  have h1 : mapR ws (oF t ws (m + 1)) = mapR ws (fun j => if j = b then oF t ws m b + 1 else oF t ws m j) := mapR_congr ws fun j hj => by
    by_cases e : j = b
    · subst e
      rw [if_pos rfl]
      simp only [oF, hr, if_pos (Nat.lt_succ_self m), if_neg (Nat.lt_irrefl m)]
      omega
    · rw [if_neg e]
      have := hne j hj e
      simp only [oF]
      by_cases h : rank (lost t ws) ws.length j < m
      · rw [if_pos h, if_pos (by omega)]
      · rw [if_neg h, if_neg (by omega)]
  rw [h1, mapR_set ws (oF t ws m) _ fun j hj => if_neg hj, if_pos rfl]
theorem pF_step (t : Nat) (ws : List Int) {b m : Nat} (hb : b < ws.length) (hr : rank (lost t ws) ws.length b = m) : mapR ws (pF t ws (m + 1)) = (mapR ws (pF t ws m)).set b (-1) := by
  have hne : ∀ j, j < ws.length → j ≠ b → rank (lost t ws) ws.length j ≠ m := fun j hj hjb e => hjb (rank_inj _ hj hb (e.trans hr.symm))
  have h1 : mapR ws (pF t ws (m + 1)) = mapR ws (fun j => if j = b then -1 else pF t ws m j) := mapR_congr ws fun j hj => by
    by_cases e : j = b
    · subst e
      simp only [pF, hr, if_pos (Nat.lt_succ_self m), if_true]
    · rw [if_neg e]
      have := hne j hj e
      simp only [pF]
      by_cases h : rank (lost t ws) ws.length j < m
      · rw [if_pos h, if_pos (by omega)]
      · rw [if_neg h, if_neg (by omega)]
  rw [h1, mapR_set ws (pF t ws m) _ fun j hj => if_neg hj, if_pos rfl]
theorem oF_gets (t : Nat) (ws : List Int) : mapR ws (oF t ws (over t ws)) = mapR ws (nF t ws 0) := mapR_congr ws fun j _ => by simp [oF, nF, gets]
theorem nF_step (t : Nat) (ws : List Int) {k : Nat} : mapR ws (nF t ws (k + 1)) = (mapR ws (nF t ws k)).set k (-((gets t ws k : Nat) : Int)) := by
  have e : ∀ j, j ≠ k → nF t ws (k + 1) j = nF t ws k j := fun j hj => by
    simp only [nF]
    by_cases h : j < k
    · rw [if_pos h, if_pos (by omega)]
    · rw [if_neg h, if_neg (by omega)]
  rw [mapR_set ws (nF t ws k) (nF t ws (k + 1)) e]
  simp [nF]
theorem nF_pos {total : Int} (ws : List Int) (h : 0 ≤ total) : mapR ws (nF total.natAbs ws 0) = shares total ws := by
  unfold shares mapR
  refine List.map_congr_left fun j _ => ?_
  rw [shareAt_pos _ _ _ h]
  simp [nF]
theorem nF_neg {total : Int} (ws : List Int) (h : total < 0) : mapR ws (nF total.natAbs ws ws.length) = shares total ws := by
  unfold shares mapR
  refine List.map_congr_left fun j hj => ?_
  rw [shareAt_neg _ _ _ h]
  simp at hj
  simp [nF, hj]
/-- The first of those of which most was lost, of those that are not picked yet, is the next by rank. -/
theorem pick_rank (t : Nat) (ws : List Int) {b m : Nat} (hm : m < ws.length)
    (h1 : ∀ j, j < ws.length → pF t ws m j ≤ pF t ws m b) (h2 : ∀ j, j < b → pF t ws m j < pF t ws m b) : rank (lost t ws) ws.length b = m := by
  have hk : m < (order (lost t ws) ws.length).length := by rw [order_len]; exact hm
  have hlt := order_lt (lost t ws) ws.length hk
  have hr := rank_order (lost t ws) ws.length hk
  generalize (order (lost t ws) ws.length)[m] = c at *
  have hc := h1 c hlt
  have e1 : pF t ws m c = ((lost t ws c : Nat) : Int) := by unfold pF; rw [if_neg (by omega)]
  rw [e1] at hc
  have hnb : ¬ rank (lost t ws) ws.length b < m := fun h => by
    have e2 : pF t ws m b = -1 := by unfold pF; rw [if_pos h]
    omega
  have e2 : pF t ws m b = ((lost t ws b : Nat) : Int) := by unfold pF; rw [if_neg hnb]
  rw [e2] at hc
  rcases Nat.lt_or_ge m (rank (lost t ws) ws.length b) with hgt | hle
  · exfalso
    have hbc : before (lost t ws) b c = true ∨ b = c ∨ before (lost t ws) c b = true := by
      rw [before_iff, before_iff]
      omega
    rcases hbc with hbc | hbc | hbc
    · have := rank_mono (n := ws.length) hbc
      omega
    · subst hbc
      omega
    · rw [before_iff] at hbc
      rcases hbc with h3 | ⟨h3, h4⟩
      · omega
      · have := h2 c h4
        rw [e1, e2] at this
        omega
  · omega

theorem rshare_nofit (total : Int) (ws : List Int) (v : Value) (B : Nat) (w : World) (h : Ints w B v ws) (hf : fit total = false) :
    Calls Try.prog 67 #[.int .i64 total, v] w (SharePost total ws w) := by
  have hs := Lib.hid (show shareR total ws = ([], 2) by unfold shareR; rw [if_pos (by simp [hf])])
  have hg := fun W => rfits total W
  rw [hf] at hg
  clear hf
  obtain ⟨A, c, rfl, _, _⟩ := h
  go_enter Try.func67, Try.ntmps67
  go_wp2_with fail
  refine (hg _).mono ?_
  rintro e w' ⟨rfl, rfl⟩
  go_wp2_with fail
  go_ret2
  exact ⟨.slice none 0 0, by rw [hs.out]; rfl, by rw [hs.out]; exact Owns.nil _ _, Below.refl _ _⟩

theorem rshare_long (total : Int) (ws : List Int) (v : Value) (B : Nat) (w : World) (h : Ints w B v ws) (hm : ws.length ≤ 17592186044416) (hf : fit total = true) (hl : 2048 < ws.length) :
    Calls Try.prog 67 #[.int .i64 total, v] w (SharePost total ws w) := by
  have hs := Lib.hid (show shareR total ws = ([], 2) by unfold shareR; rw [if_pos (by simp [hl])])
  have hg := fun W => rfits total W
  rw [hf] at hg
  clear hf
  obtain ⟨A, c, rfl, _, _⟩ := h
  go_enter Try.func67, Try.ntmps67
  go_wp2_with fail
  refine (hg _).mono ?_
  rintro e w' ⟨rfl, rfl⟩
  go_wp2_with fail
  go_ret2
  exact ⟨.slice none 0 0, by rw [hs.out]; rfl, by rw [hs.out]; exact Owns.nil _ _, Below.refl _ _⟩

def RA (ws : List Int) (s i : Value) : Prop := ∃ k : Nat, k ≤ ws.length ∧ i = .int .i64 k ∧ s = .int .i64 (sumTo (wAt ws) k : Nat) ∧ (ws.take k).all isWeight = true
theorem made_blk (W : World) (n : Nat) : (W.alloc (.cells (madeCells #[.int .i64 0] n) 3)) = W.alloc (.cells ((List.replicate n (0 : Int)).map (Value.int .i64)).toArray 3) := by rw [made_zeros]
/-- A row of ints that is known whole. -/
def IBlk (w : World) (g : Nat) (zs : List Int) : Prop := Blk w g 3 (zs.map (Value.int .i64)).toArray

theorem gets_top (t : Nat) (ws : List Int) (hS : 0 < wSum ws) {i : Nat} (hi : i < ws.length) : gets t ws i ≤ t := by
  have h1 := gets_sum t ws hS
  have h2 : sumTo (gets t ws) (i + 1) ≤ sumTo (gets t ws) ws.length := sumTo_mono hi
  rw [sumTo] at h2
  omega
def R5 (t : Nat) (ws : List Int) (w : World) (gO : Nat) (i : Value) (wr : World) : Prop :=
  ∃ k : Nat, k ≤ ws.length ∧ i = .int .i64 k ∧ IBlk wr gO (mapR ws (nF t ws k)) ∧ Below w.heap.size w wr
def R3 (t : Nat) (ws : List Int) (w : World) (gO gL ov : Nat) (left : Value) (wr : World) : Prop :=
  ∃ m L : Nat, L + m = ov ∧ left = .int .i64 L ∧ IBlk wr gO (mapR ws (oF t ws m)) ∧ IBlk wr gL (mapR ws (pF t ws m)) ∧ Below w.heap.size w wr
def R4 (t : Nat) (ws : List Int) (m : Nat) (w0 : World) (best i : Value) (wr : World) : Prop :=
  ∃ b k : Nat, b < ws.length ∧ k ≤ ws.length ∧ best = .int .i64 b ∧ i = .int .i64 k ∧ (∀ j, j < k → pF t ws m j ≤ pF t ws m b) ∧ (∀ j, j < b → pF t ws m j < pF t ws m b) ∧ Quiet w0 wr
theorem blk_pair (w : World) (n : Nat) : IBlk ((w.alloc (.cells (Array.replicate n (Value.int .i64 0)) 3)).alloc (.cells (Array.replicate n (Value.int .i64 0)) 3)).drew w.heap.size (List.replicate n 0) ∧
    IBlk ((w.alloc (.cells (Array.replicate n (Value.int .i64 0)) 3)).alloc (.cells (Array.replicate n (Value.int .i64 0)) 3)).drew (w.heap.size + 1) (List.replicate n 0) ∧
    Below w.heap.size w ((w.alloc (.cells (Array.replicate n (Value.int .i64 0)) 3)).alloc (.cells (Array.replicate n (Value.int .i64 0)) 3)).drew := by
  have e : ((List.replicate n (0 : Int)).map (Value.int .i64)).toArray = Array.replicate n (Value.int .i64 0) := by simp
  refine ⟨?_, ?_, below_drewN (((Below.refl _ w).alloc (Nat.le_refl _) _).alloc (by simp) _) 1⟩
  · unfold IBlk
    rw [e]
    exact Blk.drew (Blk.alloc (Blk.new w _ _) _)
  · unfold IBlk
    rw [e]
    have h := Blk.new (w.alloc (.cells (Array.replicate n (Value.int .i64 0)) 3)) 3 (Array.replicate n (Value.int .i64 0))
    rw [World.size_alloc] at h
    exact h.drew
def R2 (t : Nat) (ws : List Int) (w : World) (gO gL : Nat) (left i : Value) (wr : World) : Prop :=
  ∃ k L : Nat, k ≤ ws.length ∧ i = .int .i64 k ∧ left = .int .i64 L ∧ L + sumTo (quo t ws) k = t ∧ IBlk wr gO (mapR ws (qF t ws k)) ∧ IBlk wr gL (mapR ws (lF t ws k)) ∧ Below w.heap.size w wr

set_option maxRecDepth 100000 in
set_option maxHeartbeats 4000000 in
theorem rshare_pos (t : Nat) (ws : List Int) (v : Value) (B : Nat) (w : World) (h : Ints w B v ws) (hB : B ≤ w.heap.size) (hf : fit (t : Int) = true) (hl : ws.length ≤ 2048) :
    Calls Try.prog 67 #[.int .i64 (t : Int), v] w (SharePost (t : Int) ws w) := by
  have hg := fun W => rfits (t : Int) W
  obtain ⟨hf1, hf2⟩ := (fit_iff (t : Int)).1 hf
  have HFT := Lib.hid hf
  have htb : t ≤ 1099511627776 := by omega
  rw [hf] at hg
  clear hf
  have h' := h.more hB
  obtain ⟨A, c, rfl, hc, hr⟩ := h'
  obtain ⟨i0, hi0, hz0, hzs, hzb⟩ := info_parts Try.infoInt
  have hmk := fun W : World => run_make_rowN (P := Try.prog) 22 3 i0 _ Try.underlying22 hi0 hz0 .i64 .i64 ws.length ws.length (Nat.le_refl _) (by rw [hzb]; omega) (by omega) W
  rw [hzs, Nat.mul_one] at hmk
  clear hi0 hz0 hzs hzb
  go_enter Try.func67, Try.ntmps67
  go_wp2_with fail
  refine (hg _).mono ?_
  rintro e w' ⟨rfl, rfl⟩
  go_wp2_with fail
  go_loop [6, 7] (RA ws) (fun _ i => ws.length - (intOf i).toNat)
  case atStart => exact ⟨0, by omega, rfl, rfl, rfl⟩
  case round =>
    obtain ⟨k, hk, rfl, rfl, hall⟩ := hrel
    have hsb := take_sum_bd hk hall
    have Hall := Lib.hid hall; clear hall
    by_cases hlt : k < ws.length
    · obtain ⟨ad, rfl, hb, hcell⟩ := hr.val hlt
      by_cases hwk : isWeight ws[k] = true
      · obtain ⟨q1, q2⟩ := (isWeight_iff _).1 hwk
        have hn1 : ¬ ws[k] < 0 := by omega
        have hn2 : ¬ 1125899906842624 < ws[k] := by omega
        have HS := Lib.hid (sum_step hlt hwk)
        have HA := Lib.hid (take_all_w hlt Hall.out hwk)
        clear hwk
        go_wp2_with fail
        go_round
        case rel => exact ⟨k + 1, by omega, by go_num, by rw [HS.out], HA.out⟩
        case measure => simp [intOf]; omega
      · have hbad := Lib.hid (show shareR (t : Int) ws = ([], 2) by
          unfold shareR
          rw [if_pos]
          have : ws.all isWeight = false := by
            rw [← Bool.not_eq_true]
            intro ha
            exact hwk (List.all_eq_true.1 ha _ (List.getElem_mem hlt))
          simp [this])
        have hwk2 : ws[k] < 0 ∨ 1125899906842624 < ws[k] := by
          rcases Int.lt_or_le ws[k] 0 with h | h
          · exact .inl h
          · refine .inr (Int.not_le.1 fun h2 => hwk ((isWeight_iff _).2 ⟨h, h2⟩))
        clear hwk
        rcases hwk2 with hwk2 | hwk2
        all_goals
          go_wp2_with fail
          all_goals
            go_ret2
            exact ⟨.slice none 0 0, by rw [hbad.out]; rfl, by rw [hbad.out]; exact Owns.nil _ _, Below.refl _ _⟩
    · obtain rfl : k = ws.length := by omega
      have hall' : ws.all isWeight = true := by have := Hall.out; rwa [List.take_of_length_le (Nat.le_refl _)] at this
      have HALL := Lib.hid hall'
      have hSb := wSum_bd hall' hl
      clear Hall hall' hsb hlt
      change sumTo (wAt ws) ws.length ≤ _ at hSb
      obtain ⟨S, hS⟩ : ∃ S, wSum ws = S := ⟨_, rfl⟩
      have eS : sumTo (wAt ws) ws.length = S := hS
      rw [eS] at hSb ⊢
      have HSS := Lib.hid hS; clear hS eS
      rw [show (Value.int .i64 0).cells = #[Value.int .i64 0] from rfl, made_zeros] at hmk
      go_wp2_with fail
      go_region
      · have hA := blk_pair w ws.length
        obtain ⟨hA1, hA2, hbel⟩ := hA
        generalize ((w.alloc (.cells (Array.replicate ws.length (Value.int .i64 0)) 3)).alloc (.cells (Array.replicate ws.length (Value.int .i64 0)) 3)).drew = W2 at hA1 hA2 hbel ⊢
        have hne : w.heap.size ≠ w.heap.size + 1 := by omega
        have hba : w.heap.size ≤ w.heap.size := Nat.le_refl _
        have hbb : w.heap.size ≤ w.heap.size + 1 := Nat.le_succ _
        have hbel' := Lib.hid hbel
        obtain ⟨gb, hgb⟩ : ∃ g, w.heap.size + 1 = g := ⟨_, rfl⟩
        rw [hgb] at hA2 hne hbb ⊢
        obtain ⟨ga, hga⟩ : ∃ g, w.heap.size = g := ⟨_, rfl⟩
        have hA1' : IBlk W2 ga (List.replicate ws.length 0) := by rw [← hga]; exact hA1
        have hne' : ga ≠ gb := by omega
        have hba' : w.heap.size ≤ ga := by omega
        rw [hga]
        clear hA1 hne hba hgb hga
        by_cases hS0 : S = 0
        · subst hS0
          have hs : shareR (t : Int) ws = (List.replicate ws.length 0, 0) := by
            unfold shareR
            rw [if_neg (by simp [HFT.out, HALL.out]; omega), if_pos HSS.out]
          have HR := Lib.hid hs; clear hs
          have ho := owns_of_blk (base := w.heap.size) hA1' (by omega) (by simp; omega)
          rw [List.length_replicate] at ho
          go_wp2_with fail
          go_ret2
          exact ⟨_, by rw [HR.out]; rfl, by rw [HR.out]; exact ho, hbel⟩
        · have hS1 : ((S : Int) == 0) = false := by simp; omega
          have h0 : 0 < ws.length := by
            rcases Nat.eq_zero_or_pos ws.length with h | h
            · exact absurd (by rw [← HSS.out]; simp [wSum, h, sumTo]) hS0
            · exact h
          go_wp2_with fail
          go_loopw [11, 12] (R2 t ws w ga gb) (fun _ i _ => ws.length - (intOf i).toNat)
          case atStart => exact ⟨0, t, by omega, rfl, rfl, by simp [sumTo], by rw [qF_zero]; exact hA1', by rw [lF_zero]; exact hA2, hbel⟩
          case round =>
            obtain ⟨k, Lf, hk, rfl, rfl, hLs, bO, bL, hbr⟩ := hrel
            have hLt : Lf ≤ t := by omega
            have HLs := Lib.hid hLs; clear hLs
            by_cases hlt : k < ws.length
            · obtain ⟨ad, rfl, hbA, hcell⟩ := (hr.below hbr).val hlt
              obtain ⟨y, hy⟩ := Int.eq_ofNat_of_zero_le (weight_at HALL.out k hlt).1
              rw [hy] at hcell
              have hyb : y ≤ 1125899906842624 := by have := (weight_at HALL.out k hlt).2; omega
              have Hy := Lib.hid (show wAt ws k = y by rw [wAt_at hlt, hy]; rfl)
              have hyS : y ≤ S := by rw [← Hy.out, ← HSS.out]; exact wAt_le_sum ws hlt
              have hdv := fun W => divided_any t y S W htb hyS hyb (by omega) hSb
              obtain ⟨q, hq⟩ : ∃ q, t * y / S = q := ⟨_, rfl⟩
              obtain ⟨l, hlq⟩ : ∃ l, t * y % S = l := ⟨_, rfl⟩
              rw [hq, hlq] at hdv
              have Hq := Lib.hid (show quo t ws k = q by unfold quo; rw [Hy.out, HSS.out, hq])
              have Hl := Lib.hid (show lost t ws k = l by unfold lost; rw [Hy.out, HSS.out, hlq])
              have hqL : q ≤ Lf := by
                have := quos_le t ws (by rw [HSS.out]; omega) (show k + 1 ≤ ws.length from hlt)
                have := HLs.out
                rw [sumTo, Hq.out] at *
                omega
              have HQS := Lib.hid (qF_step t ws (k := k))
              have HLS := Lib.hid (lF_step t ws (k := k))
              have cO : wr.cell? ⟨ga, k, none⟩ = some (.int .i64 (qF t ws k k)) := by rw [Blk.cell bO k]; simp [mapR, hlt]
              have cL : wr.cell? ⟨gb, k, none⟩ = some (.int .i64 (lF t ws k k)) := by rw [Blk.cell bL k]; simp [mapR, hlt]
              have fO := Blk.frozen bO k
              have fL := Blk.frozen bL k
              generalize qF t ws k k = z1 at cO
              generalize lF t ws k k = z2 at cL
              clear hq hlq hy
              go_wp2_with fail
              refine (hdv _).mono ?_
              rintro e w5 ⟨rfl, rfl⟩
              go_wp2_with fail
              go_roundw
              case rel => exact ⟨k + 1, Lf - q, hlt, by go_num, by go_num, by rw [sumTo, Hq.out]; have := HLs.out; omega, by
                rw [HQS.out]
                exact Blk.far (blk_out bO (congrArg (fun n : Nat => Value.int .i64 (n : Int)) Hq.out.symm)) (p := ⟨gb, k, none⟩) hne' _, by
                rw [HLS.out]
                exact blk_out (Blk.far bL (p := ⟨ga, k, none⟩) hne'.symm _) (congrArg (fun n : Nat => Value.int .i64 (n : Int)) Hl.out.symm), (hbr.setCell (p := ⟨ga, k, none⟩) (by show w.heap.size ≤ ga; omega) _).setCell (p := ⟨gb, k, none⟩) (by show w.heap.size ≤ gb; omega) _⟩
              case measure => simp [intOf]; omega
            · obtain rfl : k = ws.length := by omega
              have hLo : Lf = over t ws := by unfold over; have := HLs.out; omega
              have hLn : Lf ≤ ws.length := by rw [hLo]; exact over_le t ws (by rw [HSS.out]; omega)
              have HLo := Lib.hid hLo; clear hLo HLs hlt hk
              rw [qF_all] at bO
              rw [lF_all] at bL
              go_wp2_with fail
              go_loopw [11] (R3 t ws w ga gb Lf) (fun left _ => (intOf left).toNat)
              case atStart => exact ⟨0, Lf, by omega, rfl, bO, bL, hbr⟩
              case round =>
                clear bO bL hbr
                obtain ⟨m, P, hmP, rfl, bO, bL, hbr⟩ := hrel
                rcases Nat.eq_zero_or_pos P with hP0 | hP0
                · subst hP0
                  obtain rfl : m = Lf := by omega
                  rw [HLo.out, oF_gets] at bO
                  have HBL := Lib.hid bL; clear bL
                  have hs : shareR (t : Int) ws = (shares (t : Int) ws, 0) := by
                    unfold shareR
                    rw [if_neg (by simp [HFT.out, HALL.out]; omega), if_neg (by rw [HSS.out]; exact hS0)]
                  have HR := Lib.hid hs; clear hs
                  have hsh := nF_pos (total := (t : Int)) ws (by omega)
                  rw [show ((t : Int)).natAbs = t from rfl] at hsh
                  rw [hsh] at bO
                  have ho := owns_of_blk (base := w.heap.size) bO (by omega) (by simp [shares]; omega)
                  rw [show (shares (t : Int) ws).length = ws.length by simp [shares]] at ho
                  clear hsh
                  go_wp2_with fail
                  refine wp_loop_rounds 1 ?_
                  rw [rounds_succ]
                  go_wp2_with fail
                  go_ret2
                  exact ⟨_, by rw [HR.out]; rfl, by rw [HR.out]; exact ho, hbr⟩
                · have hmn : m < ws.length := by omega
                  go_wp2_with fail
                  go_loopw [13, 14] (R4 t ws m wr) (fun _ i _ => ws.length - (intOf i).toNat)
                  case atStart => exact ⟨0, 0, h0, by omega, rfl, rfl, fun j hj => absurd hj (by omega), fun j hj => absurd hj (by omega), Quiet.refl _⟩
                  case round =>
                    obtain ⟨b, i, hb, hi, rfl, rfl, hle, hls, mo, rfl⟩ := hrel
                    have HLE := Lib.hid hle
                    have HLT := Lib.hid hls
                    clear hle hls
                    by_cases hlt : i < ws.length
                    · have ci : wr.cell? ⟨gb, i, none⟩ = some (.int .i64 (pF t ws m i)) := by rw [Blk.cell bL i]; simp [mapR, hlt]
                      have cb : wr.cell? ⟨gb, b, none⟩ = some (.int .i64 (pF t ws m b)) := by rw [Blk.cell bL b]; simp [mapR, hb]
                      have hi0 : (0 : Int) ≤ (i : Int) := by omega
                      have hi1 : (i : Int) < (ws.length : Int) := by omega
                      have hb0 : (0 : Int) ≤ (b : Int) := by omega
                      have hb1 : (b : Int) < (ws.length : Int) := by omega
                      obtain ⟨x, hx⟩ : ∃ x, pF t ws m i = x := ⟨_, rfl⟩
                      obtain ⟨y, hy⟩ : ∃ y, pF t ws m b = y := ⟨_, rfl⟩
                      rw [hx] at ci
                      rw [hy] at cb
                      have HX := Lib.hid hx
                      have HY := Lib.hid hy
                      clear hx hy
                      by_cases hgt : y < x
                      · have hgB : decide (y < x) = true := by simp [hgt]
                        go_wp2_with fail
                        go_quiet (fail)
                        go_wp2_with fail
                        go_roundw
                        case rel => exact ⟨i, i + 1, hlt, hlt, rfl, by go_num, fun j hj => by
                          rw [HX.out]
                          rcases Nat.lt_or_ge j i with h | h
                          · have := HLE.out j h
                            rw [HY.out] at this
                            omega
                          · obtain rfl : j = i := by omega
                            rw [HX.out]
                            omega, fun j hj => by
                          have := HLE.out j hj
                          rw [HY.out] at this
                          rw [HX.out]
                          omega, _, rfl⟩
                        case measure => simp [intOf]; omega
                      · have hgB : decide (y < x) = false := by simp; omega
                        go_wp2_with fail
                        go_quiet (fail)
                        go_wp2_with fail
                        go_roundw
                        case rel => exact ⟨b, i + 1, hb, hlt, rfl, by go_num, fun j hj => by
                          rcases Nat.lt_or_ge j i with h | h
                          · exact HLE.out j h
                          · obtain rfl : j = i := by omega
                            rw [HX.out, HY.out]
                            omega, HLT.out, _, rfl⟩
                        case measure => simp [intOf]; omega
                    · obtain rfl : i = ws.length := by omega
                      have hrk := pick_rank t ws hmn HLE.out HLT.out
                      have HOS := Lib.hid (oF_step t ws hb hrk)
                      have HPS := Lib.hid (pF_step t ws hb hrk)
                      have hqt := quo_le t ws hb
                      have cO : wr.cell? ⟨ga, b, none⟩ = some (.int .i64 (oF t ws m b)) := by rw [Blk.cell bO b]; simp [mapR, hb]
                      have cL : wr.cell? ⟨gb, b, none⟩ = some (.int .i64 (pF t ws m b)) := by rw [Blk.cell bL b]; simp [mapR, hb]
                      have fO := Blk.frozen bO b
                      have fL := Blk.frozen bL b
                      have zO : 0 ≤ oF t ws m b ∧ oF t ws m b ≤ 1099511627777 := by
                        unfold oF
                        split <;> omega
                      obtain ⟨zO1, zO2⟩ := zO
                      obtain ⟨z, hz⟩ : ∃ z, oF t ws m b = z := ⟨_, rfl⟩
                      rw [hz] at cO zO1 zO2
                      have HZ := Lib.hid hz; clear hz
                      generalize pF t ws m b = z2 at cL
                      clear hrk
                      go_wp2_with fail
                      go_roundw
                      case rel => exact ⟨m + 1, P - 1, by omega, by go_num, by
                        rw [HOS.out, HZ.out]
                        exact Blk.far (blk_out (Blk.drewN bO mo) rfl) (p := ⟨gb, b, none⟩) hne' _, by
                        rw [HPS.out]
                        exact blk_out (Blk.far (Blk.drewN bL mo) (p := ⟨ga, b, none⟩) hne'.symm _) rfl, ((below_drewN hbr mo).setCell (p := ⟨ga, b, none⟩) (by show w.heap.size ≤ ga; omega) _).setCell (p := ⟨gb, b, none⟩) (by show w.heap.size ≤ gb; omega) _⟩
                      case measure => simp [intOf]; omega
      · have hA := blk_pair w ws.length
        obtain ⟨hA1, hA2, hbel⟩ := hA
        generalize ((w.alloc (.cells (Array.replicate ws.length (Value.int .i64 0)) 3)).alloc (.cells (Array.replicate ws.length (Value.int .i64 0)) 3)).drew = W2 at hA1 hA2 hbel ⊢
        have hne : w.heap.size ≠ w.heap.size + 1 := by omega
        have hba : w.heap.size ≤ w.heap.size := Nat.le_refl _
        have hbb : w.heap.size ≤ w.heap.size + 1 := Nat.le_succ _
        have hbel' := Lib.hid hbel
        obtain ⟨gb, hgb⟩ : ∃ g, w.heap.size + 1 = g := ⟨_, rfl⟩
        rw [hgb] at hA2 hne hbb ⊢
        obtain ⟨ga, hga⟩ : ∃ g, w.heap.size = g := ⟨_, rfl⟩
        have hA1' : IBlk W2 ga (List.replicate ws.length 0) := by rw [← hga]; exact hA1
        have hne' : ga ≠ gb := by omega
        have hba' : w.heap.size ≤ ga := by omega
        rw [hga]
        clear hA1 hne hba hgb hga
        by_cases hS0 : S = 0
        · subst hS0
          have hs : shareR (t : Int) ws = (List.replicate ws.length 0, 0) := by
            unfold shareR
            rw [if_neg (by simp [HFT.out, HALL.out]; omega), if_pos HSS.out]
          have HR := Lib.hid hs; clear hs
          have ho := owns_of_blk (base := w.heap.size) hA2 (by omega) (by simp; omega)
          rw [List.length_replicate] at ho
          go_wp2_with fail
          go_ret2
          exact ⟨_, by rw [HR.out]; rfl, by rw [HR.out]; exact ho, hbel⟩
        · have hS1 : ((S : Int) == 0) = false := by simp; omega
          have h0 : 0 < ws.length := by
            rcases Nat.eq_zero_or_pos ws.length with h | h
            · exact absurd (by rw [← HSS.out]; simp [wSum, h, sumTo]) hS0
            · exact h
          go_wp2_with fail
          go_loopw [11, 12] (R2 t ws w gb ga) (fun _ i _ => ws.length - (intOf i).toNat)
          case atStart => exact ⟨0, t, by omega, rfl, rfl, by simp [sumTo], by rw [qF_zero]; exact hA2, by rw [lF_zero]; exact hA1', hbel⟩
          case round =>
            obtain ⟨k, Lf, hk, rfl, rfl, hLs, bO, bL, hbr⟩ := hrel
            have hLt : Lf ≤ t := by omega
            have HLs := Lib.hid hLs; clear hLs
            by_cases hlt : k < ws.length
            · obtain ⟨ad, rfl, hbA, hcell⟩ := (hr.below hbr).val hlt
              obtain ⟨y, hy⟩ := Int.eq_ofNat_of_zero_le (weight_at HALL.out k hlt).1
              rw [hy] at hcell
              have hyb : y ≤ 1125899906842624 := by have := (weight_at HALL.out k hlt).2; omega
              have Hy := Lib.hid (show wAt ws k = y by rw [wAt_at hlt, hy]; rfl)
              have hyS : y ≤ S := by rw [← Hy.out, ← HSS.out]; exact wAt_le_sum ws hlt
              have hdv := fun W => divided_any t y S W htb hyS hyb (by omega) hSb
              obtain ⟨q, hq⟩ : ∃ q, t * y / S = q := ⟨_, rfl⟩
              obtain ⟨l, hlq⟩ : ∃ l, t * y % S = l := ⟨_, rfl⟩
              rw [hq, hlq] at hdv
              have Hq := Lib.hid (show quo t ws k = q by unfold quo; rw [Hy.out, HSS.out, hq])
              have Hl := Lib.hid (show lost t ws k = l by unfold lost; rw [Hy.out, HSS.out, hlq])
              have hqL : q ≤ Lf := by
                have := quos_le t ws (by rw [HSS.out]; omega) (show k + 1 ≤ ws.length from hlt)
                have := HLs.out
                rw [sumTo, Hq.out] at *
                omega
              have HQS := Lib.hid (qF_step t ws (k := k))
              have HLS := Lib.hid (lF_step t ws (k := k))
              have cO : wr.cell? ⟨gb, k, none⟩ = some (.int .i64 (qF t ws k k)) := by rw [Blk.cell bO k]; simp [mapR, hlt]
              have cL : wr.cell? ⟨ga, k, none⟩ = some (.int .i64 (lF t ws k k)) := by rw [Blk.cell bL k]; simp [mapR, hlt]
              have fO := Blk.frozen bO k
              have fL := Blk.frozen bL k
              generalize qF t ws k k = z1 at cO
              generalize lF t ws k k = z2 at cL
              clear hq hlq hy
              go_wp2_with fail
              refine (hdv _).mono ?_
              rintro e w5 ⟨rfl, rfl⟩
              go_wp2_with fail
              go_roundw
              case rel => exact ⟨k + 1, Lf - q, hlt, by go_num, by go_num, by rw [sumTo, Hq.out]; have := HLs.out; omega, by
                rw [HQS.out]
                exact Blk.far (blk_out bO (congrArg (fun n : Nat => Value.int .i64 (n : Int)) Hq.out.symm)) (p := ⟨ga, k, none⟩) hne'.symm _, by
                rw [HLS.out]
                exact blk_out (Blk.far bL (p := ⟨gb, k, none⟩) hne' _) (congrArg (fun n : Nat => Value.int .i64 (n : Int)) Hl.out.symm), (hbr.setCell (p := ⟨gb, k, none⟩) (by show w.heap.size ≤ gb; omega) _).setCell (p := ⟨ga, k, none⟩) (by show w.heap.size ≤ ga; omega) _⟩
              case measure => simp [intOf]; omega
            · obtain rfl : k = ws.length := by omega
              have hLo : Lf = over t ws := by unfold over; have := HLs.out; omega
              have hLn : Lf ≤ ws.length := by rw [hLo]; exact over_le t ws (by rw [HSS.out]; omega)
              have HLo := Lib.hid hLo; clear hLo HLs hlt hk
              rw [qF_all] at bO
              rw [lF_all] at bL
              go_wp2_with fail
              go_loopw [11] (R3 t ws w gb ga Lf) (fun left _ => (intOf left).toNat)
              case atStart => exact ⟨0, Lf, by omega, rfl, bO, bL, hbr⟩
              case round =>
                clear bO bL hbr
                obtain ⟨m, P, hmP, rfl, bO, bL, hbr⟩ := hrel
                rcases Nat.eq_zero_or_pos P with hP0 | hP0
                · subst hP0
                  obtain rfl : m = Lf := by omega
                  rw [HLo.out, oF_gets] at bO
                  have HBL := Lib.hid bL; clear bL
                  have hs : shareR (t : Int) ws = (shares (t : Int) ws, 0) := by
                    unfold shareR
                    rw [if_neg (by simp [HFT.out, HALL.out]; omega), if_neg (by rw [HSS.out]; exact hS0)]
                  have HR := Lib.hid hs; clear hs
                  have hsh := nF_pos (total := (t : Int)) ws (by omega)
                  rw [show ((t : Int)).natAbs = t from rfl] at hsh
                  rw [hsh] at bO
                  have ho := owns_of_blk (base := w.heap.size) bO (by omega) (by simp [shares]; omega)
                  rw [show (shares (t : Int) ws).length = ws.length by simp [shares]] at ho
                  clear hsh
                  go_wp2_with fail
                  refine wp_loop_rounds 1 ?_
                  rw [rounds_succ]
                  go_wp2_with fail
                  go_ret2
                  exact ⟨_, by rw [HR.out]; rfl, by rw [HR.out]; exact ho, hbr⟩
                · have hmn : m < ws.length := by omega
                  go_wp2_with fail
                  go_loopw [13, 14] (R4 t ws m wr) (fun _ i _ => ws.length - (intOf i).toNat)
                  case atStart => exact ⟨0, 0, h0, by omega, rfl, rfl, fun j hj => absurd hj (by omega), fun j hj => absurd hj (by omega), Quiet.refl _⟩
                  case round =>
                    obtain ⟨b, i, hb, hi, rfl, rfl, hle, hls, mo, rfl⟩ := hrel
                    have HLE := Lib.hid hle
                    have HLT := Lib.hid hls
                    clear hle hls
                    by_cases hlt : i < ws.length
                    · have ci : wr.cell? ⟨ga, i, none⟩ = some (.int .i64 (pF t ws m i)) := by rw [Blk.cell bL i]; simp [mapR, hlt]
                      have cb : wr.cell? ⟨ga, b, none⟩ = some (.int .i64 (pF t ws m b)) := by rw [Blk.cell bL b]; simp [mapR, hb]
                      have hi0 : (0 : Int) ≤ (i : Int) := by omega
                      have hi1 : (i : Int) < (ws.length : Int) := by omega
                      have hb0 : (0 : Int) ≤ (b : Int) := by omega
                      have hb1 : (b : Int) < (ws.length : Int) := by omega
                      obtain ⟨x, hx⟩ : ∃ x, pF t ws m i = x := ⟨_, rfl⟩
                      obtain ⟨y, hy⟩ : ∃ y, pF t ws m b = y := ⟨_, rfl⟩
                      rw [hx] at ci
                      rw [hy] at cb
                      have HX := Lib.hid hx
                      have HY := Lib.hid hy
                      clear hx hy
                      by_cases hgt : y < x
                      · have hgB : decide (y < x) = true := by simp [hgt]
                        go_wp2_with fail
                        go_quiet (fail)
                        go_wp2_with fail
                        go_roundw
                        case rel => exact ⟨i, i + 1, hlt, hlt, rfl, by go_num, fun j hj => by
                          rw [HX.out]
                          rcases Nat.lt_or_ge j i with h | h
                          · have := HLE.out j h
                            rw [HY.out] at this
                            omega
                          · obtain rfl : j = i := by omega
                            rw [HX.out]
                            omega, fun j hj => by
                          have := HLE.out j hj
                          rw [HY.out] at this
                          rw [HX.out]
                          omega, _, rfl⟩
                        case measure => simp [intOf]; omega
                      · have hgB : decide (y < x) = false := by simp; omega
                        go_wp2_with fail
                        go_quiet (fail)
                        go_wp2_with fail
                        go_roundw
                        case rel => exact ⟨b, i + 1, hb, hlt, rfl, by go_num, fun j hj => by
                          rcases Nat.lt_or_ge j i with h | h
                          · exact HLE.out j h
                          · obtain rfl : j = i := by omega
                            rw [HX.out, HY.out]
                            omega, HLT.out, _, rfl⟩
                        case measure => simp [intOf]; omega
                    · obtain rfl : i = ws.length := by omega
                      have hrk := pick_rank t ws hmn HLE.out HLT.out
                      have HOS := Lib.hid (oF_step t ws hb hrk)
                      have HPS := Lib.hid (pF_step t ws hb hrk)
                      have hqt := quo_le t ws hb
                      have cO : wr.cell? ⟨gb, b, none⟩ = some (.int .i64 (oF t ws m b)) := by rw [Blk.cell bO b]; simp [mapR, hb]
                      have cL : wr.cell? ⟨ga, b, none⟩ = some (.int .i64 (pF t ws m b)) := by rw [Blk.cell bL b]; simp [mapR, hb]
                      have fO := Blk.frozen bO b
                      have fL := Blk.frozen bL b
                      have zO : 0 ≤ oF t ws m b ∧ oF t ws m b ≤ 1099511627777 := by
                        unfold oF
                        split <;> omega
                      obtain ⟨zO1, zO2⟩ := zO
                      obtain ⟨z, hz⟩ : ∃ z, oF t ws m b = z := ⟨_, rfl⟩
                      rw [hz] at cO zO1 zO2
                      have HZ := Lib.hid hz; clear hz
                      generalize pF t ws m b = z2 at cL
                      clear hrk
                      go_wp2_with fail
                      go_roundw
                      case rel => exact ⟨m + 1, P - 1, by omega, by go_num, by
                        rw [HOS.out, HZ.out]
                        exact Blk.far (blk_out (Blk.drewN bO mo) rfl) (p := ⟨ga, b, none⟩) hne'.symm _, by
                        rw [HPS.out]
                        exact blk_out (Blk.far (Blk.drewN bL mo) (p := ⟨gb, b, none⟩) hne' _) rfl, ((below_drewN hbr mo).setCell (p := ⟨gb, b, none⟩) (by show w.heap.size ≤ gb; omega) _).setCell (p := ⟨ga, b, none⟩) (by show w.heap.size ≤ ga; omega) _⟩
                      case measure => simp [intOf]; omega

set_option maxRecDepth 100000 in
set_option maxHeartbeats 4000000 in
theorem rshare_neg (t : Nat) (ws : List Int) (v : Value) (B : Nat) (w : World) (h : Ints w B v ws) (hB : B ≤ w.heap.size) (hf : fit (-(t : Int)) = true) (htp : 0 < t) (hl : ws.length ≤ 2048) :
    Calls Try.prog 67 #[.int .i64 (-(t : Int)), v] w (SharePost (-(t : Int)) ws w) := by
  have hg := fun W => rfits (-(t : Int)) W
  obtain ⟨hf1, hf2⟩ := (fit_iff (-(t : Int))).1 hf
  have HFT := Lib.hid hf
  have htb : t ≤ 1099511627776 := by omega
  rw [hf] at hg
  clear hf
  have h' := h.more hB
  obtain ⟨A, c, rfl, hc, hr⟩ := h'
  obtain ⟨i0, hi0, hz0, hzs, hzb⟩ := info_parts Try.infoInt
  have hmk := fun W : World => run_make_rowN (P := Try.prog) 22 3 i0 _ Try.underlying22 hi0 hz0 .i64 .i64 ws.length ws.length (Nat.le_refl _) (by rw [hzb]; omega) (by omega) W
  rw [hzs, Nat.mul_one] at hmk
  clear hi0 hz0 hzs hzb
  go_enter Try.func67, Try.ntmps67
  go_wp2_with fail
  refine (hg _).mono ?_
  rintro e w' ⟨rfl, rfl⟩
  go_wp2_with fail
  go_loop [6, 7] (RA ws) (fun _ i => ws.length - (intOf i).toNat)
  case atStart => exact ⟨0, by omega, rfl, rfl, rfl⟩
  case round =>
    obtain ⟨k, hk, rfl, rfl, hall⟩ := hrel
    have hsb := take_sum_bd hk hall
    have Hall := Lib.hid hall; clear hall
    by_cases hlt : k < ws.length
    · obtain ⟨ad, rfl, hb, hcell⟩ := hr.val hlt
      by_cases hwk : isWeight ws[k] = true
      · obtain ⟨q1, q2⟩ := (isWeight_iff _).1 hwk
        have hn1 : ¬ ws[k] < 0 := by omega
        have hn2 : ¬ 1125899906842624 < ws[k] := by omega
        have HS := Lib.hid (sum_step hlt hwk)
        have HA := Lib.hid (take_all_w hlt Hall.out hwk)
        clear hwk
        go_wp2_with fail
        go_round
        case rel => exact ⟨k + 1, by omega, by go_num, by rw [HS.out], HA.out⟩
        case measure => simp [intOf]; omega
      · have hbad := Lib.hid (show shareR (-(t : Int)) ws = ([], 2) by
          unfold shareR
          rw [if_pos]
          have : ws.all isWeight = false := by
            rw [← Bool.not_eq_true]
            intro ha
            exact hwk (List.all_eq_true.1 ha _ (List.getElem_mem hlt))
          simp [this])
        have hwk2 : ws[k] < 0 ∨ 1125899906842624 < ws[k] := by
          rcases Int.lt_or_le ws[k] 0 with h | h
          · exact .inl h
          · refine .inr (Int.not_le.1 fun h2 => hwk ((isWeight_iff _).2 ⟨h, h2⟩))
        clear hwk
        rcases hwk2 with hwk2 | hwk2
        all_goals
          go_wp2_with fail
          all_goals
            go_ret2
            exact ⟨.slice none 0 0, by rw [hbad.out]; rfl, by rw [hbad.out]; exact Owns.nil _ _, Below.refl _ _⟩
    · obtain rfl : k = ws.length := by omega
      have hall' : ws.all isWeight = true := by have := Hall.out; rwa [List.take_of_length_le (Nat.le_refl _)] at this
      have HALL := Lib.hid hall'
      have hSb := wSum_bd hall' hl
      clear Hall hall' hsb hlt
      change sumTo (wAt ws) ws.length ≤ _ at hSb
      obtain ⟨S, hS⟩ : ∃ S, wSum ws = S := ⟨_, rfl⟩
      have eS : sumTo (wAt ws) ws.length = S := hS
      rw [eS] at hSb ⊢
      have HSS := Lib.hid hS; clear hS eS
      rw [show (Value.int .i64 0).cells = #[Value.int .i64 0] from rfl, made_zeros] at hmk
      go_wp2_with fail
      go_region
      · have hA := blk_pair w ws.length
        obtain ⟨hA1, hA2, hbel⟩ := hA
        generalize ((w.alloc (.cells (Array.replicate ws.length (Value.int .i64 0)) 3)).alloc (.cells (Array.replicate ws.length (Value.int .i64 0)) 3)).drew = W2 at hA1 hA2 hbel ⊢
        have hne : w.heap.size ≠ w.heap.size + 1 := by omega
        have hba : w.heap.size ≤ w.heap.size := Nat.le_refl _
        have hbb : w.heap.size ≤ w.heap.size + 1 := Nat.le_succ _
        have hbel' := Lib.hid hbel
        obtain ⟨gb, hgb⟩ : ∃ g, w.heap.size + 1 = g := ⟨_, rfl⟩
        rw [hgb] at hA2 hne hbb ⊢
        obtain ⟨ga, hga⟩ : ∃ g, w.heap.size = g := ⟨_, rfl⟩
        have hA1' : IBlk W2 ga (List.replicate ws.length 0) := by rw [← hga]; exact hA1
        have hne' : ga ≠ gb := by omega
        have hba' : w.heap.size ≤ ga := by omega
        rw [hga]
        clear hA1 hne hba hgb hga
        by_cases hS0 : S = 0
        · subst hS0
          have hs : shareR (-(t : Int)) ws = (List.replicate ws.length 0, 0) := by
            unfold shareR
            rw [if_neg (by simp [HFT.out, HALL.out]; omega), if_pos HSS.out]
          have HR := Lib.hid hs; clear hs
          have ho := owns_of_blk (base := w.heap.size) hA1' (by omega) (by simp; omega)
          rw [List.length_replicate] at ho
          go_wp2_with fail
          go_ret2
          exact ⟨_, by rw [HR.out]; rfl, by rw [HR.out]; exact ho, hbel⟩
        · have hS1 : ((S : Int) == 0) = false := by simp; omega
          have h0 : 0 < ws.length := by
            rcases Nat.eq_zero_or_pos ws.length with h | h
            · exact absurd (by rw [← HSS.out]; simp [wSum, h, sumTo]) hS0
            · exact h
          go_wp2_with fail
          go_loopw [11, 12] (R2 t ws w ga gb) (fun _ i _ => ws.length - (intOf i).toNat)
          case atStart => exact ⟨0, t, by omega, rfl, rfl, by simp [sumTo], by rw [qF_zero]; exact hA1', by rw [lF_zero]; exact hA2, hbel⟩
          case round =>
            obtain ⟨k, Lf, hk, rfl, rfl, hLs, bO, bL, hbr⟩ := hrel
            have hLt : Lf ≤ t := by omega
            have HLs := Lib.hid hLs; clear hLs
            by_cases hlt : k < ws.length
            · obtain ⟨ad, rfl, hbA, hcell⟩ := (hr.below hbr).val hlt
              obtain ⟨y, hy⟩ := Int.eq_ofNat_of_zero_le (weight_at HALL.out k hlt).1
              rw [hy] at hcell
              have hyb : y ≤ 1125899906842624 := by have := (weight_at HALL.out k hlt).2; omega
              have Hy := Lib.hid (show wAt ws k = y by rw [wAt_at hlt, hy]; rfl)
              have hyS : y ≤ S := by rw [← Hy.out, ← HSS.out]; exact wAt_le_sum ws hlt
              have hdv := fun W => divided_any t y S W htb hyS hyb (by omega) hSb
              obtain ⟨q, hq⟩ : ∃ q, t * y / S = q := ⟨_, rfl⟩
              obtain ⟨l, hlq⟩ : ∃ l, t * y % S = l := ⟨_, rfl⟩
              rw [hq, hlq] at hdv
              have Hq := Lib.hid (show quo t ws k = q by unfold quo; rw [Hy.out, HSS.out, hq])
              have Hl := Lib.hid (show lost t ws k = l by unfold lost; rw [Hy.out, HSS.out, hlq])
              have hqL : q ≤ Lf := by
                have := quos_le t ws (by rw [HSS.out]; omega) (show k + 1 ≤ ws.length from hlt)
                have := HLs.out
                rw [sumTo, Hq.out] at *
                omega
              have HQS := Lib.hid (qF_step t ws (k := k))
              have HLS := Lib.hid (lF_step t ws (k := k))
              have cO : wr.cell? ⟨ga, k, none⟩ = some (.int .i64 (qF t ws k k)) := by rw [Blk.cell bO k]; simp [mapR, hlt]
              have cL : wr.cell? ⟨gb, k, none⟩ = some (.int .i64 (lF t ws k k)) := by rw [Blk.cell bL k]; simp [mapR, hlt]
              have fO := Blk.frozen bO k
              have fL := Blk.frozen bL k
              generalize qF t ws k k = z1 at cO
              generalize lF t ws k k = z2 at cL
              clear hq hlq hy
              go_wp2_with fail
              refine (hdv _).mono ?_
              rintro e w5 ⟨rfl, rfl⟩
              go_wp2_with fail
              go_roundw
              case rel => exact ⟨k + 1, Lf - q, hlt, by go_num, by go_num, by rw [sumTo, Hq.out]; have := HLs.out; omega, by
                rw [HQS.out]
                exact Blk.far (blk_out bO (congrArg (fun n : Nat => Value.int .i64 (n : Int)) Hq.out.symm)) (p := ⟨gb, k, none⟩) hne' _, by
                rw [HLS.out]
                exact blk_out (Blk.far bL (p := ⟨ga, k, none⟩) hne'.symm _) (congrArg (fun n : Nat => Value.int .i64 (n : Int)) Hl.out.symm), (hbr.setCell (p := ⟨ga, k, none⟩) (by show w.heap.size ≤ ga; omega) _).setCell (p := ⟨gb, k, none⟩) (by show w.heap.size ≤ gb; omega) _⟩
              case measure => simp [intOf]; omega
            · obtain rfl : k = ws.length := by omega
              have hLo : Lf = over t ws := by unfold over; have := HLs.out; omega
              have hLn : Lf ≤ ws.length := by rw [hLo]; exact over_le t ws (by rw [HSS.out]; omega)
              have HLo := Lib.hid hLo; clear hLo HLs hlt hk
              rw [qF_all] at bO
              rw [lF_all] at bL
              go_wp2_with fail
              go_loopw [11] (R3 t ws w ga gb Lf) (fun left _ => (intOf left).toNat)
              case atStart => exact ⟨0, Lf, by omega, rfl, bO, bL, hbr⟩
              case round =>
                clear bO bL hbr
                obtain ⟨m, P, hmP, rfl, bO, bL, hbr⟩ := hrel
                rcases Nat.eq_zero_or_pos P with hP0 | hP0
                · subst hP0
                  obtain rfl : m = Lf := by omega
                  rw [HLo.out, oF_gets] at bO
                  have HBL := Lib.hid bL; clear bL
                  go_wp2_with fail
                  go_loopw [15] (R5 t ws w ga) (fun i _ => ws.length - (intOf i).toNat)
                  case atStart => exact ⟨0, by omega, rfl, bO, hbr⟩
                  case round =>
                    clear bO hbr
                    obtain ⟨k, hk, rfl, bO, hbr⟩ := hrel
                    have hng : (-(t : Int)) < 0 := by omega
                    by_cases hlt : k < ws.length
                    · have cO : wr.cell? ⟨ga, k, none⟩ = some (.int .i64 (nF t ws k k)) := by rw [Blk.cell bO k]; simp [mapR, hlt]
                      have fO := Blk.frozen bO k
                      have hgt := gets_top t ws (by rw [HSS.out]; omega) hlt
                      have en : nF t ws k k = ((gets t ws k : Nat) : Int) := by simp [nF]
                      rw [en] at cO
                      have HNS := Lib.hid (nF_step t ws (k := k))
                      obtain ⟨x, hx⟩ : ∃ x, gets t ws k = x := ⟨_, rfl⟩
                      rw [hx] at cO hgt
                      have HX := Lib.hid hx
                      clear hx en
                      go_wp2_with fail
                      go_roundw
                      case rel => exact ⟨k + 1, hlt, by go_num, by
                        rw [HNS.out, HX.out]
                        exact blk_out bO rfl, hbr.setCell (p := ⟨ga, k, none⟩) (by show w.heap.size ≤ ga; omega) _⟩
                      case measure => simp [intOf]; omega
                    · obtain rfl : k = ws.length := by omega
                      have hs : shareR (-(t : Int)) ws = (shares (-(t : Int)) ws, 0) := by
                        unfold shareR
                        rw [if_neg (by simp [HFT.out, HALL.out]; omega), if_neg (by rw [HSS.out]; exact hS0)]
                      have HR := Lib.hid hs; clear hs
                      have hsh := nF_neg (total := -(t : Int)) ws hng
                      rw [show (-(t : Int)).natAbs = t by omega] at hsh
                      rw [hsh] at bO
                      have ho := owns_of_blk (base := w.heap.size) bO (by omega) (by simp [shares]; omega)
                      rw [show (shares (-(t : Int)) ws).length = ws.length by simp [shares]] at ho
                      clear hsh
                      go_wp2_with fail
                      go_ret2
                      exact ⟨_, by rw [HR.out]; rfl, by rw [HR.out]; exact ho, hbr⟩
                · have hmn : m < ws.length := by omega
                  go_wp2_with fail
                  go_loopw [13, 14] (R4 t ws m wr) (fun _ i _ => ws.length - (intOf i).toNat)
                  case atStart => exact ⟨0, 0, h0, by omega, rfl, rfl, fun j hj => absurd hj (by omega), fun j hj => absurd hj (by omega), Quiet.refl _⟩
                  case round =>
                    obtain ⟨b, i, hb, hi, rfl, rfl, hle, hls, mo, rfl⟩ := hrel
                    have HLE := Lib.hid hle
                    have HLT := Lib.hid hls
                    clear hle hls
                    by_cases hlt : i < ws.length
                    · have ci : wr.cell? ⟨gb, i, none⟩ = some (.int .i64 (pF t ws m i)) := by rw [Blk.cell bL i]; simp [mapR, hlt]
                      have cb : wr.cell? ⟨gb, b, none⟩ = some (.int .i64 (pF t ws m b)) := by rw [Blk.cell bL b]; simp [mapR, hb]
                      have hi0 : (0 : Int) ≤ (i : Int) := by omega
                      have hi1 : (i : Int) < (ws.length : Int) := by omega
                      have hb0 : (0 : Int) ≤ (b : Int) := by omega
                      have hb1 : (b : Int) < (ws.length : Int) := by omega
                      obtain ⟨x, hx⟩ : ∃ x, pF t ws m i = x := ⟨_, rfl⟩
                      obtain ⟨y, hy⟩ : ∃ y, pF t ws m b = y := ⟨_, rfl⟩
                      rw [hx] at ci
                      rw [hy] at cb
                      have HX := Lib.hid hx
                      have HY := Lib.hid hy
                      clear hx hy
                      by_cases hgt : y < x
                      · have hgB : decide (y < x) = true := by simp [hgt]
                        go_wp2_with fail
                        go_quiet (fail)
                        go_wp2_with fail
                        go_roundw
                        case rel => exact ⟨i, i + 1, hlt, hlt, rfl, by go_num, fun j hj => by
                          rw [HX.out]
                          rcases Nat.lt_or_ge j i with h | h
                          · have := HLE.out j h
                            rw [HY.out] at this
                            omega
                          · obtain rfl : j = i := by omega
                            rw [HX.out]
                            omega, fun j hj => by
                          have := HLE.out j hj
                          rw [HY.out] at this
                          rw [HX.out]
                          omega, _, rfl⟩
                        case measure => simp [intOf]; omega
                      · have hgB : decide (y < x) = false := by simp; omega
                        go_wp2_with fail
                        go_quiet (fail)
                        go_wp2_with fail
                        go_roundw
                        case rel => exact ⟨b, i + 1, hb, hlt, rfl, by go_num, fun j hj => by
                          rcases Nat.lt_or_ge j i with h | h
                          · exact HLE.out j h
                          · obtain rfl : j = i := by omega
                            rw [HX.out, HY.out]
                            omega, HLT.out, _, rfl⟩
                        case measure => simp [intOf]; omega
                    · obtain rfl : i = ws.length := by omega
                      have hrk := pick_rank t ws hmn HLE.out HLT.out
                      have HOS := Lib.hid (oF_step t ws hb hrk)
                      have HPS := Lib.hid (pF_step t ws hb hrk)
                      have hqt := quo_le t ws hb
                      have cO : wr.cell? ⟨ga, b, none⟩ = some (.int .i64 (oF t ws m b)) := by rw [Blk.cell bO b]; simp [mapR, hb]
                      have cL : wr.cell? ⟨gb, b, none⟩ = some (.int .i64 (pF t ws m b)) := by rw [Blk.cell bL b]; simp [mapR, hb]
                      have fO := Blk.frozen bO b
                      have fL := Blk.frozen bL b
                      have zO : 0 ≤ oF t ws m b ∧ oF t ws m b ≤ 1099511627777 := by
                        unfold oF
                        split <;> omega
                      obtain ⟨zO1, zO2⟩ := zO
                      obtain ⟨z, hz⟩ : ∃ z, oF t ws m b = z := ⟨_, rfl⟩
                      rw [hz] at cO zO1 zO2
                      have HZ := Lib.hid hz; clear hz
                      generalize pF t ws m b = z2 at cL
                      clear hrk
                      go_wp2_with fail
                      go_roundw
                      case rel => exact ⟨m + 1, P - 1, by omega, by go_num, by
                        rw [HOS.out, HZ.out]
                        exact Blk.far (blk_out (Blk.drewN bO mo) rfl) (p := ⟨gb, b, none⟩) hne' _, by
                        rw [HPS.out]
                        exact blk_out (Blk.far (Blk.drewN bL mo) (p := ⟨ga, b, none⟩) hne'.symm _) rfl, ((below_drewN hbr mo).setCell (p := ⟨ga, b, none⟩) (by show w.heap.size ≤ ga; omega) _).setCell (p := ⟨gb, b, none⟩) (by show w.heap.size ≤ gb; omega) _⟩
                      case measure => simp [intOf]; omega
      · have hA := blk_pair w ws.length
        obtain ⟨hA1, hA2, hbel⟩ := hA
        generalize ((w.alloc (.cells (Array.replicate ws.length (Value.int .i64 0)) 3)).alloc (.cells (Array.replicate ws.length (Value.int .i64 0)) 3)).drew = W2 at hA1 hA2 hbel ⊢
        have hne : w.heap.size ≠ w.heap.size + 1 := by omega
        have hba : w.heap.size ≤ w.heap.size := Nat.le_refl _
        have hbb : w.heap.size ≤ w.heap.size + 1 := Nat.le_succ _
        have hbel' := Lib.hid hbel
        obtain ⟨gb, hgb⟩ : ∃ g, w.heap.size + 1 = g := ⟨_, rfl⟩
        rw [hgb] at hA2 hne hbb ⊢
        obtain ⟨ga, hga⟩ : ∃ g, w.heap.size = g := ⟨_, rfl⟩
        have hA1' : IBlk W2 ga (List.replicate ws.length 0) := by rw [← hga]; exact hA1
        have hne' : ga ≠ gb := by omega
        have hba' : w.heap.size ≤ ga := by omega
        rw [hga]
        clear hA1 hne hba hgb hga
        by_cases hS0 : S = 0
        · subst hS0
          have hs : shareR (-(t : Int)) ws = (List.replicate ws.length 0, 0) := by
            unfold shareR
            rw [if_neg (by simp [HFT.out, HALL.out]; omega), if_pos HSS.out]
          have HR := Lib.hid hs; clear hs
          have ho := owns_of_blk (base := w.heap.size) hA2 (by omega) (by simp; omega)
          rw [List.length_replicate] at ho
          go_wp2_with fail
          go_ret2
          exact ⟨_, by rw [HR.out]; rfl, by rw [HR.out]; exact ho, hbel⟩
        · have hS1 : ((S : Int) == 0) = false := by simp; omega
          have h0 : 0 < ws.length := by
            rcases Nat.eq_zero_or_pos ws.length with h | h
            · exact absurd (by rw [← HSS.out]; simp [wSum, h, sumTo]) hS0
            · exact h
          go_wp2_with fail
          go_loopw [11, 12] (R2 t ws w gb ga) (fun _ i _ => ws.length - (intOf i).toNat)
          case atStart => exact ⟨0, t, by omega, rfl, rfl, by simp [sumTo], by rw [qF_zero]; exact hA2, by rw [lF_zero]; exact hA1', hbel⟩
          case round =>
            obtain ⟨k, Lf, hk, rfl, rfl, hLs, bO, bL, hbr⟩ := hrel
            have hLt : Lf ≤ t := by omega
            have HLs := Lib.hid hLs; clear hLs
            by_cases hlt : k < ws.length
            · obtain ⟨ad, rfl, hbA, hcell⟩ := (hr.below hbr).val hlt
              obtain ⟨y, hy⟩ := Int.eq_ofNat_of_zero_le (weight_at HALL.out k hlt).1
              rw [hy] at hcell
              have hyb : y ≤ 1125899906842624 := by have := (weight_at HALL.out k hlt).2; omega
              have Hy := Lib.hid (show wAt ws k = y by rw [wAt_at hlt, hy]; rfl)
              have hyS : y ≤ S := by rw [← Hy.out, ← HSS.out]; exact wAt_le_sum ws hlt
              have hdv := fun W => divided_any t y S W htb hyS hyb (by omega) hSb
              obtain ⟨q, hq⟩ : ∃ q, t * y / S = q := ⟨_, rfl⟩
              obtain ⟨l, hlq⟩ : ∃ l, t * y % S = l := ⟨_, rfl⟩
              rw [hq, hlq] at hdv
              have Hq := Lib.hid (show quo t ws k = q by unfold quo; rw [Hy.out, HSS.out, hq])
              have Hl := Lib.hid (show lost t ws k = l by unfold lost; rw [Hy.out, HSS.out, hlq])
              have hqL : q ≤ Lf := by
                have := quos_le t ws (by rw [HSS.out]; omega) (show k + 1 ≤ ws.length from hlt)
                have := HLs.out
                rw [sumTo, Hq.out] at *
                omega
              have HQS := Lib.hid (qF_step t ws (k := k))
              have HLS := Lib.hid (lF_step t ws (k := k))
              have cO : wr.cell? ⟨gb, k, none⟩ = some (.int .i64 (qF t ws k k)) := by rw [Blk.cell bO k]; simp [mapR, hlt]
              have cL : wr.cell? ⟨ga, k, none⟩ = some (.int .i64 (lF t ws k k)) := by rw [Blk.cell bL k]; simp [mapR, hlt]
              have fO := Blk.frozen bO k
              have fL := Blk.frozen bL k
              generalize qF t ws k k = z1 at cO
              generalize lF t ws k k = z2 at cL
              clear hq hlq hy
              go_wp2_with fail
              refine (hdv _).mono ?_
              rintro e w5 ⟨rfl, rfl⟩
              go_wp2_with fail
              go_roundw
              case rel => exact ⟨k + 1, Lf - q, hlt, by go_num, by go_num, by rw [sumTo, Hq.out]; have := HLs.out; omega, by
                rw [HQS.out]
                exact Blk.far (blk_out bO (congrArg (fun n : Nat => Value.int .i64 (n : Int)) Hq.out.symm)) (p := ⟨ga, k, none⟩) hne'.symm _, by
                rw [HLS.out]
                exact blk_out (Blk.far bL (p := ⟨gb, k, none⟩) hne' _) (congrArg (fun n : Nat => Value.int .i64 (n : Int)) Hl.out.symm), (hbr.setCell (p := ⟨gb, k, none⟩) (by show w.heap.size ≤ gb; omega) _).setCell (p := ⟨ga, k, none⟩) (by show w.heap.size ≤ ga; omega) _⟩
              case measure => simp [intOf]; omega
            · obtain rfl : k = ws.length := by omega
              have hLo : Lf = over t ws := by unfold over; have := HLs.out; omega
              have hLn : Lf ≤ ws.length := by rw [hLo]; exact over_le t ws (by rw [HSS.out]; omega)
              have HLo := Lib.hid hLo; clear hLo HLs hlt hk
              rw [qF_all] at bO
              rw [lF_all] at bL
              go_wp2_with fail
              go_loopw [11] (R3 t ws w gb ga Lf) (fun left _ => (intOf left).toNat)
              case atStart => exact ⟨0, Lf, by omega, rfl, bO, bL, hbr⟩
              case round =>
                clear bO bL hbr
                obtain ⟨m, P, hmP, rfl, bO, bL, hbr⟩ := hrel
                rcases Nat.eq_zero_or_pos P with hP0 | hP0
                · subst hP0
                  obtain rfl : m = Lf := by omega
                  rw [HLo.out, oF_gets] at bO
                  have HBL := Lib.hid bL; clear bL
                  go_wp2_with fail
                  go_loopw [15] (R5 t ws w gb) (fun i _ => ws.length - (intOf i).toNat)
                  case atStart => exact ⟨0, by omega, rfl, bO, hbr⟩
                  case round =>
                    clear bO hbr
                    obtain ⟨k, hk, rfl, bO, hbr⟩ := hrel
                    have hng : (-(t : Int)) < 0 := by omega
                    by_cases hlt : k < ws.length
                    · have cO : wr.cell? ⟨gb, k, none⟩ = some (.int .i64 (nF t ws k k)) := by rw [Blk.cell bO k]; simp [mapR, hlt]
                      have fO := Blk.frozen bO k
                      have hgt := gets_top t ws (by rw [HSS.out]; omega) hlt
                      have en : nF t ws k k = ((gets t ws k : Nat) : Int) := by simp [nF]
                      rw [en] at cO
                      have HNS := Lib.hid (nF_step t ws (k := k))
                      obtain ⟨x, hx⟩ : ∃ x, gets t ws k = x := ⟨_, rfl⟩
                      rw [hx] at cO hgt
                      have HX := Lib.hid hx
                      clear hx en
                      go_wp2_with fail
                      go_roundw
                      case rel => exact ⟨k + 1, hlt, by go_num, by
                        rw [HNS.out, HX.out]
                        exact blk_out bO rfl, hbr.setCell (p := ⟨gb, k, none⟩) (by show w.heap.size ≤ gb; omega) _⟩
                      case measure => simp [intOf]; omega
                    · obtain rfl : k = ws.length := by omega
                      have hs : shareR (-(t : Int)) ws = (shares (-(t : Int)) ws, 0) := by
                        unfold shareR
                        rw [if_neg (by simp [HFT.out, HALL.out]; omega), if_neg (by rw [HSS.out]; exact hS0)]
                      have HR := Lib.hid hs; clear hs
                      have hsh := nF_neg (total := -(t : Int)) ws hng
                      rw [show (-(t : Int)).natAbs = t by omega] at hsh
                      rw [hsh] at bO
                      have ho := owns_of_blk (base := w.heap.size) bO (by omega) (by simp [shares]; omega)
                      rw [show (shares (-(t : Int)) ws).length = ws.length by simp [shares]] at ho
                      clear hsh
                      go_wp2_with fail
                      go_ret2
                      exact ⟨_, by rw [HR.out]; rfl, by rw [HR.out]; exact ho, hbr⟩
                · have hmn : m < ws.length := by omega
                  go_wp2_with fail
                  go_loopw [13, 14] (R4 t ws m wr) (fun _ i _ => ws.length - (intOf i).toNat)
                  case atStart => exact ⟨0, 0, h0, by omega, rfl, rfl, fun j hj => absurd hj (by omega), fun j hj => absurd hj (by omega), Quiet.refl _⟩
                  case round =>
                    obtain ⟨b, i, hb, hi, rfl, rfl, hle, hls, mo, rfl⟩ := hrel
                    have HLE := Lib.hid hle
                    have HLT := Lib.hid hls
                    clear hle hls
                    by_cases hlt : i < ws.length
                    · have ci : wr.cell? ⟨ga, i, none⟩ = some (.int .i64 (pF t ws m i)) := by rw [Blk.cell bL i]; simp [mapR, hlt]
                      have cb : wr.cell? ⟨ga, b, none⟩ = some (.int .i64 (pF t ws m b)) := by rw [Blk.cell bL b]; simp [mapR, hb]
                      have hi0 : (0 : Int) ≤ (i : Int) := by omega
                      have hi1 : (i : Int) < (ws.length : Int) := by omega
                      have hb0 : (0 : Int) ≤ (b : Int) := by omega
                      have hb1 : (b : Int) < (ws.length : Int) := by omega
                      obtain ⟨x, hx⟩ : ∃ x, pF t ws m i = x := ⟨_, rfl⟩
                      obtain ⟨y, hy⟩ : ∃ y, pF t ws m b = y := ⟨_, rfl⟩
                      rw [hx] at ci
                      rw [hy] at cb
                      have HX := Lib.hid hx
                      have HY := Lib.hid hy
                      clear hx hy
                      by_cases hgt : y < x
                      · have hgB : decide (y < x) = true := by simp [hgt]
                        go_wp2_with fail
                        go_quiet (fail)
                        go_wp2_with fail
                        go_roundw
                        case rel => exact ⟨i, i + 1, hlt, hlt, rfl, by go_num, fun j hj => by
                          rw [HX.out]
                          rcases Nat.lt_or_ge j i with h | h
                          · have := HLE.out j h
                            rw [HY.out] at this
                            omega
                          · obtain rfl : j = i := by omega
                            rw [HX.out]
                            omega, fun j hj => by
                          have := HLE.out j hj
                          rw [HY.out] at this
                          rw [HX.out]
                          omega, _, rfl⟩
                        case measure => simp [intOf]; omega
                      · have hgB : decide (y < x) = false := by simp; omega
                        go_wp2_with fail
                        go_quiet (fail)
                        go_wp2_with fail
                        go_roundw
                        case rel => exact ⟨b, i + 1, hb, hlt, rfl, by go_num, fun j hj => by
                          rcases Nat.lt_or_ge j i with h | h
                          · exact HLE.out j h
                          · obtain rfl : j = i := by omega
                            rw [HX.out, HY.out]
                            omega, HLT.out, _, rfl⟩
                        case measure => simp [intOf]; omega
                    · obtain rfl : i = ws.length := by omega
                      have hrk := pick_rank t ws hmn HLE.out HLT.out
                      have HOS := Lib.hid (oF_step t ws hb hrk)
                      have HPS := Lib.hid (pF_step t ws hb hrk)
                      have hqt := quo_le t ws hb
                      have cO : wr.cell? ⟨gb, b, none⟩ = some (.int .i64 (oF t ws m b)) := by rw [Blk.cell bO b]; simp [mapR, hb]
                      have cL : wr.cell? ⟨ga, b, none⟩ = some (.int .i64 (pF t ws m b)) := by rw [Blk.cell bL b]; simp [mapR, hb]
                      have fO := Blk.frozen bO b
                      have fL := Blk.frozen bL b
                      have zO : 0 ≤ oF t ws m b ∧ oF t ws m b ≤ 1099511627777 := by
                        unfold oF
                        split <;> omega
                      obtain ⟨zO1, zO2⟩ := zO
                      obtain ⟨z, hz⟩ : ∃ z, oF t ws m b = z := ⟨_, rfl⟩
                      rw [hz] at cO zO1 zO2
                      have HZ := Lib.hid hz; clear hz
                      generalize pF t ws m b = z2 at cL
                      clear hrk
                      go_wp2_with fail
                      go_roundw
                      case rel => exact ⟨m + 1, P - 1, by omega, by go_num, by
                        rw [HOS.out, HZ.out]
                        exact Blk.far (blk_out (Blk.drewN bO mo) rfl) (p := ⟨ga, b, none⟩) hne'.symm _, by
                        rw [HPS.out]
                        exact blk_out (Blk.far (Blk.drewN bL mo) (p := ⟨gb, b, none⟩) hne' _) rfl, ((below_drewN hbr mo).setCell (p := ⟨gb, b, none⟩) (by show w.heap.size ≤ gb; omega) _).setCell (p := ⟨ga, b, none⟩) (by show w.heap.size ≤ ga; omega) _⟩
                      case measure => simp [intOf]; omega

/-- The reference's Share: what it answers. -/
theorem rshare_any (total : Int) (ws : List Int) (v : Value) (B : Nat) (w : World) (h : Ints w B v ws) (hB : B ≤ w.heap.size) (hm : ws.length ≤ 17592186044416) :
    Calls Try.prog 67 #[.int .i64 total, v] w (SharePost total ws w) := by
  cases hf : fit total with
  | false => exact rshare_nofit total ws v B w h hf
  | true =>
    rcases Nat.lt_or_ge 2048 ws.length with hl | hl
    · exact rshare_long total ws v B w h hm hf hl
    · rcases Int.lt_or_le total 0 with h0 | h0
      · obtain ⟨t, rfl⟩ : ∃ t : Nat, total = -(t : Int) := ⟨total.natAbs, by omega⟩
        exact rshare_neg t ws v B w h hB hf (by omega) hl
      · obtain ⟨t, rfl⟩ := Int.eq_ofNat_of_zero_le h0
        exact rshare_pos t ws v B w h hB hf hl

end Go.Proofs.Ytbhdolghokhfnaa
