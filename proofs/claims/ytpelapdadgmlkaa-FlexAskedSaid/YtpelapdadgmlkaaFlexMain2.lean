/-
  Walks: flex.Main: what it answers.
-/
import Derived.Test.YtpelapdadgmlkaaFlexMain
import Derived.Test.YtpelapdadgmlkaaGivenPlain
import Derived.Test.YtpelapdadgmlkaaOrder
namespace Go.Proofs.Ytpelapdadgmlkaa
open Go.RowKit

/-! Plain. -/
theorem wgts_ok (n : Nat) {a b c : Int} (ha : a = 0 ∨ a = 1) (hb : b = 0 ∨ b = 1) (hc : c = 0 ∨ c = 1) : (wgts n a b c).all isWeight = true :=
  List.all_eq_true.2 fun x hx => by
    obtain ⟨i, _, rfl⟩ := List.mem_map.1 hx
    rw [isWeight_iff]
    unfold wgAt
    split
    · omega
    · split <;> omega
theorem moreW_form (n : Nat) (left : Int) (j : Nat) : ∃ a b c : Int, moreW n left j = wgts n a b c ∧ (a = 0 ∨ a = 1) ∧ (b = 0 ∨ b = 1) ∧ (c = 0 ∨ c = 1) := by
  unfold moreW
  split
  · exact ⟨_, _, _, rfl, by simp, by simp, by simp⟩
  · split
    · split <;> exact ⟨_, _, _, rfl, by simp, by simp, by simp⟩
    · split
      · split
        · exact ⟨_, _, _, rfl, by simp, by simp, by simp⟩
        · split <;> exact ⟨_, _, _, rfl, by simp, by simp, by simp⟩
      · exact ⟨_, _, _, rfl, by simp, by simp, by simp⟩
theorem moreW_ok (n : Nat) (left : Int) (j : Nat) : (moreW n left j).all isWeight = true := by
  obtain ⟨a, b, c, e, ha, hb, hc⟩ := moreW_form n left j
  rw [e]; exact wgts_ok n ha hb hc
theorem moreW_len (n : Nat) (left : Int) (j : Nat) : (moreW n left j).length = n + 1 := by
  obtain ⟨a, b, c, e, _⟩ := moreW_form n left j
  rw [e]; exact wgts_len _ _ _ _
theorem moreR_eq {n : Nat} (hn : n ≤ 300) {left : Int} (hf : fit left = true) (j : Nat) : moreR n left j = if j = 2 then (wgts n 0 0 0).set 0 (left.tdiv 2) else zsOf left (moreW n left j) := by
  unfold moreR
  rw [shareR_ok hf (by rw [moreW_len]; omega) (moreW_ok _ _ _)]
theorem moreR_len {n : Nat} (hn : n ≤ 300) {left : Int} (hf : fit left = true) (j : Nat) : (moreR n left j).length = n + 1 := by
  rw [moreR_eq hn hf]
  split
  · rw [List.length_set, wgts_len]
  · rw [zsOf_len, moreW_len]
theorem moreR_bd {n : Nat} (hn : n ≤ 300) {left : Int} (hf : fit left = true) (j : Nat) (i : Nat) (hi : i < (moreR n left j).length) : -1099511627776 ≤ (moreR n left j)[i] ∧ (moreR n left j)[i] ≤ 1099511627776 := by
  obtain ⟨f1, f2⟩ := (fit_iff _).1 hf
  have hd : -1099511627776 ≤ left.tdiv 2 ∧ left.tdiv 2 ≤ 1099511627776 := by
    rcases Int.le_total 0 left with h | h
    · rw [Int.tdiv_eq_ediv_of_nonneg h]; omega
    · rw [show left = -(-left) by omega, Int.neg_tdiv, Int.tdiv_eq_ediv_of_nonneg (by omega)]; omega
  have e := moreR_eq hn hf j
  by_cases h2 : j = 2
  · rw [if_pos h2] at e
    simp only [e]
    rw [List.getElem_set]
    split
    · exact hd
    · simp only [wgts, wgTo, List.getElem_map, wgAt]
      split <;> (try split) <;> omega
  · rw [if_neg h2] at e
    simp only [e]
    have F := given_facts hf (moreW_ok n left j)
    rw [e] at hi
    rcases Int.lt_or_le left 0 with ht | ht
    · have := F.neg ht i hi; omega
    · have := F.pos ht i hi; omega

/-- Where the boxes ahead of box k end, and what is ahead of it. -/
def yB (M outer : List Int) (gap : Int) : Nat → Int
  | 0 => 0
  | k + 1 => yB M outer gap k + (if 0 < k then gap + outer.getD (k - 1) 0 else 0) + M.getD k 0
def atF (M outer : List Int) (gap room : Int) (back : Bool) (k : Nat) : Int :=
  if back then room - yB M outer gap (k + 1) - outer.getD k 0 else yB M outer gap (k + 1)
def atTo (M outer : List Int) (gap room : Int) (back : Bool) (k : Nat) : List Int := (List.range k).map (atF M outer gap room back)
def leftOf (outer : List Int) (gap room : Int) : Int := room - gap * ((outer.length : Int) - 1) - outer.sum
def mainR (outer : List Int) (gap room : Int) (j : Nat) (back : Bool) : List Int × Int :=
  if 300 < outer.length ∨ gap < 0 ∨ room < 0 ∨ 4 < j then ([], 2)
  else if outer.all fit = true ∧ fit gap = true ∧ fit room = true then
    if outer.length = 0 then ([], 0)
    else if fit (leftOf outer gap room) = true then
      if (atTo (moreR outer.length (leftOf outer gap room) j) outer gap room back outer.length).all fit = true then (atTo (moreR outer.length (leftOf outer gap room) j) outer gap room back outer.length, 0) else ([], 10)
    else ([], 10)
  else ([], 10)
theorem atTo_succ (M outer : List Int) (gap room : Int) (back : Bool) (k : Nat) : atTo M outer gap room back (k + 1) = atTo M outer gap room back k ++ [atF M outer gap room back k] := by simp [atTo, List.range_succ]
theorem atTo_len (M outer : List Int) (gap room : Int) (back : Bool) (k : Nat) : (atTo M outer gap room back k).length = k := by simp [atTo]
theorem yB_bd {M outer : List Int} {gap : Int} (hM : ∀ i (h : i < M.length), -1099511627776 ≤ M[i] ∧ M[i] ≤ 1099511627776) (hO : outer.all fit = true) (hg0 : 0 ≤ gap) (hg : gap ≤ 1099511627776) :
    ∀ k, k ≤ M.length → -(3298534883328 * (k : Int)) ≤ yB M outer gap k ∧ yB M outer gap k ≤ 3298534883328 * (k : Int)
  | 0, _ => by simp [yB]
  | k + 1, h => by
    have h1 := yB_bd hM hO hg0 hg k (by omega)
    have h2 := hM k (by omega)
    have h3 := (fit_iff _).1 (getD_fit hO (k - 1))
    rw [yB, show M.getD k 0 = M[k]'(by omega) by simp [List.getD, show k < M.length by omega]]
    split <;> omega
theorem takeSum_bd {L : List Int} (h : L.all fit = true) : ∀ k, k ≤ L.length → -(1099511627776 * (k : Int)) ≤ (L.take k).sum ∧ (L.take k).sum ≤ 1099511627776 * (k : Int)
  | 0, _ => by simp
  | k + 1, hk => by
    have h1 := takeSum_bd h k (by omega)
    have h2 := (fit_iff _).1 (List.all_eq_true.1 h _ (List.getElem_mem (show k < L.length by omega)))
    rw [take_sum L k hk]
    omega

def MainPost (outer : List Int) (gap room : Int) (j : Nat) (back : Bool) (w : World) (e : Ending) (w' : World) : Prop :=
  ∃ v, e = .returned (.tuple #[v, .int .i64 (mainR outer gap room j back).2]) ∧ Owns w' w.heap.size v (mainR outer gap room j back).1 ∧ Below w.heap.size w w'
def FmL (outer : List Int) (l0 : Int) (w1 : World) (l i : Value) (wr : World) : Prop :=
  ∃ k : Nat, k ≤ outer.length ∧ i = .int .i64 k ∧ l = .int .i64 (l0 - (outer.take k).sum) ∧ wr = w1
def FmA (M outer : List Int) (gap room : Int) (back : Bool) (w1 : World) (at_ y i : Value) (wr : World) : Prop :=
  ∃ k : Nat, k ≤ outer.length ∧ i = .int .i64 k ∧ y = .int .i64 (yB M outer gap k) ∧ Owns wr w1.heap.size at_ (atTo M outer gap room back k) ∧ Below w1.heap.size w1 wr

set_option maxRecDepth 100000 in
set_option maxHeartbeats 4000000 in
theorem flexMain_bad (outer : List Int) (gap room : Int) (j : Nat) (back : Bool) (v : Value) (B : Nat) (w : World) (h : Ints w B v outer) (hm : outer.length ≤ 17592186044416) (hj : j < 256)
    (hbad : 300 < outer.length ∨ gap < 0 ∨ room < 0 ∨ 4 < j) :
    Calls Try.prog 83 #[v, .int .i64 gap, .int .i64 room, .int .u8 j, .bool back] w (MainPost outer gap room j back w) := by
  have HR := Lib.hid (show mainR outer gap room j back = ([], 2) by unfold mainR; rw [if_pos hbad])
  obtain ⟨A, c, rfl, _, _⟩ := h
  have h3 : 300 < outer.length ∨ (¬ 300 < outer.length ∧ gap < 0) ∨ (¬ 300 < outer.length ∧ ¬ gap < 0 ∧ room < 0) ∨ (¬ 300 < outer.length ∧ ¬ gap < 0 ∧ ¬ room < 0 ∧ 4 < j) := by omega
  clear hbad
  rcases h3 with g1 | ⟨g1, g2⟩ | ⟨g1, g2, g3⟩ | ⟨g1, g2, g3, g4⟩
  all_goals
    go_enter Try.func83, Try.ntmps83
    go_wp2_with fail
    go_ret2
    exact ⟨_, by rw [HR.out]; rfl, by rw [HR.out]; exact Owns.nil _ _, Below.refl _ _⟩

set_option maxRecDepth 100000 in
set_option maxHeartbeats 4000000 in
theorem flexMain_unfit (outer : List Int) (gap room : Int) (j : Nat) (back : Bool) (v : Value) (B : Nat) (w : World) (h : Ints w B v outer)
    (g1 : ¬ 300 < outer.length) (g2 : ¬ gap < 0) (g3 : ¬ room < 0) (g4 : ¬ 4 < j) (hun : ¬ (outer.all fit = true ∧ fit gap = true ∧ fit room = true)) :
    Calls Try.prog 83 #[v, .int .i64 gap, .int .i64 room, .int .u8 j, .bool back] w (MainPost outer gap room j back w) := by
  have HR := Lib.hid (show mainR outer gap room j back = ([], 10) by unfold mainR; rw [if_neg (by omega), if_neg hun])
  have hf1 := fits_any outer v B w h (by omega)
  have hf2 := fits_two gap room 3 w
  obtain ⟨A, c, rfl, _, _⟩ := h
  cases hA : outer.all fit with
  | false =>
    rw [hA] at hf1
    clear hun hA hf2
    go_enter Try.func83, Try.ntmps83
    go_wp2_with fail
    refine hf1.mono ?_
    rintro e w2 ⟨rfl, rfl⟩
    go_wp2_with fail
    go_ret2
    exact ⟨_, by rw [HR.out]; rfl, by rw [HR.out]; exact Owns.nil _ _, Below.refl _ _⟩
  | true =>
    have hb : (fit gap && fit room) = false := by
      cases h1 : fit gap <;> cases h2 : fit room <;> simp_all
    rw [hA] at hf1
    rw [hb] at hf2
    clear hun hA hb
    go_enter Try.func83, Try.ntmps83
    go_wp2_with fail
    refine hf1.mono ?_
    rintro e w2 ⟨rfl, rfl⟩
    go_wp2_with fail
    refine hf2.mono ?_
    rintro e w2 ⟨rfl, rfl⟩
    go_wp2_with fail
    go_ret2
    exact ⟨_, by rw [HR.out]; rfl, by rw [HR.out]; exact Owns.nil _ _, (Below.refl _ _).alloc (Nat.le_refl _) _⟩

set_option maxRecDepth 100000 in
set_option maxHeartbeats 4000000 in
theorem flexMain_good (outer : List Int) (gap room : Int) (j : Nat) (back : Bool) (v : Value) (B : Nat) (w : World) (h : Ints w B v outer) (hB : B ≤ w.heap.size)
    (g1 : ¬ 300 < outer.length) (g2 : ¬ gap < 0) (g3 : ¬ room < 0) (g4 : ¬ 4 < j) (hA : outer.all fit = true) (hg : fit gap = true) (hr : fit room = true) :
    Calls Try.prog 83 #[v, .int .i64 gap, .int .i64 room, .int .u8 j, .bool back] w (MainPost outer gap room j back w) := by
  have nb : ¬ (300 < outer.length ∨ gap < 0 ∨ room < 0 ∨ 4 < j) := by omega
  have hf1 := fits_any outer v B w h (by omega)
  have hf2 := fits_two gap room 3 w
  rw [hA] at hf1
  rw [hg, hr] at hf2
  obtain ⟨p1, p2⟩ := (fit_iff _).1 hg
  obtain ⟨p3, p4⟩ := (fit_iff _).1 hr
  have h' := h
  obtain ⟨A, c, rfl, _, hrd⟩ := h'
  have hb0 : Below w.heap.size w (w.alloc (.cells #[.int .i64 gap, .int .i64 room] 3)) := (Below.refl _ _).alloc (Nat.le_refl _) _
  have hrd1 := hrd.below (hb0.mono hB)
  have h1 := h.below (hb0.mono hB)
  have hn0 : outer.length = 0 ∨ 0 < outer.length := by omega
  rcases hn0 with hn0 | hn0
  · have HR := Lib.hid (show mainR outer gap room j back = ([], 0) by unfold mainR; rw [if_neg nb, if_pos ⟨hA, hg, hr⟩, if_pos hn0])
    clear nb
    have hq : ((outer.length : Int) == 0) = true := by simp [hn0]
    clear hn0
    go_enter Try.func83, Try.ntmps83
    go_wp2_with fail
    refine hf1.mono ?_
    rintro e w2 ⟨rfl, rfl⟩
    go_wp2_with fail
    refine hf2.mono ?_
    rintro e w2 ⟨rfl, rfl⟩
    go_wp2_with fail
    go_ret2
    exact ⟨_, by rw [HR.out]; rfl, by rw [HR.out]; exact Owns.nil _ _, hb0⟩
  · have HRb := Lib.hid (show fit (leftOf outer gap room) = false → mainR outer gap room j back = ([], 10) from fun hl => by unfold mainR; rw [if_neg nb, if_pos ⟨hA, hg, hr⟩, if_neg (by omega), if_neg (by rw [hl]; simp)])
    have HRo := Lib.hid (show ∀ l, fit (leftOf outer gap room) = true → atTo (moreR outer.length (leftOf outer gap room) j) outer gap room back outer.length = l → mainR outer gap room j back = if l.all fit = true then (l, 0) else ([], 10) from fun l hl e => by subst e; unfold mainR; rw [if_neg nb, if_pos ⟨hA, hg, hr⟩, if_neg (by omega), if_pos hl])
    clear nb
    have hq : ((outer.length : Int) == 0) = false := beq_eq_false_iff_ne.2 (by omega)
    obtain ⟨G, hG⟩ : ∃ G, gap * ((outer.length : Int) - 1) = G := ⟨_, rfl⟩
    have hG0 : 0 ≤ G := by rw [← hG]; exact Int.mul_nonneg (by omega) (by omega)
    have hG1 : G ≤ 1099511627776 * 300 := by rw [← hG]; exact Int.mul_le_mul p2 (by omega) (by omega) (by omega)
    have hw1 : IntKind.i64.wrap (gap * ((outer.length : Int) - 1)) = G := by rw [hG, IntKind.wrap_i64]; omega
    have HL := Lib.hid (show leftOf outer gap room = room - G - outer.sum by unfold leftOf; rw [hG])
    have HG := Lib.hid hG; clear hG
    have HA := Lib.hid hA; clear hA
    go_enter Try.func83, Try.ntmps83
    go_wp2_with fail
    refine hf1.mono ?_
    rintro e w2 ⟨rfl, rfl⟩
    go_wp2_with fail
    refine hf2.mono ?_
    rintro e w2 ⟨rfl, rfl⟩
    go_wp2_with fail
    clear hf1 hf2 hrd h hg hr
    generalize w.alloc (.cells #[.int .i64 gap, .int .i64 room] 3) = w1 at *
    have hs1 : w.heap.size ≤ w1.heap.size := hb0.size
    go_loopw [12, 59] (FmL outer (room - G) w1) (fun _ i _ => outer.length - (intOf i).toNat)
    case atStart => exact ⟨0, by omega, rfl, by simp, rfl⟩
    case round =>
      obtain ⟨k, hk, rfl, rfl, rfl⟩ := hrel
      by_cases hlt : k < outer.length
      · obtain ⟨ad, rfl, hbb, hcell⟩ := hrd1.val hlt
        have HT := Lib.hid (take_sum outer k hlt)
        obtain ⟨b1, b2⟩ := sum_bd HA.out k
        obtain ⟨b3, b4⟩ := (fit_iff _).1 (List.all_eq_true.1 HA.out _ (List.getElem_mem hlt))
        generalize outer[k] = x at *
        generalize (outer.take k).sum = S at *
        go_wp2_with fail
        go_roundw
        case rel => exact ⟨k + 1, hlt, by go_num, by rw [HT.out]; go_num, rfl⟩
        case measure => simp [intOf]; omega
      · obtain rfl : k = outer.length := by omega
        obtain ⟨b1, b2⟩ := sum_bd HA.out outer.length
        rw [List.take_of_length_le (Nat.le_refl _)] at b1 b2 ⊢
        obtain ⟨L, hL⟩ : ∃ L, room - G - outer.sum = L := ⟨_, rfl⟩
        rw [hL] at HL ⊢
        have hf3 := fits_one L 3 wr
        cases hfl : fit L with
        | false =>
          rw [hfl] at hf3
          have HR := Lib.hid (HRb.out (by rw [HL.out]; exact hfl))
          clear HRb HRo hfl hL HL
          go_wp2_with fail
          refine hf3.mono ?_
          rintro e w2 ⟨rfl, rfl⟩
          go_wp2_with fail
          go_ret2
          exact ⟨_, by rw [HR.out]; rfl, by rw [HR.out]; exact Owns.nil _ _, hb0.alloc hs1 _⟩
        | true =>
          rw [hfl] at hf3
          have mo := fun W => more_any outer.length (by omega) L hfl j (by omega) W
          have HRo' := Lib.hid (fun l => HRo.out l (by rw [HL.out]; exact hfl))
          have hml := moreR_len (show outer.length ≤ 300 by omega) hfl j
          have hmb := moreR_bd (show outer.length ≤ 300 by omega) hfl j
          rw [HL.out] at HRo'
          generalize moreR outer.length L j = M at *
          have hyb := yB_bd hmb HA.out (by omega) p2
          have HYB := Lib.hid hyb
          have HMB := Lib.hid hmb
          clear HRb HRo hfl hL HL hyb hmb b1 b2
          go_wp2_with fail
          refine hf3.mono ?_
          rintro e w2 ⟨rfl, rfl⟩
          go_wp2_with fail
          refine (mo _).mono ?_
          rintro e w2 ⟨mv, rfl, hmo, hb2⟩
          have hb02 : Below w.heap.size w w2 := (hb0.alloc hs1 _).trans (hb2.mono (by rw [World.size_alloc]; omega))
          have hI := hmo.ints
          obtain ⟨MA, Mc, rfl, hMc, hMr⟩ := hI
          have hrd2 := ((hrd1.alloc (by omega) _).below (hb2.mono (by rw [World.size_alloc]; omega)))
          clear mo hf3 hrd1 hmo hb2
          have hs2 : w.heap.size ≤ w2.heap.size := hb02.size
          have hB2 : B ≤ w2.heap.size := by omega
          go_wp2_with fail
          go_loopw [10, 15, 77] (FmA M outer gap room back w2) (fun _ _ i _ => outer.length + 1 - (intOf i).toNat)
          case atStart => exact ⟨0, by omega, rfl, rfl, Owns.nil _ _, Below.refl _ _⟩
          case round =>
            obtain ⟨k, hk, rfl, rfl, hown, hbr⟩ := hrel
            have hbase : w2.heap.size ≤ wr.heap.size := hbr.size
            have hlm : (k : Int) < (M.length : Int) := by omega
            obtain ⟨md, rfl, hmB, hmc⟩ := (hMr.below hbr).val (show k < M.length by omega)
            by_cases hlt : k < outer.length
            · have hkn : ((k : Int) == (outer.length : Int)) = false := beq_eq_false_iff_ne.2 (by omega)
              obtain ⟨ad, rfl, hbb, hcell⟩ := ((hrd2.below (hbr.mono hB2))).val hlt
              obtain ⟨y1, y2⟩ := HYB.out k (by omega)
              obtain ⟨y3, y4⟩ := HMB.out k (by omega)
              obtain ⟨x3, x4⟩ := (fit_iff _).1 (List.all_eq_true.1 HA.out _ (List.getElem_mem hlt))
              have HX := Lib.hid (show outer.getD k 0 = outer[k] by simp [List.getD, hlt])
              have HM := Lib.hid (show M.getD k 0 = M[k]'(by omega) by simp [List.getD, show k < M.length by omega])
              have HT := Lib.hid (atTo_succ M outer gap room back k)
              have hlk : (atTo M outer gap room back k).length < 17592186044416 := by rw [atTo_len]; omega
              have HY := Lib.hid (show yB M outer gap (k + 1) = yB M outer gap k + (if 0 < k then gap + outer.getD (k - 1) 0 else 0) + M.getD k 0 from rfl)
              have HF := Lib.hid (show atF M outer gap room back k = if back then room - yB M outer gap (k + 1) - outer.getD k 0 else yB M outer gap (k + 1) from rfl)
              rw [HX.out] at HF
              rw [HM.out] at HY
              generalize M[k]'(show k < M.length by omega) = m at *
              generalize outer[k] = x at *
              rcases Nat.eq_zero_or_pos k with h0 | h0
              · have hz0 : ¬ (0 : Int) < (k : Int) := by omega
                have hmc0 : wr.cell? md = some (.int .i64 m) := by have := hmc; rw [h0] at this; exact this
                have hcell0 : wr.cell? ad = some (.int .i64 x) := by have := hcell; rw [h0] at this; exact this
                rw [if_neg (by omega)] at HY
                generalize yB M outer gap k = y at *
                have HY2 := Lib.hid (show yB M outer gap (k + 1) = y + m by rw [HY.out]; omega)
                rw [HY2.out] at HF
                cases back with
                | false =>
                  have HV := Lib.hid (show atF M outer gap room false k = y + m from HF.out)
                  go_wp2_with (at_builtin; refine append_int _ (y + m) rfl _ _ rfl w2.heap.size u10 _ rfl hown rfl hlk hbase ?_; intro v3 w3 hown3 hb3)
                  go_roundw
                  case rel => exact ⟨k + 1, by omega, by go_num, by rw [HY2.out], by rw [HT.out, HV.out]; exact hown3, hbr.trans hb3⟩
                  case measure => simp [intOf] <;> omega
                | true =>
                  have HV := Lib.hid (show atF M outer gap room true k = room - (y + m) - x from HF.out)
                  go_wp2_with (at_builtin; refine append_int _ (room - (y + m) - x) rfl _ _ rfl w2.heap.size u10 _ rfl hown rfl hlk hbase ?_; intro v3 w3 hown3 hb3)
                  go_roundw
                  case rel => exact ⟨k + 1, by omega, by go_num, by rw [HY2.out], by rw [HT.out, HV.out]; exact hown3, hbr.trans hb3⟩
                  case measure => simp [intOf] <;> omega
              · have hk1 : k - 1 < outer.length := by omega
                obtain ⟨_, e', _, hcell1⟩ := ((hrd2.below (hbr.mono hB2))).val hk1
                cases e'
                have hki : IntKind.i64.wrap ((k : Int) - 1) = ((k - 1 : Nat) : Int) := by rw [IntKind.wrap_i64]; omega
                obtain ⟨z3, z4⟩ := (fit_iff _).1 (List.all_eq_true.1 HA.out _ (List.getElem_mem hk1))
                rw [if_pos h0, show outer.getD (k - 1) 0 = outer[k - 1] by simp [List.getD, hk1]] at HY
                generalize outer[k - 1] = z at *
                generalize k - 1 = k1 at *
                generalize yB M outer gap k = y at *
                rw [HY.out] at HF
                cases back with
                | false =>
                  have HV := Lib.hid (show atF M outer gap room false k = y + (gap + z) + m from HF.out)
                  go_wp2_with (at_builtin; refine append_int _ (y + (gap + z) + m) rfl _ _ rfl w2.heap.size u10 _ rfl hown rfl hlk hbase ?_; intro v3 w3 hown3 hb3)
                  go_roundw
                  case rel => exact ⟨k + 1, by omega, by go_num, by rw [HY.out], by rw [HT.out, HV.out]; exact hown3, hbr.trans hb3⟩
                  case measure => simp [intOf] <;> omega
                | true =>
                  have HV := Lib.hid (show atF M outer gap room true k = room - (y + (gap + z) + m) - x from HF.out)
                  go_wp2_with (at_builtin; refine append_int _ (room - (y + (gap + z) + m) - x) rfl _ _ rfl w2.heap.size u10 _ rfl hown rfl hlk hbase ?_; intro v3 w3 hown3 hb3)
                  go_roundw
                  case rel => exact ⟨k + 1, by omega, by go_num, by rw [HY.out], by rw [HT.out, HV.out]; exact hown3, hbr.trans hb3⟩
                  case measure => simp [intOf] <;> omega
            · obtain rfl : k = outer.length := by omega
              have HR := Lib.hid (HRo'.out _ rfl)
              have fA := fits_any _ _ _ wr hown.ints (by rw [atTo_len]; omega)
              have HO := Lib.hid (hown.base_le hs2)
              generalize atTo M outer gap room back outer.length = T at *
              have hbf := hb02.trans (hbr.mono hs2)
              cases hT : T.all fit with
              | true =>
                rw [hT] at fA HR
                clear hT
                go_wp2_with fail
                refine fA.mono ?_
                rintro e w4 ⟨rfl, rfl⟩
                go_wp2_with fail
                go_ret2
                exact ⟨_, by rw [HR.out]; rfl, by rw [HR.out]; exact HO.out, hbf⟩
              | false =>
                rw [hT] at fA HR
                clear hT
                go_wp2_with fail
                refine fA.mono ?_
                rintro e w4 ⟨rfl, rfl⟩
                go_wp2_with fail
                go_ret2
                exact ⟨_, by rw [HR.out]; rfl, by rw [HR.out]; exact Owns.nil _ _, hbf⟩

/-- flex.Main: what it answers. -/
theorem flexMain_any (outer : List Int) (gap room : Int) (j : Nat) (hj : j < 256) (back : Bool) (v : Value) (B : Nat) (w : World) (h : Ints w B v outer) (hB : B ≤ w.heap.size) (hm : outer.length ≤ 17592186044416) :
    Calls Try.prog 83 #[v, .int .i64 gap, .int .i64 room, .int .u8 j, .bool back] w (MainPost outer gap room j back w) := by
  by_cases hb : 300 < outer.length ∨ gap < 0 ∨ room < 0 ∨ 4 < j
  · exact flexMain_bad outer gap room j back v B w h hm hj hb
  · by_cases hf : outer.all fit = true ∧ fit gap = true ∧ fit room = true
    · exact flexMain_good outer gap room j back v B w h hB (by omega) (by omega) (by omega) (by omega) hf.1 hf.2.1 hf.2.2
    · exact flexMain_unfit outer gap room j back v B w h (by omega) (by omega) (by omega) (by omega) hf

end Go.Proofs.Ytpelapdadgmlkaa
