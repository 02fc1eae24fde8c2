/-
  Plain: what is ahead of each box, by how they stand: what FlexBeside and FlexAsked ask.
-/
import Derived.Test.YtpelapdadgmlkaaFlexNear
import Derived.Test.YtpelapdadgmlkaaLeft17
import Derived.Test.YtpelapdadgmlkaaAcross
namespace Go.Proofs.Ytpelapdadgmlkaa
open Go.RowKit

theorem zs_alike {n : Nat} {left : Int} (hf : fit left = true) (h0 : 0 ≤ left) {a b c : Int} (ha : a = 0 ∨ a = 1) (hb : b = 0 ∨ b = 1) (hc : c = 0 ∨ c = 1) {i k : Nat} (hik : i < k) (hk : k ≤ n) (h : wgAt n a b c i = wgAt n a b c k) :
    0 ≤ (zsOf left (wgts n a b c)).getD i 0 - (zsOf left (wgts n a b c)).getD k 0 ∧ (zsOf left (wgts n a b c)).getD i 0 - (zsOf left (wgts n a b c)).getD k 0 ≤ 1 := by
  have hl : (wgts n a b c).length = n + 1 := wgts_len _ _ _ _
  have hz : (zsOf left (wgts n a b c)).length = n + 1 := by rw [zsOf_len, hl]
  rw [getD_at (show i < _ by omega), getD_at (show k < _ by omega)]
  have h1 := (given_facts hf (wgts_ok n ha hb hc)).alike k i (by omega) (by omega) (by omega) (by omega) hik (by rw [wgts_at, wgts_at, h])
  rw [show sgn left = 1 from if_neg (by omega)] at h1
  omega
theorem zs_pos {n : Nat} {left : Int} (hf : fit left = true) (h0 : 0 ≤ left) {a b c : Int} (ha : a = 0 ∨ a = 1) (hb : b = 0 ∨ b = 1) (hc : c = 0 ∨ c = 1) (i : Nat) :
    0 ≤ (zsOf left (wgts n a b c)).getD i 0 ∧ (zsOf left (wgts n a b c)).getD i 0 ≤ 1099511627776 := by
  by_cases h : i < (zsOf left (wgts n a b c)).length
  · rw [getD_at h]
    exact (given_facts hf (wgts_ok n ha hb hc)).pos h0 i h
  · rw [show (zsOf left (wgts n a b c)).getD i 0 = 0 by simp [List.getD, h]]
    omega
theorem mid_m {n : Nat} (hn : n ≤ 300) {left : Int} (hf : fit left = true) {i : Nat} (h0 : 0 < i) : (moreR n left 2).getD i 0 = 0 := by
  rw [moreR_eq hn hf, if_pos rfl, wgts_zero, show i = (i - 1) + 1 by omega]
  simp only [List.set_cons_zero, List.getD, List.getElem?_cons_succ, List.getElem?_replicate]
  split <;> rfl
theorem mid_first {n : Nat} (hn : n ≤ 300) {left : Int} (hf : fit left = true) : (moreR n left 2).getD 0 0 = left.tdiv 2 := by
  rw [moreR_eq hn hf, if_pos rfl, wgts_zero]
  simp
theorem less_m {n : Nat} (hn : n ≤ 300) {left : Int} (hf : fit left = true) (hl : left ≤ 0) {j : Nat} (hj : j = 3 ∨ j = 4) {i : Nat} (hi : i < n) : (moreR n left j).getD i 0 = 0 := by
  rw [moreR_eq hn hf, if_neg (by omega), show moreW n left j = wgts n 0 0 1 by unfold moreW; rcases hj with rfl | rfl <;> simp [hl]]
  exact zs_zero hf (by simp) (by simp) (by simp) (by omega) (by unfold wgAt; split <;> (try split) <;> omega)
theorem between_eq {n : Nat} (hn : n ≤ 300) {left : Int} (hf : fit left = true) (hl : 0 < left) (h1 : 1 < n) : moreR n left 3 = zsOf left (wgts n 0 1 0) := by
  rw [moreR_eq hn hf, if_neg (by omega), show moreW n left 3 = wgts n 0 1 0 by unfold moreW; simp [show ¬ left ≤ 0 by omega, h1]]
theorem between_one {left : Int} (hf : fit left = true) (hl : 0 < left) : (moreR 1 left 3).getD 0 0 = 0 := by
  rw [moreR_eq (by omega) hf, if_neg (by omega), show moreW 1 left 3 = wgts 1 0 1 1 by unfold moreW; simp [show ¬ left ≤ 0 by omega]]
  exact zs_zero hf (by simp) (by simp) (by simp) (by omega) (by simp [wgAt])
theorem evenly_eq {n : Nat} (hn : n ≤ 300) {left : Int} (hf : fit left = true) (hl : 0 < left) : moreR n left 4 = zsOf left (wgts n 1 1 1) := by
  rw [moreR_eq hn hf, if_neg (by omega), show moreW n left 4 = wgts n 1 1 1 by unfold moreW; simp [show ¬ left ≤ 0 by omega]]
/-- Behind the first place. -/
theorem inner_m {n : Nat} (hn : n ≤ 300) {left : Int} (hf : fit left = true) {j : Nat} (hj : j ≤ 4) {i : Nat} (h0 : 0 < i) (hi : i < n) :
    0 ≤ (moreR n left j).getD i 0 ∧ (moreR n left j).getD i 0 ≤ 1099511627776 ∧ ((moreR n left j).getD i 0 = 0 ∨ (0 < left ∧ (j = 3 ∨ j = 4))) := by
  have h3 : j = 0 ∨ j = 1 ∨ j = 2 ∨ (j = 3 ∨ j = 4) := by omega
  rcases h3 with rfl | rfl | rfl | h3
  · rw [start_m hn hf hi]; simp
  · rw [end_m hn hf h0 (by omega)]; simp
  · rw [mid_m hn hf h0]; simp
  · rcases Int.lt_or_le 0 left with hl | hl
    · have : 0 ≤ (moreR n left j).getD i 0 ∧ (moreR n left j).getD i 0 ≤ 1099511627776 := by
        rcases h3 with rfl | rfl
        · rw [between_eq hn hf hl (by omega)]; exact zs_pos hf (by omega) (by simp) (by simp) (by simp) i
        · rw [evenly_eq hn hf hl]; exact zs_pos hf (by omega) (by simp) (by simp) (by simp) i
      exact ⟨this.1, this.2, .inr ⟨hl, h3⟩⟩
    · rw [less_m hn hf hl h3 hi]; simp

/-- Where box k begins: what FlexBeside asks. -/
theorem beside_in {outer : List Int} {gap room : Int} {j : Nat} (hd : wideHead outer gap room j) (hN : outer.all isNear = true) {k : Nat} (hk : k < outer.length) (hl : 0 ≤ leftOf outer gap room) :
    0 ≤ atF (moreR outer.length (leftOf outer gap room) j) outer gap room false k ∧ atF (moreR outer.length (leftOf outer gap room) j) outer gap room false k + outer[k] ≤ room := by
  have hf := near_fit hd hN (by omega)
  obtain ⟨q1, q2, q3, q4, q5, q6⟩ := hd
  have hn : outer.length ≤ 300 := by omega
  obtain ⟨m1, m2⟩ := (moreR_part hn hf j k).1 hl
  have h1 := (near_sum hN k).1
  have h2 := (near_sum hN (k + 1)).2
  rw [take_sum outer k hk] at h2
  have h3 : 0 ≤ gap * (k : Int) := Int.mul_nonneg q2 (by omega)
  have h4 : gap * (k : Int) ≤ gap * ((outer.length : Int) - 1) := Int.mul_le_mul_of_nonneg_left (by omega) q2
  have h5 : atF (moreR outer.length (leftOf outer gap room) j) outer gap room false k = ((moreR outer.length (leftOf outer gap room) j).take (k + 1)).sum + gap * (k : Int) + (outer.take k).sum := by
    show yB _ _ _ _ = _
    rw [yB_eq gap k (by rw [moreR_len hn hf]; omega) (by omega)]
  have h6 : leftOf outer gap room = room - gap * ((outer.length : Int) - 1) - outer.sum := rfl
  rw [h5]
  generalize ((moreR outer.length (leftOf outer gap room) j).take (k + 1)).sum = S at *
  generalize leftOf outer gap room = L at *
  omega
theorem atF_step (M outer : List Int) (gap room : Int) {k : Nat} (h0 : 0 < k) (hk : k - 1 < outer.length) : atF M outer gap room false k - atF M outer gap room false (k - 1) - outer[k - 1] = gap + M.getD k 0 := by
  show yB M outer gap (k + 1) - yB M outer gap (k - 1 + 1) - _ = _
  rw [show k - 1 + 1 = k by omega, yB, if_pos h0, getD_at hk]
  omega

/-! The least and the greatest behind the first place. -/
def lsTo (M : List Int) : Nat → Int
  | 0 => 1099511627776
  | k + 1 => min (lsTo M k) (M.getD (k + 1) 0)
def msTo (M : List Int) : Nat → Int
  | 0 => 0
  | k + 1 => max (msTo M k) (M.getD (k + 1) 0)
theorem lsTo_ge {M : List Int} {c : Int} (hc : c ≤ 1099511627776) : ∀ {k : Nat}, (∀ i, 0 < i → i ≤ k → c ≤ M.getD i 0) → c ≤ lsTo M k
  | 0, _ => hc
  | k + 1, h => by
    have h1 := lsTo_ge hc (k := k) fun i h0 hi => h i h0 (by omega)
    have h2 := h (k + 1) (by omega) (by omega)
    rw [lsTo]
    omega
theorem msTo_le {M : List Int} {c : Int} (hc : 0 ≤ c) : ∀ {k : Nat}, (∀ i, 0 < i → i ≤ k → M.getD i 0 ≤ c) → msTo M k ≤ c
  | 0, _ => hc
  | k + 1, h => by
    have h1 := msTo_le hc (k := k) fun i h0 hi => h i h0 (by omega)
    have h2 := h (k + 1) (by omega) (by omega)
    rw [msTo]
    omega
theorem lsTo_le (M : List Int) : ∀ k, lsTo M k ≤ 1099511627776
  | 0 => Int.le_refl _
  | k + 1 => by have := lsTo_le M k; rw [lsTo]; omega
theorem msTo_ge (M : List Int) : ∀ k, 0 ≤ msTo M k
  | 0 => Int.le_refl _
  | k + 1 => by have := msTo_ge M k; rw [msTo]; omega

/-- Ahead of the first box, behind the last one. -/
theorem ahead_eq {outer : List Int} {gap room : Int} (M : List Int) : atF M outer gap room false 0 = M.getD 0 0 := by
  show yB M outer gap 1 = _
  simp [yB]
theorem behind_eq {outer : List Int} {gap room : Int} {j : Nat} (hd : wideHead outer gap room j) (hN : outer.all isNear = true) (h0 : outer.length - 1 < outer.length) :
    room - atF (moreR outer.length (leftOf outer gap room) j) outer gap room false (outer.length - 1) - outer[outer.length - 1] = leftOf outer gap room - ((moreR outer.length (leftOf outer gap room) j).take outer.length).sum := by
  have hf := near_fit hd hN (by omega)
  have hn : outer.length ≤ 300 := by have := hd.1; omega
  have h5 : atF (moreR outer.length (leftOf outer gap room) j) outer gap room false (outer.length - 1) = ((moreR outer.length (leftOf outer gap room) j).take outer.length).sum + gap * ((outer.length - 1 : Nat) : Int) + (outer.take (outer.length - 1)).sum := by
    show yB _ _ _ _ = _
    rw [yB_eq gap (outer.length - 1) (by rw [moreR_len hn hf]; omega) (by omega), show outer.length - 1 + 1 = outer.length by omega]
  have h6 := take_sum outer (outer.length - 1) h0
  rw [show outer.length - 1 + 1 = outer.length by omega, List.take_of_length_le (Nat.le_refl _)] at h6
  have h7 : leftOf outer gap room = room - gap * ((outer.length : Int) - 1) - outer.sum := rfl
  rw [show ((outer.length - 1 : Nat) : Int) = (outer.length : Int) - 1 by omega] at h5
  rw [h5]
  generalize ((moreR outer.length (leftOf outer gap room) j).take outer.length).sum = S at *
  generalize gap * ((outer.length : Int) - 1) = G at *
  generalize leftOf outer gap room = L at *
  omega

/-- What FlexAsked asks of what is ahead, behind, the least, the greatest between, and what is left. -/
def Asked (n j : Nat) (ahead behind least most left : Int) : Prop :=
  (j = 0 ∧ ahead = 0 ∧ behind = left) ∨ (j = 1 ∧ ahead = left ∧ behind = 0) ∨ (j = 2 ∧ ahead + behind = left ∧ ahead - behind ≤ 1 ∧ behind - ahead ≤ 1) ∨
  ((j = 3 ∨ j = 4) ∧ left ≤ 0 ∧ ahead = 0 ∧ behind = left ∧ most = 0) ∨
  (j = 3 ∧ 0 < left ∧ ahead = 0 ∧ n = 1) ∨ (j = 3 ∧ 0 < left ∧ ahead = 0 ∧ n ≠ 1 ∧ behind = 0 ∧ most - least ≤ 1) ∨
  (j = 4 ∧ 0 < left ∧ max (max most ahead) behind - min (min least ahead) behind ≤ 1 ∧ behind ≤ ahead)

theorem asked_all {n : Nat} (h1 : 0 < n) (hn : n ≤ 300) {left : Int} (hf : fit left = true) {j : Nat} (hj : j ≤ 4) :
    Asked n j ((moreR n left j).getD 0 0) (left - ((moreR n left j).take n).sum) (lsTo (moreR n left j) (n - 1)) (msTo (moreR n left j) (n - 1)) left := by
  unfold Asked
  have h3 : j = 0 ∨ j = 1 ∨ j = 2 ∨ (j = 3 ∨ j = 4) := by omega
  rcases h3 with rfl | rfl | rfl | h3
  · refine .inl ⟨rfl, start_m hn hf h1, ?_⟩
    rw [part_zero (n := n) (fun i hi => start_m hn hf hi) n (Nat.le_refl _)]
    omega
  · refine .inr (.inl ⟨rfl, ?_, ?_⟩)
    · have := end_part hn hf h1
      rwa [part_first (n := n) (fun i h0 hi => end_m hn hf h0 (by omega)) 0 h1] at this
    · have := end_part hn hf (show n - 1 < n by omega)
      rw [show n - 1 + 1 = n by omega] at this
      omega
  · refine .inr (.inr (.inl ⟨rfl, ?_⟩))
    have h2 := part_first (L := moreR n left 2) (n := n) (fun i h0 _ => mid_m hn hf h0) (n - 1) (by omega)
    rw [show n - 1 + 1 = n by omega, mid_first hn hf] at h2
    rw [mid_first hn hf, h2]
    have := tdiv_two left
    omega
  · rcases Int.lt_or_le 0 left with hl | hl
    · rcases h3 with rfl | rfl
      · by_cases hn1 : n = 1
        · subst hn1
          exact .inr (.inr (.inr (.inr (.inl ⟨rfl, hl, between_one hf hl, rfl⟩))))
        · refine .inr (.inr (.inr (.inr (.inr (.inl ⟨rfl, hl, ?_, hn1, ?_, ?_⟩)))))
          · rw [between_eq hn hf hl (by omega)]
            exact zs_zero hf (by simp) (by simp) (by simp) (by omega) (by simp [wgAt])
          · rw [between_eq hn hf hl (by omega), zs_last hf (by simp) (by simp) (by simp) (i := 1) (by omega) (by simp [wgAt]; omega), zs_zero hf (by simp) (by simp) (by simp) (Nat.le_refl n) (by unfold wgAt; rw [if_neg (by omega), if_pos rfl])]
            omega
          · rw [between_eq hn hf hl (by omega)]
            have hp := zs_pos (n := n) hf (show 0 ≤ left by omega) (a := 0) (b := 1) (c := 0) (by simp) (by simp) (by simp) (n - 1)
            have hw : ∀ i, 0 < i → i < n → wgAt n 0 1 0 i = 1 := fun i h0 hi => by unfold wgAt; rw [if_neg (by omega), if_neg (by omega)]
            have ha : ∀ i, 0 < i → i ≤ n - 1 → (zsOf left (wgts n 0 1 0)).getD (n - 1) 0 ≤ (zsOf left (wgts n 0 1 0)).getD i 0 ∧ (zsOf left (wgts n 0 1 0)).getD i 0 ≤ (zsOf left (wgts n 0 1 0)).getD (n - 1) 0 + 1 := fun i h0 hi => by
              by_cases e : i = n - 1
              · subst e; omega
              · have := zs_alike (n := n) hf (show 0 ≤ left by omega) (a := 0) (b := 1) (c := 0) (by simp) (by simp) (by simp) (show i < n - 1 by omega) (by omega) (by rw [hw i h0 (by omega), hw (n - 1) (by omega) (by omega)])
                omega
            have hls := lsTo_ge (k := n - 1) hp.2 fun i h0 hi => (ha i h0 hi).1
            have hms := msTo_le (k := n - 1) (c := (zsOf left (wgts n 0 1 0)).getD (n - 1) 0 + 1) (by omega) fun i h0 hi => (ha i h0 hi).2
            omega
      · refine .inr (.inr (.inr (.inr (.inr (.inr ⟨rfl, hl, ?_, ?_⟩)))))
        · rw [evenly_eq hn hf hl, zs_last hf (by simp) (by simp) (by simp) (i := 0) (by omega) (by simp [wgAt])]
          have hw : ∀ i, wgAt n 1 1 1 i = 1 := fun i => by simp [wgAt]
          have hp := zs_pos (n := n) hf (show 0 ≤ left by omega) (a := 1) (b := 1) (c := 1) (by simp) (by simp) (by simp) n
          have ha : ∀ i, i < n → (zsOf left (wgts n 1 1 1)).getD n 0 ≤ (zsOf left (wgts n 1 1 1)).getD i 0 ∧ (zsOf left (wgts n 1 1 1)).getD i 0 ≤ (zsOf left (wgts n 1 1 1)).getD n 0 + 1 := fun i hi => by
            have := zs_alike (n := n) hf (show 0 ≤ left by omega) (a := 1) (b := 1) (c := 1) (by simp) (by simp) (by simp) hi (Nat.le_refl _) (by rw [hw, hw])
            omega
          have hls := lsTo_ge (k := n - 1) hp.2 fun i h0 hi => (ha i (by omega)).1
          have hms := msTo_le (k := n - 1) (c := (zsOf left (wgts n 1 1 1)).getD n 0 + 1) (by omega) fun i h0 hi => (ha i (by omega)).2
          have h0 := ha 0 h1
          omega
        · rw [evenly_eq hn hf hl, zs_last hf (by simp) (by simp) (by simp) (i := 0) (by omega) (by simp [wgAt])]
          have := zs_alike (n := n) hf (show 0 ≤ left by omega) (a := 1) (b := 1) (c := 1) (by simp) (by simp) (by simp) h1 (Nat.le_refl _) (by simp [wgAt])
          omega
    · refine .inr (.inr (.inr (.inl ⟨h3, hl, less_m hn hf hl h3 h1, ?_, ?_⟩)))
      · rw [part_zero (n := n) (fun i hi => less_m hn hf hl h3 hi) n (Nat.le_refl _)]
        omega
      · have h4 := msTo_le (M := moreR n left j) (k := n - 1) (c := 0) (by omega) fun i h0 hi => by rw [less_m hn hf hl h3 (by omega)]; omega
        have h5 := msTo_ge (moreR n left j) (n - 1)
        omega

theorem atTo_get {M outer : List Int} {gap room : Int} {back : Bool} {n k : Nat} (h : k < n) : (atTo M outer gap room back n).getD k 0 = atF M outer gap room back k := by
  rw [getD_at (by rw [atTo_len]; exact h)]
  simp [atTo]
theorem lfTo_left {outer : List Int} (gap room : Int) (h : 0 < outer.length) : lfTo outer gap room outer.length = leftOf outer gap room := by
  unfold lfTo leftOf
  rw [List.take_of_length_le (Nat.le_refl _), show ((outer.length - 1 : Nat) : Int) = (outer.length : Int) - 1 by omega]
  omega

/-- What FlexBeside asks of what Main tells. -/
theorem beside_list {outer : List Int} {gap room : Int} {j : Nat} (hd : nearHead outer gap room j) (hN : outer.all isNear = true) :
    ∃ (L : List Int) (F : Int), mainR outer gap room j false = (L, 0) ∧ lfTo outer gap room outer.length = F ∧ L.length = outer.length ∧ -107374182400 ≤ F ∧ F ≤ 274877906944 ∧
      ∀ k, k < outer.length → -107374182400 ≤ L.getD k 0 ∧ L.getD k 0 ≤ 657129996288 ∧ (0 ≤ F → 0 ≤ L.getD k 0 ∧ L.getD k 0 + outer.getD k 0 ≤ room) ∧
        (0 < k → ∃ m, L.getD k 0 - L.getD (k - 1) 0 - outer.getD (k - 1) 0 = gap + m ∧ 0 ≤ m ∧ m ≤ 1099511627776 ∧ (m = 0 ∨ (0 < F ∧ (j = 3 ∨ j = 4)))) := by
  have hw := hd.wide
  obtain ⟨q1, q2, q3, q4, q5, q6⟩ := hd
  refine ⟨_, _, wide_main hw hN false, rfl, atTo_len _ _ _ _ _ _, ?_⟩
  rcases Nat.eq_zero_or_pos outer.length with h0 | h0
  · rw [h0]
    have : lfTo outer gap room 0 = room := by simp [lfTo]
    rw [this]
    exact ⟨by omega, by omega, fun k hk => absurd hk (by omega)⟩
  · rw [lfTo_left gap room h0]
    have hl := near_left hw hN h0
    have hf := near_fit hw hN h0
    refine ⟨hl.1, by omega, fun k hk => ?_⟩
    have hy := near_y hw hN hk
    change -107374182400 ≤ atF (moreR outer.length (leftOf outer gap room) j) outer gap room false k ∧ atF (moreR outer.length (leftOf outer gap room) j) outer gap room false k ≤ 657129996288 at hy
    rw [atTo_get hk]
    refine ⟨hy.1, hy.2, fun hF => ?_, fun hk0 => ?_⟩
    · rw [getD_at hk]
      exact beside_in hw hN hk hF
    · rw [atTo_get (show k - 1 < outer.length by omega), getD_at (show k - 1 < outer.length by omega), atF_step _ _ _ _ hk0 (by omega)]
      have hm := inner_m (show outer.length ≤ 300 by omega) hf (j := j) q6 hk0 hk
      exact ⟨_, rfl, hm.1, hm.2.1, hm.2.2⟩
/-- What FlexAsked asks of it. -/
theorem asked_list {outer : List Int} {gap room : Int} {j : Nat} (hd : nearHead outer gap room j) (hN : outer.all isNear = true) (h0 : 0 < outer.length) :
    ∃ (L M : List Int) (F : Int), mainR outer gap room j false = (L, 0) ∧ lfTo outer gap room outer.length = F ∧ L.length = outer.length ∧ -107374182400 ≤ F ∧ F ≤ 274877906944 ∧
      (∀ k, k < outer.length → -107374182400 ≤ L.getD k 0 ∧ L.getD k 0 ≤ 657129996288) ∧
      (∀ k, 0 < k → k < outer.length → L.getD k 0 - L.getD (k - 1) 0 - outer.getD (k - 1) 0 - gap = M.getD k 0 ∧ 0 ≤ M.getD k 0 ∧ M.getD k 0 ≤ 1099511627776) ∧
      Asked outer.length j (L.getD 0 0) (room - L.getD (outer.length - 1) 0 - outer.getD (outer.length - 1) 0) (lsTo M (outer.length - 1)) (msTo M (outer.length - 1)) F := by
  have hw := hd.wide
  obtain ⟨q1, q2, q3, q4, q5, q6⟩ := hd
  have hl := near_left hw hN h0
  have hf := near_fit hw hN h0
  refine ⟨_, moreR outer.length (leftOf outer gap room) j, _, wide_main hw hN false, lfTo_left gap room h0, atTo_len _ _ _ _ _ _, hl.1, by omega, fun k hk => ?_, fun k hk0 hk => ?_, ?_⟩
  · rw [atTo_get hk]
    exact near_y hw hN hk
  · rw [atTo_get hk, atTo_get (show k - 1 < outer.length by omega), getD_at (show k - 1 < outer.length by omega), atF_step _ _ _ _ hk0 (by omega)]
    have hm := inner_m (show outer.length ≤ 300 by omega) hf (j := j) q6 hk0 hk
    exact ⟨by omega, hm.1, hm.2.1⟩
  · rw [atTo_get h0, atTo_get (show outer.length - 1 < outer.length by omega), getD_at (show outer.length - 1 < outer.length by omega), behind_eq hw hN (by omega), ahead_eq]
    exact asked_all h0 (by omega) hf q6

end Go.Proofs.Ytpelapdadgmlkaa
