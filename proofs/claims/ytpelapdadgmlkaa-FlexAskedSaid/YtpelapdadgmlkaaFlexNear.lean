/-
  Plain: flex.Main where near holds: nothing is refused.
-/
import Derived.Test.YtpelapdadgmlkaaFlexMain2
import Derived.Test.YtpelapdadgmlkaaNear17
namespace Go.Proofs.Ytpelapdadgmlkaa
open Go.RowKit

theorem getD_at {L : List Int} {k : Nat} (h : k < L.length) : L.getD k 0 = L[k] := by simp [List.getD, h]
theorem yB_eq {M outer : List Int} (gap : Int) : ∀ k, k < M.length → k ≤ outer.length → yB M outer gap (k + 1) = (M.take (k + 1)).sum + gap * (k : Int) + (outer.take k).sum
  | 0, h, _ => by
    rw [yB, yB, if_neg (by omega), take_sum M 0 h, getD_at h]
    simp
  | k + 1, h, h2 => by
    rw [yB, yB_eq gap k (by omega) (by omega), if_pos (by omega), take_sum M (k + 1) h, getD_at h, show k + 1 - 1 = k by omega, getD_at (show k < outer.length by omega), take_sum outer k (by omega)]
    rw [show ((k + 1 : Nat) : Int) = (k : Int) + 1 by omega, Int.mul_add]
    omega

theorem sum_nonneg_ : ∀ {L : List Int}, (∀ x ∈ L, 0 ≤ x) → 0 ≤ L.sum
  | [], _ => by simp
  | x :: L, h => by
    have h1 := h x (by simp)
    have h2 := sum_nonneg_ (L := L) fun y hy => h y (by simp [hy])
    rw [List.sum_cons]
    omega
theorem sum_nonpos_ : ∀ {L : List Int}, (∀ x ∈ L, x ≤ 0) → L.sum ≤ 0
  | [], _ => by simp
  | x :: L, h => by
    have h1 := h x (by simp)
    have h2 := sum_nonpos_ (L := L) fun y hy => h y (by simp [hy])
    rw [List.sum_cons]
    omega
theorem part_nonneg {L : List Int} (h : ∀ x ∈ L, 0 ≤ x) (k : Nat) : 0 ≤ (L.take k).sum ∧ (L.take k).sum ≤ L.sum := by
  have h1 := sum_nonneg_ (L := L.take k) fun x hx => h x (List.mem_of_mem_take hx)
  have h2 := sum_nonneg_ (L := L.drop k) fun x hx => h x (List.mem_of_mem_drop hx)
  have h3 : L.sum = (L.take k).sum + (L.drop k).sum := by rw [← List.sum_append, List.take_append_drop]
  omega
theorem part_nonpos {L : List Int} (h : ∀ x ∈ L, x ≤ 0) (k : Nat) : (L.take k).sum ≤ 0 ∧ L.sum ≤ (L.take k).sum := by
  have h1 := sum_nonpos_ (L := L.take k) fun x hx => h x (List.mem_of_mem_take hx)
  have h2 := sum_nonpos_ (L := L.drop k) fun x hx => h x (List.mem_of_mem_drop hx)
  have h3 : L.sum = (L.take k).sum + (L.drop k).sum := by rw [← List.sum_append, List.take_append_drop]
  omega

theorem share_part {left : Int} {ws : List Int} (hf : fit left = true) (hw : ws.all isWeight = true) (k : Nat) :
    (0 ≤ left → 0 ≤ ((zsOf left ws).take k).sum ∧ ((zsOf left ws).take k).sum ≤ left) ∧ (left < 0 → ((zsOf left ws).take k).sum ≤ 0 ∧ left ≤ ((zsOf left ws).take k).sum) := by
  have F := given_facts hf hw
  have hs := F.sum
  refine ⟨fun h => ?_, fun h => ?_⟩
  · have h1 := part_nonneg (L := zsOf left ws) (fun x hx => by
      obtain ⟨i, hi, rfl⟩ := List.getElem_of_mem hx
      exact (F.pos h i hi).1) k
    split at hs <;> omega
  · have h1 := part_nonpos (L := zsOf left ws) (fun x hx => by
      obtain ⟨i, hi, rfl⟩ := List.getElem_of_mem hx
      exact (F.neg h i hi).1) k
    split at hs <;> omega

theorem wgts_zero (n : Nat) : wgts n 0 0 0 = 0 :: List.replicate n 0 := by
  refine List.ext_getElem (by simp [wgts_len]) fun i h1 h2 => ?_
  have e : (wgts n 0 0 0)[i] = 0 := by simp [wgts, wgTo, wgAt]
  rw [e]
  cases i with
  | zero => rfl
  | succ i => simp
theorem mid_part (n k : Nat) (d : Int) : (((wgts n 0 0 0).set 0 d).take (k + 1)).sum = d := by
  rw [wgts_zero]
  simp [List.take_replicate]

theorem moreR_part {n : Nat} (hn : n ≤ 300) {left : Int} (hf : fit left = true) (j k : Nat) :
    (0 ≤ left → 0 ≤ ((moreR n left j).take (k + 1)).sum ∧ ((moreR n left j).take (k + 1)).sum ≤ left) ∧ (left < 0 → ((moreR n left j).take (k + 1)).sum ≤ 0 ∧ left ≤ ((moreR n left j).take (k + 1)).sum) := by
  rw [moreR_eq hn hf]
  by_cases h2 : j = 2
  · rw [if_pos h2, mid_part]
    refine ⟨fun h => ?_, fun h => ?_⟩
    · rw [Int.tdiv_eq_ediv_of_nonneg h]; omega
    · rw [show left.tdiv 2 = -((-left).tdiv 2) by rw [Int.neg_tdiv]; omega, Int.tdiv_eq_ediv_of_nonneg (by omega)]; omega
  · rw [if_neg h2]
    exact share_part hf (moreW_ok _ _ _) _

theorem near_sum {outer : List Int} (h : outer.all isNear = true) (k : Nat) : 0 ≤ (outer.take k).sum ∧ (outer.take k).sum ≤ outer.sum :=
  part_nonneg (fun x hx => ((isNear_iff _).1 (List.all_eq_true.1 h x hx)).1) k
theorem near_total : ∀ {outer : List Int}, outer.all isNear = true → outer.sum ≤ 268435456 * (outer.length : Int)
  | [], _ => by simp
  | x :: L, h => by
    rw [List.all_cons, Bool.and_eq_true] at h
    have h1 := (isNear_iff _).1 h.1
    have h2 := near_total (outer := L) h.2
    rw [List.sum_cons, List.length_cons]
    omega

/-- near, but with more room. -/
def wideHead (outer : List Int) (gap room : Int) (j : Nat) : Prop := outer.length ≤ 200 ∧ 0 ≤ gap ∧ gap ≤ 268435456 ∧ 0 ≤ room ∧ room ≤ 549755813888 ∧ j ≤ 4
theorem nearHead.wide {outer : List Int} {gap room : Int} {j : Nat} (h : nearHead outer gap room j) : wideHead outer gap room j := by
  obtain ⟨q1, q2, q3, q4, q5, q6⟩ := h
  exact ⟨q1, q2, q3, q4, by omega, q6⟩

/-- Where near holds nothing is refused. -/
theorem near_left {outer : List Int} {gap room : Int} {j : Nat} (hd : wideHead outer gap room j) (hN : outer.all isNear = true) (h0 : 0 < outer.length) :
    -107374182400 ≤ leftOf outer gap room ∧ leftOf outer gap room ≤ room := by
  obtain ⟨q1, q2, q3, q4, q5, q6⟩ := hd
  have h1 := near_total hN
  have h2 := (near_sum hN outer.length).1
  rw [List.take_of_length_le (Nat.le_refl _)] at h2
  have h3 : 0 ≤ gap * ((outer.length : Int) - 1) := Int.mul_nonneg q2 (by omega)
  have h4 : gap * ((outer.length : Int) - 1) ≤ 268435456 * 199 := Int.mul_le_mul q3 (by omega) (by omega) (by omega)
  unfold leftOf
  omega
theorem near_fit {outer : List Int} {gap room : Int} {j : Nat} (hd : wideHead outer gap room j) (hN : outer.all isNear = true) (h0 : 0 < outer.length) : fit (leftOf outer gap room) = true := by
  have h1 := near_left hd hN h0
  obtain ⟨q1, q2, q3, q4, q5, q6⟩ := hd
  exact (fit_iff _).2 (by omega)
theorem near_y {outer : List Int} {gap room : Int} {j : Nat} (hd : wideHead outer gap room j) (hN : outer.all isNear = true) {k : Nat} (hk : k < outer.length) :
    -107374182400 ≤ yB (moreR outer.length (leftOf outer gap room) j) outer gap (k + 1) ∧ yB (moreR outer.length (leftOf outer gap room) j) outer gap (k + 1) ≤ 657129996288 := by
  obtain ⟨l1, l2⟩ := near_left hd hN (by omega)
  have hf := near_fit hd hN (by omega)
  obtain ⟨q1, q2, q3, q4, q5, q6⟩ := hd
  obtain ⟨m1, m2⟩ := moreR_part (show outer.length ≤ 300 by omega) hf j k
  rw [yB_eq gap k (by rw [moreR_len (by omega) hf]; omega) (by omega)]
  have h1 := near_total hN
  have h2 := near_sum hN k
  have h3 : 0 ≤ gap * (k : Int) := Int.mul_nonneg q2 (by omega)
  have h4 : gap * (k : Int) ≤ 268435456 * 199 := Int.mul_le_mul q3 (by omega) (by omega) (by omega)
  rcases Int.lt_or_le (leftOf outer gap room) 0 with h | h
  · have := m2 h; omega
  · have := m1 h; omega
theorem wide_main {outer : List Int} {gap room : Int} {j : Nat} (hd : wideHead outer gap room j) (hN : outer.all isNear = true) (back : Bool) :
    mainR outer gap room j back = (atTo (moreR outer.length (leftOf outer gap room) j) outer gap room back outer.length, 0) := by
  have hd' := hd
  obtain ⟨q1, q2, q3, q4, q5, q6⟩ := hd
  have hfit : outer.all fit = true := List.all_eq_true.2 fun x hx => by
    have := (isNear_iff _).1 (List.all_eq_true.1 hN x hx)
    exact (fit_iff _).2 (by omega)
  unfold mainR
  rw [if_neg (by omega), if_pos ⟨hfit, (fit_iff _).2 (by omega), (fit_iff _).2 (by omega)⟩]
  rcases Nat.eq_zero_or_pos outer.length with h0 | h0
  · rw [if_pos h0, h0]
    rfl
  · obtain ⟨l1, l2⟩ := near_left hd' hN h0
    rw [if_neg (by omega), if_pos ((fit_iff _).2 (by omega)), if_pos]
    refine List.all_eq_true.2 fun x hx => ?_
    obtain ⟨k, hk, rfl⟩ := List.mem_map.1 hx
    have hk' : k < outer.length := by simpa using hk
    have hy := near_y hd' hN hk'
    have hx := (isNear_iff _).1 (List.all_eq_true.1 hN _ (List.getElem_mem hk'))
    rw [fit_iff]
    unfold atF
    rw [getD_at hk']
    split <;> omega
theorem near_main {outer : List Int} {gap room : Int} {j : Nat} (hd : nearHead outer gap room j) (hN : outer.all isNear = true) (back : Bool) :
    mainR outer gap room j back = (atTo (moreR outer.length (leftOf outer gap room) j) outer gap room back outer.length, 0) := wide_main hd.wide hN back

/-! What is ahead of each box, by how they stand. -/
theorem part_zero {L : List Int} {n : Nat} (h : ∀ i, i < n → L.getD i 0 = 0) : ∀ k, k ≤ n → (L.take k).sum = 0
  | 0, _ => by simp
  | k + 1, hk => by
    have h1 := part_zero h k (by omega)
    by_cases hl : k < L.length
    · rw [take_sum L k hl, h1, ← getD_at hl, h k (by omega)]; rfl
    · rw [List.take_of_length_le (by omega)] at h1 ⊢
      exact h1
theorem part_first {L : List Int} {n : Nat} (h : ∀ i, 0 < i → i < n → L.getD i 0 = 0) : ∀ k, k < n → (L.take (k + 1)).sum = L.getD 0 0
  | 0, _ => by cases L <;> simp
  | k + 1, hk => by
    have h1 := part_first h k (by omega)
    by_cases hl : k + 1 < L.length
    · rw [take_sum L (k + 1) hl, h1, ← getD_at hl, h (k + 1) (by omega) hk, Int.add_zero]
    · rw [List.take_of_length_le (by omega)] at h1 ⊢
      exact h1
theorem wgts_at {n : Nat} {a b c : Int} {i : Nat} (h : i < (wgts n a b c).length) : (wgts n a b c)[i] = wgAt n a b c i := by simp [wgts, wgTo]
theorem zs_zero {n : Nat} {left : Int} (hf : fit left = true) {a b c : Int} (ha : a = 0 ∨ a = 1) (hb : b = 0 ∨ b = 1) (hc : c = 0 ∨ c = 1) {i : Nat} (hi : i ≤ n) (h : wgAt n a b c i = 0) :
    (zsOf left (wgts n a b c)).getD i 0 = 0 := by
  have hl : i < (wgts n a b c).length := by rw [wgts_len]; omega
  have hz : i < (zsOf left (wgts n a b c)).length := by rw [zsOf_len]; exact hl
  rw [getD_at hz]
  exact (given_facts hf (wgts_ok n ha hb hc)).zero i hl hz (by rw [wgts_at hl, h])
theorem zs_sum {n : Nat} {left : Int} (hf : fit left = true) {a b c : Int} (ha : a = 0 ∨ a = 1) (hb : b = 0 ∨ b = 1) (hc : c = 0 ∨ c = 1) {i : Nat} (hi : i ≤ n) (h : wgAt n a b c i = 1) :
    (zsOf left (wgts n a b c)).sum = left := by
  have hl : i < (wgts n a b c).length := by rw [wgts_len]; omega
  have h1 := wAt_le_sum (wgts n a b c) hl
  rw [wAt_at hl, wgts_at hl, h] at h1
  rw [(given_facts hf (wgts_ok n ha hb hc)).sum, if_neg (by omega)]
/-- All places but the last. -/
theorem zs_last {n : Nat} {left : Int} (hf : fit left = true) {a b c : Int} (ha : a = 0 ∨ a = 1) (hb : b = 0 ∨ b = 1) (hc : c = 0 ∨ c = 1) {i : Nat} (hi : i ≤ n) (h : wgAt n a b c i = 1) :
    ((zsOf left (wgts n a b c)).take n).sum = left - (zsOf left (wgts n a b c)).getD n 0 := by
  have h1 := zs_sum hf ha hb hc hi h
  have hl : (zsOf left (wgts n a b c)).length = n + 1 := by rw [zsOf_len, wgts_len]
  have h2 := take_sum (zsOf left (wgts n a b c)) n (by omega)
  rw [List.take_of_length_le (by omega), h1] at h2
  rw [getD_at (show n < _ by omega)]
  omega

theorem start_m {n : Nat} (hn : n ≤ 300) {left : Int} (hf : fit left = true) {i : Nat} (hi : i < n) : (moreR n left 0).getD i 0 = 0 := by
  rw [moreR_eq hn hf, if_neg (by omega), show moreW n left 0 = wgts n 0 0 1 by simp [moreW]]
  exact zs_zero hf (by simp) (by simp) (by simp) (by omega) (by unfold wgAt; split <;> (try split) <;> omega)
theorem end_m {n : Nat} (hn : n ≤ 300) {left : Int} (hf : fit left = true) {i : Nat} (h0 : 0 < i) (hi : i ≤ n) : (moreR n left 1).getD i 0 = 0 := by
  rw [moreR_eq hn hf, if_neg (by omega), show moreW n left 1 = wgts n 1 0 0 by simp [moreW]]
  exact zs_zero hf (by simp) (by simp) (by simp) (by omega) (by unfold wgAt; split <;> (try split) <;> omega)
theorem end_part {n : Nat} (hn : n ≤ 300) {left : Int} (hf : fit left = true) {k : Nat} (hk : k < n) : ((moreR n left 1).take (k + 1)).sum = left := by
  rw [part_first (n := n) (fun i h0 hi => end_m hn hf h0 (by omega)) k hk]
  have h1 := part_first (n := n + 1) (fun i h0 hi => end_m hn hf h0 (by omega)) n (by omega)
  rw [List.take_of_length_le (by rw [moreR_len hn hf]; omega)] at h1
  rw [← h1, moreR_eq hn hf, if_neg (by omega), show moreW n left 1 = wgts n 1 0 0 by simp [moreW]]
  exact zs_sum hf (by simp) (by simp) (by simp) (i := 0) (by omega) (by simp [wgAt])
theorem start_at {outer : List Int} {gap room : Int} {j : Nat} (hd : wideHead outer gap room j) (hN : outer.all isNear = true) {k : Nat} (hk : k < outer.length) :
    atF (moreR outer.length (leftOf outer gap room) 0) outer gap room false k = gap * (k : Int) + (outer.take k).sum := by
  have hf := near_fit hd hN (by omega)
  have hn : outer.length ≤ 300 := by have := hd.1; omega
  show yB _ _ _ _ = _
  rw [yB_eq gap k (by rw [moreR_len hn hf]; omega) (by omega), part_zero (n := outer.length) (fun i hi => start_m hn hf hi) (k + 1) (by omega)]
  omega
theorem end_at {outer : List Int} {gap room : Int} {j : Nat} (hd : wideHead outer gap room j) (hN : outer.all isNear = true) {k : Nat} (hk : k < outer.length) :
    atF (moreR outer.length (leftOf outer gap room) 1) outer gap room false k = leftOf outer gap room + gap * (k : Int) + (outer.take k).sum := by
  have hf := near_fit hd hN (by omega)
  have hn : outer.length ≤ 300 := by have := hd.1; omega
  show yB _ _ _ _ = _
  rw [yB_eq gap k (by rw [moreR_len hn hf]; omega) (by omega), end_part hn hf hk]
theorem leftOf_more (outer : List Int) (gap room more : Int) : leftOf outer gap (room + more) = leftOf outer gap room + more := by unfold leftOf; omega

end Go.Proofs.Ytpelapdadgmlkaa
