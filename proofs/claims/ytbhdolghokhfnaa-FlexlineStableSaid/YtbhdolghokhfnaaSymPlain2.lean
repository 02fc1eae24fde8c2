/-
  Plain: the merging part of Go's stable sort: what a merge does; insertion at a stable comparison; blocks.
-/
import Derived.Test.YtbhdolghokhfnaaSymPlain
namespace Go.Proofs.Ytbhdolghokhfnaa
open Go.Sort
variable {α : Type} [Inhabited α] {lt cl : α → α → Bool}

/-- Of what is to the left and what is to the right the code's comparison answers as the order does. -/
def AgreeAt (cl lt : α → α → Bool) (d : Array α) (a m b : Nat) : Prop := ∀ i j, a ≤ i → i < m → m ≤ j → j < b → cl d[j]! d[i]! = lt d[j]! d[i]!
/-- All of [a, m) is before all of [m, b). -/
def CrossAt (lt : α → α → Bool) (d : Array α) (a m b : Nat) : Prop := ∀ i j, a ≤ i → i < m → m ≤ j → j < b → lt d[j]! d[i]! = false

theorem sorted_le (hS : SWO lt) {a b : Nat} {d : Array α} (h : SortedIn lt a b d) {i j : Nat} (h1 : a ≤ i) (h2 : i ≤ j) (h3 : j < b) : lt d[j]! d[i]! = false := by
  rcases Nat.lt_or_eq_of_le h2 with h | rfl
  · rename_i hs
    exact hs i j h1 h h3
  · exact hS.irrefl _
theorem sorted_sub {a b a' b' : Nat} {d : Array α} (h : SortedIn lt a b d) (h1 : a ≤ a') (h2 : b' ≤ b) : SortedIn lt a' b' d := fun i j k1 k2 k3 => h i j (by omega) k2 (by omega)
theorem cross_perm {a m b : Nat} {d d2 d3 : Array α} (hb : b ≤ d.size) (_ : m ≤ b) (h : CrossAt lt d a m b) (h2 : PermIn a m d d2) (h3 : PermIn m b d2 d3) : CrossAt lt d3 a m b := by
  intro i j k1 k2 k3 k4
  rw [h3.2.1 i (Or.inl k2)]
  have hs2 : d2.size = d.size := h2.1
  refine permIn_all d2 d3 m b (fun y => lt y d2[i]! = false) (by omega) h3 (fun y y1 y2 => ?_) j k3 k4
  rw [h2.2.1 y (Or.inr y1)]
  exact permIn_all d d2 a m (fun x => lt d[y]! x = false) (by omega) h2 (fun x x1 x2 => h x y x1 x2 y1 y2) i k1 k2
theorem sym_join {a m b : Nat} {d d2 d3 : Array α} (hb : b ≤ d.size) (ha : a ≤ m) (hm : m ≤ b) (h : CrossAt lt d a m b) (h2 : PermIn a m d d2) (s2 : SortedIn lt a m d2) (h3 : PermIn m b d2 d3) (s3 : SortedIn lt m b d3) :
    PermIn a b d d3 ∧ SortedIn lt a b d3 := by
  have hs2 : d2.size = d.size := h2.1
  refine ⟨permIn_trans _ _ _ _ _ (permIn_mono _ _ _ _ _ _ (by omega) hm hb h2) (permIn_mono _ _ _ _ _ _ ha (by omega) (by omega) h3), ?_⟩
  intro i j k1 k2 k3
  by_cases hi : i < m
  · by_cases hj : j < m
    · rw [h3.2.1 i (Or.inl hi), h3.2.1 j (Or.inl hj)]
      exact s2 i j k1 k2 hj
    · exact cross_perm hb hm h h2 h3 i j k1 hi (by omega) k3
  · exact s3 i j (by omega) k2 k3

/-- The rows [s, m) and [m, e) have changed places. -/
def Turned (d d1 : Array α) (s m e : Nat) : Prop := d1.size = d.size ∧ ∀ k, d1[k]! = if s ≤ k ∧ k < s + (e - m) then d[k + (m - s)]! else if s + (e - m) ≤ k ∧ k < e then d[k - (e - m)]! else d[k]!
theorem turned_rot {d : Array α} {s m e : Nat} (h1 : s < m) (h2 : m < e) (h3 : e ≤ d.size) : Turned d (rotL m (e - s) (m - s) (e - m) d) s m e := by
  refine ⟨rotL_size _ _ _ _, fun k => ?_⟩
  rw [rotL_get (by omega) (by omega) (by omega) (by omega) (by omega)]
  repeat' split
  all_goals first | (exfalso; omega) | rfl | (congr 1 <;> omega)
theorem turned_refl {d : Array α} {s m e : Nat} (h1 : s ≤ m) (h2 : m ≤ e) (h : s = m ∨ e = m) : Turned d d s m e := by
  refine ⟨rfl, fun k => ?_⟩
  repeat' split
  all_goals first | (exfalso; omega) | rfl | (congr 1 <;> omega)

/-- What the search of a merge has found. -/
structure Found (lt : α → α → Bool) (d : Array α) (a m b mid s e : Nat) : Prop where
  as : a ≤ s
  sm : s ≤ m
  me : m ≤ e
  eb : e ≤ b
  se : s + (e - m) = mid
  lo : s = a ∨ e = b ∨ lt d[e]! d[s - 1]! = false
  hi : e = m ∨ s = m ∨ lt d[e - 1]! d[s]! = true

theorem sym_cross (hS : SWO lt) {d d1 : Array α} {a m b mid s e : Nat} (hl : SortedIn lt a m d) (hr : SortedIn lt m b d) (hA : AgreeAt cl lt d a m b) (F : Found lt d a m b mid s e) (T : Turned d d1 s m e) :
    CrossAt lt d1 a mid b ∧ SortedIn lt a s d1 ∧ SortedIn lt s mid d1 ∧ SortedIn lt mid e d1 ∧ SortedIn lt e b d1 ∧ AgreeAt cl lt d1 a s mid ∧ AgreeAt cl lt d1 mid e b := by
  obtain ⟨as, sm, me, eb, se, lo, hi⟩ := F
  obtain ⟨_, T⟩ := T
  subst se
  have g1 : ∀ k, k < s → d1[k]! = d[k]! := fun k h => by rw [T, if_neg (by omega), if_neg (by omega)]
  have g2 : ∀ k, s ≤ k → k < s + (e - m) → d1[k]! = d[k + (m - s)]! := fun k h h' => by rw [T, if_pos ⟨h, h'⟩]
  have g3 : ∀ k, s + (e - m) ≤ k → k < e → d1[k]! = d[k - (e - m)]! := fun k h h' => by rw [T, if_neg (by omega), if_pos ⟨h, h'⟩]
  have g4 : ∀ k, e ≤ k → d1[k]! = d[k]! := fun k h => by rw [T, if_neg (by omega), if_neg (by omega)]
  refine ⟨?_, ?_, ?_, ?_, ?_, ?_, ?_⟩
  · intro i j k1 k2 k3 k4
    by_cases hi1 : i < s
    · rw [g1 i hi1]
      by_cases hj : j < e
      · rw [g3 j k3 hj]
        exact sorted_le hS hl k1 (by omega) (by omega)
      · rw [g4 j (by omega)]
        rcases lo with h | h | h
        · omega
        · omega
        · exact hS.ntrans _ _ _ (sorted_le hS hr (by omega) (show e ≤ j by omega) k4) (hS.ntrans _ _ _ h (sorted_le hS hl k1 (show i ≤ s - 1 by omega) (by omega)))
    · rw [g2 i (by omega) k2]
      by_cases hj : j < e
      · rw [g3 j k3 hj]
        rcases hi with h | h | h
        · omega
        · omega
        · exact hS.ntrans _ _ _ (sorted_le hS hl (by omega) (show s ≤ j - (e - m) by omega) (by omega)) (hS.ntrans _ _ _ (hS.asymmA h) (sorted_le hS hr (by omega) (show i + (m - s) ≤ e - 1 by omega) (by omega)))
      · rw [g4 j (by omega)]
        exact sorted_le hS hr (by omega) (by omega) k4
  · intro i j k1 k2 k3
    rw [g1 i (by omega), g1 j k3]
    exact hl i j k1 k2 (by omega)
  · intro i j k1 k2 k3
    rw [g2 i k1 (by omega), g2 j (by omega) k3]
    exact hr _ _ (by omega) (by omega) (by omega)
  · intro i j k1 k2 k3
    rw [g3 i k1 (by omega), g3 j (by omega) k3]
    exact hl _ _ (by omega) (by omega) (by omega)
  · intro i j k1 k2 k3
    rw [g4 i k1, g4 j (by omega)]
    exact hr _ _ (by omega) k2 k3
  · intro i j k1 k2 k3 k4
    rw [g1 i k2, g2 j k3 k4]
    exact hA _ _ k1 (by omega) (by omega) (by omega)
  · intro i j k1 k2 k3 k4
    rw [g3 i k1 k2, g4 j k3]
    exact hA _ _ (by omega) (by omega) (by omega) k4

/-! ### one element alone -/
/-- From a up to k one place down, what stood at a at k. -/
def ShiftUp (d d' : Array α) (a k : Nat) : Prop := d'.size = d.size ∧ ∀ x, d'[x]! = if a ≤ x ∧ x < k then d[x + 1]! else if x = k then d[a]! else d[x]!
theorem shiftUp_refl (d : Array α) (a : Nat) : ShiftUp d d a a := by
  refine ⟨rfl, fun x => ?_⟩
  repeat' split
  all_goals first | (exfalso; omega) | rfl | (congr 1 <;> omega)
theorem shiftUp_swp {d d' : Array α} {a k : Nat} (h : ShiftUp d d' a k) (hak : a ≤ k) (hk : k + 1 < d.size) : ShiftUp d (swp d' k (k + 1)) a (k + 1) := by
  refine ⟨by rw [swp_size]; exact h.1, fun x => ?_⟩
  have hs := h.1
  rw [swp_get _ (by omega) (by omega), h.2, h.2, h.2]
  repeat' split
  all_goals first | (exfalso; omega) | rfl | (congr 1 <;> omega)
theorem shiftUp_perm {d d' : Array α} {a k b : Nat} (h : PermIn a b d d') (h1 : a ≤ k) (h2 : k + 1 < b) (h3 : b ≤ d.size) : PermIn a b d (swp d' k (k + 1)) :=
  permIn_trans _ _ _ _ _ h (swp_permIn _ _ _ _ _ (by omega) (by omega) (by omega) (by omega) (by have : d'.size = d.size := h.1; omega))
theorem one_left (hS : SWO lt) {d d' : Array α} {a b i : Nat} (hr : SortedIn lt (a + 1) b d) (h1 : a + 1 ≤ i) (h2 : i ≤ b) (lo : ∀ q, a + 1 ≤ q → q < i → lt d[q]! d[a]! = true) (hi : ∀ q, i ≤ q → q < b → lt d[q]! d[a]! = false) (T : ShiftUp d d' a (i - 1)) : SortedIn lt a b d' := by
  obtain ⟨_, T⟩ := T
  have g1 : ∀ k, a ≤ k → k < i - 1 → d'[k]! = d[k + 1]! := fun k h h' => by rw [T, if_pos ⟨h, h'⟩]
  have g2 : d'[i - 1]! = d[a]! := by rw [T, if_neg (by omega), if_pos rfl]
  have g3 : ∀ k, i ≤ k → d'[k]! = d[k]! := fun k h => by rw [T, if_neg (by omega), if_neg (by omega)]
  intro x y k1 k2 k3
  rcases Nat.lt_trichotomy x (i - 1) with hx | rfl | hx
  · rw [g1 x k1 hx]
    rcases Nat.lt_trichotomy y (i - 1) with hy | rfl | hy
    · rw [g1 y (by omega) hy]
      exact hr _ _ (by omega) (by omega) (by omega)
    · rw [g2]
      exact hS.asymmA (lo _ (by omega) (by omega))
    · rw [g3 y (by omega)]
      exact hr _ _ (by omega) (by omega) k3
  · rw [g2, g3 y (by omega)]
    exact hi y (by omega) k3
  · rw [g3 x (by omega), g3 y (by omega)]
    exact hr _ _ (by omega) k2 k3

/-- What stood at m at k, and from there up to m one place up. -/
def ShiftDown (d d' : Array α) (k m : Nat) : Prop := d'.size = d.size ∧ ∀ x, d'[x]! = if k < x ∧ x ≤ m then d[x - 1]! else if x = k then d[m]! else d[x]!
theorem shiftDown_refl (d : Array α) (m : Nat) : ShiftDown d d m m := by
  refine ⟨rfl, fun x => ?_⟩
  repeat' split
  all_goals first | (exfalso; omega) | rfl | (congr 1 <;> omega)
theorem shiftDown_swp {d d' : Array α} {k m : Nat} (h : ShiftDown d d' (k + 1) m) (hkm : k + 1 ≤ m) (hm : m < d.size) : ShiftDown d (swp d' (k + 1) k) k m := by
  refine ⟨by rw [swp_size]; exact h.1, fun x => ?_⟩
  have hs := h.1
  rw [swp_get _ (by omega) (by omega), h.2, h.2, h.2]
  repeat' split
  all_goals first | (exfalso; omega) | rfl | (congr 1 <;> omega)
theorem shiftDown_perm {d d' : Array α} {a k b : Nat} (h : PermIn a b d d') (h1 : a ≤ k) (h2 : k + 1 < b) (h3 : b ≤ d.size) : PermIn a b d (swp d' (k + 1) k) :=
  permIn_trans _ _ _ _ _ h (swp_permIn _ _ _ _ _ (by omega) (by omega) (by omega) (by omega) (by have : d'.size = d.size := h.1; omega))
theorem one_right (hS : SWO lt) {d d' : Array α} {a m i : Nat} (hl : SortedIn lt a m d) (h1 : a ≤ i) (h2 : i ≤ m) (lo : ∀ q, a ≤ q → q < i → lt d[m]! d[q]! = false) (hi : ∀ q, i ≤ q → q < m → lt d[m]! d[q]! = true) (T : ShiftDown d d' i m) : SortedIn lt a (m + 1) d' := by
  obtain ⟨_, T⟩ := T
  have g1 : ∀ k, k < i → d'[k]! = d[k]! := fun k h => by rw [T, if_neg (by omega), if_neg (by omega)]
  have g2 : d'[i]! = d[m]! := by rw [T, if_neg (by omega), if_pos rfl]
  have g3 : ∀ k, i < k → k ≤ m → d'[k]! = d[k - 1]! := fun k h h' => by rw [T, if_pos ⟨h, h'⟩]
  intro x y k1 k2 k3
  rcases Nat.lt_trichotomy x i with hx | rfl | hx
  · rw [g1 x hx]
    rcases Nat.lt_trichotomy y i with hy | rfl | hy
    · rw [g1 y hy]
      exact hl _ _ (by omega) (by omega) (by omega)
    · rw [g2]
      exact lo _ (by omega) (by omega)
    · rw [g3 y (by omega) (by omega)]
      exact hl _ _ (by omega) (by omega) (by omega)
  · rw [g2, g3 y (by omega) (by omega)]
    exact hS.asymmA (hi _ (by omega) (by omega))
  · rw [g3 x (by omega) (by omega), g3 y (by omega) (by omega)]
    exact hl _ _ (by omega) (by omega) (by omega)

/-! ### insertion -/
theorem insInner_agree : ∀ (j a : Nat) (d : Array α), j < d.size → (∀ q, a ≤ q → q < j → cl d[j]! d[q]! = lt d[j]! d[q]!) → insInner cl a j d = insInner lt a j d
  | 0, _, _, _, _ => rfl
  | j + 1, a, d, hj, h => by
    unfold insInner
    by_cases hja : j + 1 > a
    · rw [h j (by omega) (by omega)]
      split
      · refine insInner_agree j a _ (by rw [swp_size]; omega) fun q h1 h2 => ?_
        rw [swp_get _ hj (by omega), swp_get _ hj (by omega), if_pos rfl, if_neg (by omega), if_neg (by omega)]
        exact h q h1 (by omega)
      · rfl
    · simp only [hja, decide_false, Bool.false_and]
      rfl
theorem insInner_perm : ∀ (j a b : Nat) (d : Array α), j < b → b ≤ d.size → PermIn a b d (insInner lt a j d)
  | 0, _, _, _, _, _ => permIn_refl _ _ _
  | j + 1, a, b, d, hj, hb => by
    unfold insInner
    split
    · rename_i h
      simp only [Bool.and_eq_true, decide_eq_true_eq] at h
      exact permIn_trans _ _ _ _ _ (swp_permIn _ _ _ _ _ (by omega) hj (by omega) (by omega) hb) (insInner_perm j a b _ (by omega) (by rw [swp_size]; exact hb))
    · exact permIn_refl _ _ _
theorem insOuter_agree (a b : Nat) : ∀ (n i : Nat) (d : Array α), b - i = n → a < i → i ≤ b → b ≤ d.size → (∀ p q, a ≤ q → q < p → i ≤ p → p < b → cl d[p]! d[q]! = lt d[p]! d[q]!) → insOuter cl a b i d = insOuter lt a b i d
  | 0, i, d, hn, _, _, _, _ => by rw [insOuter, if_neg (by omega), insOuter, if_neg (by omega)]
  | n + 1, i, d, hn, hai, hib, hb, h => by
    rw [insOuter, if_pos (by omega), insInner_agree (lt := lt) i a d (by omega) fun q h1 h2 => h i q h1 h2 (by omega) (by omega)]
    rw [insOuter.eq_def lt a b i d, if_pos (by omega)]
    have hP : PermIn a (i + 1) d (insInner lt a i d) := insInner_perm i a (i + 1) d (by omega) (by omega)
    refine insOuter_agree a b n (i + 1) _ (by omega) (by omega) (by omega) (by rw [hP.1]; exact hb) fun p q h1 h2 h3 h4 => ?_
    rw [hP.2.1 p (Or.inr h3)]
    by_cases hq : q < i + 1
    · exact permIn_all d _ a (i + 1) (fun x => cl d[p]! x = lt d[p]! x) (by omega) hP (fun x x1 x2 => h p x x1 (by omega) (by omega) h4) q h1 hq
    · rw [hP.2.1 q (Or.inr (by omega))]
      exact h p q h1 h2 (by omega) h4
theorem ins_agree {a b : Nat} {d : Array α} (hab : a ≤ b) (hb : b ≤ d.size) (h : ∀ p q, a ≤ q → q < p → p < b → cl d[p]! d[q]! = lt d[p]! d[q]!) : insertionSort cl d a b = insertionSort lt d a b := by
  unfold insertionSort
  by_cases e : a = b
  · rw [insOuter, if_neg (by omega), insOuter, if_neg (by omega)]
  · exact insOuter_agree a b _ (a + 1) d rfl (by omega) (by omega) hb fun p q h1 h2 _ h4 => h p q h1 h2 h4

/-! ### blocks -/
/-- What stands at a place is of the same block of B places as it (v: the place that an element had). -/
def PB (v : α → Nat) (B lo hi : Nat) (d : Array α) : Prop := ∀ i, lo ≤ i → i < hi → v d[i]! / B = i / B
/-- Each block of B places is sorted. -/
def SB (lt : α → α → Bool) (B lo hi : Nat) (d : Array α) : Prop := ∀ i j, lo ≤ i → i < j → j < hi → i / B = j / B → lt d[j]! d[i]! = false

theorem div_blk {B k i : Nat} (hB : 0 < B) (h1 : B * k ≤ i) (h2 : i < B * k + B) : i / B = k := by
  have hk : B * (k + 1) = B * k + B := Nat.mul_succ B k
  refine (Nat.div_eq_iff hB).2 ⟨?_, ?_⟩
  · rw [Nat.mul_comm]; exact h1
  · rw [Nat.mul_comm k B]; omega
theorem blk_range {B i : Nat} (hB : 0 < B) : B * (i / B) ≤ i ∧ i < B * (i / B) + B := by
  have := Nat.div_add_mod i B
  have h2 := Nat.mod_lt i hB
  omega

/-- One block more: [a, b), a = B * k, b ≤ a + B, has been put in order. -/
theorem block_step {v : α → Nat} {B k b : Nat} {d d' : Array α} (hB : 0 < B) (h1 : PB v B 0 (B * k) d) (h2 : SB lt B 0 (B * k) d) (hb : b ≤ B * k + B) (hbs : b ≤ d.size) (hP : PermIn (B * k) b d d') (hS : SortedIn lt (B * k) b d')
    (hv : ∀ i, B * k ≤ i → i < b → v d[i]! / B = k) : PB v B 0 b d' ∧ SB lt B 0 b d' := by
  constructor
  · intro i h0 hi
    by_cases hk : i < B * k
    · rw [hP.2.1 i (Or.inl hk)]
      exact h1 i h0 hk
    · rw [div_blk hB (by omega : B * k ≤ i) (by omega)]
      exact permIn_all d d' _ _ (fun x => v x / B = k) hbs hP hv i (by omega) hi
  · intro i j h0 hij hj he
    by_cases hk : i < B * k
    · have hji : j < B * k := by
        have hr := blk_range (i := i) hB
        have hr2 := blk_range (i := j) hB
        rw [← he] at hr2
        have hlt : i / B < k := Nat.div_lt_of_lt_mul hk
        have := Nat.mul_le_mul_left B (show i / B + 1 ≤ k from hlt)
        rw [Nat.mul_succ] at this
        omega
      rw [hP.2.1 i (Or.inl hk), hP.2.1 j (Or.inl hji)]
      exact h2 i j h0 hij hji he
    · exact hS i j (by omega) hij hj

end Go.Proofs.Ytbhdolghokhfnaa
