/-
  Plain: the characters of two texts one behind the other, the first ending with a byte below 128.
-/
import Derived.Test.YtpelapdadgmlkaaCodesPlain
import Derived.Test.YtpelapdadgmlkaaNextPlain
namespace Go.Proofs.Ytpelapdadgmlkaa

theorem getb (s : ByteArray) (i : Nat) (h : i < s.size) : s.get! i = s[i] := get_at s i h
theorem get!_append_left (u t : ByteArray) (i : Nat) (h : i < u.size) : (u ++ t).get! i = u.get! i := by
  have h' : i < (u ++ t).size := by rw [ByteArray.size_append]; omega
  rw [getb _ _ h', getb _ _ h]
  exact ByteArray.getElem_append_left h
theorem get!_append_right (u t : ByteArray) (q : Nat) (h : q < t.size) : (u ++ t).get! (u.size + q) = t.get! q := by
  have h' : u.size + q < (u ++ t).size := by rw [ByteArray.size_append]; omega
  rw [getb _ _ h', getb _ _ h, ByteArray.getElem_append_right (by omega)]
  simp

/-- Only what is left, and the bytes within it, count. -/
theorem nextR_short (n b0 b1 b2 b3 c1 c2 c3 : Nat) (h1 : 1 < n → b1 = c1) (h2 : 2 < n → b2 = c2) (h3 : 3 < n → b3 = c3) : nextR n b0 b1 b2 b3 = nextR n b0 c1 c2 c3 := by
  rcases Nat.lt_or_ge 3 n with h | h
  · rw [h1 (by omega), h2 (by omega), h3 h]
  · rcases Nat.lt_or_ge 2 n with h' | h'
    · rw [h1 (by omega), h2 h']
      unfold nextR
      rw [if_pos (show n < 4 by omega), if_pos (show n < 4 by omega)]
    · rcases Nat.lt_or_ge 1 n with h'' | h''
      · rw [h1 h'']
        unfold nextR
        rw [if_pos (show n < 3 by omega), if_pos (show n < 3 by omega), if_pos (show n < 4 by omega), if_pos (show n < 4 by omega)]
      · unfold nextR
        rw [if_pos (show n < 2 by omega), if_pos (show n < 2 by omega), if_pos (show n < 3 by omega), if_pos (show n < 3 by omega), if_pos (show n < 4 by omega), if_pos (show n < 4 by omega)]

theorem decode_right (u t : ByteArray) (q : Nat) (h : q < t.size) : Utf8.decode (u ++ t) (u.size + q) = Utf8.decode t q := by
  have hs : (u ++ t).size = u.size + t.size := ByteArray.size_append
  rw [next_eq _ _ (by rw [hs]; omega), next_eq t q h, hs, show u.size + t.size - (u.size + q) = t.size - q by omega, get!_append_right u t q h]
  refine nextR_short _ _ _ _ _ _ _ _ (fun h1 => ?_) (fun h1 => ?_) (fun h1 => ?_)
  · rw [show u.size + q + 1 = u.size + (q + 1) by omega, get!_append_right u t _ (by omega)]
  · rw [show u.size + q + 2 = u.size + (q + 2) by omega, get!_append_right u t _ (by omega)]
  · rw [show u.size + q + 3 = u.size + (q + 3) by omega, get!_append_right u t _ (by omega)]

theorem codesAt_right (u t : ByteArray) : ∀ (n q : Nat), t.size - q ≤ n → codesAt (u ++ t) (u.size + q) = codesAt t q := by
  have hs : (u ++ t).size = u.size + t.size := ByteArray.size_append
  intro n
  induction n with
  | zero => intro q h; rw [codesAt_end _ _ (by rw [hs]; omega), codesAt_end t q (by omega)]
  | succ n ih =>
    intro q h
    by_cases hq : q < t.size
    · rw [codesAt_step _ _ (by rw [hs]; omega), codesAt_step t q hq, decode_right u t q hq, Nat.add_assoc, ih _ (by have := decode_pos t q; omega)]
    · rw [codesAt_end _ _ (by rw [hs]; omega), codesAt_end t q hq]

/-- A cut ahead of a byte below 128 stays ahead of it: nothing of what stands behind that byte counts. -/
theorem nextR_stop (m n n' b0 b1 b2 b3 c1 c2 c3 : Nat) (hn : m + 1 ≤ n) (hn' : m + 1 ≤ n')
    (h0 : m = 0 → b0 < 128) (h1 : m = 1 → b1 < 128) (h2 : m = 2 → b2 < 128) (h3 : m = 3 → b3 < 128)
    (e1 : 1 ≤ m → b1 = c1) (e2 : 2 ≤ m → b2 = c2) (e3 : 3 ≤ m → b3 = c3) :
    nextR n b0 b1 b2 b3 = nextR n' b0 c1 c2 c3 ∧ (nextR n b0 b1 b2 b3).2 ≤ if m = 0 then 1 else m := by
  rcases Nat.lt_or_ge m 1 with hm | hm
  · have hb := h0 (by omega)
    have : m = 0 := by omega
    subst this
    simp [nextR, hb]
  have f1 := e1 hm
  subst f1
  rcases Nat.lt_or_ge m 2 with hm2 | hm2
  · have hb := h1 (by omega)
    have : m = 1 := by omega
    subst this
    unfold nextR
    simp only [hb, true_or, if_true, ite_self, Nat.one_ne_zero]
    refine ⟨trivial, ?_⟩
    repeat' split
    all_goals simp
  have f2 := e2 hm2
  subst f2
  rcases Nat.lt_or_ge m 3 with hm3 | hm3
  · have hb := h2 (by omega)
    have : m = 2 := by omega
    subst this
    unfold nextR
    rw [if_neg (show ¬ n < 2 by omega), if_neg (show ¬ n' < 2 by omega)]
    simp only [hb, true_or, if_true, ite_self, show (2 : Nat) ≠ 0 by omega, if_false]
    refine ⟨trivial, ?_⟩
    repeat' split
    all_goals simp
  have f3 := e3 hm3
  subst f3
  rcases Nat.lt_or_ge m 4 with hm4 | hm4
  · have hb := h3 (by omega)
    have : m = 3 := by omega
    subst this
    unfold nextR
    rw [if_neg (show ¬ n < 2 by omega), if_neg (show ¬ n' < 2 by omega), if_neg (show ¬ n < 3 by omega), if_neg (show ¬ n' < 3 by omega)]
    simp only [hb, true_or, if_true, ite_self, show (3 : Nat) ≠ 0 by omega, if_false]
    refine ⟨trivial, ?_⟩
    repeat' split
    all_goals simp
  · rw [if_neg (by omega)]
    unfold nextR
    rw [if_neg (show ¬ n < 2 by omega), if_neg (show ¬ n' < 2 by omega), if_neg (show ¬ n < 3 by omega), if_neg (show ¬ n' < 3 by omega), if_neg (show ¬ n < 4 by omega), if_neg (show ¬ n' < 4 by omega)]
    refine ⟨rfl, ?_⟩
    repeat' split
    all_goals simp <;> omega

/-- Does a text end with a byte below 128? -/
def EndsLow (u : ByteArray) : Prop := 0 < u.size ∧ (u.get! (u.size - 1)).toNat < 128

theorem decode_left (u t : ByteArray) (p : Nat) (hp : p < u.size) (hl : EndsLow u) :
    Utf8.decode (u ++ t) p = Utf8.decode u p ∧ p + (Utf8.decode u p).2 ≤ u.size ∧ (p + 1 < u.size → p + (Utf8.decode u p).2 + 1 ≤ u.size) := by
  have hs : (u ++ t).size = u.size + t.size := ByteArray.size_append
  have key := nextR_stop (u.size - 1 - p) (u.size - p) ((u ++ t).size - p) (u.get! p).toNat (u.get! (p + 1)).toNat (u.get! (p + 2)).toNat (u.get! (p + 3)).toNat ((u ++ t).get! (p + 1)).toNat ((u ++ t).get! (p + 2)).toNat ((u ++ t).get! (p + 3)).toNat
    (by omega) (by rw [hs]; omega)
    (fun h => by rw [show p = u.size - 1 by omega]; exact hl.2) (fun h => by rw [show p + 1 = u.size - 1 by omega]; exact hl.2)
    (fun h => by rw [show p + 2 = u.size - 1 by omega]; exact hl.2) (fun h => by rw [show p + 3 = u.size - 1 by omega]; exact hl.2)
    (fun h => by rw [get!_append_left u t _ (by omega)]) (fun h => by rw [get!_append_left u t _ (by omega)]) (fun h => by rw [get!_append_left u t _ (by omega)])
  rw [next_eq (u ++ t) p (by rw [hs]; omega), next_eq u p hp, get!_append_left u t p hp]
  refine ⟨key.1.symm, ?_⟩
  have h2 := key.2
  split at h2 <;> omega

theorem codesAt_left (u t : ByteArray) (hl : EndsLow u) : ∀ (n p : Nat), p ≤ u.size → u.size - p ≤ n → codesAt (u ++ t) p = codesAt u p ++ codes t := by
  have hs : (u ++ t).size = u.size + t.size := ByteArray.size_append
  intro n
  induction n with
  | zero =>
    intro p hp h
    obtain rfl : p = u.size := by omega
    rw [codesAt_end u _ (by omega), codes_eq, ← codesAt_right u t _ 0 (Nat.le_refl _)]
    rfl
  | succ n ih =>
    intro p hp h
    by_cases hq : p < u.size
    · obtain ⟨h1, h2, _⟩ := decode_left u t p hq hl
      rw [codesAt_step _ _ (by rw [hs]; omega), codesAt_step u p hq, h1, ih _ h2 (by have := decode_pos u p; omega)]
      rfl
    · obtain rfl : p = u.size := by omega
      rw [codesAt_end u _ (by omega), codes_eq, ← codesAt_right u t _ 0 (Nat.le_refl _)]
      rfl
theorem codes_beside (u t : ByteArray) (hl : EndsLow u) : codes (u ++ t) = codes u ++ codes t := by
  rw [codes_eq, codes_eq u]
  exact codesAt_left u t hl _ 0 (Nat.zero_le _) (Nat.le_refl _)

theorem codes_last (u : ByteArray) (hl : EndsLow u) : ∃ X, codes u = X ++ [((u.get! (u.size - 1)).toNat : Int)] := by
  have h : ∀ (n p : Nat), p < u.size → u.size - p ≤ n → ∃ X, codesAt u p = X ++ [((u.get! (u.size - 1)).toNat : Int)] := by
    intro n
    induction n with
    | zero => intro p hp h; omega
    | succ n ih =>
      intro p hp h
      obtain ⟨_, h2, h3⟩ := decode_left u ByteArray.empty p hp hl
      rw [codesAt_step u p hp]
      by_cases hlast : p + 1 < u.size
      · obtain ⟨X, hX⟩ := ih (p + (Utf8.decode u p).2) (by have := h3 hlast; omega) (by have := decode_pos u p; omega)
        exact ⟨_ :: X, by rw [hX]; rfl⟩
      · obtain rfl : p = u.size - 1 := by omega
        have hd : Utf8.decode u (u.size - 1) = ((u.get! (u.size - 1)).toNat, 1) := by
          rw [next_eq u _ hp]
          unfold nextR
          rw [if_pos hl.2]
        rw [hd, codesAt_end u _ (by show ¬ u.size - 1 + 1 < u.size; omega)]
        exact ⟨[], rfl⟩
  exact h _ 0 hl.1 (Nat.le_refl _)

theorem sumShare_append (a b : List Int) : sumShare (a ++ b) = sumShare a + sumShare b := by simp [sumShare]

/-- A text with one byte below 128 behind it. -/
theorem endsLow_push (s : ByteArray) (b : UInt8) (hb : b.toNat < 128) : EndsLow (s ++ ⟨#[b]⟩) ∧ ((s ++ ⟨#[b]⟩).get! ((s ++ ⟨#[b]⟩).size - 1)).toNat = b.toNat := by
  have hs : (s ++ (⟨#[b]⟩ : ByteArray)).size = s.size + 1 := ByteArray.size_append
  have e : (s ++ (⟨#[b]⟩ : ByteArray)).get! ((s ++ (⟨#[b]⟩ : ByteArray)).size - 1) = b := by
    have h := get!_append_right s ⟨#[b]⟩ 0 (by show 0 < 1; omega)
    rw [hs, show s.size + 1 - 1 = s.size + 0 by omega, h]
    rfl
  refine ⟨⟨by rw [hs]; omega, by rw [e]; exact hb⟩, by rw [e]⟩

theorem timesR_ok (n font : Int) (h1 : 1 ≤ font) (h2 : font ≤ 1000) (h3 : n * font ≤ 1099511627776) : timesR n font = (n * font, 0) :=
  (if_neg (by omega)).trans (if_neg (by omega))
end Go.Proofs.Ytpelapdadgmlkaa
