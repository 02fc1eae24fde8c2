/-
  A style's words: written, and read back, both ways of reading.
-/
import Derived.Test.YtaoehdmdjplegaaGreatDoorQuotePlain
namespace Go.Proofs.YtaoehdmdjplegaaGreatDoor

/-- The words that are picked from, by number; the word [63]: none. -/
def picksT : List (List (List UInt8)) := [
  [[], [105, 110, 108, 105, 110, 101], [102, 108, 101, 120]],
  [[], [115, 116, 97, 121], [107, 101, 101, 112]],
  [[], [108, 105, 110, 101, 115, 45, 101, 110, 100], [108, 105, 110, 101, 115, 45, 109, 105, 100, 100, 108, 101]],
  [[], [116, 111, 112], [98, 111, 116, 116, 111, 109]],
  [[], [114, 111, 119, 45, 98, 97, 99, 107], [99, 111, 108, 117, 109, 110], [99, 111, 108, 117, 109, 110, 45, 98, 97, 99, 107]],
  [[], [106, 117, 115, 116, 105, 102, 121, 45, 101, 110, 100], [106, 117, 115, 116, 105, 102, 121, 45, 109, 105, 100, 100, 108, 101], [106, 117, 115, 116, 105, 102, 121, 45, 98, 101, 116, 119, 101, 101, 110], [106, 117, 115, 116, 105, 102, 121, 45, 101, 118, 101, 110, 108, 121]],
  [[], [97, 108, 105, 103, 110, 45, 101, 110, 100], [97, 108, 105, 103, 110, 45, 109, 105, 100, 100, 108, 101], [63], [63], [97, 108, 105, 103, 110, 45, 115, 116, 114, 101, 116, 99, 104]]]
def lensT : List (List UInt8) := [[119], [109, 105, 110, 119], [109, 97, 120, 119], [104], [109, 105, 110, 104], [109, 97, 120, 104], [109, 116], [109, 114], [109, 98], [109, 108], [98, 97, 115, 105, 115]]
def numsT : List (List UInt8) := [[112, 116], [112, 114], [112, 98], [112, 108], [98, 116], [98, 114], [98, 98], [98, 108], [120], [121], [102, 111, 110, 116], [103, 97, 112], [108, 105, 110, 101, 103, 97, 112], [103, 114, 111, 119], [115, 104, 114, 105, 110, 107], [111, 114, 100, 101, 114]]
def wholeB : List UInt8 := [119, 104, 111, 108, 101]
def wrapB : List UInt8 := [119, 114, 97, 112]

/-- A style, by its fields' kinds. -/
structure Sty where
  picks : List Nat
  whole : Bool
  wrap : Bool
  lens : List (Nat × Int)
  nums : List Int
deriving DecidableEq
def sty0 : Sty := ⟨List.replicate 7 0, false, false, List.replicate 11 (0, 0), List.replicate 16 0⟩
def I64 (n : Int) : Prop := -9223372036854775808 ≤ n ∧ n < 9223372036854775808
structure Sty.Ok (s : Sty) : Prop where
  p : s.picks.length = 7
  l : s.lens.length = 11
  n : s.nums.length = 16
  pk : ∀ x ∈ s.picks, x < 256
  lk : ∀ x ∈ s.lens, x.1 < 256 ∧ I64 x.2
  nk : ∀ x ∈ s.nums, I64 x

/-! ### Written -/
def pickW (t : List (List UInt8)) (x : Nat) : Option (List (List UInt8)) := match t[x]? with
  | none => none
  | some w => if w = [63] then none else if x = 0 then some [] else some [w]
def lenW (name : List UInt8) (x : Nat × Int) : Option (List (List UInt8)) :=
  if x = (0, 0) then some [] else if x.1 = 2 then some [name ++ 61 :: (Lib.itoa x.2 ++ [112])] else if x.1 = 1 then some [name ++ 61 :: Lib.itoa x.2] else none
def numW (name : List UInt8) (n : Int) : List (List UInt8) := if n = 0 then [] else [name ++ 61 :: Lib.itoa n]
def pickWs : List (List (List UInt8)) → List Nat → Option (List (List UInt8))
  | t :: T, x :: X => match pickW t x with
    | none => none
    | some w => (pickWs T X).map (w ++ ·)
  | _, _ => some []
def lenWs : List (List UInt8) → List (Nat × Int) → Option (List (List UInt8))
  | t :: T, x :: X => match lenW t x with
    | none => none
    | some w => (lenWs T X).map (w ++ ·)
  | _, _ => some []
def numWs : List (List UInt8) → List Int → List (List UInt8)
  | t :: T, x :: X => numW t x ++ numWs T X
  | _, _ => []
def flagW (s : Sty) : List (List UInt8) := (if s.whole then [wholeB] else []) ++ (if s.wrap then [wrapB] else [])
def stylW (s : Sty) : Option (List (List UInt8)) := match pickWs picksT s.picks, lenWs lensT s.lens with
  | some a, some b => some (a ++ (flagW s ++ (b ++ numWs numsT s.nums)))
  | _, _ => none

/-! ### Read -/
/-- Where a word stands in a list; its length: nowhere. -/
def idxW (l : List (List UInt8)) (w : List UInt8) : Nat := l.findIdx (· = w)
/-- A picked word's place: which list, where in it. -/
def findPick : List (List (List UInt8)) → Nat → List UInt8 → Option (Nat × Nat)
  | [], _, _ => none
  | t :: T, i, w => if 0 < idxW t w ∧ idxW t w < t.length ∧ w ≠ [63] then some (i, idxW t w) else findPick T (i + 1) w
/-- Cut at the first sign of equality. -/
def cutEq : List UInt8 → Option (List UInt8 × List UInt8)
  | [] => none
  | c :: r => if c = 61 then some ([], r) else (cutEq r).map fun x => (c :: x.1, x.2)
/-- A value, and whether it is a part. -/
def partV (v : List UInt8) : List UInt8 × Bool := if v.getLast? = some 112 then (v.dropLast, true) else (v, false)
def setP (s : Sty) (name value : List UInt8) : Option Sty :=
  if idxW lensT name < 11 then (numP (partV value).1).map fun n => { s with lens := s.lens.set (idxW lensT name) (if (partV value).2 then 2 else 1, n) }
  else if idxW numsT name < 16 then (numP value).map fun n => { s with nums := s.nums.set (idxW numsT name) n }
  else none
def stepW (s : Sty) (w : List UInt8) : Option Sty := match findPick picksT 0 w with
  | some (i, x) => some { s with picks := s.picks.set i x }
  | none => if w = wholeB then some { s with whole := true } else if w = wrapB then some { s with wrap := true } else match cutEq w with
    | none => none
    | some (a, b) => setP s a b
def stylP : Sty → List (List UInt8) → Option Sty
  | s, [] => some s
  | s, w :: ws => match stepW s w with
    | none => none
    | some s' => stylP s' ws
/-- .. by the other one: what is wrong is told beside. -/
def setR (s : Sty) (name value : List UInt8) : Sty × Bool :=
  if idxW lensT name < 11 then ({ s with lens := s.lens.set (idxW lensT name) (if (partV value).2 then 2 else 1, (toldR (partV value).1).1) }, (toldR (partV value).1).2)
  else if idxW numsT name < 16 then ({ s with nums := s.nums.set (idxW numsT name) (toldR (partV value).1).1 }, (toldR (partV value).1).2)
  else (s, true)
def stepR (s : Sty) (w : List UInt8) : Sty × Bool := match findPick picksT 0 w with
  | some (i, x) => ({ s with picks := s.picks.set i x }, false)
  | none => if w = wholeB then ({ s with whole := true }, false) else if w = wrapB then ({ s with wrap := true }, false) else match cutEq w with
    | none => (s, true)
    | some (a, b) => setR s a b
def stylR : Sty → List UInt8 → Sty × Bool
  | s, [] => (s, false)
  | s, c :: r => if (stepR s (wordC (c :: r))).2 then ((stepR s (wordC (c :: r))).1, true) else stylR (stepR s (wordC (c :: r))).1 (restC (c :: r))
termination_by _ r => r.length
decreasing_by exact restC_lt (by simp)

/-! ### Back -/
theorem picks_found : ∀ i : Fin 7, ∀ x : Fin 6, 0 < x.val → (h : x.val < (picksT[i.val]'i.isLt).length) → (picksT[i.val]'i.isLt)[x.val] ≠ [63] → findPick picksT 0 ((picksT[i.val]'i.isLt)[x.val]) = some (i.val, x.val) := by decide
theorem picks_len : ∀ i : Fin 7, (picksT[i.val]'i.isLt).length ≤ 6 := by decide
theorem lens_idx : ∀ i : Fin 11, idxW lensT (lensT[i.val]'i.isLt) = i.val := by decide
theorem nums_idx : ∀ i : Fin 16, idxW numsT (numsT[i.val]'i.isLt) = i.val ∧ ¬ idxW lensT (numsT[i.val]'i.isLt) < 11 := by decide
theorem lens_eq : ∀ w ∈ lensT, ∀ c ∈ w, c ≠ 61 ∧ c ≠ 32 := by decide
theorem nums_eq : ∀ w ∈ numsT, ∀ c ∈ w, c ≠ 61 ∧ c ≠ 32 := by decide
theorem picks_clean : ∀ t ∈ picksT, ∀ w ∈ t, ∀ c ∈ w, c ≠ 61 ∧ c ≠ 32 := by decide
theorem cutEq_at : ∀ {a : List UInt8}, (∀ c ∈ a, c ≠ 61) → ∀ b, cutEq (a ++ 61 :: b) = some (a, b)
  | [], _, b => by simp [cutEq]
  | c :: a, h, b => by
    rw [List.cons_append, cutEq, if_neg (h c (by simp)), cutEq_at (fun x hx => h x (by simp [hx])) b]; rfl
theorem idxW_lt {l : List (List UInt8)} {w : List UInt8} : idxW l w < l.length ↔ w ∈ l := by
  unfold idxW
  rw [List.findIdx_lt_length]
  simp
theorem findPick_none {w : List UInt8} (h : 61 ∈ w) : ∀ (T : List (List (List UInt8))) (i : Nat), (∀ t ∈ T, ∀ v ∈ t, ∀ c ∈ v, c ≠ 61 ∧ c ≠ 32) → findPick T i w = none
  | [], _, _ => rfl
  | t :: T, i, hT => by
    rw [findPick, if_neg, findPick_none h T (i + 1) (fun u hu => hT u (by simp [hu]))]
    rintro ⟨_, h2, _⟩
    exact (hT t (by simp) w (idxW_lt.1 h2) 61 h).1 rfl
/-- A word with a sign of equality is a length or a number. -/
theorem stepW_eq {a b : List UInt8} (ha : ∀ c ∈ a, c ≠ 61) (s : Sty) : stepW s (a ++ 61 :: b) = setP s a b ∧ stepR s (a ++ 61 :: b) = setR s a b := by
  have hm : (61 : UInt8) ∈ a ++ 61 :: b := by simp
  have h1 : a ++ 61 :: b ≠ wholeB := fun h => absurd (h ▸ hm) (by decide)
  have h2 : a ++ 61 :: b ≠ wrapB := fun h => absurd (h ▸ hm) (by decide)
  constructor
  · unfold stepW
    rw [findPick_none hm picksT 0 picks_clean]
    simp only [if_neg h1, if_neg h2, cutEq_at ha]
  · unfold stepR
    rw [findPick_none hm picksT 0 picks_clean]
    simp only [if_neg h1, if_neg h2, cutEq_at ha]
theorem partV_itoa (n : Int) : partV (Lib.itoa n) = (Lib.itoa n, false) := by
  unfold partV
  rw [if_neg]
  intro h
  exact (itoa_clean n 112 (List.mem_of_getLast? h)).2.2 rfl
theorem partV_part (n : Int) : partV (Lib.itoa n ++ [112]) = (Lib.itoa n, true) := by
  unfold partV
  rw [if_pos (by simp), List.dropLast_concat]
theorem step_len {i : Nat} (hi : i < 11) {k : Nat} {n : Int} (hn : I64 n) (hk : k = 1 ∨ k = 2) (s : Sty) :
    ∃ w, lenW (lensT[i]'hi) (k, n) = some [w] ∧ stepW s w = some { s with lens := s.lens.set i (k, n) } ∧ stepR s w = ({ s with lens := s.lens.set i (k, n) }, false) ∧ w ≠ [] ∧ ∀ c ∈ w, c ≠ 32 := by
  have hc := lens_eq _ (List.getElem_mem hi)
  have hx := lens_idx ⟨i, hi⟩
  simp only at hx
  have h0 : ((k, n) : Nat × Int) ≠ (0, 0) := by rintro ⟨⟩; omega
  rcases hk with rfl | rfl
  · refine ⟨lensT[i]'hi ++ 61 :: Lib.itoa n, ?_, ?_, ?_, by simp, ?_⟩
    · unfold lenW
      rw [if_neg h0, if_neg (by simp), if_pos rfl]
    · rw [(stepW_eq (fun c h => (hc c h).1) s).1, setP, hx, if_pos hi, partV_itoa, numP_itoa n hn.1 hn.2]; rfl
    · rw [(stepW_eq (fun c h => (hc c h).1) s).2, setR, hx, if_pos hi, partV_itoa, toldR_itoa n hn.1 hn.2]; rfl
    · intro c h
      rcases List.mem_append.1 h with h | h
      · exact (hc c h).2
      · rcases List.mem_cons.1 h with rfl | h
        · decide
        · exact (itoa_clean n c h).1
  · refine ⟨lensT[i]'hi ++ 61 :: (Lib.itoa n ++ [112]), ?_, ?_, ?_, by simp, ?_⟩
    · unfold lenW
      rw [if_neg h0, if_pos rfl]
    · rw [(stepW_eq (fun c h => (hc c h).1) s).1, setP, hx, if_pos hi, partV_part, numP_itoa n hn.1 hn.2]; rfl
    · rw [(stepW_eq (fun c h => (hc c h).1) s).2, setR, hx, if_pos hi, partV_part, toldR_itoa n hn.1 hn.2]; rfl
    · intro c h
      rcases List.mem_append.1 h with h | h
      · exact (hc c h).2
      · rcases List.mem_cons.1 h with rfl | h
        · decide
        · rcases List.mem_append.1 h with h | h
          · exact (itoa_clean n c h).1
          · rw [List.mem_singleton.1 h]; decide
theorem step_num {i : Nat} (hi : i < 16) {n : Int} (hn : I64 n) (s : Sty) :
    stepW s (numsT[i]'hi ++ 61 :: Lib.itoa n) = some { s with nums := s.nums.set i n } ∧ stepR s (numsT[i]'hi ++ 61 :: Lib.itoa n) = ({ s with nums := s.nums.set i n }, false) ∧ ∀ c ∈ numsT[i]'hi ++ 61 :: Lib.itoa n, c ≠ 32 := by
  have hc := nums_eq _ (List.getElem_mem hi)
  obtain ⟨hx, hl⟩ := nums_idx ⟨i, hi⟩
  simp only at hx hl
  refine ⟨?_, ?_, ?_⟩
  · rw [(stepW_eq (fun c h => (hc c h).1) s).1, setP, if_neg hl, hx, if_pos hi, numP_itoa n hn.1 hn.2]; rfl
  · rw [(stepW_eq (fun c h => (hc c h).1) s).2, setR, if_neg hl, hx, if_pos hi, partV_itoa, toldR_itoa n hn.1 hn.2]
  · intro c h
    rcases List.mem_append.1 h with h | h
    · exact (hc c h).2
    · rcases List.mem_cons.1 h with rfl | h
      · decide
      · exact (itoa_clean n c h).1
theorem step_pick {i x : Nat} (hi : i < 7) (h0 : 0 < x) (hx : x < (picksT[i]'hi).length) (hw : (picksT[i]'hi)[x] ≠ [63]) (s : Sty) :
    stepW s ((picksT[i]'hi)[x]) = some { s with picks := s.picks.set i x } ∧ stepR s ((picksT[i]'hi)[x]) = ({ s with picks := s.picks.set i x }, false) := by
  have h6 := picks_len ⟨i, hi⟩
  have hf := picks_found ⟨i, hi⟩ ⟨x, Nat.lt_of_lt_of_le hx h6⟩ h0 hx hw
  simp only at hf
  constructor
  · unfold stepW; rw [hf]
  · unfold stepR; rw [hf]

theorem stylR_nil (s : Sty) : stylR s [] = (s, false) := by rw [stylR]
theorem stylR_cons (s : Sty) (c : UInt8) (r : List UInt8) : stylR s (c :: r) = if (stepR s (wordC (c :: r))).2 then ((stepR s (wordC (c :: r))).1, true) else stylR (stepR s (wordC (c :: r))).1 (restC (c :: r)) := by rw [stylR]
/-- Words that lead from a style to a style, whoever reads. -/
def Runs (s : Sty) (ws : List (List UInt8)) (s' : Sty) : Prop := (∀ r, stylP s (ws ++ r) = stylP s' r ∧ stylR s (joinC (ws ++ r)) = stylR s' (joinC r)) ∧ ∀ w ∈ ws, w ≠ [] ∧ ∀ c ∈ w, c ≠ 32
theorem Runs.nil (s : Sty) : Runs s [] s := ⟨fun _ => ⟨rfl, rfl⟩, fun _ h => absurd h (by simp)⟩
theorem Runs.trans {s t u : Sty} {a b : List (List UInt8)} (h1 : Runs s a t) (h2 : Runs t b u) : Runs s (a ++ b) u :=
  ⟨fun r => ⟨by rw [List.append_assoc, (h1.1 _).1, (h2.1 _).1], by rw [List.append_assoc, (h1.1 _).2, (h2.1 _).2]⟩, fun w hw => (List.mem_append.1 hw).elim (h1.2 w) (h2.2 w)⟩
theorem Runs.one {s s' : Sty} {w : List UInt8} (h1 : stepW s w = some s') (h2 : stepR s w = (s', false)) (hn : w ≠ []) (hc : ∀ c ∈ w, c ≠ 32) : Runs s [w] s' := by
  refine ⟨fun r => ⟨?_, ?_⟩, fun v hv => ?_⟩
  · rw [List.singleton_append, stylP, h1]
  · obtain ⟨c, w', rfl⟩ : ∃ c w', w = c :: w' := by
      cases w with
      | nil => exact absurd rfl hn
      | cons c w' => exact ⟨c, w', rfl⟩
    rw [List.singleton_append]
    by_cases hr : r = []
    · subst hr
      show stylR s (c :: w') = stylR s' []
      rw [stylR_cons, (wordC_one hc).1, (wordC_one hc).2, h2]; rfl
    · rw [joinC_cons hr, List.cons_append, stylR_cons, ← List.cons_append, (wordC_clean hc _).1, (wordC_clean hc _).2, h2]; rfl
  · rw [List.mem_singleton.1 hv]; exact ⟨hn, hc⟩
theorem set_take {α : Type} (P : List α) (z : α) (n i : Nat) (hi : i < n) (hn : P.length = n) : (P.take i ++ List.replicate (n - i) z).set i (P[i]'(by omega)) = P.take (i + 1) ++ List.replicate (n - (i + 1)) z := by
  have hl : (P.take i).length = i := by simp; omega
  rw [List.set_append_right _ _ (by omega), hl, Nat.sub_self, show n - i = (n - (i + 1)) + 1 by omega, List.replicate_succ, List.set_cons_zero, List.take_succ_eq_append_getElem (by omega), List.append_assoc, List.singleton_append]
theorem skip_take {α : Type} (P : List α) (z : α) (n i : Nat) (hi : i < n) (hn : P.length = n) (hz : P[i]'(by omega) = z) : P.take i ++ List.replicate (n - i) z = P.take (i + 1) ++ List.replicate (n - (i + 1)) z := by
  rw [show n - i = (n - (i + 1)) + 1 by omega, List.replicate_succ, List.take_succ_eq_append_getElem (by omega), List.append_assoc, List.singleton_append, hz]
theorem picks_ne : ∀ t ∈ picksT, ∀ w ∈ t.tail, w ≠ [] := by decide
theorem runs_picks (P : List Nat) (hP : P.length = 7) : ∀ (m i : Nat), i + m = 7 → ∀ (s : Sty) (ws : List (List UInt8)), pickWs (picksT.drop i) (P.drop i) = some ws → s.picks = P.take i ++ List.replicate (7 - i) 0 → Runs s ws { s with picks := P }
  | 0, i, hi, s, ws, hw, hs => by
    obtain rfl : i = 7 := by omega
    rw [show picksT.drop 7 = [] from rfl] at hw
    injection hw with hw
    rw [show P.take 7 = P by rw [List.take_of_length_le (by omega)]] at hs
    rw [← hw, ← show s.picks = P by simpa using hs]
    exact Runs.nil s
  | m + 1, i, hi, s, ws, hw, hs => by
    have hi7 : i < 7 := by omega
    have hT : i < picksT.length := hi7
    rw [List.drop_eq_getElem_cons hT, List.drop_eq_getElem_cons (by omega : i < P.length), pickWs] at hw
    split at hw
    · cases hw
    · rename_i w hw1
      cases hr : pickWs (picksT.drop (i + 1)) (P.drop (i + 1)) with
      | none => rw [hr] at hw; cases hw
      | some ws' =>
        rw [hr] at hw
        injection hw with hw
        have hw : w ++ ws' = ws := hw
        unfold pickW at hw1
        split at hw1
        · cases hw1
        · rename_i v hv
          obtain ⟨hx, rfl⟩ := List.getElem?_eq_some_iff.1 hv
          split at hw1
          · cases hw1
          · rename_i h63
            split at hw1
            · rename_i h0
              injection hw1 with hw1
              rw [← hw, ← hw1, List.nil_append]
              exact runs_picks P hP m (i + 1) (by omega) s ws' hr (by rw [hs]; exact skip_take P 0 7 i hi7 hP h0)
            · rename_i h0
              injection hw1 with hw1
              have hst := step_pick hi7 (by omega : 0 < P[i]) hx h63 s
              rw [← hw, ← hw1]
              refine Runs.trans (Runs.one hst.1 hst.2 ?_ ?_) (runs_picks P hP m (i + 1) (by omega) { s with picks := s.picks.set i P[i] } ws' hr ?_)
              · refine picks_ne _ (List.getElem_mem hT) _ ?_
                have : ∀ (t : List (List UInt8)) (k : Nat) (hk : k < t.length), 0 < k → t[k] ∈ t.tail := by
                  intro t k hk h0
                  cases t with
                  | nil => simp at hk
                  | cons a t =>
                    obtain ⟨j, rfl⟩ : ∃ j, k = j + 1 := ⟨k - 1, by omega⟩
                    simp
                exact this _ _ hx (by omega)
              · exact fun c hc => (picks_clean _ (List.getElem_mem hT) _ (List.getElem_mem hx) c hc).2
              · show s.picks.set i P[i] = _
                rw [hs, set_take P 0 7 i hi7 hP]
theorem runs_lens (P : List (Nat × Int)) (hP : P.length = 11) (hk : ∀ x ∈ P, I64 x.2) : ∀ (m i : Nat), i + m = 11 → ∀ (s : Sty) (ws : List (List UInt8)), lenWs (lensT.drop i) (P.drop i) = some ws → s.lens = P.take i ++ List.replicate (11 - i) (0, 0) → Runs s ws { s with lens := P }
  | 0, i, hi, s, ws, hw, hs => by
    obtain rfl : i = 11 := by omega
    rw [show lensT.drop 11 = [] from rfl] at hw
    injection hw with hw
    rw [show P.take 11 = P by rw [List.take_of_length_le (by omega)]] at hs
    rw [← hw, ← show s.lens = P by simpa using hs]
    exact Runs.nil s
  | m + 1, i, hi, s, ws, hw, hs => by
    have hi7 : i < 11 := by omega
    have hT : i < lensT.length := hi7
    rw [List.drop_eq_getElem_cons hT, List.drop_eq_getElem_cons (by omega : i < P.length), lenWs] at hw
    split at hw
    · cases hw
    · rename_i w hw1
      cases hr : lenWs (lensT.drop (i + 1)) (P.drop (i + 1)) with
      | none => rw [hr] at hw; cases hw
      | some ws' =>
        rw [hr] at hw
        injection hw with hw
        have hw : w ++ ws' = ws := hw
        by_cases h0 : P[i] = (0, 0)
        · unfold lenW at hw1
          rw [if_pos h0] at hw1
          injection hw1 with hw1
          rw [← hw, ← hw1, List.nil_append]
          exact runs_lens P hP hk m (i + 1) (by omega) s ws' hr (by rw [hs]; exact skip_take P (0, 0) 11 i hi7 hP h0)
        · have hkk : (P[i]).1 = 1 ∨ (P[i]).1 = 2 := by
            unfold lenW at hw1
            rw [if_neg h0] at hw1
            split at hw1
            · rename_i h; exact Or.inr h
            · split at hw1
              · rename_i h; exact Or.inl h
              · cases hw1
          obtain ⟨v, e1, e2, e3, e4, e5⟩ := step_len hi7 (hk _ (List.getElem_mem (by omega : i < P.length))) hkk s
          have e1 : lenW lensT[i] P[i] = some [v] := e1
          rw [e1] at hw1
          injection hw1 with hw1
          rw [← hw, ← hw1]
          refine Runs.trans (Runs.one e2 e3 e4 e5) (runs_lens P hP hk m (i + 1) (by omega) { s with lens := s.lens.set i P[i] } ws' hr ?_)
          show s.lens.set i P[i] = _
          rw [hs, set_take P (0, 0) 11 i hi7 hP]
theorem runs_nums (P : List Int) (hP : P.length = 16) (hk : ∀ x ∈ P, I64 x) : ∀ (m i : Nat), i + m = 16 → ∀ (s : Sty), s.nums = P.take i ++ List.replicate (16 - i) 0 → Runs s (numWs (numsT.drop i) (P.drop i)) { s with nums := P }
  | 0, i, hi, s, hs => by
    obtain rfl : i = 16 := by omega
    rw [show numsT.drop 16 = [] from rfl]
    rw [show P.take 16 = P by rw [List.take_of_length_le (by omega)]] at hs
    rw [← show s.nums = P by simpa using hs]
    exact Runs.nil s
  | m + 1, i, hi, s, hs => by
    have hi7 : i < 16 := by omega
    have hT : i < numsT.length := hi7
    rw [List.drop_eq_getElem_cons hT, List.drop_eq_getElem_cons (by omega : i < P.length), numWs]
    unfold numW
    split
    · rename_i h0
      rw [List.nil_append]
      exact runs_nums P hP hk m (i + 1) (by omega) s (by rw [hs]; exact skip_take P 0 16 i hi7 hP h0)
    · obtain ⟨e2, e3, e5⟩ := step_num hi7 (hk _ (List.getElem_mem (by omega : i < P.length))) s
      refine Runs.trans (Runs.one e2 e3 (by simp) e5) (runs_nums P hP hk m (i + 1) (by omega) { s with nums := s.nums.set i P[i] } ?_)
      show s.nums.set i P[i] = _
      rw [hs, set_take P 0 16 i hi7 hP]
theorem runs_flags (s t : Sty) (h1 : s.whole = false) (h2 : s.wrap = false) : Runs s (flagW t) { s with whole := t.whole, wrap := t.wrap } := by
  have a : ∀ s, Runs s [wholeB] { s with whole := true } := fun s => Runs.one (by rfl) (by rfl) (by decide) (by decide)
  have b : ∀ s, Runs s [wrapB] { s with wrap := true } := fun s => Runs.one (by rfl) (by rfl) (by decide) (by decide)
  obtain ⟨p, w1, w2, l, n⟩ := s
  obtain ⟨tp, u1, u2, tl, tn⟩ := t
  simp only at h1 h2
  subst h1 h2
  unfold flagW
  cases u1 <;> cases u2
  · exact Runs.nil _
  · exact b _
  · exact a _
  · exact Runs.trans (a _) (b _)
/-- A STYLE'S WORDS ARE READ AS THE STYLE. -/
theorem runs_styl {s : Sty} (h : s.Ok) {ws : List (List UInt8)} (hw : stylW s = some ws) : Runs sty0 ws s := by
  unfold stylW at hw
  split at hw
  · rename_i a b ha hb
    injection hw with hw
    subst hw
    have r1 := runs_picks s.picks h.p 7 0 (by omega) sty0 a ha (by simp [sty0])
    have r2 := runs_flags { sty0 with picks := s.picks } s rfl rfl
    have r3 := runs_lens s.lens h.l (fun x hx => (h.lk x hx).2) 11 0 (by omega) { sty0 with picks := s.picks, whole := s.whole, wrap := s.wrap } b hb (by simp [sty0])
    have r4 := runs_nums s.nums h.n h.nk 16 0 (by omega) { sty0 with picks := s.picks, whole := s.whole, wrap := s.wrap, lens := s.lens } (by simp [sty0])
    exact Runs.trans r1 (Runs.trans r2 (Runs.trans r3 r4))
  · cases hw
theorem stylP_back {s : Sty} (h : s.Ok) {ws : List (List UInt8)} (hw : stylW s = some ws) : stylP sty0 ws = some s := by
  have := ((runs_styl h hw).1 []).1
  rw [List.append_nil] at this
  exact this
theorem stylR_back {s : Sty} (h : s.Ok) {ws : List (List UInt8)} (hw : stylW s = some ws) : stylR sty0 (joinC ws) = (s, false) := by
  have := ((runs_styl h hw).1 []).2
  rw [List.append_nil] at this
  rw [this]
  exact stylR_nil s
theorem stylW_clean {s : Sty} (h : s.Ok) {ws : List (List UInt8)} (hw : stylW s = some ws) : ∀ w ∈ ws, w ≠ [] ∧ ∀ c ∈ w, c ≠ 32 := (runs_styl h hw).2

end Go.Proofs.YtaoehdmdjplegaaGreatDoor
