/-
  A text in quotes, bytes' text, a line's words: written, and read back.
-/
import Derived.Test.YtaoehdmdjplegaaGreatDoorNumPlain
namespace Go.Proofs.YtaoehdmdjplegaaGreatDoor

def hx (n : Nat) : UInt8 := UInt8.ofNat (if n < 10 then 48 + n else 87 + n)
/-- A digit's number; 16: it is none. -/
def hv (c : UInt8) : Nat := if 48 ≤ c.toNat ∧ c.toNat ≤ 57 then c.toNat - 48 else if 97 ≤ c.toNat ∧ c.toNat ≤ 102 then c.toNat - 87 else 16
def hexB (c : UInt8) : List UInt8 := [hx (c.toNat / 16), hx (c.toNat % 16)]
def escB (c : UInt8) : List UInt8 := if c = 34 ∨ c = 92 then [92, c] else if c = 10 then [92, 110] else if 32 ≤ c.toNat ∧ c.toNat ≤ 126 then [c] else 92 :: 120 :: hexB c
def escs : List UInt8 → List UInt8
  | [] => []
  | c :: l => escB c ++ escs l
def quoted (s : List UInt8) : List UInt8 := 34 :: (escs s ++ [34])
def hexs : List UInt8 → List UInt8
  | [] => []
  | c :: l => hexB c ++ hexs l
def hexW (b : List UInt8) : List UInt8 := if b = [] then [45] else hexs b

/-- Bytes' text, read. -/
def pairs : List UInt8 → Option (List UInt8)
  | [] => some []
  | [_] => none
  | a :: b :: r => if hv a < 16 ∧ hv b < 16 then (pairs r).map (UInt8.ofNat (hv a * 16 + hv b) :: ·) else none
def bytesR (w : List UInt8) : Option (List UInt8) := if w = [45] then some [] else pairs w
/-- What stands between quotes, read by the one. -/
def bareGo : List UInt8 → Option (List UInt8)
  | [] => some []
  | c :: r =>
    if c = 92 then match r with
      | [] => none
      | d :: r' =>
        if d = 110 then (bareGo r').map (10 :: ·)
        else if d = 120 then match r' with
          | a :: b :: r'' => if hv a < 16 ∧ hv b < 16 then (bareGo r'').map (UInt8.ofNat (hv a * 16 + hv b) :: ·) else none
          | r' => (bareGo r').map (d :: ·)
        else (bareGo r').map (d :: ·)
    else (bareGo r).map (c :: ·)
def bareP (w : List UInt8) : Option (List UInt8) := if w.head? = some 34 ∧ 2 ≤ w.length ∧ w.getLast? = some 34 then bareGo w.tail.dropLast else none
/-- .. and by the other one. -/
def textGo : List UInt8 → List UInt8
  | [] => []
  | c :: r =>
    if c = 92 then match r with
      | [] => [92]
      | d :: r' =>
        if d = 110 then 10 :: textGo r'
        else if d = 120 then match r' with
          | a :: b :: r'' => if hv a < 16 ∧ hv b < 16 then UInt8.ofNat (hv a * 16 + hv b) :: textGo r'' else d :: textGo (a :: b :: r'')
          | r' => d :: textGo r'
        else d :: textGo r'
    else c :: textGo r
def textR (w : List UInt8) : List UInt8 × Bool := if w.head? = some 34 ∧ 2 ≤ w.length ∧ w.getLast? = some 34 then (textGo w.tail.dropLast, false) else ([], true)

theorem hv_hx {n : Nat} (h : n < 16) : hv (hx n) = n := by
  have : ∀ k : Fin 16, hv (hx k.val) = k.val := by decide
  exact this ⟨n, h⟩
theorem byte_eq (c : UInt8) : UInt8.ofNat (c.toNat / 16 * 16 + c.toNat % 16) = c := by
  rw [show c.toNat / 16 * 16 + c.toNat % 16 = c.toNat by omega]
  exact UInt8.ofNat_toNat
theorem hv_hi (c : UInt8) : hv (hx (c.toNat / 16)) = c.toNat / 16 := hv_hx (by have := c.toNat_lt; omega)
theorem hv_lo (c : UInt8) : hv (hx (c.toNat % 16)) = c.toNat % 16 := hv_hx (by omega)
theorem hv_pair (c : UInt8) : hv (hx (c.toNat / 16)) < 16 ∧ hv (hx (c.toNat % 16)) < 16 := by
  rw [hv_hi, hv_lo]
  have := c.toNat_lt
  omega
theorem hv_back (c : UInt8) : UInt8.ofNat (hv (hx (c.toNat / 16)) * 16 + hv (hx (c.toNat % 16))) = c := by rw [hv_hi, hv_lo, byte_eq]
theorem pairs_hexs : ∀ b : List UInt8, pairs (hexs b) = some b
  | [] => rfl
  | c :: l => by
    simp only [hexs, hexB, List.cons_append, List.nil_append, pairs]
    rw [if_pos (hv_pair c), pairs_hexs l, hv_back]; rfl
theorem bytesR_hexW (b : List UInt8) : bytesR (hexW b) = some b := by
  unfold hexW
  split
  · rename_i h; subst h; rfl
  · rename_i h
    cases b with
    | nil => exact absurd rfl h
    | cons c l =>
      unfold bytesR
      rw [if_neg (by simp [hexs, hexB]), pairs_hexs]
theorem esc_cases (c : UInt8) : (∃ d, escB c = [92, d] ∧ ((d = 110 ∧ c = 10) ∨ (d ≠ 110 ∧ d ≠ 120 ∧ d = c))) ∨ (escB c = [c] ∧ c ≠ 92) ∨ escB c = 92 :: 120 :: hexB c := by
  unfold escB
  split
  · rename_i h
    refine Or.inl ⟨c, rfl, Or.inr ?_⟩
    rcases h with rfl | rfl <;> decide
  · rename_i h
    split
    · rename_i h2; exact Or.inl ⟨110, rfl, Or.inl ⟨rfl, h2⟩⟩
    · split
      · exact Or.inr (Or.inl ⟨rfl, fun e => h (Or.inr e)⟩)
      · exact Or.inr (Or.inr rfl)
theorem bareGo_plain {c : UInt8} (h : c ≠ 92) (r : List UInt8) : bareGo (c :: r) = (bareGo r).map (c :: ·) := (bareGo.eq_def _).trans (if_neg h)
theorem bareGo_line (r : List UInt8) : bareGo (92 :: 110 :: r) = (bareGo r).map (10 :: ·) := (bareGo.eq_def _).trans ((if_pos rfl).trans (if_pos rfl))
theorem bareGo_self {d : UInt8} (h1 : d ≠ 110) (h2 : d ≠ 120) (r : List UInt8) : bareGo (92 :: d :: r) = (bareGo r).map (d :: ·) := (bareGo.eq_def _).trans ((if_pos rfl).trans ((if_neg h1).trans (if_neg h2)))
theorem textGo_plain {c : UInt8} (h : c ≠ 92) (r : List UInt8) : textGo (c :: r) = c :: textGo r := (textGo.eq_def _).trans (if_neg h)
theorem textGo_line (r : List UInt8) : textGo (92 :: 110 :: r) = 10 :: textGo r := (textGo.eq_def _).trans ((if_pos rfl).trans (if_pos rfl))
theorem textGo_self {d : UInt8} (h1 : d ≠ 110) (h2 : d ≠ 120) (r : List UInt8) : textGo (92 :: d :: r) = d :: textGo r := (textGo.eq_def _).trans ((if_pos rfl).trans ((if_neg h1).trans (if_neg h2)))
theorem bareGo_escs : ∀ s : List UInt8, bareGo (escs s) = some s
  | [] => by simp [escs, bareGo]
  | c :: l => by
    have ih := bareGo_escs l
    rcases esc_cases c with ⟨d, h, hd⟩ | ⟨h, hc⟩ | h
    · rcases hd with ⟨rfl, rfl⟩ | ⟨h1, h2, rfl⟩
      · rw [escs, h]; simp only [List.cons_append, List.nil_append, bareGo_line, ih, Option.map_some]
      · rw [escs, h]; simp only [List.cons_append, List.nil_append, bareGo_self h1 h2, ih, Option.map_some]
    · rw [escs, h]; simp only [List.cons_append, List.nil_append, bareGo_plain hc, ih, Option.map_some]
    · simp only [escs, h, hexB, List.cons_append, List.nil_append]
      rw [bareGo, if_pos rfl]
      simp only [show ((120 : UInt8) = 110) = False by decide, if_false, if_true]
      rw [if_pos (hv_pair c), ih, hv_back]; rfl
theorem textGo_escs : ∀ s : List UInt8, textGo (escs s) = s
  | [] => by simp [escs, textGo]
  | c :: l => by
    have ih := textGo_escs l
    rcases esc_cases c with ⟨d, h, hd⟩ | ⟨h, hc⟩ | h
    · rcases hd with ⟨rfl, rfl⟩ | ⟨h1, h2, rfl⟩
      · rw [escs, h]; simp only [List.cons_append, List.nil_append, textGo_line, ih]
      · rw [escs, h]; simp only [List.cons_append, List.nil_append, textGo_self h1 h2, ih]
    · rw [escs, h]; simp only [List.cons_append, List.nil_append, textGo_plain hc, ih]
    · simp only [escs, h, hexB, List.cons_append, List.nil_append]
      rw [textGo, if_pos rfl]
      simp only [show ((120 : UInt8) = 110) = False by decide, if_false, if_true]
      rw [if_pos (hv_pair c), ih, hv_back]
theorem quoted_shape (s : List UInt8) : ((quoted s).head? = some 34 ∧ 2 ≤ (quoted s).length ∧ (quoted s).getLast? = some 34) ∧ (quoted s).tail.dropLast = escs s := by
  refine ⟨⟨rfl, ?_, ?_⟩, ?_⟩
  · simp [quoted]
  · show (34 :: (escs s ++ [34])).getLast? = some 34
    rw [← List.cons_append, List.getLast?_concat]
  · simp [quoted]
theorem bareP_quoted (s : List UInt8) : bareP (quoted s) = some s := by
  unfold bareP
  rw [if_pos (quoted_shape s).1, (quoted_shape s).2, bareGo_escs]
theorem textR_quoted (s : List UInt8) : textR (quoted s) = (s, false) := by
  unfold textR
  rw [if_pos (quoted_shape s).1, (quoted_shape s).2, textGo_escs]

/-! ### Words -/
def splitC : List UInt8 → List (List UInt8)
  | [] => [[]]
  | c :: r => if c = 32 then [] :: splitC r else match splitC r with
    | [] => [[c]]
    | w :: ws => (c :: w) :: ws
def joinC : List (List UInt8) → List UInt8
  | [] => []
  | [w] => w
  | w :: v :: ws => w ++ 32 :: joinC (v :: ws)
/-- A word, and what stands behind the blank. -/
def wordC : List UInt8 → List UInt8
  | [] => []
  | c :: r => if c = 32 then [] else c :: wordC r
def restC : List UInt8 → List UInt8
  | [] => []
  | c :: r => if c = 32 then r else restC r

theorem splitC_ne (s : List UInt8) : splitC s ≠ [] := by
  cases s with
  | nil => simp [splitC]
  | cons c r => unfold splitC; split <;> (try split) <;> simp
theorem splitC_clean : ∀ {a : List UInt8}, (∀ c ∈ a, c ≠ 32) → ∀ r, splitC (a ++ 32 :: r) = a :: splitC r
  | [], _, r => by simp [splitC]
  | c :: a, h, r => by
    rw [List.cons_append, splitC, if_neg (h c (by simp)), splitC_clean (fun x hx => h x (by simp [hx])) r]
theorem splitC_one : ∀ {a : List UInt8}, (∀ c ∈ a, c ≠ 32) → splitC a = [a]
  | [], _ => rfl
  | c :: a, h => by
    rw [splitC, if_neg (h c (by simp)), splitC_one (fun x hx => h x (by simp [hx]))]
theorem joinC_splitC : ∀ s : List UInt8, joinC (splitC s) = s
  | [] => rfl
  | c :: r => by
    have ih := joinC_splitC r
    unfold splitC
    split
    · rename_i h
      cases hs : splitC r with
      | nil => exact absurd hs (splitC_ne r)
      | cons w ws => rw [hs] at ih; rw [joinC, ih, h]; rfl
    · cases hs : splitC r with
      | nil => exact absurd hs (splitC_ne r)
      | cons w ws =>
        rw [hs] at ih
        cases ws with
        | nil => simp only [joinC] at ih ⊢; rw [ih]
        | cons v ws => simp only [joinC, List.cons_append] at ih ⊢; rw [ih]
theorem splitC_joinC : ∀ {ws : List (List UInt8)}, ws ≠ [] → (∀ w ∈ ws, ∀ c ∈ w, c ≠ 32) → splitC (joinC ws) = ws
  | [], h, _ => absurd rfl h
  | [w], _, h => splitC_one (h w (by simp))
  | w :: v :: ws, _, h => by
    rw [joinC, splitC_clean (h w (by simp)), splitC_joinC (by simp) (fun x hx => h x (by simp [hx]))]
theorem wordC_clean : ∀ {a : List UInt8}, (∀ c ∈ a, c ≠ 32) → ∀ r, wordC (a ++ 32 :: r) = a ∧ restC (a ++ 32 :: r) = r
  | [], _, r => by simp [wordC, restC]
  | c :: a, h, r => by
    have ih := wordC_clean (a := a) (fun x hx => h x (by simp [hx])) r
    simp [wordC, restC, h c (by simp), ih.1, ih.2]
theorem wordC_one : ∀ {a : List UInt8}, (∀ c ∈ a, c ≠ 32) → wordC a = a ∧ restC a = []
  | [], _ => ⟨rfl, rfl⟩
  | c :: a, h => by
    have ih := wordC_one (a := a) (fun x hx => h x (by simp [hx]))
    simp [wordC, restC, h c (by simp), ih.1, ih.2]
theorem restC_lt : ∀ {s : List UInt8}, s ≠ [] → (restC s).length < s.length
  | [], h => absurd rfl h
  | c :: r, _ => by
    unfold restC
    split
    · simp
    · by_cases hr : r = []
      · subst hr; simp [restC]
      · have := restC_lt hr; simp; omega
theorem joinC_cons {w : List UInt8} {ws : List (List UInt8)} (h : ws ≠ []) : joinC (w :: ws) = w ++ 32 :: joinC ws := by
  cases ws with
  | nil => exact absurd rfl h
  | cons v ws => rfl

end Go.Proofs.YtaoehdmdjplegaaGreatDoor
