/-
  The plain law of pieces of a text: byte by byte, and by longest rows.
-/
import Derived.Test.YtlfmeagdelmlpaaDoorLinesPlain
import Derived.Lib.SplitLaws
namespace Go.Proofs.YtlfmeagdelmlpaaDoor

/-- A piece: its kind and its text. -/
abbrev Pc := Nat × List UInt8
def isB (c : UInt8) : Bool := c == 32 || c == 10
def lastK (L : List Pc) (k : Nat) : Bool := match L.getLast? with
  | some p => p.1 == k
  | none => false
def addLast (L : List Pc) (c : UInt8) : List Pc := match L.getLast? with
  | some p => L.dropLast ++ [(p.1, p.2 ++ [c])]
  | none => L
/-- One byte more, of WsNormal. -/
def stepN (L : List Pc) (c : UInt8) : List Pc :=
  if isB c then (if lastK L 1 then L else L ++ [(1, [32])]) else if lastK L 0 then addLast L c else L ++ [(0, [c])]
/-- One byte more, of WsKeep. -/
def stepK (L : List Pc) (c : UInt8) : List Pc :=
  if c == 10 then L ++ [(2, [])] else if lastK L 0 then addLast L c else L ++ [(0, [c])]
/-- Rows of blanks as one byte 32; b: has a blank just been told? -/
def nrm : Bool → List UInt8 → List UInt8
  | _, [] => []
  | b, c :: l => if isB c then (if b then nrm true l else 32 :: nrm true l) else c :: nrm false l
def lastB (b : Bool) (l : List UInt8) : Bool := match l.getLast? with
  | some c => isB c
  | none => b
def cutN (l : List UInt8) : List Pc := l.foldl stepN []
def cutK (l : List UInt8) : List Pc := l.foldl stepK []
def cutS (l : List UInt8) : List Pc := if l = [] then [] else [(0, nrm false l)]
def cutR (ws : Int) (l : List UInt8) : List Pc := if ws = 0 then cutN l else if ws = 1 then cutS l else if ws = 2 then cutK l else []
def shownP (p : Pc) : List UInt8 := (if p.1 = 2 then [10] else []) ++ p.2
def shownR (L : List Pc) : List UInt8 := L.flatMap shownP

theorem lastK_nil (k : Nat) : lastK [] k = false := rfl
theorem lastK_snoc (L : List Pc) (p : Pc) (k : Nat) : lastK (L ++ [p]) k = (p.1 == k) := by simp [lastK]
theorem addLast_snoc (L : List Pc) (p : Pc) (c : UInt8) : addLast (L ++ [p]) c = L ++ [(p.1, p.2 ++ [c])] := by simp [addLast]
theorem nrm_snoc : ∀ (l : List UInt8) (b : Bool) (c : UInt8), nrm b (l ++ [c]) = nrm b l ++ (if isB c then (if lastB b l then [] else [32]) else [c])
  | [], b, c => by
    by_cases h : isB c = true <;> cases b <;> simp [nrm, lastB, h]
  | d :: l, b, c => by
    have e : ∀ b', lastB b' (d :: l) = lastB (isB d) l := fun b' => by
      cases l with
      | nil => simp [lastB]
      | cons x l => simp [lastB, List.getLast?_cons]
    rw [List.cons_append, nrm, nrm, nrm_snoc l true, nrm_snoc l false, e]
    by_cases h : isB d = true
    · rw [if_pos h, if_pos h, h]
      cases b <;> simp
    · have h' : isB d = false := by simpa using h
      rw [if_neg h, if_neg h, h']
      simp
theorem foldl_snoc {α : Type} (f : α → UInt8 → α) (a : α) (l : List UInt8) (c : UInt8) : (l ++ [c]).foldl f a = f (l.foldl f a) c := by simp
theorem cutN_snoc (l : List UInt8) (c : UInt8) : cutN (l ++ [c]) = stepN (cutN l) c := foldl_snoc _ _ _ _
theorem cutK_snoc (l : List UInt8) (c : UInt8) : cutK (l ++ [c]) = stepK (cutK l) c := foldl_snoc _ _ _ _
theorem cutN_take {l : List UInt8} {k : Nat} (h : k < l.length) : cutN (l.take (k + 1)) = stepN (cutN (l.take k)) l[k] := by rw [List.take_succ_eq_append_getElem h, cutN_snoc]
theorem cutK_take {l : List UInt8} {k : Nat} (h : k < l.length) : cutK (l.take (k + 1)) = stepK (cutK (l.take k)) l[k] := by rw [List.take_succ_eq_append_getElem h, cutK_snoc]
theorem lastB_take {l : List UInt8} {k : Nat} (h0 : 0 < k) (h : k ≤ l.length) (b : Bool) : lastB b (l.take k) = isB (l[k - 1]'(by omega)) := by
  obtain ⟨j, rfl⟩ : ∃ j, k = j + 1 := ⟨k - 1, by omega⟩
  rw [List.take_succ_eq_append_getElem (by omega)]
  unfold lastB
  rw [List.getLast?_append]
  simp
theorem nrm_take {l : List UInt8} {k : Nat} (h : k < l.length) : nrm false (l.take (k + 1)) = nrm false (l.take k) ++ (if isB l[k] then (if lastB false (l.take k) then [] else [32]) else [l[k]]) := by
  rw [List.take_succ_eq_append_getElem h, nrm_snoc]

/-! A step's ways. -/
theorem stepN_blank {L : List Pc} {c : UInt8} (h : isB c = true) (h1 : lastK L 1 = false) : stepN L c = L ++ [(1, [32])] := by simp [stepN, h, h1]
theorem stepN_again {L : List Pc} {c : UInt8} (h : isB c = true) (h1 : lastK L 1 = true) : stepN L c = L := by simp [stepN, h, h1]
theorem stepN_on {L : List Pc} {c : UInt8} (h : isB c = false) (h1 : lastK L 0 = true) : stepN L c = addLast L c := by simp [stepN, h, h1]
theorem stepN_word {L : List Pc} {c : UInt8} (h : isB c = false) (h1 : lastK L 0 = false) : stepN L c = L ++ [(0, [c])] := by simp [stepN, h, h1]
theorem stepK_end {L : List Pc} {c : UInt8} (h : (c == 10) = true) : stepK L c = L ++ [(2, [])] := by simp [stepK, h]
theorem stepK_on {L : List Pc} {c : UInt8} (h : (c == 10) = false) (h1 : lastK L 0 = true) : stepK L c = addLast L c := by
  unfold stepK
  rw [if_neg (by simp [h]), if_pos h1]
theorem stepK_word {L : List Pc} {c : UInt8} (h : (c == 10) = false) (h1 : lastK L 0 = false) : stepK L c = L ++ [(0, [c])] := by
  unfold stepK
  rw [if_neg (by simp [h]), if_neg (by simp [h1])]

/-! Longest rows. -/
def okB (l : List UInt8) (f k : Nat) : Bool := isB (l.getD f 0) == isB (l.getD k 0)
def sub (l : List UInt8) (x : Nat × Nat) : List UInt8 := (l.drop x.1).take (x.2 - x.1)
def pcN (l : List UInt8) (x : Nat × Nat) : Pc := if isB (l.getD x.1 0) then (1, [32]) else (0, sub l x)
def txS (l : List UInt8) (x : Nat × Nat) : List UInt8 := if isB (l.getD x.1 0) then [32] else sub l x
def rowsR (l : List UInt8) : List (Nat × Nat) := linesOf (okB l) l.length
theorem sub_snoc {l : List UInt8} {f k : Nat} (hf : f ≤ k) (h : k < l.length) : sub l (f, k + 1) = sub l (f, k) ++ [l[k]] := by
  unfold sub
  simp only
  rw [show k + 1 - f = (k - f) + 1 by omega, List.take_succ_eq_append_getElem (by simp; omega)]
  simp [show f + (k - f) = k by omega]
theorem sub_one {l : List UInt8} {k : Nat} (h : k < l.length) : sub l (k, k + 1) = [l[k]] := by
  rw [sub_snoc (Nat.le_refl _) h]
  simp [sub]
theorem rows_cut (l : List UInt8) : ∀ (k : Nat) (pre : List (Nat × Nat)) (f : Nat), 0 < k → k ≤ l.length → lnTo (okB l) k = (pre, f) →
    cutN (l.take k) = pre.map (pcN l) ++ [pcN l (f, k)] ∧ nrm false (l.take k) = pre.flatMap (txS l) ++ txS l (f, k) ∧ f < k ∧ isB (l.getD f 0) = isB (l.getD (k - 1) 0)
  | 0, _, _, h, _, _ => absurd h (by omega)
  | k + 1, pre, f, _, hk, h => by
    have hlt : k < l.length := by omega
    have hg : l.getD k 0 = l[k] := by simp [List.getD, hlt]
    rcases Nat.eq_zero_or_pos k with rfl | h0
    · rw [lnTo_one] at h
      obtain ⟨rfl, rfl⟩ := Prod.mk.inj h
      rw [cutN_take hlt, nrm_take hlt]
      unfold pcN txS
      simp only [hg, sub_one hlt]
      cases hb : isB l[0] with
      | true => exact ⟨by rw [stepN_blank hb rfl]; rfl, by simp [lastB, nrm], by omega, by simp⟩
      | false => exact ⟨by rw [stepN_word hb rfl]; rfl, by simp [nrm], by omega, by simp⟩
    · obtain ⟨pre', f', hp⟩ : ∃ pre' f', lnTo (okB l) k = (pre', f') := ⟨_, _, rfl⟩
      obtain ⟨i1, i2, i3, i4⟩ := rows_cut l k pre' f' h0 (by omega) hp
      have hlb : lastB false (l.take k) = isB (l.getD f' 0) := by
        rw [lastB_take h0 (by omega), i4]
        simp [List.getD, show k - 1 < l.length by omega]
      rw [cutN_take hlt, nrm_take hlt, hlb, i1, i2]
      cases hok : okB l f' k with
      | true =>
        rw [lnTo_on hp (.inr hok)] at h
        obtain ⟨rfl, rfl⟩ := Prod.mk.inj h
        have hsame : isB (l.getD f' 0) = isB l[k] := by rw [← hg]; simpa [okB] using hok
        unfold pcN txS
        simp only [sub_snoc (show f' ≤ k by omega) hlt, hsame]
        cases hb : isB l[k] with
        | true => exact ⟨by rw [if_pos rfl, if_pos rfl, stepN_again hb (by rw [lastK_snoc]; rfl)], by simp, by omega, by rw [Nat.add_sub_cancel, hg]; exact hb.symm⟩
        | false =>
          refine ⟨by rw [if_neg (by decide), if_neg (by decide), stepN_on hb (by rw [lastK_snoc]; rfl), addLast_snoc], by simp, by omega, ?_⟩
          rw [Nat.add_sub_cancel, hg]
          exact hb.symm
      | false =>
        rw [lnTo_break hp i3 hok] at h
        obtain ⟨rfl, rfl⟩ := Prod.mk.inj h
        have hdiff : isB (l.getD f' 0) = !isB l[k] := by
          have : (isB (l.getD f' 0) == isB (l.getD k 0)) = false := hok
          rw [hg] at this
          cases h1 : isB (l.getD f' 0) <;> cases h2 : isB l[k] <;> simp_all
        have hp2 : pcN l (k, k + 1) = if isB l[k] then (1, [32]) else (0, [l[k]]) := by unfold pcN; simp only [hg, sub_one hlt]
        have ht2 : txS l (k, k + 1) = if isB l[k] then [32] else [l[k]] := by unfold txS; simp only [hg, sub_one hlt]
        have hp1 : (pcN l (f', k)).1 = if isB l[k] then 0 else 1 := by
          unfold pcN
          simp only [hdiff]
          cases isB l[k] <;> rfl
        rw [hp2, ht2, hdiff]
        cases hb : isB l[k] with
        | true => exact ⟨by rw [stepN_blank hb (by rw [lastK_snoc, hp1, hb]; rfl)]; simp, by simp, by omega, by simp⟩
        | false => exact ⟨by rw [stepN_word hb (by rw [lastK_snoc, hp1, hb]; rfl)]; simp, by simp, by omega, by simp⟩
theorem cutN_rows (l : List UInt8) : cutN l = (rowsR l).map (pcN l) := by
  rcases Nat.eq_zero_or_pos l.length with h | h
  · have : l = [] := List.eq_nil_of_length_eq_zero h
    subst this
    rfl
  · obtain ⟨pre, f, hp⟩ : ∃ pre f, lnTo (okB l) l.length = (pre, f) := ⟨_, _, rfl⟩
    have := (rows_cut l l.length pre f h (Nat.le_refl _) hp).1
    rw [List.take_of_length_le (Nat.le_refl _)] at this
    unfold rowsR
    rw [linesOf_end h hp, this]
    simp
theorem nrm_rows (l : List UInt8) : nrm false l = (rowsR l).flatMap (txS l) := by
  rcases Nat.eq_zero_or_pos l.length with h | h
  · have : l = [] := List.eq_nil_of_length_eq_zero h
    subst this
    rfl
  · obtain ⟨pre, f, hp⟩ : ∃ pre f, lnTo (okB l) l.length = (pre, f) := ⟨_, _, rfl⟩
    have := (rows_cut l l.length pre f h (Nat.le_refl _) hp).2.1
    rw [List.take_of_length_le (Nat.le_refl _)] at this
    unfold rowsR
    rw [linesOf_end h hp, this]
    simp

/-! Lines. -/
def keepPart (first : Bool) (line : List UInt8) : List Pc := (if first then [] else [(2, [])]) ++ (if line = [] then [] else [(0, line)])
def keepOf : List (List UInt8) → List Pc
  | [] => []
  | a :: ls => keepPart true a ++ ls.flatMap (keepPart false)
theorem keepOf_snoc (ls : List (List UInt8)) (a : List UInt8) : keepOf (ls ++ [a]) = keepOf ls ++ keepPart (decide (ls.length = 0)) a := by
  cases ls with
  | nil => simp [keepOf]
  | cons b ls => simp [keepOf]
theorem stepK_app {L M : List Pc} (h : lastK L 0 = false) (c : UInt8) : stepK (L ++ M) c = L ++ stepK M c := by
  rcases List.eq_nil_or_concat M with rfl | ⟨M, p, rfl⟩
  · rw [List.append_nil]
    by_cases hc : (c == 10) = true
    · rw [stepK_end hc, stepK_end hc]; rfl
    · rw [stepK_word (by simpa using hc) h, stepK_word (by simpa using hc) rfl]; rfl
  · rw [List.concat_eq_append, ← List.append_assoc]
    by_cases hc : (c == 10) = true
    · rw [stepK_end hc, stepK_end hc]; simp
    · have hc' : (c == 10) = false := by simpa using hc
      cases hl : (p.1 == 0) with
      | true => rw [stepK_on hc' (by rw [lastK_snoc]; exact hl), stepK_on hc' (by rw [lastK_snoc]; exact hl), addLast_snoc, addLast_snoc]; simp
      | false => rw [stepK_word hc' (by rw [lastK_snoc]; exact hl), stepK_word hc' (by rw [lastK_snoc]; exact hl)]; simp
theorem foldK_app {L : List Pc} (h : lastK L 0 = false) : ∀ (l : List UInt8) (M : List Pc), l.foldl stepK (L ++ M) = L ++ l.foldl stepK M
  | [], _ => rfl
  | c :: l, M => by
    rw [List.foldl_cons, List.foldl_cons, stepK_app h, foldK_app h l]
theorem cutK_plain : ∀ (l : List UInt8), 10 ∉ l → cutK l = if l = [] then [] else [(0, l)] := by
  intro l
  rcases List.eq_nil_or_concat l with rfl | ⟨l, c, rfl⟩
  · intro _; rfl
  · rw [List.concat_eq_append]
    intro h
    have h1 : 10 ∉ l := fun e => h (by simp [e])
    have h2 : (c == 10) = false := by
      have : c ≠ 10 := fun e => h (by simp [e])
      simpa using this
    have ih := cutK_plain l h1
    rw [cutK_snoc, ih, if_neg (show ¬ l ++ [c] = [] by simp)]
    by_cases e : l = []
    · rw [if_pos e, stepK_word h2 rfl, e]; rfl
    · rw [if_neg e, stepK_on h2 rfl]; rfl
termination_by l => l.length
theorem cutK_line (a r : List UInt8) (h : 10 ∉ a) : cutK (a ++ 10 :: r) = keepPart true a ++ (2, []) :: cutK r := by
  unfold cutK
  rw [List.foldl_append, List.foldl_cons]
  have h1 : a.foldl stepK [] = keepPart true a := by
    have := cutK_plain a h
    unfold cutK at this
    rw [this]
    rfl
  rw [h1, stepK_end rfl, ← List.append_nil (_ ++ [(2, [])]), foldK_app (by rw [lastK_snoc]; rfl)]
  simp

end Go.Proofs.YtlfmeagdelmlpaaDoor
