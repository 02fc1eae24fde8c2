/-
  The plain law of pieces of a text: lines by Split; what is shown; turns, ends, texts beside one another.
-/
import Derived.Test.YtlfmeagdelmlpaaDoorBreakPlain
namespace Go.Proofs.YtlfmeagdelmlpaaDoor

/-! Lines, by the library's Split. -/
theorem occ_one (l : List UInt8) (j : Nat) : Go.Lib.occAt l [10] j = (l[j]? == some 10) := by
  unfold Go.Lib.occAt
  by_cases h : j < l.length
  · rw [List.drop_eq_getElem_cons h]
    rw [List.getElem?_eq_getElem h]
    simp only [List.isPrefixOf, Bool.and_true]
    rw [Bool.eq_iff_iff, beq_iff_eq, beq_iff_eq]
    exact ⟨fun e => by rw [e], fun e => (Option.some.inj e).symm⟩
  · rw [List.drop_eq_nil_of_le (by omega), List.getElem?_eq_none (by omega)]
    rfl
theorem cutK_split : ∀ (n : Nat) (l : List UInt8), l.length ≤ n → keepOf (Go.Lib.split l [10]) = cutK l ∧ (Go.Lib.split l [10]) ≠ []
  | n, l, hn => by
    rcases Go.Lib.index_spec l [10] with ⟨hi, hno⟩ | ⟨i, hi, hil, hocc, hbe⟩
    · have hc : Go.Lib.count l [10] = 0 := Go.Lib.count_miss hi
      have h10 : 10 ∉ l := fun h => by
        obtain ⟨j, hj, e⟩ := List.mem_iff_getElem.1 h
        have := hno j (by omega)
        rw [occ_one] at this
        simp [hj, e] at this
      unfold Go.Lib.split
      rw [hc]
      refine ⟨?_, by simp [Go.Lib.splitK]⟩
      rw [cutK_plain l h10]
      simp [Go.Lib.splitK, keepOf, keepPart]
    · have hc := Go.Lib.count_hit (sub := [10]) (by simp) hi
      rw [occ_one] at hocc
      have hlt : i < l.length := by
        rcases Nat.lt_or_ge i l.length with h | h
        · exact h
        · rw [List.getElem?_eq_none h] at hocc; simp at hocc
      have hli : l[i] = 10 := by simpa [hlt] using hocc
      obtain ⟨m, rfl⟩ : ∃ m, n = m + 1 := ⟨n - 1, by omega⟩
      obtain ⟨ih1, ih2⟩ := cutK_split m (l.drop (i + 1)) (by simp; omega)
      have hl : l = l.take i ++ 10 :: l.drop (i + 1) := by
        rw [← hli, ← List.drop_eq_getElem_cons hlt, List.take_append_drop]
      have h10 : 10 ∉ l.take i := fun h => by
        obtain ⟨j, hj, e⟩ := List.mem_iff_getElem.1 h
        have hj' : j < i := by simp at hj; omega
        have := hbe j hj'
        rw [occ_one] at this
        simp at e
        simp [show j < l.length by omega, e] at this
      have hs : Go.Lib.split l [10] = l.take i :: Go.Lib.split (l.drop (i + 1)) [10] := by
        unfold Go.Lib.split
        rw [hc, Nat.add_comm 1]
        conv => lhs; unfold Go.Lib.splitK
        rw [hi, if_neg (by simp)]
        simp
      refine ⟨?_, by rw [hs]; simp⟩
      rw [hs]
      conv => rhs; rw [hl]
      rw [cutK_line _ _ h10, ← ih1]
      obtain ⟨a, ls, e⟩ := List.exists_cons_of_ne_nil ih2
      rw [e]
      simp [keepOf, keepPart]
termination_by n => n

/-! What is shown. -/
theorem shownR_snoc (L : List Pc) (p : Pc) : shownR (L ++ [p]) = shownR L ++ shownP p := by simp [shownR]
theorem shown_N (l : List UInt8) : shownR (cutN l) = nrm false l := by
  rw [cutN_rows, nrm_rows]
  unfold shownR
  rw [List.flatMap_map]
  congr 1
  funext x
  unfold shownP pcN txS
  split <;> simp
theorem shown_S (l : List UInt8) : shownR (cutS l) = nrm false l := by
  unfold cutS
  by_cases h : l = []
  · subst h; rfl
  · rw [if_neg h]; simp [shownR, shownP]
theorem snoc_ind {P : List UInt8 → Prop} (h0 : P []) (h1 : ∀ l c, P l → P (l ++ [c])) : ∀ l, P l := by
  intro l
  rcases List.eq_nil_or_concat l with rfl | ⟨l, c, rfl⟩
  · exact h0
  · rw [List.concat_eq_append]
    exact h1 l c (snoc_ind h0 h1 l)
termination_by l => l.length
theorem lastK_yes {L : List Pc} {k : Nat} (h : lastK L k = true) : ∃ M t, L = M ++ [(k, t)] := by
  rcases List.eq_nil_or_concat L with rfl | ⟨M, p, rfl⟩
  · cases h
  · rw [List.concat_eq_append] at h ⊢
    rw [lastK_snoc] at h
    obtain ⟨k', t⟩ := p
    have : k' = k := by simpa using h
    subst this
    exact ⟨M, t, rfl⟩
theorem shown_stepK (L : List Pc) (c : UInt8) : shownR (stepK L c) = shownR L ++ [c] := by
  by_cases hc : (c == 10) = true
  · rw [stepK_end hc, shownR_snoc]
    have : c = 10 := by simpa using hc
    simp [shownP, this]
  · have hc' : (c == 10) = false := by simpa using hc
    cases h : lastK L 0 with
    | true =>
      obtain ⟨M, t, rfl⟩ := lastK_yes h
      rw [stepK_on hc' h, addLast_snoc, shownR_snoc, shownR_snoc]
      simp [shownP]
    | false => rw [stepK_word hc' h, shownR_snoc]; simp [shownP]
theorem shown_K : ∀ l : List UInt8, shownR (cutK l) = l := snoc_ind rfl fun l c ih => by rw [cutK_snoc, shown_stepK, ih]
theorem nrm_cons (b : Bool) (c : UInt8) (l : List UInt8) : nrm b (c :: l) = if isB c then (if b then nrm true l else 32 :: nrm true l) else c :: nrm false l := rfl
theorem nrm_nrm : ∀ (l : List UInt8) (b : Bool), nrm b (nrm b l) = nrm b l
  | [], b => by cases b <;> rfl
  | c :: l, b => by
    rw [nrm_cons]
    by_cases h : isB c = true
    · rw [if_pos h]
      cases b with
      | true => exact nrm_nrm l true
      | false =>
        rw [if_neg (by decide), nrm_cons, if_pos (by decide), if_neg (by decide), nrm_nrm l true]
    · rw [if_neg h, nrm_cons, if_neg h, nrm_nrm l false]
def bareR (l : List UInt8) : List UInt8 := l.filter fun c => !isB c
theorem bare_snoc (l : List UInt8) (c : UInt8) : bareR (l ++ [c]) = bareR l ++ (if isB c then [] else [c]) := by
  unfold bareR
  rw [List.filter_append]
  cases h : isB c <;> simp [h]
theorem bare_take {l : List UInt8} {k : Nat} (h : k < l.length) : bareR (l.take (k + 1)) = bareR (l.take k) ++ (if isB l[k] then [] else [l[k]]) := by
  rw [List.take_succ_eq_append_getElem h, bare_snoc]
theorem bare_nrm : ∀ (l : List UInt8) (b : Bool), bareR (nrm b l) = bareR l
  | [], _ => rfl
  | c :: l, b => by
    rw [nrm_cons]
    cases h : isB c with
    | true =>
      cases b with
      | true => simp [bareR, h]; exact bare_nrm l true
      | false => simp [bareR, h, show isB 32 = true from rfl]; exact bare_nrm l true
    | false => simp [bareR, h]; exact bare_nrm l false
theorem nrm_ten : ∀ (l : List UInt8) (b : Bool), 10 ∉ nrm b l
  | [], _ => by simp [nrm]
  | c :: l, b => by
    have h1 := nrm_ten l true
    have h2 := nrm_ten l false
    rw [nrm_cons]
    by_cases h : isB c = true
    · rw [if_pos h]
      cases b <;> simp [h1]
    · rw [if_neg h]
      have : c ≠ 10 := fun e => h (by subst e; rfl)
      simp [h2, Ne.symm this]
def apartR : List UInt8 → Prop
  | a :: b :: l => ¬ (a = 32 ∧ b = 32) ∧ apartR (b :: l)
  | _ => True
theorem nrm_apart : ∀ (l : List UInt8) (b : Bool), apartR (nrm b l) ∧ (b = true → (nrm b l).head? ≠ some 32)
  | [], _ => ⟨trivial, by simp [nrm]⟩
  | c :: l, b => by
    obtain ⟨h1, h2⟩ := nrm_apart l true
    obtain ⟨h3, _⟩ := nrm_apart l false
    rw [nrm_cons]
    by_cases h : isB c = true
    · rw [if_pos h]
      cases b with
      | true => exact ⟨h1, h2⟩
      | false =>
        refine ⟨?_, by simp⟩
        show apartR (32 :: nrm true l)
        have h2 := h2 rfl
        cases hl : nrm true l with
        | nil => trivial
        | cons x m =>
          rw [hl] at h1 h2
          exact ⟨fun e => h2 (by simp [e.2]), h1⟩
    · rw [if_neg h]
      have hc : c ≠ 32 := fun e => h (by subst e; rfl)
      refine ⟨?_, by simp [hc]⟩
      cases hl : nrm false l with
      | nil => trivial
      | cons x m =>
        rw [hl] at h3
        exact ⟨fun e => hc e.1, h3⟩
theorem apart_at : ∀ {l : List UInt8} {i : Nat} (_ : apartR l) (hi : i + 1 < l.length), ¬ (l[i] = 32 ∧ l[i + 1] = 32)
  | [], _, _, hi => by simp at hi
  | [_], _, _, hi => by simp at hi
  | a :: b :: l, 0, h, _ => h.1
  | a :: b :: l, i + 1, h, hi => apart_at (l := b :: l) h.2 (by simpa using hi)

/-! Turns. -/
inductive Turns : List Pc → Prop
  | nil : Turns []
  | blank {L} : Turns L → lastK L 1 = false → Turns (L ++ [(1, [32])])
  | word {L t} : Turns L → lastK L 0 = false → t ≠ [] → (∀ c ∈ t, isB c = false) → Turns (L ++ [(0, t)])
theorem Turns.word_ {L : List Pc} {t : List UInt8} (h : Turns (L ++ [(0, t)])) : Turns L ∧ lastK L 0 = false ∧ t ≠ [] ∧ ∀ c ∈ t, isB c = false := by
  generalize hM : L ++ [(0, t)] = M at h
  cases h with
  | nil => simp at hM
  | blank _ _ => have := List.append_inj_right' hM rfl; simp at this
  | word h1 h2 h3 h4 =>
    have e1 := List.append_inj_left' hM rfl
    have e2 := List.append_inj_right' hM rfl
    subst e1
    simp at e2
    subst e2
    exact ⟨h1, h2, h3, h4⟩
theorem turns_cut : ∀ l : List UInt8, Turns (cutN l) := snoc_ind Turns.nil fun l c ih => by
  rw [cutN_snoc]
  cases hb : isB c with
  | true =>
    cases h : lastK (cutN l) 1 with
    | true => rw [stepN_again hb h]; exact ih
    | false => rw [stepN_blank hb h]; exact .blank ih h
  | false =>
    cases h : lastK (cutN l) 0 with
    | true =>
      rw [stepN_on hb h]
      obtain ⟨M, t, e⟩ := lastK_yes h
      rw [e] at ih ⊢
      obtain ⟨h1, h2, h3, h4⟩ := ih.word_
      rw [addLast_snoc]
      refine .word h1 h2 (by simp) fun d hd => ?_
      rcases List.mem_append.1 hd with hd | hd
      · exact h4 d hd
      · simp at hd; subst hd; exact hb
    | false => rw [stepN_word hb h]; exact .word ih h (by simp) (by simpa using hb)
/-- What the statement asks of the piece at place i. -/
theorem Turns.at {L : List Pc} (h : Turns L) : ∀ i (hi : i < L.length), ((L[i].1 = 1 ∧ L[i].2 = [32]) ∨ (L[i].1 = 0 ∧ L[i].2 ≠ [] ∧ bareR L[i].2 = L[i].2)) ∧ (∀ h0 : 0 < i, L[i - 1].1 ≠ L[i].1) := by
  have key : ∀ {L : List Pc} {p : Pc}, (∀ i (hi : i < L.length), ((L[i].1 = 1 ∧ L[i].2 = [32]) ∨ (L[i].1 = 0 ∧ L[i].2 ≠ [] ∧ bareR L[i].2 = L[i].2)) ∧ (∀ h0 : 0 < i, L[i - 1].1 ≠ L[i].1)) →
      ((p.1 = 1 ∧ p.2 = [32]) ∨ (p.1 = 0 ∧ p.2 ≠ [] ∧ bareR p.2 = p.2)) → lastK L p.1 = false →
      ∀ i (hi : i < (L ++ [p]).length), (((L ++ [p])[i].1 = 1 ∧ (L ++ [p])[i].2 = [32]) ∨ ((L ++ [p])[i].1 = 0 ∧ (L ++ [p])[i].2 ≠ [] ∧ bareR (L ++ [p])[i].2 = (L ++ [p])[i].2)) ∧ (∀ h0 : 0 < i, (L ++ [p])[i - 1].1 ≠ (L ++ [p])[i].1) := by
    intro L p ih hp hl i hi
    rcases Nat.lt_or_ge i L.length with hlt | hge
    · rw [List.getElem_append_left hlt]
      refine ⟨(ih i hlt).1, fun h0 => ?_⟩
      rw [List.getElem_append_left (show i - 1 < L.length by omega)]
      exact (ih i hlt).2 h0
    · obtain rfl : i = L.length := by simp at hi; omega
      refine ⟨by simpa using hp, fun h0 => ?_⟩
      rw [List.getElem_append_left (show L.length - 1 < L.length by omega)]
      rcases List.eq_nil_or_concat L with rfl | ⟨M, q, rfl⟩
      · simp at h0
      · rw [List.concat_eq_append] at hl
        rw [lastK_snoc] at hl
        simpa using hl
  induction h with
  | nil => intro i hi; simp at hi
  | blank _ h2 ih => exact key ih (.inl ⟨rfl, rfl⟩) h2
  | word _ h2 h3 h4 ih =>
    refine key ih (.inr ⟨rfl, h3, ?_⟩) h2
    unfold bareR
    exact List.filter_eq_self.2 fun c hc => by simp [h4 c hc]
theorem stepN_ne (L : List Pc) (c : UInt8) : stepN L c ≠ [] := by
  unfold stepN
  split
  · split
    · rename_i h
      obtain ⟨M, t, rfl⟩ := lastK_yes h
      simp
    · simp
  · split
    · rename_i h
      obtain ⟨M, t, rfl⟩ := lastK_yes h
      rw [addLast_snoc]
      simp
    · simp
theorem cutN_nil {l : List UInt8} : cutN l = [] ↔ l = [] := by
  constructor
  · intro h
    rcases List.eq_nil_or_concat l with rfl | ⟨m, c, rfl⟩
    · rfl
    · rw [List.concat_eq_append, cutN_snoc] at h
      exact absurd h (stepN_ne _ _)
  · rintro rfl; rfl

/-! Ends. -/
inductive Ends : List Pc → Prop
  | nil : Ends []
  | hard {L} : Ends L → Ends (L ++ [(2, [])])
  | word {L t} : Ends L → lastK L 0 = false → t ≠ [] → 10 ∉ t → Ends (L ++ [(0, t)])
theorem Ends.word_ {L : List Pc} {t : List UInt8} (h : Ends (L ++ [(0, t)])) : Ends L ∧ lastK L 0 = false ∧ t ≠ [] ∧ 10 ∉ t := by
  generalize hM : L ++ [(0, t)] = M at h
  cases h with
  | nil => simp at hM
  | hard _ => have := List.append_inj_right' hM rfl; simp at this
  | word h1 h2 h3 h4 =>
    have e1 := List.append_inj_left' hM rfl
    have e2 := List.append_inj_right' hM rfl
    subst e1
    simp at e2
    subst e2
    exact ⟨h1, h2, h3, h4⟩
theorem ends_cut : ∀ l : List UInt8, Ends (cutK l) := snoc_ind Ends.nil fun l c ih => by
  rw [cutK_snoc]
  by_cases hc : (c == 10) = true
  · rw [stepK_end hc]; exact .hard ih
  · have hc' : (c == 10) = false := by simpa using hc
    have hne : c ≠ 10 := by simpa using hc
    cases h : lastK (cutK l) 0 with
    | true =>
      rw [stepK_on hc' h]
      obtain ⟨M, t, e⟩ := lastK_yes h
      rw [e] at ih ⊢
      obtain ⟨h1, h2, h3, h4⟩ := ih.word_
      rw [addLast_snoc]
      exact .word h1 h2 (by simp) (by simp [h4, Ne.symm hne])
    | false => rw [stepK_word hc' h]; exact .word ih h (by simp) (by simp [Ne.symm hne])
theorem Ends.at {L : List Pc} (h : Ends L) : ∀ i (hi : i < L.length), (L[i].1 = 2 ∧ L[i].2 = []) ∨ (L[i].1 = 0 ∧ L[i].2 ≠ [] ∧ 10 ∉ L[i].2 ∧ (∀ h0 : 0 < i, L[i - 1].1 ≠ 0)) := by
  have key : ∀ {L : List Pc} {p : Pc}, (∀ i (hi : i < L.length), (L[i].1 = 2 ∧ L[i].2 = []) ∨ (L[i].1 = 0 ∧ L[i].2 ≠ [] ∧ 10 ∉ L[i].2 ∧ (∀ h0 : 0 < i, L[i - 1].1 ≠ 0))) →
      ((p.1 = 2 ∧ p.2 = []) ∨ (p.1 = 0 ∧ p.2 ≠ [] ∧ 10 ∉ p.2 ∧ lastK L 0 = false)) →
      ∀ i (hi : i < (L ++ [p]).length), ((L ++ [p])[i].1 = 2 ∧ (L ++ [p])[i].2 = []) ∨ ((L ++ [p])[i].1 = 0 ∧ (L ++ [p])[i].2 ≠ [] ∧ 10 ∉ (L ++ [p])[i].2 ∧ (∀ h0 : 0 < i, (L ++ [p])[i - 1].1 ≠ 0)) := by
    intro L p ih hp i hi
    rcases Nat.lt_or_ge i L.length with hlt | hge
    · rw [List.getElem_append_left hlt]
      rcases ih i hlt with h | ⟨h1, h2, h3, h4⟩
      · exact .inl h
      · refine .inr ⟨h1, h2, h3, fun h0 => ?_⟩
        rw [List.getElem_append_left (show i - 1 < L.length by omega)]
        exact h4 h0
    · obtain rfl : i = L.length := by simp at hi; omega
      rcases hp with h | ⟨h1, h2, h3, h4⟩
      · exact .inl (by simpa using h)
      · refine .inr ⟨by simpa using h1, by simpa using h2, by simpa using h3, fun h0 => ?_⟩
        rw [List.getElem_append_left (show L.length - 1 < L.length by omega)]
        rcases List.eq_nil_or_concat L with rfl | ⟨M, q, rfl⟩
        · simp at h0
        · rw [List.concat_eq_append] at h4
          rw [lastK_snoc] at h4
          simpa using h4
  induction h with
  | nil => intro i hi; simp at hi
  | hard _ ih => exact key ih (.inl ⟨rfl, rfl⟩)
  | word _ h2 h3 h4 ih => exact key ih (.inr ⟨rfl, h3, h4, h2⟩)
def hards (L : List Pc) : Nat := L.countP fun p => p.1 == 2
def sumL (L : List Pc) : Nat := (L.map fun p => p.2.length).sum
def tens (l : List UInt8) : Nat := l.countP fun c => c == 10
theorem hards_snoc (L : List Pc) (p : Pc) : hards (L ++ [p]) = hards L + if p.1 = 2 then 1 else 0 := by
  unfold hards
  rw [List.countP_append]
  simp [List.countP_cons]
theorem sumL_snoc (L : List Pc) (p : Pc) : sumL (L ++ [p]) = sumL L + p.2.length := by simp [sumL]
theorem tens_snoc (l : List UInt8) (c : UInt8) : tens (l ++ [c]) = tens l + if c = 10 then 1 else 0 := by
  unfold tens
  rw [List.countP_append]
  simp [List.countP_cons]
theorem hards_take {L : List Pc} {k : Nat} (h : k < L.length) : hards (L.take (k + 1)) = hards (L.take k) + if L[k].1 = 2 then 1 else 0 := by rw [List.take_succ_eq_append_getElem h, hards_snoc]
theorem sumL_take {L : List Pc} {k : Nat} (h : k < L.length) : sumL (L.take (k + 1)) = sumL (L.take k) + L[k].2.length := by rw [List.take_succ_eq_append_getElem h, sumL_snoc]
theorem tens_take {l : List UInt8} {k : Nat} (h : k < l.length) : tens (l.take (k + 1)) = tens (l.take k) + if l[k] = 10 then 1 else 0 := by rw [List.take_succ_eq_append_getElem h, tens_snoc]
theorem hards_cut : ∀ l : List UInt8, hards (cutK l) = tens l ∧ sumL (cutK l) + tens l = l.length ∧ (cutK l).length ≤ l.length := snoc_ind ⟨rfl, rfl, Nat.le_refl _⟩ fun l c ih => by
  obtain ⟨i1, i2, i3⟩ := ih
  rw [cutK_snoc, tens_snoc]
  by_cases hc : (c == 10) = true
  · rw [stepK_end hc, hards_snoc, sumL_snoc, if_pos (show c = 10 by simpa using hc)]
    simp
    omega
  · have hc' : (c == 10) = false := by simpa using hc
    rw [if_neg (show ¬ c = 10 by simpa using hc)]
    cases h : lastK (cutK l) 0 with
    | true =>
      rw [stepK_on hc' h]
      obtain ⟨M, t, e⟩ := lastK_yes h
      rw [e] at i1 i2 i3 ⊢
      rw [addLast_snoc, hards_snoc, sumL_snoc]
      rw [hards_snoc] at i1
      rw [sumL_snoc] at i2
      simp at *
      omega
    | false =>
      rw [stepK_word hc' h, hards_snoc, sumL_snoc]
      simp
      omega
theorem hards_le (L : List Pc) : hards L ≤ L.length := List.countP_le_length
theorem tens_le (l : List UInt8) : tens l ≤ l.length := List.countP_le_length
theorem sumL_le {L : List Pc} (k : Nat) : sumL (L.take k) ≤ sumL L := by
  conv => rhs; rw [← List.take_append_drop k L]
  unfold sumL
  rw [List.map_append, List.sum_append]
  omega

/-! Bounds. -/
theorem cutN_bd : ∀ l : List UInt8, sumL (cutN l) ≤ l.length ∧ (cutN l).length ≤ l.length := snoc_ind ⟨Nat.le_refl _, Nat.le_refl _⟩ fun l c ih => by
  obtain ⟨i2, i3⟩ := ih
  rw [cutN_snoc]
  cases hb : isB c with
  | true =>
    cases h : lastK (cutN l) 1 with
    | true => rw [stepN_again hb h]; simp; omega
    | false => rw [stepN_blank hb h, sumL_snoc]; simp; omega
  | false =>
    cases h : lastK (cutN l) 0 with
    | true =>
      rw [stepN_on hb h]
      obtain ⟨M, t, e⟩ := lastK_yes h
      rw [e] at i2 i3 ⊢
      rw [addLast_snoc, sumL_snoc]
      rw [sumL_snoc] at i2
      simp at *
      omega
    | false => rw [stepN_word hb h, sumL_snoc]; simp; omega
theorem nrm_len (l : List UInt8) : ∀ b, (nrm b l).length ≤ l.length := by
  induction l with
  | nil => intro b; exact Nat.le_refl _
  | cons c l ih =>
    intro b
    have h1 := ih true
    have h2 := ih false
    unfold nrm
    split
    · split <;> simp <;> omega
    · simp; omega
theorem cutR_bd (ws : Int) (l : List UInt8) : sumL (cutR ws l) ≤ l.length ∧ (cutR ws l).length ≤ l.length := by
  unfold cutR
  split
  · exact cutN_bd l
  · split
    · unfold cutS
      split
      · exact ⟨Nat.zero_le _, Nat.zero_le _⟩
      · rename_i h
        have := nrm_len l false
        have : 0 < l.length := List.length_pos_iff.2 h
        simp [sumL]
        omega
    · split
      · have := hards_cut l
        omega
      · exact ⟨Nat.zero_le _, Nat.zero_le _⟩
theorem text_le {L : List Pc} {k : Nat} (h : k < L.length) : L[k].2.length ≤ sumL L := by
  have h1 := sumL_take h
  have h2 := sumL_le (L := L) (k + 1)
  omega
theorem shown_len (L : List Pc) : (shownR L).length ≤ sumL L + L.length := by
  induction L with
  | nil => exact Nat.le_refl _
  | cons p L ih =>
    have : (shownP p).length ≤ 1 + p.2.length := by
      unfold shownP
      split <;> simp <;> omega
    simp [shownR, sumL] at *
    omega

/-! Two texts beside one another. -/
theorem foldN_app {L : List Pc} : ∀ (l : List UInt8) (M : List Pc), M ≠ [] → l.foldl stepN (L ++ M) = L ++ l.foldl stepN M
  | [], _, _ => rfl
  | c :: l, M, h => by
    have e : stepN (L ++ M) c = L ++ stepN M c := by
      rcases List.eq_nil_or_concat M with rfl | ⟨M', p, rfl⟩
      · exact absurd rfl h
      · unfold stepN
        rw [List.concat_eq_append, ← List.append_assoc, lastK_snoc, lastK_snoc, lastK_snoc, lastK_snoc, addLast_snoc, addLast_snoc]
        split
        · split <;> simp
        · split <;> simp
    rw [List.foldl_cons, List.foldl_cons, e, foldN_app l _ (stepN_ne _ _)]
theorem besideN (s t : List UInt8) : cutN (s ++ [97] ++ (32 :: t)) = cutN (s ++ [97]) ++ cutN (32 :: t) := by
  have hl : lastK (cutN (s ++ [97])) 1 = false := by
    rw [cutN_snoc]
    cases h : lastK (cutN s) 0 with
    | true =>
      obtain ⟨M, t, e⟩ := lastK_yes h
      rw [stepN_on rfl h, e, addLast_snoc, lastK_snoc]
      rfl
    | false => rw [stepN_word rfl h, lastK_snoc]; rfl
  show List.foldl stepN [] _ = _
  rw [List.foldl_append, List.foldl_cons]
  show List.foldl stepN (stepN (cutN (s ++ [97])) 32) t = _
  rw [stepN_blank rfl hl, foldN_app t _ (by simp)]
  rfl
theorem besideK (s t : List UInt8) : cutK (s ++ [97] ++ (10 :: t)) = cutK (s ++ [97]) ++ cutK (10 :: t) := by
  show List.foldl stepK [] _ = _
  rw [List.foldl_append, List.foldl_cons]
  show List.foldl stepK (stepK (cutK (s ++ [97])) 10) t = _
  rw [stepK_end rfl, ← List.append_nil (_ ++ [(2, [])]), foldK_app (by rw [lastK_snoc]; rfl), List.append_assoc]
  congr 1
  show _ = List.foldl stepK (stepK [] 10) t
  rw [stepK_end rfl, ← List.append_nil ([] ++ [(2, [])]), foldK_app (by rfl)]
  rfl

end Go.Proofs.YtlfmeagdelmlpaaDoor
