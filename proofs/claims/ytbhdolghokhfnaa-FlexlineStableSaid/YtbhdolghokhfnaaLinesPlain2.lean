/-
  The plain law of Split, what lines are like: one behind the other, each as great as can be; a greater room needs no more of them.
-/
import Derived.Test.YtbhdolghokhfnaaLinesPlain
namespace Go.Proofs.Ytbhdolghokhfnaa

/-- A line that is told: boxes from x.1 on and ahead of x.2. -/
def LineOk (ok : Nat → Nat → Bool) (n : Nat) (x : Nat × Nat) : Prop := x.1 < x.2 ∧ x.2 ≤ n ∧ (∀ t, x.1 < t → t < x.2 → ok x.1 t = true) ∧ (x.2 < n → ok x.1 x.2 = false)

/-- One behind the other, from a on, up to b. -/
def Chain : Nat → List (Nat × Nat) → Nat → Prop
  | a, [], b => a = b
  | a, x :: rest, b => x.1 = a ∧ Chain x.2 rest b
theorem Chain.snoc : ∀ {a : Nat} {l : List (Nat × Nat)} {b c : Nat}, Chain a l b → Chain a (l ++ [(b, c)]) c
  | _, [], _, _, h => ⟨h.symm, rfl⟩
  | _, _ :: _, _, _, ⟨h, k⟩ => ⟨h, k.snoc⟩
theorem Chain.begins {a b : Nat} {l : List (Nat × Nat)} (h : Chain a l b) : ∀ i (hi : i < l.length), (l[i]).1 = if i = 0 then a else (l.getD (i - 1) (0, 0)).2 := by
  induction l generalizing a with
  | nil => intro i hi; simp at hi
  | cons x rest ih =>
    intro i hi
    obtain ⟨h1, h2⟩ := h
    cases i with
    | zero => simpa using h1
    | succ i =>
      have := ih h2 i (by simpa using hi)
      rw [List.getElem_cons_succ, this]
      cases i with
      | zero => simp
      | succ i => simp
theorem Chain.ends {a b : Nat} {l : List (Nat × Nat)} (h : Chain a l b) : b = if l.length = 0 then a else (l.getD (l.length - 1) (0, 0)).2 := by
  induction l generalizing a with
  | nil => exact h.symm
  | cons x rest ih =>
    have := ih h.2
    rw [this]
    cases rest with
    | nil => simp
    | cons y r => simp

theorem lnTo_all (ok : Nat → Nat → Bool) (n : Nat) : ∀ i, i ≤ n → Chain 0 (lnTo ok i).1 (lnTo ok i).2 ∧ (∀ x ∈ (lnTo ok i).1, LineOk ok n x ∧ x.2 < i) ∧ (∀ t, (lnTo ok i).2 < t → t < i → ok (lnTo ok i).2 t = true)
  | 0, _ => by simp [lnTo, Chain]
  | i + 1, h => by
    obtain ⟨h1, h2, h3⟩ := lnTo_all ok n i (by omega)
    rw [lnTo]
    by_cases hb : (lnTo ok i).2 < i ∧ ok (lnTo ok i).2 i = false
    · rw [if_pos (by simp [hb.1, hb.2])]
      refine ⟨h1.snoc, fun x hx => ?_, fun t ht1 ht2 => absurd ht2 (by simp at ht1 ⊢; omega)⟩
      rcases List.mem_append.1 hx with hx | hx
      · exact ⟨(h2 x hx).1, by have := (h2 x hx).2; omega⟩
      · obtain rfl : x = ((lnTo ok i).2, i) := by simpa using hx
        exact ⟨⟨hb.1, by simp; omega, fun t ht1 ht2 => h3 t ht1 ht2, fun _ => hb.2⟩, by simp⟩
    · rw [if_neg (by simp; intro hlt; have := fun e => hb ⟨hlt, e⟩; simpa using this)]
      refine ⟨h1, fun x hx => ⟨(h2 x hx).1, by have := (h2 x hx).2; omega⟩, fun t ht1 ht2 => ?_⟩
      rcases Nat.lt_or_ge t i with hti | hti
      · exact h3 t ht1 hti
      · obtain rfl : t = i := by omega
        cases ho : ok (lnTo ok t).2 t with
        | true => rfl
        | false => exact absurd ⟨ht1, ho⟩ hb

theorem linesOf_all (ok : Nat → Nat → Bool) (n : Nat) : Chain 0 (linesOf ok n) n ∧ ∀ x ∈ linesOf ok n, LineOk ok n x := by
  unfold linesOf
  by_cases hn : n = 0
  · subst hn
    simp [Chain]
  · rw [if_neg hn]
    obtain ⟨h1, h2, h3⟩ := lnTo_all ok n n (Nat.le_refl _)
    have hlt := lnTo_lt ok n (by omega)
    refine ⟨h1.snoc, fun x hx => ?_⟩
    rcases List.mem_append.1 hx with hx | hx
    · exact (h2 x hx).1
    · obtain rfl : x = ((lnTo ok n).2, n) := by simpa using hx
      exact ⟨hlt, Nat.le_refl _, fun t ht1 ht2 => h3 t ht1 ht2, fun h => absurd h (by simp)⟩

/-- With a room that lets in whatever another one lets in, and of later beginnings no less: no more lines, and each ends no earlier. -/
theorem chain_less {ok ok' : Nat → Nat → Bool} {n : Nat} (hm : ∀ a a' t, a ≤ a' → a' < t → t < n → ok a t = true → ok' a' t = true) :
    ∀ {l l' : List (Nat × Nat)} {a a' : Nat}, Chain a l n → (∀ x ∈ l, LineOk ok n x) → Chain a' l' n → (∀ x ∈ l', LineOk ok' n x) → a ≤ a' → a' ≤ n →
    l'.length ≤ l.length ∧ ∀ i (h' : i < l'.length) (h : i < l.length), (l[i]).2 ≤ (l'[i]).2 := by
  intro l
  induction l with
  | nil =>
    intro l' a a' h _ h' hx' ha hn
    obtain rfl : a = n := h
    obtain rfl : a' = a := by omega
    cases l' with
    | nil => exact ⟨Nat.le_refl _, fun i hi => absurd hi (by simp)⟩
    | cons x rest =>
      have h1 := hx' x (by simp)
      have := h'.1
      unfold LineOk at h1
      omega
  | cons x rest ih =>
    intro l' a a' h hx h' hx' ha hn
    cases l' with
    | nil => exact ⟨by simp, fun i hi => absurd hi (by simp)⟩
    | cons x' rest' =>
      have h1 := hx x (by simp)
      have h2 := hx' x' (by simp)
      have e1 := h.1
      have e2 := h'.1
      have hge : x.2 ≤ x'.2 := by
        rcases Nat.lt_or_ge x'.2 x.2 with hlt | hge
        · exfalso
          have h3 := h2.2.2.2 (by have := h1.2.1; omega)
          rcases Nat.lt_or_ge x.1 x'.2 with h5 | h5
          · have h4 := hm x.1 x'.1 x'.2 (by omega) h2.1 (by have := h1.2.1; omega) (h1.2.2.1 _ h5 hlt)
            rw [h4] at h3
            cases h3
          · have := h2.1
            omega
        · exact hge
      obtain ⟨r1, r2⟩ := ih h.2 (fun y hy => hx y (List.mem_cons_of_mem _ hy)) h'.2 (fun y hy => hx' y (List.mem_cons_of_mem _ hy)) hge h2.2.1
      refine ⟨by simp; omega, fun i hi' hi => ?_⟩
      cases i with
      | zero => simpa using hge
      | succ i => simpa using r2 i (by simpa using hi') (by simpa using hi)

theorem lines_less {ok ok' : Nat → Nat → Bool} {n : Nat} (hm : ∀ a a' t, a ≤ a' → a' < t → t < n → ok a t = true → ok' a' t = true) :
    (linesOf ok' n).length ≤ (linesOf ok n).length ∧ ∀ i (h' : i < (linesOf ok' n).length) (h : i < (linesOf ok n).length), ((linesOf ok n)[i]).2 ≤ ((linesOf ok' n)[i]).2 :=
  chain_less hm (linesOf_all ok n).1 (linesOf_all ok n).2 (linesOf_all ok' n).1 (linesOf_all ok' n).2 (Nat.le_refl _) (Nat.zero_le _)

/-- Where every box may stand in the one line there is one. -/
theorem lnTo_whole {ok : Nat → Nat → Bool} (h : ∀ a t, ok a t = true) : ∀ i, lnTo ok i = ([], 0)
  | 0 => rfl
  | i + 1 => by rw [lnTo, lnTo_whole h i, h]; simp
theorem linesOf_whole {ok : Nat → Nat → Bool} {n : Nat} (h : ∀ a t, ok a t = true) : linesOf ok n = if n = 0 then [] else [(0, n)] := by
  unfold linesOf
  rw [lnTo_whole h]
  rfl

end Go.Proofs.Ytbhdolghokhfnaa
