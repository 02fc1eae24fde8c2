/-
  The plain law of events' lines: both ways of printing and of reading tell the same.
-/
import Derived.Test.YtaoehdmdjplegaaGreatDoorEventPlain
namespace Go.Proofs.YtaoehdmdjplegaaGreatDoor

/-- What printing tells: the line, and an error's number. -/
def printS (e : Ev) : List UInt8 × Int := match wordsP e with
  | none => ([], 2)
  | some l => if canonP e = e ∧ (joinC l).length ≤ 4096 then (joinC l, 0) else ([], 2)
/-- What reading tells. -/
def parseS (line : List UInt8) : Ev × Int := if 4096 < line.length then (ev0, 320) else match readP line with
  | none => (ev0, 320)
  | some e => match wordsP e with
    | none => (ev0, 320)
    | some l => if joinC l = line then (e, 0) else (ev0, 320)
def parseR (line : List UInt8) : Ev × Int := if 4096 < line.length then (ev0, 320) else match eventR line with
  | none => (ev0, 320)
  | some e => if printS e = (line, 0) then (e, 0) else (ev0, 320)

/-! ### What is read may be held -/
theorem I64_zero : I64 0 := by unfold I64; omega
theorem wrap_ok (n : Int) : I64 (IntKind.i64.wrap n) := by
  unfold I64
  rw [IntKind.wrap_i64]
  omega
theorem toldGo_ok (sg : Int) : ∀ (l : List UInt8) (n : Int), I64 n → ∀ m, toldGo sg n l = some m → I64 m
  | [], n, h, m, e => by
    simp only [toldGo] at e
    injection e with e
    exact e ▸ h
  | c :: l, n, h, m, e => by
    rw [toldGo] at e
    split at e
    · cases e
    · exact toldGo_ok sg l _ (wrap_ok _) m e
theorem toldR_ok (w : List UInt8) : I64 (toldR w).1 := by
  have key : ∀ (b : Bool) (sg : Int) (l : List UInt8), I64 (if b = true then ((0 : Int), true) else match toldGo sg 0 l with
      | none => (0, true)
      | some n => (n, decide (Lib.itoa n ≠ w))).1 := by
    intro b sg l
    cases b
    · rw [if_neg (by decide)]
      cases h : toldGo sg 0 l with
      | none => exact I64_zero
      | some n => exact toldGo_ok _ _ _ I64_zero _ h
    · exact I64_zero
  have := key (decide ((if w.head? = some 45 then w.tail else w) = [] ∨ 20 < w.length)) (if w.head? = some 45 then -1 else 1) (if w.head? = some 45 then w.tail else w)
  simp only [decide_eq_true_eq] at this
  exact this
theorem numP_ok {w : List UInt8} {n : Int} (h : numP w = some n) : I64 n := atoi_range (numP_some h).1
theorem ok0 : sty0.Ok := ⟨rfl, rfl, rfl, by decide, by
  intro x hx
  have : x = (0, 0) := List.eq_of_mem_replicate hx
  subst this
  exact ⟨by decide, I64_zero⟩, by
  intro x hx
  have : x = 0 := List.eq_of_mem_replicate hx
  subst this
  exact I64_zero⟩
theorem mem_set {α : Type} {l : List α} {i : Nat} {a x : α} (h : x ∈ l.set i a) : x ∈ l ∨ x = a := List.mem_or_eq_of_mem_set h
theorem ok_pick {s : Sty} (h : s.Ok) (i x : Nat) (hx : x < 256) : ({ s with picks := s.picks.set i x } : Sty).Ok :=
  ⟨by simpa using h.p, h.l, h.n, fun y hy => (mem_set hy).elim (h.pk y) (fun e => e ▸ hx), h.lk, h.nk⟩
theorem ok_len {s : Sty} (h : s.Ok) (i : Nat) (x : Nat × Int) (hx : x.1 < 256 ∧ I64 x.2) : ({ s with lens := s.lens.set i x } : Sty).Ok :=
  ⟨h.p, by simpa using h.l, h.n, h.pk, fun y hy => (mem_set hy).elim (h.lk y) (fun e => e ▸ hx), h.nk⟩
theorem ok_num {s : Sty} (h : s.Ok) (i : Nat) (x : Int) (hx : I64 x) : ({ s with nums := s.nums.set i x } : Sty).Ok :=
  ⟨h.p, h.l, by simpa using h.n, h.pk, h.lk, fun y hy => (mem_set hy).elim (h.nk y) (fun e => e ▸ hx)⟩
theorem ok_flags {s : Sty} (h : s.Ok) (a b : Bool) : ({ s with whole := a, wrap := b } : Sty).Ok := ⟨h.p, h.l, h.n, h.pk, h.lk, h.nk⟩
theorem findPick_lt {w : List UInt8} : ∀ (T : List (List (List UInt8))) (i : Nat) {p : Nat × Nat}, (∀ t ∈ T, t.length ≤ 6) → findPick T i w = some p → p.2 < 256 ∧ i ≤ p.1 ∧ p.1 < i + T.length
  | [], _, _, _, h => by cases h
  | t :: T, i, p, hT, h => by
    rw [findPick] at h
    split at h
    · rename_i h2
      injection h with h
      subst h
      have := hT t (by simp)
      simp
      omega
    · have := findPick_lt T (i + 1) (fun u hu => hT u (by simp [hu])) h
      simp
      omega
theorem picks_le : ∀ t ∈ picksT, t.length ≤ 6 := by decide
theorem setP_ok {s t : Sty} {a b : List UInt8} (h : s.Ok) (e : setP s a b = some t) : t.Ok := by
  unfold setP at e
  split at e
  · cases hn : numP (partV b).1 with
    | none => rw [hn] at e; cases e
    | some n =>
      rw [hn] at e
      injection e with e
      subst e
      exact ok_len h _ _ ⟨by split <;> omega, numP_ok hn⟩
  · split at e
    · cases hn : numP b with
      | none => rw [hn] at e; cases e
      | some n =>
        rw [hn] at e
        injection e with e
        subst e
        exact ok_num h _ _ (numP_ok hn)
    · cases e
theorem setR_ok {s : Sty} (a b : List UInt8) (h : s.Ok) : (setR s a b).1.Ok := by
  unfold setR
  split
  · exact ok_len h _ _ ⟨by split <;> omega, toldR_ok _⟩
  · split
    · exact ok_num h _ _ (toldR_ok _)
    · exact h
theorem stepW_ok {s t : Sty} {w : List UInt8} (h : s.Ok) (e : stepW s w = some t) : t.Ok := by
  unfold stepW at e
  split at e
  · rename_i i x hf
    injection e with e
    subst e
    exact ok_pick h _ _ (findPick_lt _ _ picks_le hf).1
  · split at e
    · injection e with e
      subst e
      exact ok_flags h true s.wrap
    · split at e
      · injection e with e
        subst e
        exact ok_flags h s.whole true
      · split at e
        · cases e
        · exact setP_ok h e
theorem stepR_ok {s : Sty} (w : List UInt8) (h : s.Ok) : (stepR s w).1.Ok := by
  unfold stepR
  split
  · rename_i i x hf
    exact ok_pick h _ _ (findPick_lt _ _ picks_le hf).1
  · split
    · exact ok_flags h true s.wrap
    · split
      · exact ok_flags h s.whole true
      · split
        · exact h
        · exact setR_ok _ _ h
theorem stylP_ok : ∀ (ws : List (List UInt8)) {s t : Sty}, s.Ok → stylP s ws = some t → t.Ok
  | [], s, t, h, e => by
    injection e with e
    exact e ▸ h
  | w :: ws, s, t, h, e => by
    rw [stylP] at e
    split at e
    · cases e
    · rename_i s' hs
      exact stylP_ok ws (stepW_ok h hs) e
theorem stylR_ok : ∀ (n : Nat) (r : List UInt8) {s : Sty}, r.length ≤ n → s.Ok → (stylR s r).1.Ok
  | _, [], s, _, h => by rw [stylR_nil]; exact h
  | 0, c :: r, s, hn, _ => by simp at hn
  | n + 1, c :: r, s, hn, h => by
    rw [stylR_cons]
    split
    · exact stepR_ok _ h
    · refine stylR_ok n _ ?_ (stepR_ok _ h)
      have := restC_lt (s := c :: r) (by simp)
      omega
theorem stylO_ok {r : List UInt8} {s : Sty} (h : stylO r = some s) : s.Ok := by
  unfold stylO at h
  split at h
  · cases h
  · injection h with h
    exact h ▸ stylR_ok _ r (Nat.le_refl _) ok0
theorem numR_ok {r r' : List UInt8} {n : Int} (h : numR r = some (n, r')) : I64 n := by
  unfold numR at h
  split at h
  · cases h
  · injection h with h
    injection h with h
    exact h ▸ toldR_ok _
theorem numsR_ok : ∀ (k : Nat) {r r' : List UInt8} {l : List Int}, numsR k r = some (l, r') → ∀ n ∈ l, I64 n
  | 0, r, r', l, h => by
    injection h with h
    injection h with h
    subst h
    simp
  | k + 1, r, r', l, h => by
    rw [numsR] at h
    split at h
    · cases h
    · rename_i n q hn
      cases hq : numsR k q with
      | none => rw [hq] at h; cases h
      | some x =>
        rw [hq] at h
        injection h with h
        injection h with h
        subst h
        intro m hm
        rcases List.mem_cons.1 hm with rfl | hm
        · exact numR_ok hn
        · exact numsR_ok k (l := x.1) (r' := x.2) hq m hm
theorem numsP_ok : ∀ (ws : List (List UInt8)) {l : List Int}, numsP ws = some l → ∀ n ∈ l, I64 n
  | [], l, h => by
    injection h with h
    subst h
    simp
  | w :: ws, l, h => by
    rw [numsP] at h
    split at h
    · rename_i n r hn hr
      injection h with h
      subst h
      intro m hm
      rcases List.mem_cons.1 hm with rfl | hm
      · exact numP_ok hn
      · exact numsP_ok ws hr m hm
    · cases h
theorem ev0_ok : ev0.Ok := ⟨by decide, I64_zero, I64_zero, by decide, I64_zero, I64_zero, I64_zero, I64_zero, I64_zero, by decide, ok0⟩
theorem getD_ok {l : List Int} (h : ∀ n ∈ l, I64 n) (i : Nat) : I64 (l.getD i 0) := by
  rw [List.getD_eq_getElem?_getD]
  cases hi : l[i]? with
  | none => exact I64_zero
  | some n => exact h n (List.mem_of_getElem? hi)
theorem setF_ok {k c : Nat} (hk : k < 256) (hc : c < 256) {l : List Int} (h : ∀ n ∈ l, I64 n) : (setF k c l).Ok := by
  have g := getD_ok h
  have z := I64_zero
  unfold setF
  (repeat' split) <;> exact ⟨hk, by first | exact g _ | exact z, by first | exact g _ | exact z, hc, by first | exact g _ | exact z, by first | exact g _ | exact z, by first | exact g _ | exact z, z, z, (by decide : (0 : Nat) < 256), ok0⟩
theorem plain_small : ∀ t ∈ plainT, t.2.1 < 256 ∧ t.2.2.1 < 256 := by decide

theorem readP_ok {line : List UInt8} {e : Ev} (h : readP line = some e) : e.Ok := by
  have one : (1 : Nat) < 256 := by decide
  have z := ev0_ok
  unfold readP at h
  split at h
  · cases h
  · rename_i w l _
    split at h
    · split at h
      · split at h
        · rename_i p' a' hp ha
          split at h
          · obtain ⟨s, hs, rfl⟩ := Option.map_eq_some_iff.1 h
            exact ⟨one, z.client, z.n, one, z.key, numP_ok hp, numP_ok ha, z.nkey, z.ndepth, z.nkind, stylP_ok _ ok0 hs⟩
          · split at h
            · split at h
              · cases h
              · obtain ⟨s, hs, rfl⟩ := Option.map_eq_some_iff.1 h
                exact ⟨one, z.client, z.n, one, z.key, numP_ok hp, numP_ok ha, z.nkey, z.ndepth, one, ok0⟩
            · cases h
        · cases h
      · cases h
    · split at h
      · split at h
        · split at h
          · rename_i hk
            obtain ⟨s, hs, rfl⟩ := Option.map_eq_some_iff.1 h
            exact ⟨one, z.client, z.n, (by decide : (4 : Nat) < 256), numP_ok hk, z.parent, z.at_, z.nkey, z.ndepth, z.nkind, stylP_ok _ ok0 hs⟩
          · cases h
        · cases h
      · split at h
        · split at h
          · split at h
            · rename_i hk
              split at h
              · cases h
              · obtain ⟨s, hs, rfl⟩ := Option.map_eq_some_iff.1 h
                exact ⟨one, z.client, z.n, (by decide : (5 : Nat) < 256), numP_ok hk, z.parent, z.at_, z.nkey, z.ndepth, z.nkind, ok0⟩
            · cases h
          · cases h
        · split at h
          · split at h
            · split at h
              · rename_i hk
                split at h
                · cases h
                · obtain ⟨s, hs, rfl⟩ := Option.map_eq_some_iff.1 h
                  exact ⟨(by decide : (9 : Nat) < 256), numP_ok hk, z.n, z.ck, z.key, z.parent, z.at_, z.nkey, z.ndepth, z.nkind, ok0⟩
              · cases h
            · cases h
          · split at h
            · cases h
            · rename_i t ht
              split at h
              · have hm := plain_small t (List.mem_of_find?_eq_some ht)
                obtain ⟨s, hs, rfl⟩ := Option.map_eq_some_iff.1 h
                exact setF_ok hm.1 hm.2 (numsP_ok _ hs)
              · cases h
theorem eventR_ok {line : List UInt8} {e : Ev} (h : eventR line = some e) : e.Ok := by
  have one : (1 : Nat) < 256 := by decide
  have z := ev0_ok
  unfold eventR eventG at h
  split at h
  · split at h
    · rename_i p a r hn
      have hok := numsR_ok _ hn
      have hp := hok p (by simp)
      have ha := hok a (by simp)
      split at h
      · obtain ⟨s, hs, rfl⟩ := Option.map_eq_some_iff.1 h
        exact ⟨one, z.client, z.n, one, z.key, hp, ha, z.nkey, z.ndepth, z.nkind, stylO_ok hs⟩
      · split at h
        · obtain ⟨s, hs, rfl⟩ := Option.map_eq_some_iff.1 h
          exact ⟨one, z.client, z.n, one, z.key, hp, ha, z.nkey, z.ndepth, one, ok0⟩
        · cases h
    · cases h
  · split at h
    · split at h
      · rename_i k r hk
        obtain ⟨s, hs, rfl⟩ := Option.map_eq_some_iff.1 h
        exact ⟨one, z.client, z.n, (by decide : (4 : Nat) < 256), numR_ok hk, z.parent, z.at_, z.nkey, z.ndepth, z.nkind, stylO_ok hs⟩
      · cases h
    · split at h
      · split at h
        · rename_i k r hk
          obtain ⟨s, hs, rfl⟩ := Option.map_eq_some_iff.1 h
          exact ⟨one, z.client, z.n, (by decide : (5 : Nat) < 256), numR_ok hk, z.parent, z.at_, z.nkey, z.ndepth, z.nkind, ok0⟩
        · cases h
      · split at h
        · split at h
          · rename_i k r hk
            obtain ⟨s, hs, rfl⟩ := Option.map_eq_some_iff.1 h
            exact ⟨(by decide : (9 : Nat) < 256), numR_ok hk, z.n, z.ck, z.key, z.parent, z.at_, z.nkey, z.ndepth, z.nkind, ok0⟩
          · cases h
        · split at h
          · cases h
          · rename_i t ht
            have hm := plain_small t (List.mem_of_find?_eq_some ht)
            obtain ⟨x, hs, rfl⟩ := Option.map_eq_some_iff.1 h
            exact setF_ok hm.1 hm.2 (numsR_ok _ (l := x.1) (r' := x.2) hs)

/-- BOTH WAYS OF READING TELL THE SAME. -/
theorem parse_same (line : List UInt8) : parseS line = parseR line := by
  by_cases hl : 4096 < line.length
  · unfold parseS parseR
    rw [if_pos hl, if_pos hl]
  · have good : ∀ {e l}, e.Ok → wordsP e = some l → joinC l = line → canonP e = e → parseS line = (e, 0) ∧ parseR line = (e, 0) := by
      intro e l he hw hj hc
      have hb := read_back he hw
      rw [hj, hc] at hb
      unfold parseS parseR
      rw [if_neg hl, if_neg hl, hb.1, hb.2]
      have hp : printS e = (line, 0) := by
        unfold printS
        rw [hw]
        simp only [hj]
        rw [if_pos ⟨hc, by omega⟩]
      simp only [hw, if_pos hj, hp, if_true, and_self]
    by_cases h1 : ∃ e l, readP line = some e ∧ wordsP e = some l ∧ joinC l = line
    · obtain ⟨e, l, hr, hw, hj⟩ := h1
      have hb := (read_back (readP_ok hr) hw).1
      rw [hj, hr] at hb
      injection hb with hb
      obtain ⟨g1, g2⟩ := good (readP_ok hr) hw hj hb.symm
      rw [g1, g2]
    · by_cases h2 : ∃ e, eventR line = some e ∧ printS e = (line, 0)
      · obtain ⟨e, hr, hp⟩ := h2
        unfold printS at hp
        split at hp
        · cases hp
        · rename_i l hw
          split at hp
          · rename_i hc
            injection hp with hj _
            obtain ⟨g1, g2⟩ := good (eventR_ok hr) hw hj hc.1
            rw [g1, g2]
          · cases hp
      · have e1 : parseS line = (ev0, 320) := by
          unfold parseS
          rw [if_neg hl]
          split
          · rfl
          · rename_i e hr
            split
            · rfl
            · rename_i l hw
              rw [if_neg fun hj => h1 ⟨e, l, hr, hw, hj⟩]
        have e2 : parseR line = (ev0, 320) := by
          unfold parseR
          rw [if_neg hl]
          split
          · rfl
          · rename_i e hr
            rw [if_neg fun hp => h2 ⟨e, hr, hp⟩]
        rw [e1, e2]
/-- What the one prints: its words, if they are read as the event. -/
theorem printS_read {e : Ev} (h : e.Ok) {l : List (List UInt8)} (hw : wordsP e = some l) : printS e = if (joinC l).length ≤ 4096 ∧ readP (joinC l) = some e then (joinC l, 0) else ([], 2) := by
  unfold printS
  rw [hw, (read_back h hw).1]
  simp only
  by_cases hc : canonP e = e
  · rw [hc]
    by_cases hl : (joinC l).length ≤ 4096
    · rw [if_pos ⟨rfl, hl⟩, if_pos ⟨hl, rfl⟩]
    · rw [if_neg fun h => hl h.2, if_neg fun h => hl h.1]
  · rw [if_neg fun h => hc h.1, if_neg fun h => hc (by injection h.2)]

/-! ### What the other one prints -/
def wordW (i : Nat) : List UInt8 := (plainT.getD i ([], 0, 0, 0)).1
def wordsR (e : Ev) : List (List UInt8) :=
  if e.kind = 1 then
    (if e.ck = 1 then (if e.nkind = 1 then [insertB, Lib.itoa e.parent, Lib.itoa e.at_, textB, quoted e.text] else [insertB, Lib.itoa e.parent, Lib.itoa e.at_, boxB] ++ (stylW e.sty).getD [])
    else if e.ck = 2 then [wordW 0, Lib.itoa e.key]
    else if e.ck = 3 then [wordW 1, Lib.itoa e.key, Lib.itoa e.parent, Lib.itoa e.at_]
    else if e.ck = 4 then [styleB, Lib.itoa e.key] ++ (stylW e.sty).getD []
    else if e.ck = 5 then [textB, Lib.itoa e.key, quoted e.text]
    else [])
  else if e.kind = 2 then [wordW 2, Lib.itoa e.client, Lib.itoa e.n]
  else if e.kind = 3 then [wordW 3, Lib.itoa e.client]
  else if e.kind = 4 then [wordW 4]
  else if e.kind = 5 then [wordW 5, Lib.itoa e.n]
  else if e.kind = 6 then [wordW 6, Lib.itoa e.n]
  else if e.kind = 7 then [wordW 7, Lib.itoa e.n]
  else if e.kind = 8 then [wordW 8, Lib.itoa e.n, Lib.itoa e.client]
  else if e.kind = 9 then [injectB, Lib.itoa e.client, hexW e.bytes]
  else []
def onlyR (e : Ev) : Ev :=
  if e.kind = 1 then
    (if e.ck = 1 then (if e.nkind = 1 then { ev0 with kind := 1, ck := 1, parent := e.parent, at_ := e.at_, nkind := e.nkind, text := e.text } else { ev0 with kind := 1, ck := 1, parent := e.parent, at_ := e.at_, nkind := e.nkind, sty := e.sty })
    else if e.ck = 2 then { ev0 with kind := 1, ck := 2, key := e.key }
    else if e.ck = 3 then { ev0 with kind := 1, ck := 3, key := e.key, parent := e.parent, at_ := e.at_ }
    else if e.ck = 4 then { ev0 with kind := 1, ck := 4, key := e.key, sty := e.sty }
    else if e.ck = 5 then { ev0 with kind := 1, ck := 5, key := e.key, text := e.text }
    else { ev0 with kind := 1, ck := e.ck })
  else if e.kind = 2 then { ev0 with kind := 2, client := e.client, n := e.n }
  else if e.kind = 3 then { ev0 with kind := 3, client := e.client }
  else if e.kind = 4 then { ev0 with kind := 4 }
  else if e.kind = 5 then { ev0 with kind := 5, n := e.n }
  else if e.kind = 6 then { ev0 with kind := 6, n := e.n }
  else if e.kind = 7 then { ev0 with kind := 7, n := e.n }
  else if e.kind = 8 then { ev0 with kind := 8, n := e.n, client := e.client }
  else if e.kind = 9 then { ev0 with kind := 9, client := e.client, bytes := e.bytes }
  else { ev0 with kind := e.kind }
def isR (e : Ev) : Bool :=
  if e.kind = 1 then
    (if e.ck = 1 then (e.nkind == 1 || ((stylW e.sty).isSome && e.nkind == 0))
    else if e.ck = 4 then (stylW e.sty).isSome
    else (e.ck == 2 || e.ck == 3 || e.ck == 5))
  else (decide (2 ≤ e.kind) && decide (e.kind ≤ 9))
theorem nameW_zero {e : Ev} (h : e.ck ≠ 0) (hk : e.kind ≠ 1) : nameW e = none := by
  unfold nameW
  rw [List.find?_eq_none]
  intro t ht
  have key : ∀ t ∈ plainT, t.2.1 ≠ 1 → t.2.2.1 = 0 := by decide
  simp only [decide_eq_true_eq]
  rintro ⟨h1, h2⟩
  exact h (h2 ▸ key t ht (h1 ▸ hk))
theorem nameW_at {e : Ev} (i : Nat) (hi : i < 9) (h : (plainT.getD i ([], 0, 0, 0)).2.1 = e.kind ∧ (plainT.getD i ([], 0, 0, 0)).2.2.1 = e.ck) : nameW e = some (plainT.getD i ([], 0, 0, 0)) := by
  have key : ∀ i : Fin 9, (plainT.find? fun t => t.2.1 = (plainT.getD i.val ([], 0, 0, 0)).2.1 ∧ t.2.2.1 = (plainT.getD i.val ([], 0, 0, 0)).2.2.1) = some (plainT.getD i.val ([], 0, 0, 0)) := by decide
  unfold nameW
  rw [← h.1, ← h.2]
  exact key ⟨i, hi⟩
theorem nameW_none {e : Ev} (h : ∀ t ∈ plainT, ¬ (t.2.1 = e.kind ∧ t.2.2.1 = e.ck)) : nameW e = none := by
  unfold nameW
  rw [List.find?_eq_none]
  intro t ht
  simp only [decide_eq_true_eq]
  exact h t ht
theorem plain_kinds : ∀ t ∈ plainT, (2 ≤ t.2.1 ∧ t.2.1 ≤ 8 ∧ t.2.2.1 = 0) ∨ (t.2.1 = 1 ∧ (t.2.2.1 = 2 ∨ t.2.2.1 = 3)) := by decide
/-- WHAT THE OTHER ONE PRINTS IS THE SAME. -/
theorem printS_line (e : Ev) : printS e = if isR e = true ∧ onlyR e = e ∧ (joinC (wordsR e)).length ≤ 4096 then (joinC (wordsR e), 0) else ([], 2) := by
  have fin : ∀ {l : List (List UInt8)}, wordsP e = some l → isR e = true → (onlyR e = e ↔ canonP e = e) → (canonP e = e → wordsR e = l) → printS e = if isR e = true ∧ onlyR e = e ∧ (joinC (wordsR e)).length ≤ 4096 then (joinC (wordsR e), 0) else ([], 2) := by
    intro l hw hi ho hr
    unfold printS
    rw [hw]
    simp only
    by_cases hc : canonP e = e
    · rw [hr hc]
      by_cases hl : (joinC l).length ≤ 4096
      · rw [if_pos ⟨hc, hl⟩, if_pos ⟨hi, ho.2 hc, hl⟩]
      · rw [if_neg fun h => hl h.2, if_neg fun h => hl h.2.2]
    · rw [if_neg fun h => hc h.1, if_neg fun h => hc (ho.1 h.2.1)]
  have bad : wordsP e = none → ¬ (isR e = true ∧ onlyR e = e) → printS e = if isR e = true ∧ onlyR e = e ∧ (joinC (wordsR e)).length ≤ 4096 then (joinC (wordsR e), 0) else ([], 2) := by
    intro hw hn
    unfold printS
    rw [hw, if_neg fun h => hn ⟨h.1, h.2.1⟩]
  by_cases h1 : e.kind = 1
  · have n9 : ¬ e.kind = 9 := by omega
    by_cases c1 : e.ck = 1
    · by_cases k1 : e.nkind = 1
      · refine fin (l := [insertB, Lib.itoa e.parent, Lib.itoa e.at_, textB, quoted e.text]) ?_ ?_ ?_ ?_
        · unfold wordsP; rw [if_neg n9, if_pos ⟨h1, c1⟩, if_pos k1]
        · unfold isR; rw [if_pos h1, if_pos c1, k1]; rfl
        · unfold onlyR canonP; rw [if_pos h1, if_pos c1, if_pos k1, if_neg n9, if_pos ⟨h1, c1⟩, if_pos k1, k1]
        · intro _; unfold wordsR; rw [if_pos h1, if_pos c1, if_pos k1]
      · cases hs : stylW e.sty with
        | none =>
          refine bad ?_ ?_
          · unfold wordsP; rw [if_neg n9, if_pos ⟨h1, c1⟩, if_neg k1, hs]; rfl
          · rintro ⟨h, _⟩
            unfold isR at h
            rw [if_pos h1, if_pos c1, hs] at h
            simp at h
            exact k1 h
        | some ws =>
          by_cases k0 : e.nkind = 0
          · refine fin (l := [insertB, Lib.itoa e.parent, Lib.itoa e.at_, boxB] ++ ws) ?_ ?_ ?_ ?_
            · unfold wordsP; rw [if_neg n9, if_pos ⟨h1, c1⟩, if_neg k1, hs]; rfl
            · unfold isR; rw [if_pos h1, if_pos c1, hs, k0]; rfl
            · unfold onlyR canonP; rw [if_pos h1, if_pos c1, if_neg k1, if_neg n9, if_pos ⟨h1, c1⟩, if_neg k1, k0]; rfl
            · intro _; unfold wordsR; rw [if_pos h1, if_pos c1, if_neg k1, hs]; rfl
          · have hc : ¬ canonP e = e := by
              intro h
              have := congrArg Ev.nkind h
              unfold canonP at this
              rw [if_neg n9, if_pos ⟨h1, c1⟩, if_neg k1] at this
              exact k0 this.symm
            have hi : ¬ isR e = true := by
              intro h
              unfold isR at h
              rw [if_pos h1, if_pos c1, hs] at h
              simp at h
              rcases h with h | h
              · exact k1 h
              · exact k0 h
            unfold printS
            rw [if_neg fun h => hi h.1]
            split
            · rfl
            · rw [if_neg fun h => hc h.1]
    · by_cases c5 : e.ck = 5
      · refine fin (l := [textB, Lib.itoa e.key, quoted e.text]) ?_ ?_ ?_ ?_
        · unfold wordsP; rw [if_neg n9, if_neg (by omega), if_pos ⟨h1, c5⟩]
        · unfold isR; rw [if_pos h1, if_neg c1, if_neg (by omega), c5]; rfl
        · unfold onlyR canonP; rw [if_pos h1, if_neg c1, if_neg (by omega), if_neg (by omega), if_neg (by omega), if_pos c5, if_neg n9, if_neg (by omega), if_pos ⟨h1, c5⟩]
        · intro _; unfold wordsR; rw [if_pos h1, if_neg c1, if_neg (by omega), if_neg (by omega), if_neg (by omega), if_pos c5]
      · by_cases c4 : e.ck = 4
        · cases hs : stylW e.sty with
          | none =>
            refine bad ?_ ?_
            · unfold wordsP; rw [if_neg n9, if_neg (by omega), if_neg (by omega), if_pos ⟨h1, c4⟩, hs]; rfl
            · rintro ⟨h, _⟩
              unfold isR at h
              rw [if_pos h1, if_neg c1, if_pos c4, hs] at h
              cases h
          | some ws =>
            refine fin (l := [styleB, Lib.itoa e.key] ++ ws) ?_ ?_ ?_ ?_
            · unfold wordsP; rw [if_neg n9, if_neg (by omega), if_neg (by omega), if_pos ⟨h1, c4⟩, hs]; rfl
            · unfold isR; rw [if_pos h1, if_neg c1, if_pos c4, hs]; rfl
            · unfold onlyR canonP; rw [if_pos h1, if_neg c1, if_neg (by omega), if_neg (by omega), if_pos c4, if_neg n9, if_neg (by omega), if_neg (by omega), if_pos ⟨h1, c4⟩]
            · intro _; unfold wordsR; rw [if_pos h1, if_neg c1, if_neg (by omega), if_neg (by omega), if_pos c4, hs]; rfl
        · by_cases c2 : e.ck = 2
          · refine fin (l := [wordW 0, Lib.itoa e.key]) ?_ ?_ ?_ ?_
            · unfold wordsP getF; rw [if_neg n9, if_neg (by omega), if_neg (by omega), if_neg (by omega), nameW_at 0 (by omega) ⟨h1.symm, c2.symm⟩, if_pos ⟨h1, c2⟩]; rfl
            · unfold isR; rw [if_pos h1, if_neg c1, if_neg c4, c2]; rfl
            · unfold onlyR canonP getF setF; rw [if_pos h1, if_neg c1, if_pos c2, if_neg n9, if_neg (by omega), if_neg (by omega), if_neg (by omega), if_pos ⟨h1, c2⟩, if_pos ⟨h1, c2⟩, h1, c2]; rfl
            · intro _; unfold wordsR; rw [if_pos h1, if_neg c1, if_pos c2]
          · by_cases c3 : e.ck = 3
            · refine fin (l := [wordW 1, Lib.itoa e.key, Lib.itoa e.parent, Lib.itoa e.at_]) ?_ ?_ ?_ ?_
              · unfold wordsP getF; rw [if_neg n9, if_neg (by omega), if_neg (by omega), if_neg (by omega), nameW_at 1 (by omega) ⟨h1.symm, c3.symm⟩, if_neg (by omega), if_pos h1]; rfl
              · unfold isR; rw [if_pos h1, if_neg c1, if_neg c4, c3]; rfl
              · unfold onlyR canonP getF setF; rw [if_pos h1, if_neg c1, if_neg c2, if_pos c3, if_neg n9, if_neg (by omega), if_neg (by omega), if_neg (by omega), if_neg (by omega), if_pos h1, if_neg (by omega), if_pos h1, h1, c3]; rfl
              · intro _; unfold wordsR; rw [if_pos h1, if_neg c1, if_neg c2, if_pos c3]
            · refine bad ?_ ?_
              · unfold wordsP; rw [if_neg n9, if_neg (by omega), if_neg (by omega), if_neg (by omega), nameW_none fun t ht hh => by
                  rcases plain_kinds t ht with h | h <;> omega]
              · rintro ⟨h, _⟩
                unfold isR at h
                rw [if_pos h1, if_neg c1, if_neg c4] at h
                simp [c2, c3, c5] at h
  · by_cases h9 : e.kind = 9
    · refine fin (l := [injectB, Lib.itoa e.client, hexW e.bytes]) ?_ ?_ ?_ ?_
      · unfold wordsP; rw [if_pos h9]
      · unfold isR; rw [if_neg h1, h9]; rfl
      · unfold onlyR canonP; rw [if_neg h1, if_neg (by omega), if_neg (by omega), if_neg (by omega), if_neg (by omega), if_neg (by omega), if_neg (by omega), if_neg (by omega), if_pos h9, if_pos h9]
      · intro _; unfold wordsR; rw [if_neg h1, if_neg (by omega), if_neg (by omega), if_neg (by omega), if_neg (by omega), if_neg (by omega), if_neg (by omega), if_neg (by omega), if_pos h9]
    · have w4 : wordsP e = match nameW e with
          | none => none
          | some t => some (t.1 :: (getF e).map Lib.itoa) := by
        unfold wordsP
        exact (if_neg h9).trans ((if_neg (by omega)).trans ((if_neg (by omega)).trans ((if_neg (by omega)).trans (by cases nameW e <;> rfl))))
      by_cases hk : 2 ≤ e.kind ∧ e.kind ≤ 8
      · by_cases c0 : e.ck = 0
        · have hcan : canonP e = setF e.kind e.ck (getF e) := by
            unfold canonP; rw [if_neg h9, if_neg (by omega), if_neg (by omega), if_neg (by omega)]
          have hi : isR e = true := by
            unfold isR; rw [if_neg h1]; simp; omega
          have hall : e.kind = 2 ∨ e.kind = 3 ∨ e.kind = 4 ∨ e.kind = 5 ∨ e.kind = 6 ∨ e.kind = 7 ∨ e.kind = 8 := by omega
          rcases hall with h | h | h | h | h | h | h
          · exact fin (by rw [w4, nameW_at 2 (by omega) ⟨h.symm, c0.symm⟩]) hi (by rw [hcan]; unfold onlyR setF getF; simp [h, c0]; exact Iff.rfl) (fun _ => by unfold wordsR getF; simp [h]; rfl)
          · exact fin (by rw [w4, nameW_at 3 (by omega) ⟨h.symm, c0.symm⟩]) hi (by rw [hcan]; unfold onlyR setF getF; simp [h, c0]; exact Iff.rfl) (fun _ => by unfold wordsR getF; simp [h]; rfl)
          · exact fin (by rw [w4, nameW_at 4 (by omega) ⟨h.symm, c0.symm⟩]) hi (by rw [hcan]; unfold onlyR setF getF; simp [h, c0]; exact Iff.rfl) (fun _ => by unfold wordsR getF; simp [h]; rfl)
          · exact fin (by rw [w4, nameW_at 5 (by omega) ⟨h.symm, c0.symm⟩]) hi (by rw [hcan]; unfold onlyR setF getF; simp [h, c0]; exact Iff.rfl) (fun _ => by unfold wordsR getF; simp [h]; rfl)
          · exact fin (by rw [w4, nameW_at 6 (by omega) ⟨h.symm, c0.symm⟩]) hi (by rw [hcan]; unfold onlyR setF getF; simp [h, c0]; exact Iff.rfl) (fun _ => by unfold wordsR getF; simp [h]; rfl)
          · exact fin (by rw [w4, nameW_at 7 (by omega) ⟨h.symm, c0.symm⟩]) hi (by rw [hcan]; unfold onlyR setF getF; simp [h, c0]; exact Iff.rfl) (fun _ => by unfold wordsR getF; simp [h]; rfl)
          · exact fin (by rw [w4, nameW_at 8 (by omega) ⟨h.symm, c0.symm⟩]) hi (by rw [hcan]; unfold onlyR setF getF; simp [h, c0]; exact Iff.rfl) (fun _ => by unfold wordsR getF; simp [h]; rfl)
        · refine bad (by rw [w4, nameW_zero c0 h1]) ?_
          rintro ⟨_, ho⟩
          have hz : (onlyR e).ck = 0 := by
            unfold onlyR
            rw [if_neg h1]
            (repeat' split) <;> rfl
          exact c0 (by rw [← ho]; exact hz)
      · refine bad ?_ ?_
        · rw [w4, nameW_none fun t ht hh => by
            rcases plain_kinds t ht with h | h <;> omega]
        · rintro ⟨h, _⟩
          unfold isR at h
          rw [if_neg h1] at h
          simp at h
          omega

end Go.Proofs.YtaoehdmdjplegaaGreatDoor
