/-
  An event's line: written, and read back, both ways of reading.
-/
import Derived.Test.YtaoehdmdjplegaaGreatDoorStylePlain
namespace Go.Proofs.YtaoehdmdjplegaaGreatDoor

def insertB : List UInt8 := [105, 110, 115, 101, 114, 116]
def boxB : List UInt8 := [98, 111, 120]
def textB : List UInt8 := [116, 101, 120, 116]
def styleB : List UInt8 := [115, 116, 121, 108, 101]
def injectB : List UInt8 := [105, 110, 106, 101, 99, 116]
/-- The lines of which all words but the first are numbers: the kinds of the event and of the change, how many. -/
def plainT : List (List UInt8 × Nat × Nat × Nat) := [
  ([114, 101, 109, 111, 118, 101], 1, 2, 1), ([109, 111, 118, 101], 1, 3, 3), ([115, 117, 98, 115, 99, 114, 105, 98, 101], 2, 0, 2), ([108, 101, 97, 118, 101], 3, 0, 1), ([116, 105, 99, 107], 4, 0, 0),
  ([100, 101, 108, 105, 118, 101, 114], 5, 0, 1), ([100, 114, 111, 112], 6, 0, 1), ([99, 111, 112, 121], 7, 0, 1), ([99, 111, 114, 114, 117, 112, 116], 8, 0, 2)]

structure Ev where
  kind : Nat
  client : Int
  n : Int
  bytes : List UInt8
  ck : Nat
  key : Int
  parent : Int
  at_ : Int
  nkey : Int
  ndepth : Int
  nkind : Nat
  sty : Sty
  text : List UInt8
deriving DecidableEq
def ev0 : Ev := ⟨0, 0, 0, [], 0, 0, 0, 0, 0, 0, 0, sty0, []⟩
structure Ev.Ok (e : Ev) : Prop where
  kind : e.kind < 256
  client : I64 e.client
  n : I64 e.n
  ck : e.ck < 256
  key : I64 e.key
  parent : I64 e.parent
  at_ : I64 e.at_
  nkey : I64 e.nkey
  ndepth : I64 e.ndepth
  nkind : e.nkind < 256
  sty : e.sty.Ok

/-- The numbers of a plain event, in the order of its words. -/
def getF (e : Ev) : List Int :=
  if e.kind = 1 ∧ e.ck = 2 then [e.key] else if e.kind = 1 then [e.key, e.parent, e.at_] else if e.kind = 2 then [e.client, e.n] else if e.kind = 3 then [e.client] else if e.kind = 8 then [e.n, e.client] else if e.kind = 4 then [] else [e.n]
def setF (k c : Nat) (l : List Int) : Ev :=
  if k = 1 ∧ c = 2 then { ev0 with kind := k, ck := c, key := l.getD 0 0 }
  else if k = 1 then { ev0 with kind := k, ck := c, key := l.getD 0 0, parent := l.getD 1 0, at_ := l.getD 2 0 }
  else if k = 2 then { ev0 with kind := k, ck := c, client := l.getD 0 0, n := l.getD 1 0 }
  else if k = 3 then { ev0 with kind := k, ck := c, client := l.getD 0 0 }
  else if k = 8 then { ev0 with kind := k, ck := c, n := l.getD 0 0, client := l.getD 1 0 }
  else if k = 4 then { ev0 with kind := k, ck := c }
  else { ev0 with kind := k, ck := c, n := l.getD 0 0 }
/-- A plain event's row. -/
def nameW (e : Ev) : Option (List UInt8 × Nat × Nat × Nat) := plainT.find? fun t => t.2.1 = e.kind ∧ t.2.2.1 = e.ck
/-- An event's words. -/
def wordsP (e : Ev) : Option (List (List UInt8)) :=
  if e.kind = 9 then some [injectB, Lib.itoa e.client, hexW e.bytes]
  else if e.kind = 1 ∧ e.ck = 1 then (if e.nkind = 1 then some [insertB, Lib.itoa e.parent, Lib.itoa e.at_, textB, quoted e.text] else (stylW e.sty).map ([insertB, Lib.itoa e.parent, Lib.itoa e.at_, boxB] ++ ·))
  else if e.kind = 1 ∧ e.ck = 5 then some [textB, Lib.itoa e.key, quoted e.text]
  else if e.kind = 1 ∧ e.ck = 4 then (stylW e.sty).map ([styleB, Lib.itoa e.key] ++ ·)
  else match nameW e with
    | none => none
    | some t => some (t.1 :: (getF e).map Lib.itoa)
/-- What of an event its line says. -/
def canonP (e : Ev) : Ev :=
  if e.kind = 9 then { ev0 with kind := 9, client := e.client, bytes := e.bytes }
  else if e.kind = 1 ∧ e.ck = 1 then (if e.nkind = 1 then { ev0 with kind := 1, ck := 1, parent := e.parent, at_ := e.at_, nkind := 1, text := e.text } else { ev0 with kind := 1, ck := 1, parent := e.parent, at_ := e.at_, sty := e.sty })
  else if e.kind = 1 ∧ e.ck = 5 then { ev0 with kind := 1, ck := 5, key := e.key, text := e.text }
  else if e.kind = 1 ∧ e.ck = 4 then { ev0 with kind := 1, ck := 4, key := e.key, sty := e.sty }
  else setF e.kind e.ck (getF e)

/-! ### Read -/
def numsP : List (List UInt8) → Option (List Int)
  | [] => some []
  | w :: l => match numP w, numsP l with
    | some n, some r => some (n :: r)
    | _, _ => none
def readP (line : List UInt8) : Option Ev := match splitC line with
  | [] => none
  | w :: l =>
    if w = insertB then match l with
      | p :: a :: k :: r => match numP p, numP a with
        | some p, some a =>
          if k = boxB then (stylP sty0 r).map fun s => { ev0 with kind := 1, ck := 1, parent := p, at_ := a, sty := s }
          else if k = textB then (if r = [] then none else (bareP (joinC r)).map fun t => { ev0 with kind := 1, ck := 1, parent := p, at_ := a, nkind := 1, text := t })
          else none
        | _, _ => none
      | _ => none
    else if w = styleB then match l with
      | k :: r => match numP k with
        | some k => (stylP sty0 r).map fun s => { ev0 with kind := 1, ck := 4, key := k, sty := s }
        | none => none
      | [] => none
    else if w = textB then match l with
      | k :: r => match numP k with
        | some k => if r = [] then none else (bareP (joinC r)).map fun t => { ev0 with kind := 1, ck := 5, key := k, text := t }
        | none => none
      | [] => none
    else if w = injectB then match l with
      | k :: r => match numP k with
        | some k => if r = [] then none else (bytesR (joinC r)).map fun b => { ev0 with kind := 9, client := k, bytes := b }
        | none => none
      | [] => none
    else match plainT.find? (·.1 = w) with
      | none => none
      | some t => if l.length = t.2.2.2 then (numsP l).map (setF t.2.1 t.2.2.1) else none
/-- A number, and what stands behind it. -/
def numR (r : List UInt8) : Option (Int × List UInt8) := if (toldR (wordC r)).2 then none else some ((toldR (wordC r)).1, restC r)
def numsR : Nat → List UInt8 → Option (List Int × List UInt8)
  | 0, r => some ([], r)
  | k + 1, r => match numR r with
    | none => none
    | some (n, r') => (numsR k r').map fun x => (n :: x.1, x.2)
def stylO (r : List UInt8) : Option Sty := if (stylR sty0 r).2 then none else some (stylR sty0 r).1
def textO (r : List UInt8) : Option (List UInt8) := if (textR r).2 then none else some (textR r).1
def eventG (w r0 : List UInt8) : Option Ev :=
  if w = insertB then match numsR 2 (r0) with
    | some ([p, a], r) =>
      if wordC r = boxB then (stylO (restC r)).map fun s => { ev0 with kind := 1, ck := 1, parent := p, at_ := a, sty := s }
      else if wordC r = textB then (textO (restC r)).map fun t => { ev0 with kind := 1, ck := 1, parent := p, at_ := a, nkind := 1, text := t }
      else none
    | _ => none
  else if w = styleB then match numR (r0) with
    | some (k, r) => (stylO r).map fun s => { ev0 with kind := 1, ck := 4, key := k, sty := s }
    | none => none
  else if w = textB then match numR (r0) with
    | some (k, r) => (textO r).map fun t => { ev0 with kind := 1, ck := 5, key := k, text := t }
    | none => none
  else if w = injectB then match numR (r0) with
    | some (k, r) => (bytesR r).map fun b => { ev0 with kind := 9, client := k, bytes := b }
    | none => none
  else match plainT.find? (·.1 = w) with
    | none => none
    | some t => (numsR t.2.2.2 (r0)).map fun x => setF t.2.1 t.2.2.1 x.1
def eventR (s : List UInt8) : Option Ev := eventG (wordC s) (restC s)

/-! ### Back -/
theorem itoa_bl (n : Int) : ∀ c ∈ Lib.itoa n, c ≠ 32 := fun c h => (itoa_clean n c h).1
theorem hx_clean : ∀ n : Fin 16, hx n.val ≠ 32 := by decide
theorem hexs_clean : ∀ b : List UInt8, ∀ c ∈ hexs b, c ≠ 32
  | [], c, h => absurd h (by simp [hexs])
  | x :: b, c, h => by
    have hb := x.toNat_lt
    simp only [hexs, hexB, List.cons_append, List.nil_append, List.mem_cons] at h
    rcases h with rfl | rfl | h
    · exact hx_clean ⟨x.toNat / 16, by omega⟩
    · exact hx_clean ⟨x.toNat % 16, by omega⟩
    · exact hexs_clean b c h
theorem hexW_clean (b : List UInt8) : ∀ c ∈ hexW b, c ≠ 32 := by
  unfold hexW
  split
  · decide
  · exact hexs_clean b
theorem splitC_join : ∀ {ws : List (List UInt8)} (q : List UInt8), (∀ w ∈ ws, ∀ c ∈ w, c ≠ 32) → splitC (joinC (ws ++ [q])) = ws ++ splitC q
  | [], _, _ => rfl
  | w :: ws, q, h => by
    rw [List.cons_append, joinC_cons (by simp), splitC_clean (h w (by simp)), splitC_join q (fun x hx => h x (by simp [hx]))]; rfl
theorem word_cons {w : List UInt8} (hc : ∀ c ∈ w, c ≠ 32) (ws : List (List UInt8)) : wordC (joinC (w :: ws)) = w ∧ restC (joinC (w :: ws)) = joinC ws := by
  by_cases h : ws = []
  · subst h
    exact wordC_one hc
  · rw [joinC_cons h]
    exact wordC_clean hc _
theorem numR_cons {n : Int} (h : I64 n) (ws : List (List UInt8)) : numR (joinC (Lib.itoa n :: ws)) = some (n, joinC ws) := by
  unfold numR
  rw [(word_cons (itoa_bl n) ws).1, (word_cons (itoa_bl n) ws).2, toldR_itoa n h.1 h.2]; rfl
theorem numsR_cons : ∀ (l : List Int), (∀ n ∈ l, I64 n) → ∀ ws : List (List UInt8), numsR l.length (joinC (l.map Lib.itoa ++ ws)) = some (l, joinC ws)
  | [], _, _ => rfl
  | n :: l, h, ws => by
    simp only [List.length_cons, List.map_cons, List.cons_append]
    rw [numsR, numR_cons (h n (by simp))]
    simp only [numsR_cons l (fun x hx => h x (by simp [hx])) ws, Option.map_some]
theorem numsP_map : ∀ (l : List Int), (∀ n ∈ l, I64 n) → numsP (l.map Lib.itoa) = some l
  | [], _ => rfl
  | n :: l, h => by
    have h0 := h n (by simp)
    rw [List.map_cons, numsP, numP_itoa n h0.1 h0.2, numsP_map l (fun x hx => h x (by simp [hx]))]
theorem plain_clean : ∀ t ∈ plainT, ∀ c ∈ t.1, c ≠ 32 := by decide
theorem plain_find : ∀ t ∈ plainT, plainT.find? (·.1 = t.1) = some t ∧ t.1 ≠ insertB ∧ t.1 ≠ styleB ∧ t.1 ≠ textB ∧ t.1 ≠ injectB := by decide
theorem plain_len (e : Ev) {t : List UInt8 × Nat × Nat × Nat} (ht : nameW e = some t) : t ∈ plainT ∧ t.2.1 = e.kind ∧ t.2.2.1 = e.ck ∧ (getF e).length = t.2.2.2 := by
  unfold nameW at ht
  have hm := List.mem_of_find?_eq_some ht
  have hp := List.find?_some ht
  simp only [decide_eq_true_eq] at hp
  refine ⟨hm, hp.1, hp.2, ?_⟩
  have key : ∀ t ∈ plainT, (if t.2.1 = 1 ∧ t.2.2.1 = 2 then 1 else if t.2.1 = 1 then 3 else if t.2.1 = 2 then 2 else if t.2.1 = 3 then 1 else if t.2.1 = 8 then 2 else if t.2.1 = 4 then 0 else 1) = t.2.2.2 := by decide
  rw [← key t hm, hp.1, hp.2]
  unfold getF
  (repeat' split) <;> rfl
theorem getF_ok {e : Ev} (h : e.Ok) : ∀ n ∈ getF e, I64 n := by
  intro n hn
  unfold getF at hn
  (repeat' split at hn) <;> simp only [List.mem_cons, List.not_mem_nil, or_false] at hn
  · exact hn ▸ h.key
  · rcases hn with rfl | rfl | rfl
    · exact h.key
    · exact h.parent
    · exact h.at_
  · rcases hn with rfl | rfl
    · exact h.client
    · exact h.n
  · exact hn ▸ h.client
  · rcases hn with rfl | rfl
    · exact h.n
    · exact h.client
  · exact hn ▸ h.n
/-- A LINE IS READ AS THE EVENT, BY BOTH. -/
theorem read_back {e : Ev} (h : e.Ok) {l : List (List UInt8)} (hw : wordsP e = some l) : readP (joinC l) = some (canonP e) ∧ eventR (joinC l) = some (canonP e) := by
  unfold wordsP at hw
  split at hw
  · rename_i h9
    injection hw with hw
    subst hw
    constructor
    · unfold readP canonP
      rw [splitC_joinC (by simp) (by
        intro w hw
        simp only [List.mem_cons, List.not_mem_nil, or_false] at hw
        rcases hw with rfl | rfl | rfl
        · decide
        · exact itoa_bl _
        · exact hexW_clean _)]
      simp only [if_pos h9, show (injectB = insertB) = False by decide, show (injectB = styleB) = False by decide, show (injectB = textB) = False by decide, if_false, if_true, numP_itoa e.client h.client.1 h.client.2, joinC, bytesR_hexW]
      simp
    · unfold eventR
      rw [(word_cons (by decide) _).1, (word_cons (by decide) _).2]
      unfold eventG canonP
      rw [numR_cons h.client]
      simp only [if_pos h9, show (injectB = insertB) = False by decide, show (injectB = styleB) = False by decide, show (injectB = textB) = False by decide, if_false, if_true, joinC, bytesR_hexW]
      rfl
  · rename_i h9
    split at hw
    · rename_i h11
      split at hw
      · rename_i hk
        injection hw with hw
        subst hw
        constructor
        · unfold readP canonP
          rw [show [insertB, Lib.itoa e.parent, Lib.itoa e.at_, textB, quoted e.text] = [insertB, Lib.itoa e.parent, Lib.itoa e.at_, textB] ++ [quoted e.text] from rfl, splitC_join _ (by
            intro w hw
            simp only [List.mem_cons, List.not_mem_nil, or_false] at hw
            rcases hw with rfl | rfl | rfl | rfl
            · decide
            · exact itoa_bl _
            · exact itoa_bl _
            · decide)]
          simp only [List.cons_append, List.nil_append, if_neg h9, if_pos h11, if_pos hk, if_true, numP_itoa e.parent h.parent.1 h.parent.2, numP_itoa e.at_ h.at_.1 h.at_.2, show (textB = boxB) = False by decide, if_false, if_neg (splitC_ne (quoted e.text)), joinC_splitC, bareP_quoted]
          rfl
        · unfold eventR
          rw [(word_cons (by decide) _).1, (word_cons (by decide) _).2]
          unfold eventG canonP
          have := numsR_cons [e.parent, e.at_] (by simp [h.parent, h.at_]) [textB, quoted e.text]
          simp only [List.length_cons, List.length_nil, List.map_cons, List.map_nil, List.cons_append, List.nil_append] at this
          simp only [this, if_neg h9, if_pos h11, if_pos hk, if_true, (word_cons (show ∀ c ∈ textB, c ≠ 32 by decide) _).1, (word_cons (show ∀ c ∈ textB, c ≠ 32 by decide) _).2, show (textB = boxB) = False by decide, if_false]
          simp only [joinC, textO, textR_quoted]
          rfl
      · rename_i hk
        cases hs : stylW e.sty with
        | none => rw [hs] at hw; cases hw
        | some ws =>
          rw [hs] at hw
          injection hw with hw
          have hw : [insertB, Lib.itoa e.parent, Lib.itoa e.at_, boxB] ++ ws = l := hw
          subst hw
          have hcl := stylW_clean h.sty hs
          constructor
          · unfold readP canonP
            rw [splitC_joinC (by simp) (by
              intro w hw
              simp only [List.cons_append, List.nil_append, List.mem_cons] at hw
              rcases hw with rfl | rfl | rfl | rfl | hw
              · decide
              · exact itoa_bl _
              · exact itoa_bl _
              · decide
              · exact (hcl w hw).2)]
            simp only [List.cons_append, List.nil_append, if_neg h9, if_pos h11, if_neg hk, if_true, numP_itoa e.parent h.parent.1 h.parent.2, numP_itoa e.at_ h.at_.1 h.at_.2, stylP_back h.sty hs]
            rfl
          · unfold eventR
            simp only [List.cons_append, List.nil_append]
            rw [(word_cons (by decide) _).1, (word_cons (by decide) _).2]
            unfold eventG canonP
            have := numsR_cons [e.parent, e.at_] (by simp [h.parent, h.at_]) (boxB :: ws)
            simp only [List.length_cons, List.length_nil, List.map_cons, List.map_nil, List.cons_append, List.nil_append] at this
            simp only [this, if_neg h9, if_pos h11, if_neg hk, if_true, (word_cons (show ∀ c ∈ boxB, c ≠ 32 by decide) _).1, (word_cons (show ∀ c ∈ boxB, c ≠ 32 by decide) _).2, stylO, stylR_back h.sty hs]
            rfl
    · rename_i h11
      split at hw
      · rename_i h15
        injection hw with hw
        subst hw
        constructor
        · unfold readP canonP
          rw [show [textB, Lib.itoa e.key, quoted e.text] = [textB, Lib.itoa e.key] ++ [quoted e.text] from rfl, splitC_join _ (by
            intro w hw
            simp only [List.mem_cons, List.not_mem_nil, or_false] at hw
            rcases hw with rfl | rfl
            · decide
            · exact itoa_bl _)]
          simp only [List.cons_append, List.nil_append, if_neg h9, if_neg h11, if_pos h15, if_true, numP_itoa e.key h.key.1 h.key.2, show (textB = insertB) = False by decide, show (textB = styleB) = False by decide, if_false, if_neg (splitC_ne (quoted e.text)), joinC_splitC, bareP_quoted]
          rfl
        · unfold eventR
          rw [(word_cons (by decide) _).1, (word_cons (by decide) _).2]
          unfold eventG canonP
          rw [numR_cons h.key]
          simp only [if_neg h9, if_neg h11, if_pos h15, if_true, show (textB = insertB) = False by decide, show (textB = styleB) = False by decide, if_false, joinC, textO, textR_quoted]
          rfl
      · rename_i h15
        split at hw
        · rename_i h14
          cases hs : stylW e.sty with
          | none => rw [hs] at hw; cases hw
          | some ws =>
            rw [hs] at hw
            injection hw with hw
            have hw : [styleB, Lib.itoa e.key] ++ ws = l := hw
            subst hw
            have hcl := stylW_clean h.sty hs
            constructor
            · unfold readP canonP
              rw [splitC_joinC (by simp) (by
                intro w hw
                simp only [List.cons_append, List.nil_append, List.mem_cons] at hw
                rcases hw with rfl | rfl | hw
                · decide
                · exact itoa_bl _
                · exact (hcl w hw).2)]
              simp only [List.cons_append, List.nil_append, if_neg h9, if_neg h11, if_neg h15, if_pos h14, if_true, numP_itoa e.key h.key.1 h.key.2, show (styleB = insertB) = False by decide, if_false, stylP_back h.sty hs]
              rfl
            · unfold eventR
              simp only [List.cons_append, List.nil_append]
              rw [(word_cons (by decide) _).1, (word_cons (by decide) _).2]
              unfold eventG canonP
              rw [numR_cons h.key]
              simp only [if_neg h9, if_neg h11, if_neg h15, if_pos h14, if_true, show (styleB = insertB) = False by decide, if_false, stylO, stylR_back h.sty hs]
              rfl
        · rename_i h14
          split at hw
          · cases hw
          · rename_i t ht
            injection hw with hw
            subst hw
            obtain ⟨hm, hk, hc, hl⟩ := plain_len e ht
            obtain ⟨hf, n1, n2, n3, n4⟩ := plain_find t hm
            have hok := getF_ok h
            constructor
            · unfold readP canonP
              rw [splitC_joinC (by simp) (by
                intro w hw
                rcases List.mem_cons.1 hw with rfl | hw
                · exact plain_clean t hm
                · obtain ⟨n, _, rfl⟩ := List.mem_map.1 hw
                  exact itoa_bl n)]
              simp only [if_neg h9, if_neg h11, if_neg h15, if_neg h14, if_neg n1, if_neg n2, if_neg n3, if_neg n4, hf, List.length_map, if_pos hl, numsP_map _ hok, Option.map_some, hk, hc]
            · unfold eventR
              rw [(word_cons (plain_clean t hm) _).1, (word_cons (plain_clean t hm) _).2]
              unfold eventG canonP
              have := numsR_cons (getF e) hok []
              rw [List.append_nil, hl] at this
              simp only [if_neg h9, if_neg h11, if_neg h15, if_neg h14, if_neg n1, if_neg n2, if_neg n3, if_neg n4, hf, this, Option.map_some, hk, hc]

end Go.Proofs.YtaoehdmdjplegaaGreatDoor
