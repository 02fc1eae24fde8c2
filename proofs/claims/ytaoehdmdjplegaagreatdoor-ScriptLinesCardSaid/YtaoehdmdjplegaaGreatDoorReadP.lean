/-
  strings.Split at a blank: the words of a line.
-/
import Derived.Lib.SplitLaws
import Derived.Test.YtaoehdmdjplegaaGreatDoorQuotePlain
import Derived.Test.YtaoehdmdjplegaaGreatDoorEventPlain
import Derived.Recover
import Derived.Test.YtaoehdmdjplegaaGreatDoorEvC
import Derived.Test.YtaoehdmdjplegaaGreatDoorWrdsP
import Derived.Test.YtaoehdmdjplegaaGreatDoorBareP
import Derived.Test.YtaoehdmdjplegaaGreatDoorReadBehind
namespace Go.Proofs.YtaoehdmdjplegaaGreatDoor

theorem splitK_C : ∀ s : List UInt8, Lib.splitK [32] 0 (Lib.count s [32]) s = splitC s
  | [] => by rw [Lib.count_miss (by rfl)]; rfl
  | c :: r => by
    have ih := splitK_C r
    by_cases h : c = 32
    · subst h
      rw [Lib.count_cons_eq, Nat.add_comm, Lib.splitK]
      have hix : Lib.index (32 :: r) [32] = 0 := by rw [Lib.index]; simp [List.isPrefixOf]
      rw [hix, splitC, if_pos rfl, ← ih]
      rfl
    · rw [Lib.count_cons_ne c 32 r h, splitC, if_neg h, ← ih]
      have hp : ([32] : List UInt8).isPrefixOf (c :: r) = false := by simp [List.isPrefixOf, Ne.symm h]
      have hix : Lib.index (c :: r) [32] = if Lib.index r [32] == -1 then -1 else Lib.index r [32] + 1 := by rw [Lib.index, hp]; simp
      by_cases hm : Lib.index r [32] = -1
      · rw [Lib.count_miss hm]; rfl
      · have hge := Lib.index_ge r [32]
        obtain ⟨j, hj⟩ : ∃ j : Nat, Lib.index r [32] = j := ⟨(Lib.index r [32]).toNat, by omega⟩
        rw [Lib.count_hit (by simp) hj, Nat.add_comm]
        have n1 : ((j : Int) == -1) = false := by rw [beq_eq_false_iff_ne]; omega
        have n2 : (((j : Int) + 1) == -1) = false := by rw [beq_eq_false_iff_ne]; omega
        have e2 : ((j : Int) + 1).toNat = j + 1 := by omega
        rw [Lib.splitK, Lib.splitK, hix, hj, n1]
        simp [n2, e2]

end Go.Proofs.YtaoehdmdjplegaaGreatDoor
namespace Go.Proofs.YtaoehdmdjplegaaGreatDoor

/-- A line's words, read. -/
def readL (w : List UInt8) (l : List (List UInt8)) : Option Ev :=
  if w = insertB then match l with
    | p :: a :: k :: r => match numP p, numP a with
      | some p, some a =>
        if k = boxB then (stylP sty0 r).map fun s => { ev0 with kind := 1, ck := 1, parent := p, at_ := a, sty := s }
        else if k = textB then (if r = [] then none else (bareP (joinC r)).map fun t => { ev0 with kind := 1, ck := 1, parent := p, at_ := a, nkind := 1, text := t })
        else none
      | _, _ => none
    | _ => none
  else if w = styleB then match l with
    | k :: r => match numP k with
      | some k => (stylP sty0 r).map fun s => { ev0 with kind := 1, ck := 4, key := k, sty := s }
      | none => none
    | [] => none
  else if w = textB then match l with
    | k :: r => match numP k with
      | some k => if r = [] then none else (bareP (joinC r)).map fun t => { ev0 with kind := 1, ck := 5, key := k, text := t }
      | none => none
    | [] => none
  else if w = injectB then match l with
    | k :: r => match numP k with
      | some k => if r = [] then none else (bytesR (joinC r)).map fun b => { ev0 with kind := 9, client := k, bytes := b }
      | none => none
    | [] => none
  else match plainT.find? (·.1 = w) with
    | none => none
    | some t => if l.length = t.2.2.2 then (numsP l).map (setF t.2.1 t.2.2.1) else none
def readW : List (List UInt8) → Option Ev
  | [] => none
  | w :: l => readL w l
theorem readP_W (s : List UInt8) : readP s = readW (splitC s) := by
  unfold readP
  cases splitC s with
  | nil => rfl
  | cons w l => rfl
def numAt (ws : List (List UInt8)) (i : Nat) : Option Int := ws[i]?.bind numP
theorem joinC_suf : ∀ (ws : List (List UInt8)) (n : Nat), (joinC (ws.drop n)).length ≤ (joinC ws).length
  | [], n => by simp
  | w :: ws, 0 => by simp
  | [w], n + 1 => by simp [joinC]
  | w :: v :: ws, n + 1 => by
    have := joinC_suf (v :: ws) n
    rw [List.drop_succ_cons, joinC]
    simp only [List.length_append, List.length_cons]
    omega
theorem joinC_mem : ∀ (ws : List (List UInt8)) {x : List UInt8}, x ∈ ws → x.length ≤ (joinC ws).length
  | [], _, h => by cases h
  | [w], x, h => by rw [List.mem_singleton.1 h]; exact Nat.le_refl _
  | w :: v :: ws, x, h => by
    rw [joinC]
    simp only [List.length_append, List.length_cons]
    rcases List.mem_cons.1 h with rfl | h
    · omega
    · have := joinC_mem (v :: ws) h
      omega
theorem joinC_count : ∀ (ws : List (List UInt8)), ws.length ≤ (joinC ws).length + 1
  | [] => by simp
  | [w] => by simp
  | w :: v :: ws => by
    have := joinC_count (v :: ws)
    rw [joinC]
    simp only [List.length_append, List.length_cons] at this ⊢
    omega
section
variable {k0 : List UInt8} {l : List (List UInt8)}
theorem ins_no1 (h : k0 = insertB) (h1 : numAt (k0 :: l) 1 = none) : readW (k0 :: l) = none := by
  subst h
  show readL _ l = _
  unfold readL
  rw [if_pos rfl]
  match l, h1 with
  | [], _ => rfl
  | [p], _ => rfl
  | [p, a], _ => rfl
  | p :: a :: k :: r, h1 =>
    have h1 : numP p = none := h1
    simp only [h1]
theorem ins_no2 (h : k0 = insertB) (h1 : numAt (k0 :: l) 2 = none) : readW (k0 :: l) = none := by
  subst h
  show readL _ l = _
  unfold readL
  rw [if_pos rfl]
  match l, h1 with
  | [], _ => rfl
  | [p], _ => rfl
  | [p, a], _ => rfl
  | p :: a :: k :: r, h1 =>
    have h1 : numP a = none := h1
    simp only [h1]
    cases numP p <;> rfl
theorem ins_no3 (h : k0 = insertB) (h1 : l.length ≤ 2) : readW (k0 :: l) = none := by
  subst h
  show readL _ l = _
  unfold readL
  rw [if_pos rfl]
  match l, h1 with
  | [], _ => rfl
  | [p], _ => rfl
  | [p, a], _ => rfl
  | p :: a :: k :: r, h1 => simp at h1
theorem ins_box (h : k0 = insertB) {p a : Int} (h1 : numAt (k0 :: l) 1 = some p) (h2 : numAt (k0 :: l) 2 = some a) (h3 : l[2]? = some boxB) :
    readW (k0 :: l) = (stylP sty0 ((k0 :: l).drop 4)).map fun s => { ev0 with kind := 1, ck := 1, parent := p, at_ := a, sty := s } := by
  subst h
  show readL _ l = _
  unfold readL
  rw [if_pos rfl]
  match l, h1, h2, h3 with
  | [], _, _, h3 => cases h3
  | [p], _, _, h3 => cases h3
  | [p, a], _, _, h3 => cases h3
  | p :: a :: k :: r, h1, h2, h3 =>
    have h1 : numP p = _ := h1
    have h2 : numP a = _ := h2
    have h3 : k = boxB := by injection h3
    simp only [h1, h2, h3, if_true]
    rfl
theorem ins_text (h : k0 = insertB) {p a : Int} (h1 : numAt (k0 :: l) 1 = some p) (h2 : numAt (k0 :: l) 2 = some a) (h3 : l[2]? = some textB) :
    readW (k0 :: l) = if l.length ≤ 3 then none else (bareP (joinC ((k0 :: l).drop 4))).map fun t => { ev0 with kind := 1, ck := 1, parent := p, at_ := a, nkind := 1, text := t } := by
  subst h
  show readL _ l = _
  unfold readL
  rw [if_pos rfl]
  match l, h1, h2, h3 with
  | [], _, _, h3 => cases h3
  | [p], _, _, h3 => cases h3
  | [p, a], _, _, h3 => cases h3
  | p :: a :: k :: r, h1, h2, h3 =>
    have h1 : numP p = _ := h1
    have h2 : numP a = _ := h2
    have h3 : k = textB := by injection h3
    simp only [h1, h2, h3, show (textB = boxB) = False by decide, if_true, if_false]
    cases r <;> simp
theorem ins_else (h : k0 = insertB) {k : List UInt8} (h3 : l[2]? = some k) (n1 : k ≠ boxB) (n2 : k ≠ textB) : readW (k0 :: l) = none := by
  subst h
  show readL _ l = _
  unfold readL
  rw [if_pos rfl]
  match l, h3 with
  | [], h3 => cases h3
  | [p], h3 => cases h3
  | [p, a], h3 => cases h3
  | p :: a :: k' :: r, h3 =>
    have h3 : k' = k := by injection h3
    subst h3
    simp only [if_neg n1, if_neg n2]
    cases numP p <;> cases numP a <;> rfl
theorem sty_no (h : k0 = styleB) (h1 : numAt (k0 :: l) 1 = none) : readW (k0 :: l) = none := by
  subst h
  show readL _ l = _
  unfold readL
  rw [if_neg (show ¬ styleB = insertB by decide), if_pos (show styleB = styleB from rfl)]
  match l, h1 with
  | [], _ => rfl
  | k :: r, h1 =>
    have h1 : numP k = none := h1
    simp only [h1]
theorem sty_yes (h : k0 = styleB) {k : Int} (h1 : numAt (k0 :: l) 1 = some k) :
    readW (k0 :: l) = (stylP sty0 ((k0 :: l).drop 2)).map fun s => { ev0 with kind := 1, ck := 4, key := k, sty := s } := by
  subst h
  show readL _ l = _
  unfold readL
  rw [if_neg (show ¬ styleB = insertB by decide), if_pos (show styleB = styleB from rfl)]
  match l, h1 with
  | [], h1 => cases h1
  | k :: r, h1 =>
    have h1 : numP k = _ := h1
    simp only [h1]
    rfl
theorem txt_no (h : k0 = textB) (h1 : numAt (k0 :: l) 1 = none) : readW (k0 :: l) = none := by
  subst h
  show readL _ l = _
  unfold readL
  rw [if_neg (show ¬ textB = insertB by decide), if_neg (show ¬ textB = styleB by decide), if_pos (show textB = textB from rfl)]
  match l, h1 with
  | [], _ => rfl
  | k :: r, h1 =>
    have h1 : numP k = none := h1
    simp only [h1]
theorem txt_yes (h : k0 = textB) {k : Int} (h1 : numAt (k0 :: l) 1 = some k) :
    readW (k0 :: l) = if l.length ≤ 1 then none else (bareP (joinC ((k0 :: l).drop 2))).map fun t => { ev0 with kind := 1, ck := 5, key := k, text := t } := by
  subst h
  show readL _ l = _
  unfold readL
  rw [if_neg (show ¬ textB = insertB by decide), if_neg (show ¬ textB = styleB by decide), if_pos (show textB = textB from rfl)]
  match l, h1 with
  | [], h1 => cases h1
  | k :: r, h1 =>
    have h1 : numP k = _ := h1
    simp only [h1]
    cases r <;> simp
theorem inj_no (h : k0 = injectB) (h1 : numAt (k0 :: l) 1 = none) : readW (k0 :: l) = none := by
  subst h
  show readL _ l = _
  unfold readL
  rw [if_neg (show ¬ injectB = insertB by decide), if_neg (show ¬ injectB = styleB by decide), if_neg (show ¬ injectB = textB by decide), if_pos (show injectB = injectB from rfl)]
  match l, h1 with
  | [], _ => rfl
  | k :: r, h1 =>
    have h1 : numP k = none := h1
    simp only [h1]
theorem inj_yes (h : k0 = injectB) {k : Int} (h1 : numAt (k0 :: l) 1 = some k) :
    readW (k0 :: l) = if l.length ≤ 1 then none else (bytesR (joinC ((k0 :: l).drop 2))).map fun b => { ev0 with kind := 9, client := k, bytes := b } := by
  subst h
  show readL _ l = _
  unfold readL
  rw [if_neg (show ¬ injectB = insertB by decide), if_neg (show ¬ injectB = styleB by decide), if_neg (show ¬ injectB = textB by decide), if_pos (show injectB = injectB from rfl)]
  match l, h1 with
  | [], h1 => cases h1
  | k :: r, h1 =>
    have h1 : numP k = _ := h1
    simp only [h1]
    cases r <;> simp
theorem pln (h1 : k0 ≠ insertB) (h2 : k0 ≠ styleB) (h3 : k0 ≠ textB) (h4 : k0 ≠ injectB) : readW (k0 :: l) = match plainT.find? (·.1 = k0) with
    | none => none
    | some t => if l.length = t.2.2.2 then (numsP l).map (setF t.2.1 t.2.2.1) else none := by
  show readL _ l = _
  unfold readL
  rw [if_neg h1, if_neg h2, if_neg h3, if_neg h4]
end

end Go.Proofs.YtaoehdmdjplegaaGreatDoor
namespace Go.Proofs.YtaoehdmdjplegaaGreatDoor

theorem bareGo_len : ∀ (n : Nat) (l : List UInt8), l.length ≤ n → ∀ x, bareGo l = some x → x.length ≤ l.length
  | _, [], _, x, h => by
    rw [bareGo] at h
    injection h with h
    subst h; simp
  | 0, c :: l, h, _, _ => by simp at h
  | n + 1, c :: r, hn, x, h => by
    have ih := fun (l : List UInt8) (hl : l.length ≤ r.length) y hy => bareGo_len n l (by simp at hn; omega) y hy
    have put : ∀ (l : List UInt8) (d : UInt8), l.length ≤ r.length → (bareGo l).map (d :: ·) = some x → x.length ≤ (c :: r).length := by
      intro l d hl hm
      obtain ⟨y, hy, rfl⟩ := Option.map_eq_some_iff.1 hm
      have := ih l hl y hy
      simp; omega
    rw [bareGo.eq_def] at h
    simp only at h
    split at h
    · cases r with
      | nil => cases h
      | cons d r' =>
        simp only at h
        split at h
        · exact put r' 10 (by simp) h
        · split at h
          · match r', h with
            | a :: b :: r'', h =>
              simp only at h
              split at h
              · exact put r'' _ (by simp; omega) h
              · cases h
            | [], h => exact put [] d (by simp) h
            | [a], h => exact put [a] d (by simp) h
          · exact put r' d (by simp) h
    · exact put r c (Nat.le_refl _) h
theorem bareP_len {w x : List UInt8} (h : bareP w = some x) : x.length ≤ w.length := by
  unfold bareP at h
  split at h
  · have := bareGo_len _ _ (Nat.le_refl _) x h
    simp at this
    omega
  · cases h
theorem pairs_len2 : ∀ (l x : List UInt8), pairs l = some x → 2 * x.length ≤ l.length
  | [], x, h => by
    injection h with h
    subst h; simp
  | [_], x, h => by cases h
  | a :: b :: r, x, h => by
    rw [pairs] at h
    split at h
    · obtain ⟨y, hy, rfl⟩ := Option.map_eq_some_iff.1 h
      have := pairs_len2 r y hy
      simp; omega
    · cases h
theorem bytesR_len2 {l x : List UInt8} (h : bytesR l = some x) : 2 * x.length ≤ l.length := by
  unfold bytesR at h
  split at h
  · injection h with h
    subst h; simp
  · exact pairs_len2 l x h
/-- What is read is no longer than the line. -/
theorem readP_len {line : List UInt8} {e : Ev} (h : readP line = some e) : e.text.length ≤ line.length ∧ 2 * e.bytes.length ≤ line.length := by
  rw [readP_W] at h
  have hj : joinC (splitC line) = line := joinC_splitC line
  have hs : ∀ n, (joinC ((splitC line).drop n)).length ≤ line.length := fun n => by have := joinC_suf (splitC line) n; rw [hj] at this; exact this
  generalize splitC line = ws at *
  have em : ∀ (c : Ev), some c = some e → c.text = [] ∧ c.bytes = [] → e.text.length ≤ line.length ∧ 2 * e.bytes.length ≤ line.length := by
    intro c hc ⟨h1, h2⟩
    injection hc with hc
    rw [← hc, h1, h2]; simp
  cases ws with
  | nil => cases h
  | cons w l =>
    have h : readL w l = some e := h
    unfold readL at h
    split at h
    · match l, h, hs with
      | [], h, _ => cases h
      | [_], h, _ => cases h
      | [_, _], h, _ => cases h
      | p :: a :: k :: r, h, hs =>
        simp only at h
        split at h
        · split at h
          · obtain ⟨s, _, h2⟩ := Option.map_eq_some_iff.1 h
            exact em _ (congrArg some h2) ⟨rfl, rfl⟩
          · split at h
            · split at h
              · cases h
              · obtain ⟨t, h1, h2⟩ := Option.map_eq_some_iff.1 h
                have := bareP_len h1
                have := hs 4
                simp only [List.drop_succ_cons, List.drop_zero] at this
                subst h2
                exact ⟨by show t.length ≤ _; omega, by show 2 * 0 ≤ _; omega⟩
            · cases h
        · cases h
    · split at h
      · match l, h with
        | [], h => cases h
        | k :: r, h =>
          simp only at h
          split at h
          · obtain ⟨s, _, h2⟩ := Option.map_eq_some_iff.1 h
            exact em _ (congrArg some h2) ⟨rfl, rfl⟩
          · cases h
      · split at h
        · match l, h, hs with
          | [], h, _ => cases h
          | k :: r, h, hs =>
            simp only at h
            split at h
            · split at h
              · cases h
              · obtain ⟨t, h1, h2⟩ := Option.map_eq_some_iff.1 h
                have := bareP_len h1
                have := hs 2
                simp only [List.drop_succ_cons, List.drop_zero] at this
                subst h2
                exact ⟨by show t.length ≤ _; omega, by show 2 * 0 ≤ _; omega⟩
            · cases h
        · split at h
          · match l, h, hs with
            | [], h, _ => cases h
            | k :: r, h, hs =>
              simp only at h
              split at h
              · split at h
                · cases h
                · obtain ⟨t, h1, h2⟩ := Option.map_eq_some_iff.1 h
                  have := bytesR_len2 h1
                  have := hs 2
                  simp only [List.drop_succ_cons, List.drop_zero] at this
                  subst h2
                  exact ⟨by show 0 ≤ _; omega, by show 2 * t.length ≤ _; omega⟩
              · cases h
          · split at h
            · cases h
            · split at h
              · obtain ⟨t, _, h2⟩ := Option.map_eq_some_iff.1 h
                exact em _ (congrArg some h2) (by unfold setF; (repeat' split) <;> exact ⟨rfl, rfl⟩)
              · cases h

end Go.Proofs.YtaoehdmdjplegaaGreatDoor
namespace Go.Proofs.YtaoehdmdjplegaaGreatDoor
open Go.RowKit Go.Shelf

/-- What was thrown, and is caught. -/
def caughtC : List PanicEntry := [{ v := .iface 58 (.agg #[]), recovered := true }]
def CatchPost (g h : Nat) (w : World) (e : Ending) (u : FrameMode) (w' : World) : Prop :=
  e = .returned (.tuple #[]) ∧ u = .panicking caughtC ∧ Blk w' g 34 (evC ev0 (.slice none 0 0)).toArray ∧ Blk w' h 36 #[.int .i64 320] ∧ Kept [g, h] w w'

set_option maxRecDepth 100000 in
set_option maxHeartbeats 4000000 in
theorem catch_wrong (g h : Nat) (L : List Value) (x : Value) (hL : L.length = 59) (hgh : g ≠ h) (w : World) (hg : Blk w g 34 L.toArray) (hh : Blk w h 36 #[x]) :
    CallsD Tryz.prog 16 #[.pointer (some ⟨g, 0, none⟩), .pointer (some ⟨h, 0, none⟩)] (.panicking wrongC) w (CatchPost g h w) := by
  have hta : ∀ w, (Instr.typeAssert (Value.iface 58 (Value.agg #[])) 20 58 true).run Tryz.prog w = .ok (.tuple #[.agg #[], .bool true]) w := fun w => by kernel_rfl
  refine callsD_of_wpS Tryz.func16 rfl fun c₀ cs hu => ?_
  apply wpS_seq
  apply wpS_region
  simp [wpOpsS, go_sem, recoverD, hu, wrongC, Tryz.ntmps16, Exit.thenS]
  simp only [show Array.replicate 15 undef = #[undef, undef, undef, undef, undef, undef, undef, undef, undef, undef, undef, undef, undef, undef, undef] from rfl, List.setIfInBounds_toArray, List.set_cons_zero, List.set_cons_succ, List.append_toArray, List.cons_append, List.nil_append]
  refine wpS_of_wp ?_
  have hg1 : Blk (w.alloc (.cells #[] 58)) g 34 L.toArray := hg.below (below_one _ _) hg.lt
  have hh1 : Blk (w.alloc (.cells #[] 58)) h 36 #[x] := hh.below (below_one _ _) hh.lt
  go_wp2_with (first | (refine wpList_store_blk rfl 34 _ _ rfl g 0 34 L (evC ev0 (.slice none 0 0)) rfl hg1 rfl (by rw [hL, evC_len]; exact Nat.le_refl _) evC_size (evC_cells _ rfl) ?_; intro w6 b6 k6 z6; rw [setL_all (by rw [hL, evC_len])] at b6; have h6 := hh1.kept k6 (by simpa using Ne.symm hgh); simp only [Act.put]) | (refine wpList_store_one rfl 36 _ _ rfl h 0 36 [x] (.int .i64 320) rfl h6 rfl (by simp) rfl (by simp [storeVar, go_sem, Value.cells, storeCells]) ?_; intro w7 b7 k7 z7; have g7 := b6.kept k7 (by simpa using hgh); simp only [Act.put]))
  refine ⟨rfl, _, rfl, _, results_none rfl _ _ _, rfl, rfl, g7, b7, ?_⟩
  exact (Kept.of_below (below_one _ _)).trans ((k6.more (by simp)).trans (k7.more (by simp)))

theorem catch_idle (g h : Nat) (w : World) :
    CallsD Tryz.prog 16 #[.pointer (some ⟨g, 0, none⟩), .pointer (some ⟨h, 0, none⟩)] .returning w fun e u' w' => e = .returned (.tuple #[]) ∧ u' = .returning ∧ w' = w := by
  refine callsD_of_wpS Tryz.func16 rfl fun c₀ cs hu => ?_
  apply wpS_seq
  apply wpS_region
  simp [wpOpsS, go_sem, recoverD, hu, Tryz.ntmps16, Exit.thenS]
  simp only [show Array.replicate 15 undef = #[undef, undef, undef, undef, undef, undef, undef, undef, undef, undef, undef, undef, undef, undef, undef] from rfl, List.setIfInBounds_toArray, List.set_cons_zero, List.set_cons_succ, List.append_toArray, List.cons_append, List.nil_append]
  refine wpS_of_wp ?_
  go_wp2_with fail
  refine ⟨rfl, .returning, ?_, _, results_none rfl _ _ _, rfl, rfl, rfl⟩
  cases c₀
  simp_all

end Go.Proofs.YtaoehdmdjplegaaGreatDoor
namespace Go.Proofs.YtaoehdmdjplegaaGreatDoor
open Go.RowKit Go.Shelf

theorem split_words (s : List UInt8) (hs : s.length ≤ 100000) (m : Int) (w : World) (hm : w.cell? ⟨3, 0, none⟩ = some (.int .i64 m)) :
    Calls Tryz.prog 17 #[.string (mkB s), .string ⟨#[32]⟩] w fun e w' => e = .returned (.slice (some ⟨w.heap.size, 0, none⟩) (splitC s).length (splitC s).length) ∧ w' = w.alloc (.cells (strA (splitC s)) 9) := by
  have e1 : (Lib.splitB ⟨#[32]⟩ 0 (Lib.countB (mkB s) ⟨#[32]⟩) (mkB s)).map (·.data.toList) = splitC s := by rw [Lib.splitB_data]; exact splitK_C s
  have e2 : (Lib.splitB ⟨#[32]⟩ 0 (Lib.countB (mkB s) ⟨#[32]⟩) (mkB s)).map Value.string = (splitC s).map fun x => Value.string (mkB x) := by
    rw [← e1, List.map_map]; rfl
  have e3 : Lib.countB (mkB s) ⟨#[32]⟩ + 1 = (splitC s).length := by
    rw [← e1, List.length_map, Lib.splitB_all _ (by decide) 0 _ _ rfl]
  have := Tryz.strings_Split (mkB s) ⟨#[32]⟩ m w (by rw [mkB_size]; omega) hm (by decide)
  rw [e2, e3] at this
  exact this
theorem results_cc {P : Program} {fn : Func} {p q : Tmp} {ty ty2 : TypeId} (h : fn.results = #[.cell p ty, .cell q ty2]) (tmps : Array Value) (w : World) (g g2 : Nat) (t : TypeId) (cs : Array Value) (fr : Nat × Nat) (d : TypeDesc) (x : Value)
    (hp : tmps.getD p undef = .pointer (some ⟨g, 0, none⟩)) (hq : tmps.getD q undef = .pointer (some ⟨g2, 0, none⟩)) (hg : w.heap[g]? = some (.cells cs t fr))
    (hu : P.underlying ty = some d) (hd : (match d with | .struct _ | .array _ _ => true | _ => false) = true) (hi : (P.info? ty).map (·.size) = some cs.size)
    (h2 : (loadVar ty2 ⟨g2, 0, none⟩).run P w = .ok x w) :
    (results fn tmps).run P w = .ok (.tuple #[.agg cs, x]) w := by
  have hp' : tmps[p]?.getD undef = .pointer (some ⟨g, 0, none⟩) := by simpa using hp
  have hq' : tmps[q]?.getD undef = .pointer (some ⟨g2, 0, none⟩) := by simpa using hq
  simp [results, h, hp', hq', asAddr, run_loadVar_row w g t ty cs fr d hg hu hd hi, h2]
theorem load_errno (w : World) (g : Nat) (x : Int) (h : Blk w g 36 #[.int .i64 x]) : (loadVar 36 ⟨g, 0, none⟩).run Tryz.prog w = .ok (.int .i64 x) w := by
  have c := h.cell 0
  simp at c
  simp [loadVar, c, go_sem]
/-- What a line's reading leaves. -/
def ReadPost (o : Option Ev) (w : World) (en : Ending) (w' : World) : Prop :=
  Below w.heap.size w w' ∧ ∃ va, en = .returned (.tuple #[.agg (evC (o.getD ev0) va).toArray, .int .i64 (if o.isSome = true then 0 else 320)]) ∧ OwnsY w' w.heap.size va (o.getD ev0).bytes
/-- What lies in memory while a line is read. -/
structure RdM (e : Ev) (va : Value) (ws : List (List UInt8)) (n2 : Nat) (w0 w : World) : Prop where
  bel : Below w0.heap.size w0 w
  ev : Blk w w0.heap.size 34 (evC e va).toArray
  er : Blk w (w0.heap.size + 1) 36 #[.int .i64 0]
  wd : Blk w n2 9 (strA ws)
  lv : Blk w (n2 + 1) 47 #[.slice (some ⟨n2, 0, none⟩) ws.length ws.length]
  scr : ScrW w0
  n2e : n2 = w0.heap.size + 2
  sz : n2 + 2 ≤ w.heap.size
theorem RdM.sw {e : Ev} {va : Value} {ws : List (List UInt8)} {n2 : Nat} {w0 w : World} (h : RdM e va ws n2 w0 w) : ScrW w := h.scr.below h.bel (Nat.le_refl _)
theorem RdM.as {e e' : Ev} {va va' : Value} {ws : List (List UInt8)} {n2 : Nat} {w0 w : World} (h : RdM e va ws n2 w0 w) (he : evC e va = evC e' va') : RdM e' va' ws n2 w0 w :=
  ⟨h.bel, he ▸ h.ev, h.er, h.wd, h.lv, h.scr, h.n2e, h.sz⟩
theorem RdM.more {e : Ev} {va : Value} {ws : List (List UInt8)} {n2 : Nat} {w0 w w' : World} (h : RdM e va ws n2 w0 w) (hb : Below w.heap.size w w') : RdM e va ws n2 w0 w' :=
  ⟨h.bel.trans (hb.mono h.bel.size), h.ev.below hb h.ev.lt, h.er.below hb h.er.lt, h.wd.below hb h.wd.lt, h.lv.below hb h.lv.lt, h.scr, h.n2e, Nat.le_trans h.sz hb.size⟩
theorem RdM.step {e e' : Ev} {va va' : Value} {ws : List (List UInt8)} {n2 : Nat} {w0 w w' : World} (h : RdM e va ws n2 w0 w) {L : List Value} (hb : Blk w' w0.heap.size 34 L.toArray) (hk : Kept [w0.heap.size] w w') (hL : L = evC e' va') : RdM e' va' ws n2 w0 w' :=
  ⟨h.bel.trans (hk.to_below h.bel.size (by simp)), hL ▸ hb, h.er.kept hk (by simp), h.wd.kept hk (by have := h.n2e; simp; omega), h.lv.kept hk (by have := h.n2e; simp; omega), h.scr, h.n2e, Nat.le_trans h.sz hk.size⟩

theorem RdM.strs {e : Ev} {va : Value} {ws : List (List UInt8)} {n2 : Nat} {w0 w : World} (h : RdM e va ws n2 w0 w) : Strs w w.heap.size (.slice (some ⟨n2, 0, none⟩) ws.length ws.length) ws := by
  refine ⟨_, _, rfl, Nat.le_refl _, by simp, fun _ => ⟨_, rfl, h.wd.lt, fun j u hu => ?_⟩⟩
  have e : (⟨n2, 0, none⟩ : Addr).add j = ⟨n2, j, none⟩ := by unfold Addr.add; split <;> simp_all
  rw [e, h.wd.cell j]
  simpa [strA] using hu
theorem RdM.drop {e : Ev} {va : Value} {ws : List (List UInt8)} {n2 : Nat} {w0 w : World} (h : RdM e va ws n2 w0 w) (k m : Nat) (_hk : k ≤ ws.length) (hm : m = ws.length - k) : Strs w w.heap.size (.slice (some ⟨n2, k, none⟩) m m) (ws.drop k) := by
  have el : (ws.drop k).length = m := by rw [List.length_drop, hm]
  refine ⟨some ⟨n2, k, none⟩, m, by rw [el], Nat.le_of_eq el, by rw [el]; simp; omega, fun _ => ⟨_, rfl, h.wd.lt, fun j u hu => ?_⟩⟩
  have e : (⟨n2, k, none⟩ : Addr).add j = ⟨n2, k + j, none⟩ := by unfold Addr.add; split <;> simp_all
  rw [e, h.wd.cell (k + j)]
  rw [List.getElem?_map, List.getElem?_drop] at hu
  simpa [strA] using hu
theorem RdM.none_ {e : Ev} {va : Value} {ws : List (List UInt8)} {n2 : Nat} {w0 w : World} (_ : RdM e va ws n2 w0 w) (a : Option Addr) {k : Nat} (hk : ws.length ≤ k) : Strs w w.heap.size (.slice a 0 0) (ws.drop k) := by
  rw [List.drop_of_length_le hk]
  exact ⟨a, 0, rfl, Nat.le_refl _, by simp, fun hn => absurd hn (by simp)⟩
theorem RdM.err {e : Ev} {va : Value} {ws : List (List UInt8)} {n2 : Nat} {w0 w w' : World} (h : RdM e va ws n2 w0 w) {L : List Value} (hb : Blk w' (w0.heap.size + 1) 36 L.toArray) (hk : Kept [w0.heap.size + 1] w w') (hL : L = [.int .i64 0]) : RdM e va ws n2 w0 w' :=
  ⟨h.bel.trans (hk.to_below h.bel.size (by simp)), h.ev.kept hk (by simp), hL ▸ hb, h.wd.kept hk (by have := h.n2e; simp; omega), h.lv.kept hk (by have := h.n2e; simp; omega), h.scr, h.n2e, Nat.le_trans h.sz hk.size⟩
theorem storeVar_errno (w : World) (p : Addr) (k : IntKind) (n : Int) : (storeVar 36 p (.int k n)).run Tryz.prog w = (store p (.int k n)).run Tryz.prog w := by simp [storeVar, go_sem, Value.cells, storeCells]
theorem join_one3 (g o c : Nat) (k : List UInt8) (hc : 1 ≤ c) (hk : k.length ≤ 5000) (w : World) (h : w.cell? ⟨g, o, none⟩ = some (.string (mkB k))) :
    Calls Tryz.prog 12 #[.slice (some ⟨g, o, none⟩) 1 c, .string ⟨#[]⟩] w fun e w' => e = .returned (.string (mkB k)) ∧ Below w.heap.size w w' := by
  have hb := World.block_lt_of_cell? w _ h
  have e1 : Lib.join ([mkB k].map (·.data.toList)) (⟨#[]⟩ : ByteArray).data.toList = k := Lib.join_one k []
  have := Tryz.strings_Join g o c [mkB k] ⟨#[]⟩ w (fun j x hx => by
    cases j with
    | zero => injection hx with hx; rw [← hx]; exact h
    | succ j => simp at hx) hb (by simp) (by simpa using hc) (by rw [e1]; omega)
  rw [e1] at this
  exact this
theorem fldO_plain : ∀ t ∈ plainT, (fldO t.2.1 t.2.2.1).length = t.2.2.2 ∧ t.2.2.2 ≤ 3 ∧ t.2.1 ≠ 0 ∧ t.2.1 < 256 ∧ t.2.2.1 < 256 := by decide
theorem fldO_lt (r1 r2 k : Nat) : (fldO r1 r2).getD k 0 < 8 := by
  unfold fldO
  (repeat' split) <;> (match k with | 0 => decide | 1 => decide | 2 => decide | k + 3 => simp)
theorem setF_bytes (r1 r2 : Nat) (ns : List Int) : (setF r1 r2 ns).bytes = [] := by
  unfold setF
  (repeat' split) <;> rfl
theorem setF_nil (r1 r2 : Nat) : evC (setF r1 r2 []) (.slice none 0 0) = evC { ev0 with kind := r1, ck := r2 } (.slice none 0 0) := by
  unfold setF
  (repeat' split) <;> first | rfl | (subst_vars; rfl)
theorem setF_set (r1 r2 : Nat) (ns : List Int) (n : Int) (hk : ns.length < (fldO r1 r2).length) (v : Value) : (evC (setF r1 r2 ns) v).set ((fldO r1 r2).getD ns.length 0) (.int .i64 n) = evC (setF r1 r2 (ns ++ [n])) v := by
  unfold fldO at hk ⊢
  unfold setF
  by_cases c1 : r1 = 1 ∧ r2 = 2
  · rw [if_pos c1] at hk
    rw [if_pos c1, if_pos c1, if_pos c1]
    match ns, hk with
    | [], hk => first | rfl | (simp at hk; done)
    | [a], hk => first | rfl | (simp at hk; done)
    | [a, b], hk => first | rfl | (simp at hk; done)
    | a :: b :: c :: r, hk => first | (simp at hk; done) | (simp at hk; omega)
  · rw [if_neg c1] at hk
    rw [if_neg c1, if_neg c1, if_neg c1]
    by_cases c2 : r1 = 1
    · rw [if_pos c2] at hk
      rw [if_pos c2, if_pos c2, if_pos c2]
      match ns, hk with
      | [], hk => first | rfl | (simp at hk; done)
      | [a], hk => first | rfl | (simp at hk; done)
      | [a, b], hk => first | rfl | (simp at hk; done)
      | a :: b :: c :: r, hk => first | (simp at hk; done) | (simp at hk; omega)
    · rw [if_neg c2] at hk
      rw [if_neg c2, if_neg c2, if_neg c2]
      by_cases c3 : r1 = 2
      · rw [if_pos c3] at hk
        rw [if_pos c3, if_pos c3, if_pos c3]
        match ns, hk with
        | [], hk => first | rfl | (simp at hk; done)
        | [a], hk => first | rfl | (simp at hk; done)
        | [a, b], hk => first | rfl | (simp at hk; done)
        | a :: b :: c :: r, hk => first | (simp at hk; done) | (simp at hk; omega)
      · rw [if_neg c3] at hk
        rw [if_neg c3, if_neg c3, if_neg c3]
        by_cases c4 : r1 = 3
        · rw [if_pos c4] at hk
          rw [if_pos c4, if_pos c4, if_pos c4]
          match ns, hk with
          | [], hk => first | rfl | (simp at hk; done)
          | [a], hk => first | rfl | (simp at hk; done)
          | [a, b], hk => first | rfl | (simp at hk; done)
          | a :: b :: c :: r, hk => first | (simp at hk; done) | (simp at hk; omega)
        · rw [if_neg c4] at hk
          rw [if_neg c4, if_neg c4, if_neg c4]
          by_cases c5 : r1 = 8
          · rw [if_pos c5] at hk
            rw [if_pos c5, if_pos c5, if_pos c5]
            match ns, hk with
            | [], hk => first | rfl | (simp at hk; done)
            | [a], hk => first | rfl | (simp at hk; done)
            | [a, b], hk => first | rfl | (simp at hk; done)
            | a :: b :: c :: r, hk => first | (simp at hk; done) | (simp at hk; omega)
          · rw [if_neg c5] at hk
            rw [if_neg c5, if_neg c5, if_neg c5]
            by_cases c6 : r1 = 4
            · rw [if_pos c6] at hk
              rw [if_pos c6, if_pos c6, if_pos c6]
              match ns, hk with
              | [], hk => first | rfl | (simp at hk; done)
              | [a], hk => first | rfl | (simp at hk; done)
              | [a, b], hk => first | rfl | (simp at hk; done)
              | a :: b :: c :: r, hk => first | (simp at hk; done) | (simp at hk; omega)
            · rw [if_neg c6] at hk
              rw [if_neg c6, if_neg c6, if_neg c6]
              match ns, hk with
              | [], hk => first | rfl | (simp at hk; done)
              | [a], hk => first | rfl | (simp at hk; done)
              | [a, b], hk => first | rfl | (simp at hk; done)
              | a :: b :: c :: r, hk => first | (simp at hk; done) | (simp at hk; omega)
theorem numsP_step {ws : List (List UInt8)} {k : Nat} (hk : k < ws.length) : numsP (ws.drop k) = match ws[k]?.bind numP with
    | none => none
    | some n => (numsP (ws.drop (k + 1))).map (n :: ·) := by
  rw [List.drop_eq_getElem_cons hk, numsP, List.getElem?_eq_getElem hk]
  simp only [Option.bind_some]
  cases numP ws[k] <;> cases numsP (ws.drop (k + 1)) <;> rfl
/-- The numbers of a plain line, as they are read. -/
def RfA (ws : List (List UInt8)) (n2 r1 r2 : Nat) (w0 : World) (N : Nat) (gk : Nat) (i : Value) (w : World) : Prop :=
  ∃ (k : Nat) (ns : List Int), k + gk = (fldO r1 r2).length ∧ i = .int .i64 k ∧ ns.length = k ∧ RdM (setF r1 r2 ns) (.slice none 0 0) ws n2 w0 w ∧ (∃ ty, Blk w N ty (ptrsC w0.heap.size 0 (fldO r1 r2))) ∧ numsP ws.tail = (numsP (ws.tail.drop k)).map (ns ++ ·)
def RzA (ws : List (List UInt8)) (n2 r1 r2 : Nat) (w0 : World) (_gk : Nat) (i : Value) (w : World) : Prop := i = .int .i64 0 ∧ RdM (setF r1 r2 []) (.slice none 0 0) ws n2 w0 w
/-- The door: thrown. -/
theorem read_thrown {e : Ev} {va : Value} {ws : List (List UInt8)} {n2 : Nat} {w0 w : World} (h : RdM e va ws n2 w0 w) (tmps : Array Value) (h2 : tmps.getD 2 undef = .pointer (some ⟨w0.heap.size, 0, none⟩)) (h3 : tmps.getD 3 undef = .pointer (some ⟨w0.heap.size + 1, 0, none⟩)) :
    Leaves Tryz.prog Tryz.f10 tmps (ReadPost none w0) [{ target := .fn (.func 16) #[.pointer (some ⟨w0.heap.size, 0, none⟩), .pointer (some ⟨w0.heap.size + 1, 0, none⟩)], args := #[] }] (.panicking wrongC) w := by
  refine leaves_cons (f := 16) (args := #[.pointer (some ⟨w0.heap.size, 0, none⟩), .pointer (some ⟨w0.heap.size + 1, 0, none⟩)]) (by simp) (by simp [go_sem]) ?_
  refine (catch_wrong w0.heap.size (w0.heap.size + 1) (evC e va) (.int .i64 0) rfl (by omega) w h.ev h.er).mono ?_
  rintro e5 u5 w5 ⟨rfl, rfl, b1, b2, k⟩
  refine ⟨_, results_cc rfl tmps w5 w0.heap.size (w0.heap.size + 1) 34 (evC ev0 (.slice none 0 0)).toArray (0, 0) _ (.int .i64 320) h2 h3 b1 Tryz.underlying34 rfl evC_size (load_errno _ _ _ b2), ?_⟩
  exact ⟨h.bel.trans (k.to_below h.bel.size (by simp)), .slice none 0 0, rfl, OwnsY.nil _ _⟩
/-- .. returned. -/
theorem read_done {e : Ev} {va : Value} {ws : List (List UInt8)} {n2 : Nat} {w0 w : World} (h : RdM e va ws n2 w0 w) (tmps : Array Value) (h2 : tmps.getD 2 undef = .pointer (some ⟨w0.heap.size, 0, none⟩)) (h3 : tmps.getD 3 undef = .pointer (some ⟨w0.heap.size + 1, 0, none⟩)) (o : Option Ev) (ho : o = some e) (hv : OwnsY w w0.heap.size va e.bytes) :
    Leaves Tryz.prog Tryz.f10 tmps (ReadPost o w0) [{ target := .fn (.func 16) #[.pointer (some ⟨w0.heap.size, 0, none⟩), .pointer (some ⟨w0.heap.size + 1, 0, none⟩)], args := #[] }] .returning w := by
  subst ho
  refine leaves_cons (f := 16) (args := #[.pointer (some ⟨w0.heap.size, 0, none⟩), .pointer (some ⟨w0.heap.size + 1, 0, none⟩)]) (by simp) (by simp [go_sem]) ?_
  refine (catch_idle w0.heap.size (w0.heap.size + 1) w).mono ?_
  rintro e5 u5 w5 ⟨rfl, rfl, rfl⟩
  refine ⟨_, results_cc rfl tmps w5 w0.heap.size (w0.heap.size + 1) 34 (evC e va).toArray (0, 0) _ (.int .i64 0) h2 h3 h.ev Tryz.underlying34 rfl evC_size (load_errno _ _ _ h.er), ?_⟩
  exact ⟨h.bel, va, rfl, hv⟩

set_option maxRecDepth 100000 in
set_option maxHeartbeats 8000000 in
theorem read_any (s : List UInt8) (hs : s.length ≤ 5000) (w : World) (hw : ScrW w) :
    Calls Tryz.prog 10 #[.string (mkB s)] w (ReadPost (readP s) w) := by
  have hmf : ∀ (fn : Fn) (first cap : Array Value) (w : World), (Instr.makeFunc fn first cap).run Tryz.prog w = .ok (.func fn first cap) w := fun _ _ _ _ => rfl
  obtain ⟨W, hW⟩ : ∃ W, W = (w.alloc (.cells (evC ev0 (.slice none 0 0)).toArray 34)).alloc (.cells #[.int .i64 0] 36) := ⟨_, rfl⟩
  go_enter_defers Tryz.func10, Tryz.ntmps10
  go_upto_region 2 with fail
  change Code.wp _ _ _ _ ((w.alloc (.cells (evC ev0 (.slice none 0 0)).toArray 34)).alloc (.cells #[.int .i64 0] 36))
  rw [← hW]
  have hbel : Below w.heap.size w W := by rw [hW]; exact (below_one _ _).trans ((below_one _ _).mono (by simp))
  have hev : Blk W w.heap.size 34 (evC ev0 (.slice none 0 0)).toArray := by rw [hW]; exact (Blk.new w _ _).below (below_one _ _) (by simp)
  have her : Blk W (w.heap.size + 1) 36 #[.int .i64 0] := by
    have := Blk.new (w.alloc (.cells (evC ev0 (.slice none 0 0)).toArray 34)) 36 #[.int .i64 0]
    rw [World.size_alloc] at this
    rw [hW]; exact this
  have hsz : W.heap.size = w.heap.size + 2 := by rw [hW]; simp
  have HSZ := Lib.hid hsz
  clear hW hsz
  obtain ⟨mx, hmx⟩ := (hw.below hbel (Nat.le_refl _)).max
  have HMX := Lib.hid hmx
  clear hmx
  go_wp2_with fail
  refine (split_words s (by omega) mx W HMX.out).mono ?_
  rintro e w2 ⟨rfl, rfl⟩
  clear HMX
  go_upto_region 6 with fail
  obtain ⟨w4, hw4⟩ : ∃ w4, w4 = (W.alloc (.cells (strA (splitC s)) 9)).alloc (.cells #[.slice (some ⟨W.heap.size, 0, none⟩) (splitC s).length (splitC s).length] 47) := ⟨_, rfl⟩
  have hb4 : Below W.heap.size W w4 := by rw [hw4]; exact (below_one _ _).trans ((below_one _ _).mono (by simp))
  have hm : RdM ev0 (.slice none 0 0) (splitC s) W.heap.size w w4 := by
    refine ⟨hbel.trans (hb4.mono hbel.size), hev.below hb4 hev.lt, her.below hb4 her.lt, ?_, ?_, hw, HSZ.out, by rw [hw4]; simp⟩
    · rw [hw4]; exact (Blk.new W _ _).below (below_one _ _) (by simp)
    · have := Blk.new (W.alloc (.cells (strA (splitC s)) 9)) 47 #[.slice (some ⟨W.heap.size, 0, none⟩) (splitC s).length (splitC s).length]
      rw [World.size_alloc] at this
      rw [hw4]; exact this
  rw [← hw4]
  clear hw4 hb4 hbel hev her hw HSZ
  have HR := Lib.hid (readP_W s)
  have hj : joinC (splitC s) = s := joinC_splitC s
  have hj1 : (joinC (splitC s)).length ≤ 5000 := by rw [hj]; exact hs
  have hne : 0 < (splitC s).length := by
    have := splitC_ne s
    cases h : splitC s with
    | nil => exact absurd h this
    | cons a b => simp
  have hwl := joinC_count (splitC s)
  have HX := Lib.hid (show ∀ x ∈ splitC s, x.length ≤ 5000 from fun x hx => Nat.le_trans (joinC_mem _ hx) hj1)
  have HJ := Lib.hid (show ∀ n, (joinC ((splitC s).drop n)).length ≤ 5000 from fun n => Nat.le_trans (joinC_suf _ n) hj1)
  have hwn : (splitC s).length ≤ 5001 := by omega
  clear hj hj1 hwl
  generalize W.heap.size = n2 at *
  generalize splitC s = ws at *
  have c1 : w4.cell? ⟨n2 + 1, 0, none⟩ = some (.slice (some ⟨n2, 0, none⟩) ws.length ws.length) := hm.lv.cell 0
  obtain ⟨k0, l, rfl⟩ : ∃ k0 l, ws = k0 :: l := by
    cases ws with
    | nil => simp at hne
    | cons a b => exact ⟨a, b, rfl⟩
  have c0 : w4.cell? ⟨n2, 0, none⟩ = some (.string (mkB k0)) := hm.wd.cell 0
  obtain ⟨n, hn⟩ : ∃ n, n = (k0 :: l).length := ⟨_, rfl⟩
  rw [← hn] at c1
  have hn0 : (0 : Int) < ((n : Nat) : Int) := by rw [hn]; simp
  have hnn : n ≤ 5001 := by rw [hn]; exact hwn
  have HN := Lib.hid hn
  clear hn hne hwn
  go_upto_region 16 with fail
  by_cases hI : k0 = insertB
  · have mI : ((mkB k0).toList == ([105, 110, 115, 101, 114, 116] : List UInt8)) = true := str_eq' (b := [105, 110, 115, 101, 114, 116]) hI
    have HI := Lib.hid hI
    clear hI
    go_wp2_with fail
    refine (read_at 1 (n2 + 1) 47 _ (k0 :: l) HX.out w4.heap.size w4 hm.lv hm.strs hm.sw.num).mono ?_
    rintro e5 w5 ⟨hb5, hs5, hn5⟩
    have hm := hm.more hb5
    cases h1 : (k0 :: l)[1]?.bind numP with
    | none =>
      have := hn5 (by rw [h1]; rfl)
      subst this
      rw [show readP s = none from HR.out.trans (ins_no1 HI.out h1)]
      exact read_thrown hm _ rfl rfl
    | some p1 =>
      have := hs5 _ (by rw [h1]; rfl)
      subst this
      have H1 := Lib.hid h1
      clear h1 hs5 hn5 hb5 c0 c1
      go_wp2_with fail
      refine (read_at 2 (n2 + 1) 47 _ (k0 :: l) HX.out w5.heap.size w5 hm.lv hm.strs hm.sw.num).mono ?_
      rintro e6 w6 ⟨hb6, hs6, hn6⟩
      have hm := hm.more hb6
      cases h2 : (k0 :: l)[2]?.bind numP with
      | none =>
        have := hn6 (by rw [h2]; rfl)
        subst this
        rw [show readP s = none from HR.out.trans (ins_no2 HI.out h2)]
        exact read_thrown hm _ rfl rfl
      | some p2 =>
        have := hs6 _ (by rw [h2]; rfl)
        subst this
        have H2 := Lib.hid h2
        have hl3 : 2 ≤ l.length := by
          rcases Nat.lt_or_ge l.length 2 with h | h
          · rw [List.getElem?_eq_none (by simp; omega)] at h2; cases h2
          · exact h
        clear h2 hs6 hn6 hb6
        go_upto_region 18 with (first | (refine wpList_store_one rfl 5 _ _ rfl w.heap.size 0 34 (evC ev0 (.slice none 0 0)) (.int .u8 1) (by rfl) hm.ev (by rfl) (by rw [evC_len]; omega) (by rfl) (storeVar_u8 _ _ _ _) ?_; intro w7 b7 k7 z7; have hm := hm.step (e' := { ev0 with kind := 1 }) (va' := (.slice none 0 0)) b7 k7 rfl; clear b7 k7 z7; simp only [Act.put]) | (refine wpList_store_one rfl 5 _ _ rfl w.heap.size 4 34 (evC { ev0 with kind := 1 } (.slice none 0 0)) (.int .u8 1) (by rfl) hm.ev (by rfl) (by rw [evC_len]; omega) (by rfl) (storeVar_u8 _ _ _ _) ?_; intro w7 b7 k7 z7; have hm := hm.step (e' := { ev0 with kind := 1, ck := 1 }) (va' := (.slice none 0 0)) b7 k7 rfl; clear b7 k7 z7; simp only [Act.put]) | (refine wpList_store_one rfl 3 _ _ rfl w.heap.size 6 34 (evC { ev0 with kind := 1, ck := 1 } (.slice none 0 0)) (.int .i64 p1) (by rfl) hm.ev (by rfl) (by rw [evC_len]; omega) (by rfl) (storeVar_int _ _ _ _) ?_; intro w7 b7 k7 z7; have hm := hm.step (e' := { ev0 with kind := 1, ck := 1, parent := p1 }) (va' := (.slice none 0 0)) b7 k7 rfl; clear b7 k7 z7; simp only [Act.put]) | (refine wpList_store_one rfl 3 _ _ rfl w.heap.size 7 34 (evC { ev0 with kind := 1, ck := 1, parent := p1 } (.slice none 0 0)) (.int .i64 p2) (by rfl) hm.ev (by rfl) (by rw [evC_len]; omega) (by rfl) (storeVar_int _ _ _ _) ?_; intro w7 b7 k7 z7; have hm := hm.step (e' := { ev0 with kind := 1, ck := 1, parent := p1, at_ := p2 }) (va' := (.slice none 0 0)) b7 k7 rfl; clear b7 k7 z7; simp only [Act.put]) | fail)
        have c1 : w7.cell? ⟨n2 + 1, 0, none⟩ = some (.slice (some ⟨n2, 0, none⟩) n n) := by rw [HN.out]; exact hm.lv.cell 0
        by_cases hl2 : l.length = 2
        · have hn3 : n = 3 := by rw [HN.out]; simp; omega
          have HRN := Lib.hid (HR.out.trans (ins_no3 HI.out (by omega)))
          have e1 : ((mkB []).toList == ([98, 111, 120] : List UInt8)) = false := str_ne' (b := [98, 111, 120]) (by decide)
          have e2 : ((mkB []).toList == ([116, 101, 120, 116] : List UInt8)) = false := str_ne' (b := [116, 101, 120, 116]) (by decide)
          subst hn3
          clear hl2
          go_wp2_with fail
          refine (Tryz.strings_Join_none (some ⟨n2, 0, none⟩) 0 ⟨#[]⟩ w7).mono ?_
          rintro e8 w8 ⟨rfl, rfl⟩
          go_wp2_with fail
          rw [HRN.out]
          exact read_thrown hm _ rfl rfl
        · have hn4 : 4 ≤ n := by rw [HN.out]; simp; omega
          clear hl2
          obtain ⟨k3, hk3⟩ : ∃ k3, l[2]? = some k3 := ⟨_, List.getElem?_eq_getElem (by have := HN.out; simp at this; omega)⟩
          have c3 : w7.cell? ⟨n2, 3, none⟩ = some (.string (mkB k3)) := by
            rw [hm.wd.cell 3]
            simp [strA, hk3]
          have hk3l := HX.out k3 (by simp only [List.mem_cons]; exact .inr (List.mem_of_getElem? hk3))
          have HK3 := Lib.hid hk3
          clear hk3
          go_wp2_with fail
          rw [show (min (4 : Int) ((n : Nat) : Int)).toNat - 3 = 1 by omega]
          refine (join_one3 n2 3 (n - 3) k3 (by omega) hk3l w7 c3).mono ?_
          rintro e8 w8 ⟨rfl, hb8⟩
          have hm := hm.more hb8
          have c1 := cell_stays c1 hb8 (Nat.le_refl _)
          clear c3 hb8
          by_cases hkb : k3 = boxB
          · have mB : ((mkB k3).toList == ([98, 111, 120] : List UInt8)) = true := str_eq' (b := [98, 111, 120]) hkb
            have HKB := Lib.hid hkb
            clear hkb
            by_cases hnk : n = 4
            · have hst := hm.none_ (some ⟨n2, 0, none⟩) (k := 4) (by rw [← HN.out, hnk]; exact Nat.le_refl _)
              subst hnk
              go_wp2_with fail
              refine (style_any ((k0 :: l).drop 4) (fun x hx => HX.out x (List.mem_of_mem_drop hx)) (by have := HN.out; simp at this ⊢; omega) _ w8.heap.size w8 hst (Nat.le_refl _) hm.sw).mono ?_
              rintro e9 w9 ⟨hb9, hs9, hn9⟩
              have hm := hm.more hb9
              cases hsp : stylP sty0 ((k0 :: l).drop 4) with
              | none =>
                have := hn9 (by rw [hsp]; rfl)
                subst this
                rw [show readP s = none from HR.out.trans (by rw [ins_box HI.out H1.out H2.out (HK3.out.trans (congrArg some HKB.out)), hsp]; rfl)]
                exact read_thrown hm _ rfl rfl
              | some st =>
                have := hs9 _ (by rw [hsp]; rfl)
                subst this
                have HRS := Lib.hid (show readP s = some { ev0 with kind := 1, ck := 1, parent := p1, at_ := p2, sty := st } from HR.out.trans (by rw [ins_box HI.out H1.out H2.out (HK3.out.trans (congrArg some HKB.out)), hsp]; rfl))
                clear hsp hs9 hn9 hb9 hst
                go_upto_region 32 with (first | (refine wpList_store_blk rfl 28 _ _ rfl w.heap.size 11 34 _ (styC st) rfl hm.ev rfl (by rw [evC_len, styC_len]; omega) styC_size (styC_cells st) ?_; intro w7 b7 k7 z7; rw [evC_setSty] at b7; have hm := hm.step b7 k7 rfl; clear b7 k7 z7; simp only [Act.put]) | fail)
                go_wp2_with (first | (refine wpList_load_blk rfl 34 _ rfl w.heap.size 0 34 (evC { ev0 with kind := 1, ck := 1, parent := p1, at_ := p2, sty := st } (.slice none 0 0)) (evC { ev0 with kind := 1, ck := 1, parent := p1, at_ := p2, sty := st } (.slice none 0 0)) _ rfl hm.ev (evC_self' _ _) Tryz.underlying34 rfl evC_size ?_) | (refine wpList_store_blk rfl 34 _ _ rfl w.heap.size 0 34 (evC { ev0 with kind := 1, ck := 1, parent := p1, at_ := p2, sty := st } (.slice none 0 0)) (evC { ev0 with kind := 1, ck := 1, parent := p1, at_ := p2, sty := st } (.slice none 0 0)) rfl hm.ev rfl (by first | exact Nat.le_refl _ | (rw [evC_len, evC_len]; exact Nat.le_refl _)) evC_size (evC_cells _ (by rfl)) ?_; intro w8 b8 k8 z8; rw [setL_all rfl] at b8; have hm := hm.step b8 k8 rfl; skip; clear b8 k8 z8; simp only [Act.put]) | (refine wpList_store_one rfl 36 _ _ rfl (w.heap.size + 1) 0 36 [.int .i64 0] (.int .i64 0) rfl hm.er rfl (by simp) rfl (storeVar_errno _ _ _ _) ?_; intro w8 b8 k8 z8; have hm := hm.err b8 k8 rfl; skip; clear b8 k8 z8; simp only [Act.put]) | fail)
                exact read_done hm _ rfl rfl _ HRS.out (OwnsY.nil _ _)
            · have hst := hm.drop 4 (n - 4) (by rw [← HN.out]; omega) (by rw [← HN.out])
              have hlt : 4 < n := by omega
              have hlt2 : (4 : Int) ≤ ((n : Nat) : Int) := by omega
              go_wp2_with fail
              refine (style_any ((k0 :: l).drop 4) (fun x hx => HX.out x (List.mem_of_mem_drop hx)) (by have := HN.out; simp at this ⊢; omega) _ w8.heap.size w8 hst (Nat.le_refl _) hm.sw).mono ?_
              rintro e9 w9 ⟨hb9, hs9, hn9⟩
              have hm := hm.more hb9
              cases hsp : stylP sty0 ((k0 :: l).drop 4) with
              | none =>
                have := hn9 (by rw [hsp]; rfl)
                subst this
                rw [show readP s = none from HR.out.trans (by rw [ins_box HI.out H1.out H2.out (HK3.out.trans (congrArg some HKB.out)), hsp]; rfl)]
                exact read_thrown hm _ rfl rfl
              | some st =>
                have := hs9 _ (by rw [hsp]; rfl)
                subst this
                have HRS := Lib.hid (show readP s = some { ev0 with kind := 1, ck := 1, parent := p1, at_ := p2, sty := st } from HR.out.trans (by rw [ins_box HI.out H1.out H2.out (HK3.out.trans (congrArg some HKB.out)), hsp]; rfl))
                clear hsp hs9 hn9 hb9 hst
                go_upto_region 32 with (first | (refine wpList_store_blk rfl 28 _ _ rfl w.heap.size 11 34 _ (styC st) rfl hm.ev rfl (by rw [evC_len, styC_len]; omega) styC_size (styC_cells st) ?_; intro w7 b7 k7 z7; rw [evC_setSty] at b7; have hm := hm.step b7 k7 rfl; clear b7 k7 z7; simp only [Act.put]) | fail)
                go_wp2_with (first | (refine wpList_load_blk rfl 34 _ rfl w.heap.size 0 34 (evC { ev0 with kind := 1, ck := 1, parent := p1, at_ := p2, sty := st } (.slice none 0 0)) (evC { ev0 with kind := 1, ck := 1, parent := p1, at_ := p2, sty := st } (.slice none 0 0)) _ rfl hm.ev (evC_self' _ _) Tryz.underlying34 rfl evC_size ?_) | (refine wpList_store_blk rfl 34 _ _ rfl w.heap.size 0 34 (evC { ev0 with kind := 1, ck := 1, parent := p1, at_ := p2, sty := st } (.slice none 0 0)) (evC { ev0 with kind := 1, ck := 1, parent := p1, at_ := p2, sty := st } (.slice none 0 0)) rfl hm.ev rfl (by first | exact Nat.le_refl _ | (rw [evC_len, evC_len]; exact Nat.le_refl _)) evC_size (evC_cells _ (by rfl)) ?_; intro w8 b8 k8 z8; rw [setL_all rfl] at b8; have hm := hm.step b8 k8 rfl; skip; clear b8 k8 z8; simp only [Act.put]) | (refine wpList_store_one rfl 36 _ _ rfl (w.heap.size + 1) 0 36 [.int .i64 0] (.int .i64 0) rfl hm.er rfl (by simp) rfl (storeVar_errno _ _ _ _) ?_; intro w8 b8 k8 z8; have hm := hm.err b8 k8 rfl; skip; clear b8 k8 z8; simp only [Act.put]) | fail)
                exact read_done hm _ rfl rfl _ HRS.out (OwnsY.nil _ _)
          · have mB : ((mkB k3).toList == ([98, 111, 120] : List UInt8)) = false := str_ne' (b := [98, 111, 120]) hkb
            by_cases hkt : k3 = textB
            · have mT : ((mkB k3).toList == ([116, 101, 120, 116] : List UInt8)) = true := str_eq' (b := [116, 101, 120, 116]) hkt
              have HKT := Lib.hid hkt
              clear hkt hkb
              go_wp2_with fail
              refine (read_behind 4 (n2 + 1) n2 47 9 (k0 :: l) (by have := HN.out; omega) (by have := HJ.out 4; omega) w8 hm.lv hm.wd).mono ?_
              rintro e9 w9 ⟨hb9, hs9, hn9⟩
              have hm := hm.more hb9
              by_cases hlk : l.length ≤ 3
              · have := hn9 (if_pos (by simp; omega))
                subst this
                rw [show readP s = none from HR.out.trans (by rw [ins_text HI.out H1.out H2.out (HK3.out.trans (congrArg some HKT.out)), if_pos hlk])]
                exact read_thrown hm _ rfl rfl
              · have := hs9 _ (if_neg (by simp; omega))
                subst this
                have hjl := HJ.out 4
                have HRD := Lib.hid (HR.out.trans (by rw [ins_text HI.out H1.out H2.out (HK3.out.trans (congrArg some HKT.out)), if_neg hlk]))
                clear hs9 hn9 hlk hb9
                generalize joinC ((k0 :: l).drop 4) = tx at *
                go_wp2_with fail
                refine (bare_any (mkB tx) (by rw [mkB_size]; exact hjl) w9).mono ?_
                rintro e10 w10 ⟨hb10, hs10, hn10⟩
                rw [mkB_toList] at hs10 hn10
                have hm := hm.more hb10
                cases hbp : bareP tx with
                | none =>
                  have := hn10 (by rw [hbp]; rfl)
                  subst this
                  rw [show readP s = none from HRD.out.trans (by rw [hbp]; rfl)]
                  exact read_thrown hm _ rfl rfl
                | some bt =>
                  have := hs10 _ (by rw [hbp]; rfl)
                  subst this
                  have HRS := Lib.hid (show readP s = some { ev0 with kind := 1, ck := 1, parent := p1, at_ := p2, nkind := 1, text := bt } from HRD.out.trans (by rw [hbp]; rfl))
                  clear hbp hs10 hn10 hb10 hjl
                  go_upto_region 32 with (first | (refine wpList_store_one rfl 5 _ _ rfl w.heap.size 10 34 (evC { ev0 with kind := 1, ck := 1, parent := p1, at_ := p2 } (.slice none 0 0)) (.int .u8 1) (by rfl) hm.ev (by rfl) (by rw [evC_len]; omega) (by rfl) (storeVar_u8 _ _ _ _) ?_; intro w7 b7 k7 z7; have hm := hm.step (e' := { ev0 with kind := 1, ck := 1, parent := p1, at_ := p2, nkind := 1 }) (va' := (.slice none 0 0)) b7 k7 rfl; clear b7 k7 z7; simp only [Act.put]) | (refine wpList_store_one rfl 9 _ _ rfl w.heap.size 58 34 (evC { ev0 with kind := 1, ck := 1, parent := p1, at_ := p2, nkind := 1 } (.slice none 0 0)) (.string (mkB bt)) (by rfl) hm.ev (by rfl) (by rw [evC_len]; omega) (by rfl) (storeVar_str _ _ _) ?_; intro w7 b7 k7 z7; have hm := hm.step (e' := { ev0 with kind := 1, ck := 1, parent := p1, at_ := p2, nkind := 1, text := bt }) (va' := (.slice none 0 0)) b7 k7 rfl; clear b7 k7 z7; simp only [Act.put]) | fail)
                  go_wp2_with (first | (refine wpList_load_blk rfl 34 _ rfl w.heap.size 0 34 (evC { ev0 with kind := 1, ck := 1, parent := p1, at_ := p2, nkind := 1, text := bt } (.slice none 0 0)) (evC { ev0 with kind := 1, ck := 1, parent := p1, at_ := p2, nkind := 1, text := bt } (.slice none 0 0)) _ rfl hm.ev (evC_self' _ _) Tryz.underlying34 rfl evC_size ?_) | (refine wpList_store_blk rfl 34 _ _ rfl w.heap.size 0 34 (evC { ev0 with kind := 1, ck := 1, parent := p1, at_ := p2, nkind := 1, text := bt } (.slice none 0 0)) (evC { ev0 with kind := 1, ck := 1, parent := p1, at_ := p2, nkind := 1, text := bt } (.slice none 0 0)) rfl hm.ev rfl (by first | exact Nat.le_refl _ | (rw [evC_len, evC_len]; exact Nat.le_refl _)) evC_size (evC_cells _ (by rfl)) ?_; intro w8 b8 k8 z8; rw [setL_all rfl] at b8; have hm := hm.step b8 k8 rfl; skip; clear b8 k8 z8; simp only [Act.put]) | (refine wpList_store_one rfl 36 _ _ rfl (w.heap.size + 1) 0 36 [.int .i64 0] (.int .i64 0) rfl hm.er rfl (by simp) rfl (storeVar_errno _ _ _ _) ?_; intro w8 b8 k8 z8; have hm := hm.err b8 k8 rfl; skip; clear b8 k8 z8; simp only [Act.put]) | fail)
                  exact read_done hm _ rfl rfl _ HRS.out (OwnsY.nil _ _)
            · have mT : ((mkB k3).toList == ([116, 101, 120, 116] : List UInt8)) = false := str_ne' (b := [116, 101, 120, 116]) hkt
              have HRN := Lib.hid (HR.out.trans (ins_else HI.out HK3.out hkb hkt))
              clear hkt hkb
              go_wp2_with fail
              rw [HRN.out]
              exact read_thrown hm _ rfl rfl
  · have mI : ((mkB k0).toList == ([105, 110, 115, 101, 114, 116] : List UInt8)) = false := str_ne' (b := [105, 110, 115, 101, 114, 116]) hI
    by_cases hS : k0 = styleB
    · have mS : ((mkB k0).toList == ([115, 116, 121, 108, 101] : List UInt8)) = true := str_eq' (b := [115, 116, 121, 108, 101]) hS
      have HS := Lib.hid hS
      clear hS hI
      go_wp2_with fail
      refine (read_at 1 (n2 + 1) 47 _ (k0 :: l) HX.out w4.heap.size w4 hm.lv hm.strs hm.sw.num).mono ?_
      rintro e5 w5 ⟨hb5, hs5, hn5⟩
      have hm := hm.more hb5
      cases h1 : (k0 :: l)[1]?.bind numP with
      | none =>
        have := hn5 (by rw [h1]; rfl)
        subst this
        rw [show readP s = none from HR.out.trans (sty_no HS.out h1)]
        exact read_thrown hm _ rfl rfl
      | some p1 =>
        have := hs5 _ (by rw [h1]; rfl)
        subst this
        have H1 := Lib.hid h1
        have hl1 : 1 ≤ l.length := by
          rcases Nat.lt_or_ge l.length 1 with h | h
          · rw [List.getElem?_eq_none (by rw [List.length_cons]; omega)] at h1; cases h1
          · exact h
        have hn2 : 2 ≤ n := by rw [HN.out]; simp; omega
        clear h1 hs5 hn5 hb5 c0 c1
        go_upto_region 26 with (first | (refine wpList_store_one rfl 5 _ _ rfl w.heap.size 0 34 (evC ev0 (.slice none 0 0)) (.int .u8 1) (by rfl) hm.ev (by rfl) (by rw [evC_len]; omega) (by rfl) (storeVar_u8 _ _ _ _) ?_; intro w7 b7 k7 z7; have hm := hm.step (e' := { ev0 with kind := 1 }) (va' := (.slice none 0 0)) b7 k7 rfl; clear b7 k7 z7; simp only [Act.put]) | (refine wpList_store_one rfl 5 _ _ rfl w.heap.size 4 34 (evC { ev0 with kind := 1 } (.slice none 0 0)) (.int .u8 4) (by rfl) hm.ev (by rfl) (by rw [evC_len]; omega) (by rfl) (storeVar_u8 _ _ _ _) ?_; intro w7 b7 k7 z7; have hm := hm.step (e' := { ev0 with kind := 1, ck := 4 }) (va' := (.slice none 0 0)) b7 k7 rfl; clear b7 k7 z7; simp only [Act.put]) | (refine wpList_store_one rfl 3 _ _ rfl w.heap.size 5 34 (evC { ev0 with kind := 1, ck := 4 } (.slice none 0 0)) (.int .i64 p1) (by rfl) hm.ev (by rfl) (by rw [evC_len]; omega) (by rfl) (storeVar_int _ _ _ _) ?_; intro w7 b7 k7 z7; have hm := hm.step (e' := { ev0 with kind := 1, ck := 4, key := p1 }) (va' := (.slice none 0 0)) b7 k7 rfl; clear b7 k7 z7; simp only [Act.put]) | fail)
        have c1 : w7.cell? ⟨n2 + 1, 0, none⟩ = some (.slice (some ⟨n2, 0, none⟩) n n) := by rw [HN.out]; exact hm.lv.cell 0
        by_cases hnk : n = 2
        · have hst := hm.none_ (some ⟨n2, 0, none⟩) (k := 2) (by rw [← HN.out, hnk]; exact Nat.le_refl _)
          subst hnk
          go_wp2_with fail
          refine (style_any ((k0 :: l).drop 2) (fun x hx => HX.out x (List.mem_of_mem_drop hx)) (by have := HN.out; simp at this ⊢; omega) _ w7.heap.size w7 hst (Nat.le_refl _) hm.sw).mono ?_
          rintro e9 w9 ⟨hb9, hs9, hn9⟩
          have hm := hm.more hb9
          cases hsp : stylP sty0 ((k0 :: l).drop 2) with
          | none =>
            have := hn9 (by rw [hsp]; rfl)
            subst this
            rw [show readP s = none from HR.out.trans (by rw [sty_yes HS.out H1.out, hsp]; rfl)]
            exact read_thrown hm _ rfl rfl
          | some st =>
            have := hs9 _ (by rw [hsp]; rfl)
            subst this
            have HRS := Lib.hid (show readP s = some { ev0 with kind := 1, ck := 4, key := p1, sty := st } from HR.out.trans (by rw [sty_yes HS.out H1.out, hsp]; rfl))
            clear hsp hs9 hn9 hb9 hst
            go_upto_region 32 with (first | (refine wpList_store_blk rfl 28 _ _ rfl w.heap.size 11 34 _ (styC st) rfl hm.ev rfl (by rw [evC_len, styC_len]; omega) styC_size (styC_cells st) ?_; intro w7 b7 k7 z7; rw [evC_setSty] at b7; have hm := hm.step b7 k7 rfl; clear b7 k7 z7; simp only [Act.put]) | fail)
            go_wp2_with (first | (refine wpList_load_blk rfl 34 _ rfl w.heap.size 0 34 (evC { ev0 with kind := 1, ck := 4, key := p1, sty := st } (.slice none 0 0)) (evC { ev0 with kind := 1, ck := 4, key := p1, sty := st } (.slice none 0 0)) _ rfl hm.ev (evC_self' _ _) Tryz.underlying34 rfl evC_size ?_) | (refine wpList_store_blk rfl 34 _ _ rfl w.heap.size 0 34 (evC { ev0 with kind := 1, ck := 4, key := p1, sty := st } (.slice none 0 0)) (evC { ev0 with kind := 1, ck := 4, key := p1, sty := st } (.slice none 0 0)) rfl hm.ev rfl (by first | exact Nat.le_refl _ | (rw [evC_len, evC_len]; exact Nat.le_refl _)) evC_size (evC_cells _ (by rfl)) ?_; intro w8 b8 k8 z8; rw [setL_all rfl] at b8; have hm := hm.step b8 k8 rfl; skip; clear b8 k8 z8; simp only [Act.put]) | (refine wpList_store_one rfl 36 _ _ rfl (w.heap.size + 1) 0 36 [.int .i64 0] (.int .i64 0) rfl hm.er rfl (by simp) rfl (storeVar_errno _ _ _ _) ?_; intro w8 b8 k8 z8; have hm := hm.err b8 k8 rfl; skip; clear b8 k8 z8; simp only [Act.put]) | fail)
            exact read_done hm _ rfl rfl _ HRS.out (OwnsY.nil _ _)
        · have hst := hm.drop 2 (n - 2) (by rw [← HN.out]; omega) (by rw [← HN.out])
          have hlt : 2 < n := by omega
          have hlt2 : (2 : Int) ≤ ((n : Nat) : Int) := by omega
          go_wp2_with fail
          refine (style_any ((k0 :: l).drop 2) (fun x hx => HX.out x (List.mem_of_mem_drop hx)) (by have := HN.out; simp at this ⊢; omega) _ w7.heap.size w7 hst (Nat.le_refl _) hm.sw).mono ?_
          rintro e9 w9 ⟨hb9, hs9, hn9⟩
          have hm := hm.more hb9
          cases hsp : stylP sty0 ((k0 :: l).drop 2) with
          | none =>
            have := hn9 (by rw [hsp]; rfl)
            subst this
            rw [show readP s = none from HR.out.trans (by rw [sty_yes HS.out H1.out, hsp]; rfl)]
            exact read_thrown hm _ rfl rfl
          | some st =>
            have := hs9 _ (by rw [hsp]; rfl)
            subst this
            have HRS := Lib.hid (show readP s = some { ev0 with kind := 1, ck := 4, key := p1, sty := st } from HR.out.trans (by rw [sty_yes HS.out H1.out, hsp]; rfl))
            clear hsp hs9 hn9 hb9 hst
            go_upto_region 32 with (first | (refine wpList_store_blk rfl 28 _ _ rfl w.heap.size 11 34 _ (styC st) rfl hm.ev rfl (by rw [evC_len, styC_len]; omega) styC_size (styC_cells st) ?_; intro w7 b7 k7 z7; rw [evC_setSty] at b7; have hm := hm.step b7 k7 rfl; clear b7 k7 z7; simp only [Act.put]) | fail)
            go_wp2_with (first | (refine wpList_load_blk rfl 34 _ rfl w.heap.size 0 34 (evC { ev0 with kind := 1, ck := 4, key := p1, sty := st } (.slice none 0 0)) (evC { ev0 with kind := 1, ck := 4, key := p1, sty := st } (.slice none 0 0)) _ rfl hm.ev (evC_self' _ _) Tryz.underlying34 rfl evC_size ?_) | (refine wpList_store_blk rfl 34 _ _ rfl w.heap.size 0 34 (evC { ev0 with kind := 1, ck := 4, key := p1, sty := st } (.slice none 0 0)) (evC { ev0 with kind := 1, ck := 4, key := p1, sty := st } (.slice none 0 0)) rfl hm.ev rfl (by first | exact Nat.le_refl _ | (rw [evC_len, evC_len]; exact Nat.le_refl _)) evC_size (evC_cells _ (by rfl)) ?_; intro w8 b8 k8 z8; rw [setL_all rfl] at b8; have hm := hm.step b8 k8 rfl; skip; clear b8 k8 z8; simp only [Act.put]) | (refine wpList_store_one rfl 36 _ _ rfl (w.heap.size + 1) 0 36 [.int .i64 0] (.int .i64 0) rfl hm.er rfl (by simp) rfl (storeVar_errno _ _ _ _) ?_; intro w8 b8 k8 z8; have hm := hm.err b8 k8 rfl; skip; clear b8 k8 z8; simp only [Act.put]) | fail)
            exact read_done hm _ rfl rfl _ HRS.out (OwnsY.nil _ _)
    · have mS : ((mkB k0).toList == ([115, 116, 121, 108, 101] : List UInt8)) = false := str_ne' (b := [115, 116, 121, 108, 101]) hS
      by_cases hT : k0 = textB
      · have mT : ((mkB k0).toList == ([116, 101, 120, 116] : List UInt8)) = true := str_eq' (b := [116, 101, 120, 116]) hT
        have HT := Lib.hid hT
        clear hT hS hI
        go_wp2_with fail
        refine (read_at 1 (n2 + 1) 47 _ (k0 :: l) HX.out w4.heap.size w4 hm.lv hm.strs hm.sw.num).mono ?_
        rintro e5 w5 ⟨hb5, hs5, hn5⟩
        have hm := hm.more hb5
        cases h1 : (k0 :: l)[1]?.bind numP with
        | none =>
          have := hn5 (by rw [h1]; rfl)
          subst this
          rw [show readP s = none from HR.out.trans (txt_no HT.out h1)]
          exact read_thrown hm _ rfl rfl
        | some p1 =>
          have := hs5 _ (by rw [h1]; rfl)
          subst this
          have H1 := Lib.hid h1
          have hl1 : 1 ≤ l.length := by
            rcases Nat.lt_or_ge l.length 1 with h | h
            · rw [List.getElem?_eq_none (by rw [List.length_cons]; omega)] at h1; cases h1
            · exact h
          have hn2 : 2 ≤ n := by rw [HN.out]; simp; omega
          clear h1 hs5 hn5 hb5 c0 c1
          go_upto_region 29 with (first | (refine wpList_store_one rfl 5 _ _ rfl w.heap.size 0 34 (evC ev0 (.slice none 0 0)) (.int .u8 1) (by rfl) hm.ev (by rfl) (by rw [evC_len]; omega) (by rfl) (storeVar_u8 _ _ _ _) ?_; intro w7 b7 k7 z7; have hm := hm.step (e' := { ev0 with kind := 1 }) (va' := (.slice none 0 0)) b7 k7 rfl; clear b7 k7 z7; simp only [Act.put]) | (refine wpList_store_one rfl 5 _ _ rfl w.heap.size 4 34 (evC { ev0 with kind := 1 } (.slice none 0 0)) (.int .u8 5) (by rfl) hm.ev (by rfl) (by rw [evC_len]; omega) (by rfl) (storeVar_u8 _ _ _ _) ?_; intro w7 b7 k7 z7; have hm := hm.step (e' := { ev0 with kind := 1, ck := 5 }) (va' := (.slice none 0 0)) b7 k7 rfl; clear b7 k7 z7; simp only [Act.put]) | (refine wpList_store_one rfl 3 _ _ rfl w.heap.size 5 34 (evC { ev0 with kind := 1, ck := 5 } (.slice none 0 0)) (.int .i64 p1) (by rfl) hm.ev (by rfl) (by rw [evC_len]; omega) (by rfl) (storeVar_int _ _ _ _) ?_; intro w7 b7 k7 z7; have hm := hm.step (e' := { ev0 with kind := 1, ck := 5, key := p1 }) (va' := (.slice none 0 0)) b7 k7 rfl; clear b7 k7 z7; simp only [Act.put]) | fail)
          have c1 : w7.cell? ⟨n2 + 1, 0, none⟩ = some (.slice (some ⟨n2, 0, none⟩) n n) := by rw [HN.out]; exact hm.lv.cell 0
          go_wp2_with fail
          refine (read_behind 2 (n2 + 1) n2 47 9 (k0 :: l) (by have := HN.out; omega) (by have := HJ.out 2; omega) w7 hm.lv hm.wd).mono ?_
          rintro e9 w9 ⟨hb9, hs9, hn9⟩
          have hm := hm.more hb9
          by_cases hlk : l.length ≤ 1
          · have := hn9 (if_pos (by simp; omega))
            subst this
            rw [show readP s = none from HR.out.trans (by rw [txt_yes HT.out H1.out, if_pos hlk])]
            exact read_thrown hm _ rfl rfl
          · have := hs9 _ (if_neg (by simp; omega))
            subst this
            have hjl := HJ.out 2
            have HRD := Lib.hid (HR.out.trans (by rw [txt_yes HT.out H1.out, if_neg hlk]))
            clear hs9 hn9 hlk hb9
            generalize joinC ((k0 :: l).drop 2) = tx at *
            go_wp2_with fail
            refine (bare_any (mkB tx) (by rw [mkB_size]; exact hjl) w9).mono ?_
            rintro e10 w10 ⟨hb10, hs10, hn10⟩
            rw [mkB_toList] at hs10 hn10
            have hm := hm.more hb10
            cases hbp : bareP tx with
            | none =>
              have := hn10 (by rw [hbp]; rfl)
              subst this
              rw [show readP s = none from HRD.out.trans (by rw [hbp]; rfl)]
              exact read_thrown hm _ rfl rfl
            | some bt =>
              have := hs10 _ (by rw [hbp]; rfl)
              subst this
              have HRS := Lib.hid (show readP s = some { ev0 with kind := 1, ck := 5, key := p1, text := bt } from HRD.out.trans (by rw [hbp]; rfl))
              clear hbp hs10 hn10 hb10 hjl
              go_upto_region 32 with (first | (refine wpList_store_one rfl 9 _ _ rfl w.heap.size 58 34 (evC { ev0 with kind := 1, ck := 5, key := p1 } (.slice none 0 0)) (.string (mkB bt)) (by rfl) hm.ev (by rfl) (by rw [evC_len]; omega) (by rfl) (storeVar_str _ _ _) ?_; intro w7 b7 k7 z7; have hm := hm.step (e' := { ev0 with kind := 1, ck := 5, key := p1, text := bt }) (va' := (.slice none 0 0)) b7 k7 rfl; clear b7 k7 z7; simp only [Act.put]) | fail)
              go_wp2_with (first | (refine wpList_load_blk rfl 34 _ rfl w.heap.size 0 34 (evC { ev0 with kind := 1, ck := 5, key := p1, text := bt } (.slice none 0 0)) (evC { ev0 with kind := 1, ck := 5, key := p1, text := bt } (.slice none 0 0)) _ rfl hm.ev (evC_self' _ _) Tryz.underlying34 rfl evC_size ?_) | (refine wpList_store_blk rfl 34 _ _ rfl w.heap.size 0 34 (evC { ev0 with kind := 1, ck := 5, key := p1, text := bt } (.slice none 0 0)) (evC { ev0 with kind := 1, ck := 5, key := p1, text := bt } (.slice none 0 0)) rfl hm.ev rfl (by first | exact Nat.le_refl _ | (rw [evC_len, evC_len]; exact Nat.le_refl _)) evC_size (evC_cells _ (by rfl)) ?_; intro w8 b8 k8 z8; rw [setL_all rfl] at b8; have hm := hm.step b8 k8 rfl; skip; clear b8 k8 z8; simp only [Act.put]) | (refine wpList_store_one rfl 36 _ _ rfl (w.heap.size + 1) 0 36 [.int .i64 0] (.int .i64 0) rfl hm.er rfl (by simp) rfl (storeVar_errno _ _ _ _) ?_; intro w8 b8 k8 z8; have hm := hm.err b8 k8 rfl; skip; clear b8 k8 z8; simp only [Act.put]) | fail)
              exact read_done hm _ rfl rfl _ HRS.out (OwnsY.nil _ _)
      · have mT : ((mkB k0).toList == ([116, 101, 120, 116] : List UInt8)) = false := str_ne' (b := [116, 101, 120, 116]) hT
        by_cases hJ : k0 = injectB
        · have mJ : ((mkB k0).toList == ([105, 110, 106, 101, 99, 116] : List UInt8)) = true := str_eq' (b := [105, 110, 106, 101, 99, 116]) hJ
          have HJK := Lib.hid hJ
          clear hJ hT hS hI
          go_wp2_with fail
          refine (read_at 1 (n2 + 1) 47 _ (k0 :: l) HX.out w4.heap.size w4 hm.lv hm.strs hm.sw.num).mono ?_
          rintro e5 w5 ⟨hb5, hs5, hn5⟩
          have hm := hm.more hb5
          cases h1 : (k0 :: l)[1]?.bind numP with
          | none =>
            have := hn5 (by rw [h1]; rfl)
            subst this
            rw [show readP s = none from HR.out.trans (inj_no HJK.out h1)]
            exact read_thrown hm _ rfl rfl
          | some p1 =>
            have := hs5 _ (by rw [h1]; rfl)
            subst this
            have H1 := Lib.hid h1
            have hl1 : 1 ≤ l.length := by
              rcases Nat.lt_or_ge l.length 1 with h | h
              · rw [List.getElem?_eq_none (by rw [List.length_cons]; omega)] at h1; cases h1
              · exact h
            have hn2 : 2 ≤ n := by rw [HN.out]; simp; omega
            clear h1 hs5 hn5 hb5 c0 c1
            go_wp2_with fail
            refine (read_behind 2 (n2 + 1) n2 47 9 (k0 :: l) (by have := HN.out; omega) (by have := HJ.out 2; omega) w5 hm.lv hm.wd).mono ?_
            rintro e9 w9 ⟨hb9, hs9, hn9⟩
            have hm := hm.more hb9
            have hs99 := hm.sz
            by_cases hlk : l.length ≤ 1
            · have := hn9 (if_pos (by simp; omega))
              subst this
              rw [show readP s = none from HR.out.trans (by rw [inj_yes HJK.out H1.out, if_pos hlk])]
              exact read_thrown hm _ rfl rfl
            · have := hs9 _ (if_neg (by simp; omega))
              subst this
              have hjl := HJ.out 2
              have HRD := Lib.hid (HR.out.trans (by rw [inj_yes HJK.out H1.out, if_neg hlk]))
              clear hs9 hn9 hlk hb9
              generalize joinC ((k0 :: l).drop 2) = tx at *
              go_wp2_with fail
              refine (bytes_any (mkB tx) (by rw [mkB_size]; exact hjl) w9).mono ?_
              rintro e10 w10 ⟨hb10, hs10, hn10⟩
              rw [mkB_toList] at hs10 hn10
              have hm := hm.more hb10
              cases hbp : bytesR tx with
              | none =>
                have := hn10 hbp
                subst this
                rw [show readP s = none from HRD.out.trans (by rw [hbp]; rfl)]
                exact read_thrown hm _ rfl rfl
              | some bt =>
                obtain ⟨vb, hvb, hv⟩ := hs10 _ hbp
                subst hvb
                have hbase : w.heap.size < w9.heap.size := by have h1 := hm.n2e; omega
                have hbase2 : w.heap.size + 1 < w9.heap.size := by have h1 := hm.n2e; omega
                have HV1 := Lib.hid (show vb.oneCell' = true from hv.byts.one)
                have HRS := Lib.hid (show readP s = some { ev0 with kind := 9, client := p1, bytes := bt } from HRD.out.trans (by rw [hbp]; rfl))
                clear hbp hs10 hn10 hb10 hjl
                go_upto_region 32 with (first | (refine wpList_store_one rfl 5 _ _ rfl w.heap.size 0 34 (evC ev0 (.slice none 0 0)) (.int .u8 9) (by rfl) hm.ev (by rfl) (by rw [evC_len]; omega) (by rfl) (storeVar_u8 _ _ _ _) ?_; intro w7 b7 k7 z7; have hm := hm.step (e' := { ev0 with kind := 9 }) (va' := (.slice none 0 0)) b7 k7 rfl; have hv := hv.kept1 k7 hbase; clear b7 k7 z7; simp only [Act.put]) | (refine wpList_store_one rfl 3 _ _ rfl w.heap.size 1 34 (evC { ev0 with kind := 9 } (.slice none 0 0)) (.int .i64 p1) (by rfl) hm.ev (by rfl) (by rw [evC_len]; omega) (by rfl) (storeVar_int _ _ _ _) ?_; intro w7 b7 k7 z7; have hm := hm.step (e' := { ev0 with kind := 9, client := p1 }) (va' := (.slice none 0 0)) b7 k7 rfl; have hv := hv.kept1 k7 hbase; clear b7 k7 z7; simp only [Act.put]) | (refine wpList_store_one rfl 22 _ _ rfl w.heap.size 3 34 (evC { ev0 with kind := 9, client := p1 } (.slice none 0 0)) (vb) (by rfl) hm.ev (by rfl) (by rw [evC_len]; omega) (HV1.out) (storeVar_slice _ _ HV1.out) ?_; intro w7 b7 k7 z7; have hm := hm.step (e' := { ev0 with kind := 9, client := p1, bytes := bt }) (va' := vb) b7 k7 rfl; have hv := hv.kept1 k7 hbase; clear b7 k7 z7; simp only [Act.put]) | fail)
                go_wp2_with (first | (refine wpList_load_blk rfl 34 _ rfl w.heap.size 0 34 (evC { ev0 with kind := 9, client := p1, bytes := bt } vb) (evC { ev0 with kind := 9, client := p1, bytes := bt } vb) _ rfl hm.ev (evC_self' _ _) Tryz.underlying34 rfl evC_size ?_) | (refine wpList_store_blk rfl 34 _ _ rfl w.heap.size 0 34 (evC { ev0 with kind := 9, client := p1, bytes := bt } vb) (evC { ev0 with kind := 9, client := p1, bytes := bt } vb) rfl hm.ev rfl (by first | exact Nat.le_refl _ | (rw [evC_len, evC_len]; exact Nat.le_refl _)) evC_size (evC_cells _ HV1.out) ?_; intro w8 b8 k8 z8; rw [setL_all rfl] at b8; have hm := hm.step b8 k8 rfl; have hv := hv.kept1 k8 hbase; clear b8 k8 z8; simp only [Act.put]) | (refine wpList_store_one rfl 36 _ _ rfl (w.heap.size + 1) 0 36 [.int .i64 0] (.int .i64 0) rfl hm.er rfl (by simp) rfl (storeVar_errno _ _ _ _) ?_; intro w8 b8 k8 z8; have hm := hm.err b8 k8 rfl; have hv := hv.kept1 k8 hbase2; clear b8 k8 z8; simp only [Act.put]) | fail)
                exact read_done hm _ rfl rfl _ HRS.out (hv.base_le (Nat.le_of_lt hbase))
        · have mJ : ((mkB k0).toList == ([105, 110, 106, 101, 99, 116] : List UInt8)) = false := str_ne' (b := [105, 110, 106, 101, 99, 116]) hJ
          have HRP := Lib.hid (HR.out.trans (pln hI hS hT hJ))
          clear hJ hT hS hI
          obtain ⟨r1, r2, r3, hrow⟩ : ∃ r1 r2 r3, rowOf k0 = (r1, r2, r3) := ⟨_, _, _, rfl⟩
          have HROW := Lib.hid hrow
          go_wp2_with fail
          refine (plain_any k0 w4).mono ?_
          rintro e5 w5 ⟨rfl, hw5⟩
          subst hw5
          rw [HROW.out]
          go_upto_region 9 with (first | (refine wpList_store_one rfl 5 _ _ rfl w.heap.size 0 34 (evC ev0 (.slice none 0 0)) (.int .u8 ((r1 : Nat) : Int)) (by rfl) hm.ev (by rfl) (by rw [evC_len]; omega) (by rfl) (storeVar_u8 _ _ _ _) ?_; intro w7 b7 k7 z7; have hm := hm.step (e' := { ev0 with kind := r1 }) (va' := (.slice none 0 0)) b7 k7 rfl; clear b7 k7 z7; simp only [Act.put]) | (refine wpList_store_one rfl 5 _ _ rfl w.heap.size 4 34 (evC { ev0 with kind := r1 } (.slice none 0 0)) (.int .u8 ((r2 : Nat) : Int)) (by rfl) hm.ev (by rfl) (by rw [evC_len]; omega) (by rfl) (storeVar_u8 _ _ _ _) ?_; intro w7 b7 k7 z7; have hm := hm.step (e' := { ev0 with kind := r1, ck := r2 }) (va' := (.slice none 0 0)) b7 k7 rfl; clear b7 k7 z7; simp only [Act.put]) | fail)
          clear c0 c1
          have c1 : w7.cell? ⟨n2 + 1, 0, none⟩ = some (.slice (some ⟨n2, 0, none⟩) n n) := by rw [HN.out]; exact hm.lv.cell 0
          have q0 : w7.cell? ⟨w.heap.size, 0, none⟩ = some (.int .u8 ((r1 : Nat) : Int)) := hm.ev.cell 0
          cases hf : plainT.find? (·.1 = k0) with
          | none =>
            have hr0 : r1 = 0 := by
              have := hrow
              unfold rowOf at this
              rw [hf] at this
              injection this with h1 _
              exact h1.symm
            have HRN := Lib.hid (show readP s = none from HRP.out.trans (by rw [hf]))
            have e0 : (((r1 : Nat) : Int) == 0) = true := by rw [hr0]; rfl
            clear hf hrow hr0
            go_wp2_with fail
            rw [HRN.out]
            exact read_thrown hm _ rfl rfl
          | some t =>
            have ht := List.mem_of_find?_eq_some hf
            obtain ⟨f1, f2, f3, f4, f5⟩ := fldO_plain t ht
            have hrt : t.2 = (r1, r2, r3) := by
              have := hrow
              unfold rowOf at this
              rw [hf] at this
              exact this
            obtain ⟨tx, tr⟩ := t
            simp only at hrt
            subst hrt
            simp only at f1 f2 f3 f4 f5
            have HRQ := Lib.hid (show readP s = if l.length = r3 then (numsP l).map (setF r1 r2) else none from HRP.out.trans (by rw [hf]))
            have e0 : (((r1 : Nat) : Int) == 0) = false := by rw [beq_eq_false_iff_ne]; omega
            have HF1 := Lib.hid f1
            clear hf hrow ht f1 f3 HRP HROW
            by_cases hlr : l.length = r3
            · have e1 : (((n : Nat) : Int) != ((r3 : Nat) : Int) + 1) = false := by
                have := HN.out
                simp only [List.length_cons] at this
                rw [bne_eq_false_iff_eq]; omega
              have q4 : w7.cell? ⟨w.heap.size, 4, none⟩ = some (.int .u8 ((r2 : Nat) : Int)) := hm.ev.cell 4
              have HRS0 := Lib.hid (show readP s = (numsP l).map (setF r1 r2) from HRQ.out.trans (if_pos hlr))
              have HLR := Lib.hid hlr
              clear hlr HRQ
              have hm := hm.as (setF_nil r1 r2).symm
              go_wp2_with fail
              have hsz7 := hm.sz
              refine (fields_of w.heap.size r1 r2 w7 q0 q4).mono ?_
              rintro e21 w21 ⟨v21, rfl, hp21, hb21⟩
              have hm := hm.more hb21
              clear q0 q4 c1
              rcases hp21 with ⟨hl0, rfl⟩ | ⟨N, ty, hN, rfl, hNb⟩
              · have HRS := Lib.hid (show readP s = some (setF r1 r2 []) by
                  have h0 : l = [] := List.eq_nil_of_length_eq_zero (by rw [HLR.out, ← HF1.out, hl0]; rfl)
                  rw [HRS0.out, h0]; rfl)
                clear hl0 hb21
                go_wp2_with fail
                go_loopg [46] 0 (RzA (k0 :: l) n2 r1 r2 w)
                case atStart => exact ⟨rfl, hm⟩
                case round =>
                  clear hm
                  obtain ⟨rfl, hm⟩ := hrel
                  go_wp2_with (first | (refine wpList_load_blk rfl 34 _ rfl w.heap.size 0 34 (evC (setF r1 r2 []) (.slice none 0 0)) (evC (setF r1 r2 []) (.slice none 0 0)) _ rfl hm.ev (evC_self' _ _) Tryz.underlying34 rfl evC_size ?_) | (refine wpList_store_blk rfl 34 _ _ rfl w.heap.size 0 34 (evC (setF r1 r2 []) (.slice none 0 0)) (evC (setF r1 r2 []) (.slice none 0 0)) rfl hm.ev rfl (by first | exact Nat.le_refl _ | (rw [evC_len, evC_len]; exact Nat.le_refl _)) evC_size (evC_cells _ (by rfl)) ?_; intro w8 b8 k8 z8; rw [setL_all rfl] at b8; have hm := hm.step b8 k8 rfl; clear b8 k8 z8; simp only [Act.put]) | (refine wpList_store_one rfl 36 _ _ rfl (w.heap.size + 1) 0 36 [.int .i64 0] (.int .i64 0) rfl hm.er rfl (by simp) rfl (storeVar_errno _ _ _ _) ?_; intro w8 b8 k8 z8; have hm := hm.err b8 k8 rfl; clear b8 k8 z8; simp only [Act.put]) | fail)
                  exact read_done hm _ rfl rfl _ HRS.out (by rw [setF_bytes]; exact OwnsY.nil _ _)
              · have hNw : N ≠ w.heap.size := by have := hm.n2e; omega
                clear hb21 hN
                go_wp2_with fail
                go_loopg [46] (fldO r1 r2).length (RfA (k0 :: l) n2 r1 r2 w N)
                case atStart => exact ⟨0, [], by omega, rfl, rfl, hm, ⟨ty, hNb⟩, by simp⟩
                case round =>
                  clear hm hNb
                  obtain ⟨k, ns, hkg, rfl, hnl, hm, ⟨ty, hNb⟩, hnp⟩ := hrel
                  have HNP := Lib.hid hnp
                  have HKG := Lib.hid hkg
                  clear hnp hkg
                  cases gk with
                  | zero =>
                    have hl0 : ¬ ((k : Nat) : Int) < (((fldO r1 r2).length : Nat) : Int) := by have := HKG.out; omega
                    have HRS := Lib.hid (show readP s = some (setF r1 r2 ns) by
                      have h1 : k = l.length := by have := HKG.out; have := HF1.out; have := HLR.out; omega
                      have h2 := HNP.out
                      rw [h1, List.tail_cons, List.drop_of_length_le (Nat.le_refl _)] at h2
                      rw [HRS0.out, h2]
                      simp [numsP])
                    clear hnl
                    go_wp2_with (first | (refine wpList_load_blk rfl 34 _ rfl w.heap.size 0 34 (evC (setF r1 r2 ns) (.slice none 0 0)) (evC (setF r1 r2 ns) (.slice none 0 0)) _ rfl hm.ev (evC_self' _ _) Tryz.underlying34 rfl evC_size ?_) | (refine wpList_store_blk rfl 34 _ _ rfl w.heap.size 0 34 (evC (setF r1 r2 ns) (.slice none 0 0)) (evC (setF r1 r2 ns) (.slice none 0 0)) rfl hm.ev rfl (by first | exact Nat.le_refl _ | (rw [evC_len, evC_len]; exact Nat.le_refl _)) evC_size (evC_cells _ (by rfl)) ?_; intro w8 b8 k8 z8; rw [setL_all rfl] at b8; have hm := hm.step b8 k8 rfl; clear b8 k8 z8; simp only [Act.put]) | (refine wpList_store_one rfl 36 _ _ rfl (w.heap.size + 1) 0 36 [.int .i64 0] (.int .i64 0) rfl hm.er rfl (by simp) rfl (storeVar_errno _ _ _ _) ?_; intro w8 b8 k8 z8; have hm := hm.err b8 k8 rfl; clear b8 k8 z8; simp only [Act.put]) | fail)
                    exact read_done hm _ rfl rfl _ HRS.out (by rw [setF_bytes]; exact OwnsY.nil _ _)
                  | succ g1 =>
                    have hkl : k < (fldO r1 r2).length := by have := HKG.out; omega
                    have hk3 : k < 3 := by have := HF1.out; omega
                    have hl0 : ((k : Nat) : Int) < (((fldO r1 r2).length : Nat) : Int) := by omega
                    have c0 : wr.cell? ⟨N, k, none⟩ = some (.pointer (some ⟨w.heap.size, (fldO r1 r2).getD k 0, none⟩)) := by
                      rw [hNb.cell]
                      unfold ptrsC
                      rw [List.getElem?_toArray, List.getElem?_map, List.getD_eq_getElem?_getD, List.getElem?_eq_getElem hkl]
                      simp
                    have hkl2 : k < l.length := by have := HF1.out; have := HLR.out; omega
                    have HST := Lib.hid (numsP_step hkl2)
                    have HSE := Lib.hid (fun n => setF_set r1 r2 ns n (by rw [hnl]; exact hkl) (.slice none 0 0))
                    rw [hnl] at HSE
                    have HFL := Lib.hid (fldO_lt r1 r2 k)
                    have HAT := Lib.hid (read_at (k + 1) (n2 + 1) 47 _ (k0 :: l) HX.out wr.heap.size wr hm.lv hm.strs hm.sw.num)
                    rw [show (((k + 1 : Nat) : Int)) = (k : Int) + 1 by omega] at HAT
                    generalize (fldO r1 r2).getD k 0 = fo at *
                    have HLN := Lib.hid hnl
                    clear hkl hkl2 hnl
                    go_wp2_with fail
                    refine HAT.out.mono ?_
                    rintro e22 w22 ⟨hb22, hs22, hn22⟩
                    have hNl := hNb.lt
                    have hNb := hNb.below hb22 hNb.lt
                    have hm := hm.more hb22
                    rw [show (k0 :: l)[k + 1]?.bind numP = l[k]?.bind numP from rfl] at hs22 hn22
                    cases hnk : l[k]?.bind numP with
                    | none =>
                      have := hn22 (by rw [hnk]; rfl)
                      subst this
                      rw [show readP s = none by
                        have h2 := HNP.out
                        rw [List.tail_cons, HST.out, hnk] at h2
                        rw [HRS0.out, h2]; rfl]
                      exact read_thrown hm _ rfl rfl
                    | some x =>
                      have := hs22 _ (by rw [hnk]; rfl)
                      subst this
                      have HNQ := Lib.hid (show numsP l = (numsP (l.drop (k + 1))).map ((ns ++ [x]) ++ ·) by
                        have h2 := HNP.out
                        rw [List.tail_cons, HST.out, hnk] at h2
                        rw [h2]
                        simp [Function.comp_def])
                      clear hnk hs22 hn22 hb22 c0
                      go_wp2_with (first | (refine wpList_store_one rfl 3 _ _ rfl w.heap.size fo 34 (evC (setF r1 r2 ns) (.slice none 0 0)) (.int .i64 x) (by rfl) hm.ev (by rfl) (by rw [evC_len]; have := HFL.out; omega) (by rfl) (storeVar_int _ _ _ _) ?_; intro w7 b7 k7 z7; rw [HSE.out] at b7; have hm := hm.step b7 k7 rfl; have hNb := hNb.kept k7 (by simpa using hNw); clear b7 k7 z7; simp only [Act.put]) | fail)
                      go_roundg g1
                      case measure => omega
                      case rel => exact ⟨k + 1, ns ++ [x], by have := HKG.out; omega, by go_num, by rw [List.length_append, HLN.out]; rfl, hm, ⟨ty, hNb⟩, HNQ.out⟩
            · have e1 : (((n : Nat) : Int) != ((r3 : Nat) : Int) + 1) = true := by
                have := HN.out
                simp only [List.length_cons] at this
                rw [bne_iff_ne]; omega
              have HRN := Lib.hid (show readP s = none from HRQ.out.trans (if_neg hlr))
              clear hlr
              go_wp2_with fail
              rw [HRN.out]
              exact read_thrown hm _ rfl rfl

end Go.Proofs.YtaoehdmdjplegaaGreatDoor
