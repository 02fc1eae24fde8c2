/-
  Walks: breaks.rows: the longest rows of a text, told to a loop's body.
-/
import Derived.Test.YtlfmeagdelmlpaaDoorBlank
namespace Go.Proofs.YtlfmeagdelmlpaaDoor
open Go.RowKit Go.Shelf

attribute [local go_sem] Oper.semAt_some

/-- What a round of a loop over rows keeps: whatever lay below n₀, and the closure's box. -/
def KeepS (n₀ b : Nat) (W W' : World) : Prop := Below n₀ W W' ∧ ∀ v, Boxed W b 9 v → Boxed W' b 9 v
theorem KeepS.refl (n₀ b : Nat) (W : World) : KeepS n₀ b W W := ⟨Below.refl _ _, fun _ h => h⟩
theorem KeepS.trans {n₀ b : Nat} {A B C : World} (h : KeepS n₀ b A B) (k : KeepS n₀ b B C) : KeepS n₀ b A C := ⟨h.1.trans k.1, fun v hv => k.2 v (h.2 v hv)⟩
theorem KeepS.put {n₀ b : Nat} {w : World} (hn : n₀ ≤ w.heap.size) (W : World) (l : Nat) (o o' : Obj) (hl : w.heap.size ≤ l) (h : W.heap[l]? = some o) (hc : o.isCells = false) (hw : o.isWalk = false) : KeepS n₀ b W (W.putObj l o') := by
  refine ⟨belowK_b hn W l o o' hl h hc hw, fun v hb => hb.kept (grownBy_putObj' W l o') fun e => ?_⟩
  cases e
  rw [show W.heap[b]? = _ from hb] at h
  cases h
  cases hc

theorem noGoto_ret_ {Q : Exit → Act → World → Prop} {a : Act} {w : World} (h : Q .ret a w) : Exit.noGoto Q .ret a w := h
theorem noGoto_normal_ {Q : Exit → Act → World → Prop} {a : Act} {w : World} (h : Q .normal a w) : Exit.noGoto Q .normal a w := h
/-- Is the byte at a place a blank? -/
def bAt (l : List UInt8) (k : Nat) : Bool := isB (l.getD k 0)
def encR (s : ByteArray) (x : Nat × Nat) : Array Value := #[.string (mkB (sub s.data.toList x)), .bool (bAt s.data.toList x.1)]
def RwA (s : ByteArray) (J : List (Nat × Nat) → World → Prop) (n₀ b : Nat) (W : World) (from_ : Value) (wr : World) : Prop :=
  ∃ (f : Nat) (pre : List (Nat × Nat)), from_ = .int .i64 f ∧ ((f < s.size ∧ lnTo (okB s.data.toList) (f + 1) = (pre, f)) ∨ (s.size = 0 ∧ f = 0 ∧ pre = [])) ∧ J pre wr ∧ KeepS n₀ b W wr
def RwB (s : ByteArray) (pre : List (Nat × Nat)) (f : Nat) (from_ to_ : Value) : Prop :=
  ∃ t : Nat, from_ = .int .i64 f ∧ f < t ∧ t ≤ s.size ∧ to_ = .int .i64 t ∧ lnTo (okB s.data.toList) t = (pre, f)

set_option maxRecDepth 100000 in
set_option maxHeartbeats 4000000 in
theorem rows1_in (n : Nat) (hn : 1 ≤ n) (l b n₀ : Nat) (s : ByteArray) (hs : s.size ≤ 4000) (J Jx : List (Nat × Nat) → World → Prop)
    (hY : ∀ pre x W, J pre W → pre.length < s.size → YieldAt Fence.wide (n - 1) Tryd.prog l (encR s x) W fun e W' =>
      (e = .returned (.bool true) ∧ J (pre ++ [x]) W' ∧ KeepS n₀ b W W') ∨ (e = .returned (.bool false) ∧ Jx (pre ++ [x]) W'))
    (W : World) (bS : Boxed W b 9 (.string s)) (h0 : J [] W) :
    CallsIn Fence.wide n Tryd.prog 23 #[.func (.yield l) #[] #[], .pointer (some ⟨b, 0, none⟩)] W fun e W' => (∃ v, e = .returned v) ∧
      ((∃ ys, ys = rowsR s.data.toList ∧ J ys W') ∨ (∃ pre, True ∧ Jx pre W')) := by
  refine callsIn_of_wp Tryd.func23 rfl trivial ?_ rfl
  simp only [Tryd.ntmps23, List.size_toArray, List.length_cons, List.length_nil, Nat.reduceAdd, Nat.reduceSub, Array.replicate_succ, Array.replicate_zero, List.push_toArray, List.append_toArray, List.nil_append, List.cons_append]
  have HL := Lib.hid (fun i => lnTo_len (okB s.data.toList) i)
  have kS := bS.cell
  gi_wp2
  refine wpIn_wide.2 (wp_scope_straight ((wpIn_wide (n := n)).1 ?_))
  refine wpIn_seq (wpIn_label ?_)
  simp only [Exit.then]
  gi_wp2
  gi_loopw [3] (RwA s J n₀ b W) (fun i _ => s.size - (intOf i).toNat)
  case atStart =>
    refine ⟨0, [], rfl, ?_, h0, KeepS.refl _ _ _⟩
    rcases Nat.eq_zero_or_pos s.size with h | h
    · exact .inr ⟨h, rfl, rfl⟩
    · exact .inl ⟨h, lnTo_one _⟩
  case round =>
    obtain ⟨f, pre, rfl, hst, hJ, hkb⟩ := hrel
    have kS' := (hkb.2 _ bS).cell
    rcases hst with ⟨hf, hln⟩ | ⟨h0', rfl, rfl⟩
    · have HLN := Lib.hid hln; clear hln
      have hd := getD_len hf
      have hbf := fun w => blank_any s[f] w
      have HD := Lib.hid (show bAt s.data.toList f = isB s[f] by unfold bAt; rw [hd]); clear hd
      generalize hbq : isB s[f] = bf at *
      have HBQ := Lib.hid hbq; clear hbq
      gi_wp2_with (refine ⟨trivial, (callsIn_wide.2 (hbf _)).mono ?_⟩; rintro e w2 ⟨rfl, rfl⟩)
      gi_loop [3, 5] (RwB s pre f) (fun _ i => s.size - (intOf i).toNat)
      case atStart => exact ⟨f + 1, rfl, by omega, by omega, by go_num, HLN.out⟩
      case round =>
        obtain ⟨t, rfl, ht1, ht2, rfl, hlt⟩ := hrel
        have HT := Lib.hid hlt; clear hlt
        have hlp := HL.out t
        rw [HT.out] at hlp
        change pre.length ≤ t - 1 at hlp
        by_cases htn : t < s.size
        · have hbt := fun w => blank_any s[t] w
          have hok : okB s.data.toList f t = (bf == isB s[t]) := by show (bAt _ _ == _) = _; rw [HD.out, getD_len htn]
          have HOK := Lib.hid hok; clear hok
          generalize isB s[t] = bt at *
          cases hq : (bf == bt) with
          | true =>
            obtain rfl : bf = bt := by simpa using hq
            rw [hq] at HOK
            have HN := Lib.hid (lnTo_on HT.out (.inr HOK.out))
            clear hq
            gi_wp2_with (refine ⟨trivial, (callsIn_wide.2 (hbt _)).mono ?_⟩; rintro e w2 ⟨rfl, rfl⟩)
            go_round
            case rel => exact ⟨t + 1, rfl, by omega, by omega, by go_num, HN.out⟩
            case measure => simp [intOf]; omega
          | false =>
            obtain rfl : bt = !bf := by cases bf <;> cases bt <;> simp_all
            rw [hq] at HOK
            have HN := Lib.hid (lnTo_break HT.out ht1 HOK.out)
            clear hq
            obtain ⟨fn, tmps, assign, body, hy, hR⟩ := hY pre (f, t) wr hJ (by omega)
            simp only [encR, HD.out, ← extract_mkB] at hy
            have hnb : (!bf == bf) = false := by cases bf <;> rfl
            gi_wp2_with (refine ⟨trivial, (callsIn_wide.2 (hbt _)).mono ?_⟩; rintro e w2 ⟨rfl, rfl⟩)
            refine hR.mono ?_
            rintro e W3 (⟨rfl, hJ3, hk3⟩ | ⟨rfl, hJx3⟩)
            · gi_wp2
              go_roundw
              case rel => exact ⟨t, pre ++ [(f, t)], rfl, .inl ⟨htn, HN.out⟩, hJ3, hkb.trans hk3⟩
              case measure => simp [intOf]; omega
            · gi_wp2
              refine noGoto_ret_ ?_; refine bodyPost_ret (results_none rfl _ _ _) rfl ?_
              exact ⟨⟨_, rfl⟩, .inr ⟨_, trivial, hJx3⟩⟩
        · obtain rfl : t = s.size := by omega
          have HE := Lib.hid (linesOf_end (by omega) HT.out)
          obtain ⟨fn, tmps, assign, body, hy, hR⟩ := hY pre (f, s.size) wr hJ (by omega)
          simp only [encR, HD.out, ← extract_mkB] at hy
          have HR := Lib.hid (show rowsR s.data.toList = linesOf (okB s.data.toList) s.size by unfold rowsR; rw [size_len])
          gi_wp2
          refine hR.mono ?_
          rintro e W3 (⟨rfl, hJ3, hk3⟩ | ⟨rfl, hJx3⟩)
          · gi_wp2
            refine noGoto_ret_ ?_; refine bodyPost_ret (results_none rfl _ _ _) rfl ?_
            exact ⟨⟨_, rfl⟩, .inl ⟨_, by rw [HR.out, HE.out], hJ3⟩⟩
          · gi_wp2
            refine noGoto_ret_ ?_; refine bodyPost_ret (results_none rfl _ _ _) rfl ?_
            exact ⟨⟨_, rfl⟩, .inr ⟨_, trivial, hJx3⟩⟩
    · have HE := Lib.hid (show rowsR s.data.toList = [] by unfold rowsR linesOf; rw [size_len, if_pos h0'])
      gi_wp2
      refine noGoto_normal_ ?_
      go_end0
      exact ⟨⟨_, rfl⟩, .inl ⟨_, HE.out.symm, hJ⟩⟩

set_option maxHeartbeats 1000000 in
/-- rows: the text is boxed; the function value captures the box. -/
theorem rows_in (n : Nat) (s : ByteArray) (w : World) :
    CallsIn Fence.wide n Tryd.prog 16 #[.string s] w fun e w' => e = .returned (.func (.func 23) #[] #[.pointer (some ⟨w.heap.size, 0, none⟩)]) ∧ w' = w.alloc (.cells #[.string s] 9) := by
  refine callsIn_of_wp Tryd.func16 rfl trivial ?_ rfl
  simp only [Tryd.ntmps16, List.size_toArray, List.length_cons, List.length_nil, Nat.reduceAdd, Nat.reduceSub, Array.replicate_succ, Array.replicate_zero, List.push_toArray, List.append_toArray, List.nil_append, List.cons_append]
  gi_wp2
  go_ret
  exact ⟨rfl, rfl⟩

theorem rows_stops (n : Nat) (hn : 1 ≤ n) (b n₀ : Nat) (s : ByteArray) (hs : s.size ≤ 4000) (w : World) (bS : Boxed w b 9 (.string s)) :
    SeqStopsK Fence.wide n Tryd.prog 23 #[.pointer (some ⟨b, 0, none⟩)] (encR s) (KeepS n₀ b) (fun ys => ys = rowsR s.data.toList) (fun _ => True) s.size w := fun l J Jx W hW _ _ hY h0 =>
  rows1_in n hn l b n₀ s hs J Jx hY W ((hW.block b bS.lt).trans bS) h0

end Go.Proofs.YtlfmeagdelmlpaaDoor
