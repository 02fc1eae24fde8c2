/-
  Walks: flexline.each, flexline.Split: what they answer.
-/
import Derived.Test.YtbhdolghokhfnaaLinesRows
namespace Go.Proofs.Ytbhdolghokhfnaa
open Go.RowKit Go.Shelf

attribute [local go_sem] Oper.semAt_some

def EaA (zs : List Int) (gap R : Int) (J : List (Nat × Nat) → World → Prop) (n₀ b : Nat) (W : World) (from_ long i : Value) (wr : World) : Prop :=
  ∃ k : Nat, k ≤ zs.length ∧ i = .int .i64 k ∧ from_ = .int .i64 ((lnTo (okIn zs gap R) k).2 : Nat) ∧ long = .int .i64 (if k = 0 then 0 else longOf zs gap (lnTo (okIn zs gap R) k).2 k) ∧
    J (lnTo (okIn zs gap R) k).1 wr ∧ KeepB n₀ b W wr

set_option maxRecDepth 100000 in
set_option maxHeartbeats 4000000 in
theorem each1_in (n : Nat) (hn : 1 ≤ n) (l b n₀ : Nat) (v : Value) (zs : List Int) (gap R : Int) (J Jx : List (Nat × Nat) → World → Prop)
    (hl : zs.length ≤ 2048) (hO : zs.all fit = true) (g0 : 0 ≤ gap) (g1 : gap ≤ 1099511627776)
    (hY : ∀ pre x W, J pre W → pre.length < zs.length → YieldAt Fence.wide (n - 1) Try.prog l #[valL x] W fun e W' =>
      (e = .returned (.bool true) ∧ J (pre ++ [x]) W' ∧ KeepB n₀ b W W') ∨ (e = .returned (.bool false) ∧ Jx (pre ++ [x]) W'))
    (W : World) (bS : Boxed W b 22 v) (bG : Boxed W (b + 1) 3 (.int .i64 gap)) (bR : Boxed W (b + 2) 3 (.int .i64 R)) (hI : Ints W n₀ v zs) (h0 : J [] W) :
    CallsIn Fence.wide n Try.prog 74 #[.func (.yield l) #[] #[], .pointer (some ⟨b, 0, none⟩), .pointer (some ⟨b + 1, 0, none⟩), .pointer (some ⟨b + 2, 0, none⟩)] W fun e W' => (∃ v, e = .returned v) ∧
      ((∃ ys, ys = linesOf (okIn zs gap R) zs.length ∧ J ys W') ∨ (∃ pre, True ∧ Jx pre W')) := by
  refine callsIn_of_wp Try.func74 rfl trivial ?_ rfl
  simp only [Try.ntmps74, List.size_toArray, List.length_cons, List.length_nil, Nat.reduceAdd, Nat.reduceSub, Array.replicate_succ, Array.replicate_zero, List.push_toArray, List.append_toArray, List.nil_append, List.cons_append]
  have HO := Lib.hid hO
  have HL := Lib.hid (fun i => lnTo_len (okIn zs gap R) i)
  have HLT := Lib.hid (fun i hi => lnTo_lt (okIn zs gap R) i hi)
  have HBD := Lib.hid (fun a c (h1 : a ≤ c) (h2 : c ≤ zs.length) => longOf_bd hO hl g0 g1 h1 h2)
  obtain ⟨A, c, rfl, hc, hr⟩ := hI
  clear hO
  have kS := bS.cell
  have kG := bG.cell
  have kR := bR.cell
  gi_wp2
  gi_loopw [5, 6, 12] (EaA zs gap R J n₀ b W) (fun _ _ i _ => zs.length - (intOf i).toNat)
  case atStart => exact ⟨0, by omega, rfl, by simp [lnTo], by simp, by simpa [lnTo] using h0, KeepB.refl _ _ _⟩
  case round =>
    obtain ⟨k, hk, rfl, rfl, rfl, hJ, hkb⟩ := hrel
    have kS' := (hkb.2 b _ _ (Nat.le_refl b) (by omega) (by decide) bS).cell
    have kG' := (hkb.2 (b + 1) _ _ (by omega) (by omega) (by decide) bG).cell
    have kR' := (hkb.2 (b + 2) _ _ (by omega) (by omega) (by decide) bR).cell
    have hlp := HL.out k
    by_cases hlt : k < zs.length
    · obtain ⟨ad, rfl, hbb, hcell⟩ := (hr.below hkb.1).val hlt
      rcases Nat.eq_zero_or_pos k with h0k | h0k
      · subst h0k
        have hcell0 : wr.cell? ad = some (.int .i64 zs[0]) := hcell
        obtain ⟨x1, x2⟩ := (fit_iff _).1 (List.all_eq_true.1 HO.out _ (List.getElem_mem hlt))
        have HN := Lib.hid (longOf_one zs gap 0 hlt)
        have H1 := Lib.hid (lnTo_one (okIn zs gap R))
        generalize zs[0] = x at *
        gi_wp2
        go_roundw
        case rel => exact ⟨1, by omega, by go_num, by rw [H1.out]; rfl, by rw [if_neg (by omega), H1.out, HN.out], by rw [H1.out]; simpa [lnTo] using hJ, hkb⟩
        case measure => simp [intOf] <;> omega
      · have hfk := HLT.out k h0k
        obtain ⟨pre, f, hpf⟩ : ∃ pre f, lnTo (okIn zs gap R) k = (pre, f) := ⟨_, _, rfl⟩
        rw [hpf] at hJ hlp hfk ⊢
        have HP := Lib.hid hpf; clear hpf
        change f < k at hfk
        change pre.length ≤ k - 1 at hlp
        obtain ⟨b1, b2⟩ := HBD.out f k (by omega) hk
        obtain ⟨b3, b4⟩ := HBD.out f (k + 1) (by omega) hlt
        have HM := longOf_more zs gap f k hlt
        obtain ⟨x1, x2⟩ := (fit_iff _).1 (List.all_eq_true.1 HO.out _ (List.getElem_mem hlt))
        have HN := Lib.hid (longOf_one zs gap k hlt)
        have HOK := Lib.hid (show okIn zs gap R f k = decide (longOf zs gap f (k + 1) ≤ R) from rfl)
        rw [if_neg (show ¬ k = 0 by omega)]
        rw [HM] at b3 b4 HOK
        have HM' := Lib.hid HM; clear HM
        generalize zs[k] = x at *
        generalize longOf zs gap f k = y at *
        have hkf : (f : Int) < (k : Int) := by omega
        by_cases hmr : y + gap + x ≤ R
        · have HT := Lib.hid (lnTo_on HP.out (.inr (by rw [HOK.out]; exact decide_eq_true hmr)))
          gi_wp2
          go_roundw
          case rel => exact ⟨k + 1, hlt, by go_num, by rw [HT.out], by rw [if_neg (by omega), HT.out, HM'.out], by rw [HT.out]; exact hJ, hkb⟩
          case measure => simp [intOf] <;> omega
        · have HT := Lib.hid (lnTo_break HP.out hfk (by rw [HOK.out]; exact decide_eq_false hmr))
          have hmr' : R < y + gap + x := by omega
          obtain ⟨fn, tmps, assign, body, hy, hR⟩ := hY pre (f, k) wr hJ (by omega)
          dsimp only [valL] at hy
          gi_wp2
          refine hR.mono ?_
          rintro e W3 (⟨rfl, hJ3, hk3⟩ | ⟨rfl, hJx3⟩)
          · gi_wp2
            go_roundw
            case rel => exact ⟨k + 1, hlt, by go_num, by rw [HT.out], by rw [if_neg (by omega), HT.out, HN.out], by rw [HT.out]; exact hJ3, hkb.trans hk3⟩
            case measure => simp [intOf] <;> omega
          · gi_wp2
            refine bodyPost_ret (results_none rfl _ _ _) rfl ?_
            exact ⟨⟨_, rfl⟩, .inr ⟨_, trivial, hJx3⟩⟩
    · obtain rfl : k = zs.length := by omega
      rcases Nat.eq_zero_or_pos zs.length with h0k | h0k
      · have HE := Lib.hid (show linesOf (okIn zs gap R) zs.length = [] by rw [h0k]; rfl)
        have HF := Lib.hid (show lnTo (okIn zs gap R) zs.length = ([], 0) by rw [h0k]; rfl)
        rw [HF.out] at hJ ⊢
        gi_wp2
        go_end0
        exact ⟨⟨_, rfl⟩, .inl hJ⟩
      · have hfk := HLT.out _ h0k
        obtain ⟨pre, hpre⟩ : ∃ pre, (lnTo (okIn zs gap R) zs.length).1 = pre := ⟨_, rfl⟩
        obtain ⟨f, hf⟩ : ∃ f, (lnTo (okIn zs gap R) zs.length).2 = f := ⟨_, rfl⟩
        have HE := Lib.hid (linesOf_end h0k (show lnTo (okIn zs gap R) zs.length = (pre, f) by rw [← hpre, ← hf]))
        rw [hpre] at hJ hlp
        rw [hf] at hfk ⊢
        clear hpre hf
        have hkf : (f : Int) < (zs.length : Int) := by omega
        obtain ⟨fn, tmps, assign, body, hy, hR⟩ := hY pre (f, zs.length) wr hJ (by omega)
        dsimp only [valL] at hy
        gi_wp2
        refine hR.mono ?_
        rintro e W3 (⟨rfl, hJ3, hk3⟩ | ⟨rfl, hJx3⟩)
        · gi_wp2
          go_end0
          exact ⟨⟨_, rfl⟩, .inl ⟨_, HE.out.symm, hJ3⟩⟩
        · gi_wp2
          go_end0
          exact ⟨⟨_, rfl⟩, .inr ⟨_, trivial, hJx3⟩⟩

set_option maxHeartbeats 4000000 in
/-- each: its parameters are boxed; the function value captures the boxes. -/
theorem each_in (n : Nat) (v : Value) (gap R : Int) (w : World) (A : Option Addr) (len cap : Nat) (hv : v = .slice A len cap) :
    CallsIn Fence.wide n Try.prog 58 #[v, .int .i64 gap, .int .i64 R] w fun e w' => e = .returned (.func (.func 74) #[] #[.pointer (some ⟨w.heap.size, 0, none⟩), .pointer (some ⟨w.heap.size + 1, 0, none⟩), .pointer (some ⟨w.heap.size + 2, 0, none⟩)]) ∧
      w' = ((w.alloc (.cells #[v] 22)).alloc (.cells #[.int .i64 gap] 3)).alloc (.cells #[.int .i64 R] 3) := by
  subst hv
  refine callsIn_of_wp Try.func58 rfl trivial ?_ rfl
  simp only [Try.ntmps58, List.size_toArray, List.length_cons, List.length_nil, Nat.reduceAdd, Nat.reduceSub, Array.replicate_succ, Array.replicate_zero, List.push_toArray, List.append_toArray, List.nil_append, List.cons_append]
  gi_wp2
  go_ret
  exact ⟨rfl, rfl⟩

theorem each_stops (n : Nat) (hn : 1 ≤ n) (b n₀ : Nat) (v : Value) (zs : List Int) (gap R : Int) (hl : zs.length ≤ 2048) (hO : zs.all fit = true) (g0 : 0 ≤ gap) (g1 : gap ≤ 1099511627776)
    (w : World) (hn₀ : n₀ ≤ w.heap.size) (bS : Boxed w b 22 v) (bG : Boxed w (b + 1) 3 (.int .i64 gap)) (bR : Boxed w (b + 2) 3 (.int .i64 R)) (hI : Ints w n₀ v zs) :
    SeqStopsK Fence.wide n Try.prog 74 #[.pointer (some ⟨b, 0, none⟩), .pointer (some ⟨b + 1, 0, none⟩), .pointer (some ⟨b + 2, 0, none⟩)] (fun x : Nat × Nat => #[valL x]) (KeepB n₀ b) (fun ys => ys = linesOf (okIn zs gap R) zs.length) (fun _ => True) zs.length w := fun l J Jx W hW _ _ hY h0 =>
  each1_in n hn l b n₀ v zs gap R J Jx hl hO g0 g1 hY W ((hW.block b bS.lt).trans bS) ((hW.block (b + 1) bG.lt).trans bG) ((hW.block (b + 2) bR.lt).trans bR) (hI.below (hW.mono hn₀)) h0

end Go.Proofs.Ytbhdolghokhfnaa
