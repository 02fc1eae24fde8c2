/-
  Walks: package windowpaneref15: long, Split, Same: what each call answers.
-/
import Derived.Test.YtpelapdadgmlkaaSplit2
namespace Go.Proofs.Ytpelapdadgmlkaa
open Go.RowKit

theorem sub_sum (zs : List Int) {a b : Nat} (h : a ≤ b) : ((zs.take b).drop a).sum = (zs.take b).sum - (zs.take a).sum := by
  have h1 : (zs.take b).sum = ((zs.take b).take a).sum + ((zs.take b).drop a).sum := by rw [← List.sum_append, List.take_append_drop]
  rw [List.take_take, show min a b = a by omega] at h1
  omega
theorem sub_len (zs : List Int) {a b : Nat} (hb : b ≤ zs.length) : ((zs.take b).drop a).length = b - a := by simp; omega
theorem sub_fit {zs : List Int} (h : zs.all fit = true) (a b : Nat) : ((zs.take b).drop a).all fit = true :=
  List.all_eq_true.2 fun x hx => List.all_eq_true.1 h x (List.mem_of_mem_take (List.mem_of_mem_drop hx))
theorem sub_long (zs : List Int) (gap : Int) {a b : Nat} (h : a < b) (hb : b ≤ zs.length) : gap * ((((zs.take b).drop a).length : Int) - 1) + ((zs.take b).drop a).sum = longOf zs gap a b := by
  rw [sub_sum zs (by omega), sub_len zs hb]
  unfold longOf
  rw [show ((b - a : Nat) : Int) - 1 = (b : Int) - (a : Int) - 1 by omega]
theorem Reads.sub {w : World} {B : Nat} {A : Option Addr} {zs : List Int} (h : Reads w B 1 A zs.length (zs.map (Value.int .i64))) {a b : Nat} (hab : a < b) (hb : b ≤ zs.length) :
    ∃ ad, A = some ad ∧ Reads w B 1 (some (ad.add a)) ((zs.take b).drop a).length (((zs.take b).drop a).map (Value.int .i64)) := by
  obtain ⟨ad, rfl, hbk, _⟩ := Reads.val h (show a < zs.length by omega)
  refine ⟨ad, rfl, by simp, fun hn => ⟨_, rfl, ?_, fun j u hu => ?_⟩⟩
  · show (ad.add a).block < B
    unfold Addr.add
    split <;> exact hbk
  · have hl := sub_len zs (a := a) hb
    have hj : j < ((zs.take b).drop a).length := by
      rcases Nat.lt_or_ge j (((zs.take b).drop a).map (Value.int .i64)).length with h1 | h1
      · simpa using h1
      · rw [List.getElem?_eq_none h1] at hu; cases hu
    obtain ⟨ad', e, _, hc⟩ := Reads.val h (show a + j < zs.length by omega)
    cases e
    rw [List.getElem?_eq_getElem (by simpa using hj)] at hu
    injection hu with hu
    rw [← hu, Addr.add_add, hc]
    simp

def LgA (zs : List Int) (G : Int) (w0 : World) (n i : Value) (wr : World) : Prop :=
  ∃ k : Nat, k ≤ zs.length ∧ i = .int .i64 k ∧ n = .int .i64 (G + (zs.take k).sum) ∧ wr = w0

set_option maxRecDepth 100000 in
set_option maxHeartbeats 4000000 in
theorem rlong_any (zs : List Int) (gap : Int) (v : Value) (B : Nat) (w : World) (h : Ints w B v zs) (hl : zs.length ≤ 2048) (h1 : 0 < zs.length) (hO : zs.all fit = true) (g0 : 0 ≤ gap) (g1 : gap ≤ 1099511627776) :
    Calls Try.prog 99 #[v, .int .i64 gap] w fun e w' => e = .returned (.int .i64 (gap * ((zs.length : Int) - 1) + zs.sum)) ∧ w = w' := by
  obtain ⟨A, c, rfl, _, hr⟩ := h
  obtain ⟨G, hG⟩ : ∃ G, gap * ((zs.length : Int) - 1) = G := ⟨_, rfl⟩
  have hG0 : 0 ≤ G := by rw [← hG]; exact Int.mul_nonneg (by omega) (by omega)
  have hG1 : G ≤ 1099511627776 * 2048 := by rw [← hG]; exact Int.mul_le_mul g1 (by omega) (by omega) (by omega)
  have hw1 : IntKind.i64.wrap (gap * ((zs.length : Int) - 1)) = G := by rw [hG, IntKind.wrap_i64]; omega
  have HG := Lib.hid hG; clear hG
  have HA := Lib.hid hO; clear hO
  go_enter Try.func99, Try.ntmps99
  go_wp2_with fail
  go_loopw [5, 6] (LgA zs G w) (fun _ i _ => zs.length - (intOf i).toNat)
  case atStart => exact ⟨0, by omega, rfl, by simp, rfl⟩
  case round =>
    obtain ⟨k, hk, rfl, rfl, rfl⟩ := hrel
    obtain ⟨b1, b2⟩ := sum_bd HA.out k
    by_cases hlt : k < zs.length
    · obtain ⟨ad, rfl, hbb, hcell⟩ := hr.val hlt
      have HT := Lib.hid (take_sum zs k hlt)
      obtain ⟨b3, b4⟩ := (fit_iff _).1 (List.all_eq_true.1 HA.out _ (List.getElem_mem hlt))
      generalize zs[k] = x at *
      generalize (zs.take k).sum = S at *
      go_wp2_with fail
      go_roundw
      case rel => exact ⟨k + 1, hlt, by go_num, by rw [HT.out]; go_num, rfl⟩
      case measure => simp [intOf] <;> omega
    · obtain rfl : k = zs.length := by omega
      rw [List.take_of_length_le (Nat.le_refl _)] at b1 b2 ⊢
      go_wp2_with fail
      go_ret
      exact ⟨by rw [HG.out]; rfl, rfl⟩

/-- 'out = append(out, Line{..})': the one line lies in a new block of its own. -/
theorem append_line {ops : Array Oper} {rest : List Oper} {o : Oper} {a : Act} {Q : Exit → Act → World → Prop} (w : World) (x : Nat × Nat) (hgd : o.guard = none) (s y : Operand)
    (ho : o.op = .call { callee := .builtin .append, args := #[s, y], argTypes := #[35, 35] })
    (base : Nat) (v : Value) (L : List (Nat × Nat)) (hs : a.eval s = v) (hown : OwnsL w base v L)
    (hx : a.eval y = .slice (some ⟨w.heap.size, 0, none⟩) 1 1)
    (h47 : L.length < 1000000) (hbase : base ≤ w.heap.size)
    (h : ∀ v' w', OwnsL w' base v' (L ++ [x]) → Below base w w' → wpList Try.prog ops Q rest (a.put o.dst v') w') : wpList Try.prog ops Q (o :: rest) a (w.alloc (.cells #[.int .i64 (x.1 : Int), .int .i64 (x.2 : Int)] 42)) := by
  obtain ⟨i0, hi0, hz0, hz1, hz2⟩ := info_parts Try.infoLine
  have hlt := fun k (e : v.ownBlock = some k) => (World.ownsRow.lt hown k e).1
  refine wpList_append_any _ hgd s y _ ho base 42 i0 _ 2 16 Try.underlying35 hi0 hz0 hz1 hz2 rfl (by omega) v _ _ hs (World.ownsRow.alloc hown _) (w.heap.size + 1) _ 1 1 (encL x) hx ?_ ?_ (by simp only [maxLen]; omega) (by omega) (by simp; omega) ?_
  · exact ⟨rfl, fun _ => ⟨_, rfl, by simp, cells_two w x⟩⟩
  · intro u hu
    simp [encL] at hu
    rcases hu with rfl | rfl <;> rfl
  · intro v' w' h1 h2 _
    refine h v' w' (by unfold OwnsL; rw [List.length_append, rowL_snoc]; exact h1) ?_
    exact ((Below.refl base w).alloc hbase _).grown h2 (by simp; omega) (fun k e => hlt k e)

set_option maxRecDepth 100000 in
set_option maxHeartbeats 4000000 in
theorem rsplit_bad (zs : List Int) (gap room : Int) (wrap : Bool) (v : Value) (B : Nat) (w : World) (h : Ints w B v zs) (hm : zs.length ≤ 17592186044416) (hbad : 2048 < zs.length ∨ gap < 0 ∨ room < -1) :
    Calls Try.prog 46 #[v, .int .i64 gap, .int .i64 room, .bool wrap] w (SplitPost zs gap room wrap w) := by
  have HR := Lib.hid (split_arg (wrap := wrap) hbad)
  obtain ⟨A, c, rfl, _, _⟩ := h
  have h3 : 2048 < zs.length ∨ (¬ 2048 < zs.length ∧ gap < 0) ∨ (¬ 2048 < zs.length ∧ ¬ gap < 0 ∧ room < -1) := by omega
  clear hbad
  rcases h3 with g1 | ⟨g1, g2⟩ | ⟨g1, g2, g3⟩
  all_goals
    go_enter Try.func46, Try.ntmps46
    go_wp2_with fail
    go_ret2
    exact ⟨_, by rw [HR.out]; rfl, by rw [HR.out]; exact OwnsL.nil _ _, Below.refl _ _⟩

set_option maxRecDepth 100000 in
set_option maxHeartbeats 4000000 in
theorem rsplit_unfit (zs : List Int) (gap room : Int) (wrap : Bool) (v : Value) (B : Nat) (w : World) (h : Ints w B v zs)
    (g1 : ¬ 2048 < zs.length) (g2 : ¬ gap < 0) (g3 : ¬ room < -1) (hun : ¬ (zs.all fit = true ∧ fit gap = true ∧ fit room = true)) :
    Calls Try.prog 46 #[v, .int .i64 gap, .int .i64 room, .bool wrap] w (SplitPost zs gap room wrap w) := by
  have HR := Lib.hid (split_over (wrap := wrap) (show ¬ (2048 < zs.length ∨ gap < 0 ∨ room < -1) by omega) hun)
  have hf1 := rall zs v B w h (by omega)
  have hf2 := rfits gap w
  have hf3 := rfits room w
  obtain ⟨A, c, rfl, _, _⟩ := h
  cases hA : zs.all fit with
  | false =>
    rw [hA] at hf1
    clear hun hA hf2 hf3
    go_enter Try.func46, Try.ntmps46
    go_wp2_with fail
    refine hf1.mono ?_
    rintro e w2 ⟨rfl, rfl⟩
    go_wp2_with fail
    go_ret2
    exact ⟨_, by rw [HR.out]; rfl, by rw [HR.out]; exact OwnsL.nil _ _, Below.refl _ _⟩
  | true =>
    rw [hA] at hf1
    cases hg : fit gap with
    | false =>
      rw [hg] at hf2
      clear hun hA hg hf3
      go_enter Try.func46, Try.ntmps46
      go_wp2_with fail
      refine hf1.mono ?_
      rintro e w2 ⟨rfl, rfl⟩
      go_wp2_with fail
      refine hf2.mono ?_
      rintro e w2 ⟨rfl, rfl⟩
      go_wp2_with fail
      go_ret2
      exact ⟨_, by rw [HR.out]; rfl, by rw [HR.out]; exact OwnsL.nil _ _, Below.refl _ _⟩
    | true =>
      have hr : fit room = false := by
        cases h1 : fit room with
        | false => rfl
        | true => exact absurd ⟨hA, hg, h1⟩ hun
      rw [hg] at hf2
      rw [hr] at hf3
      clear hun hA hg hr
      go_enter Try.func46, Try.ntmps46
      go_wp2_with fail
      refine hf1.mono ?_
      rintro e w2 ⟨rfl, rfl⟩
      go_wp2_with fail
      refine hf2.mono ?_
      rintro e w2 ⟨rfl, rfl⟩
      go_wp2_with fail
      refine hf3.mono ?_
      rintro e w2 ⟨rfl, rfl⟩
      go_wp2_with fail
      go_ret2
      exact ⟨_, by rw [HR.out]; rfl, by rw [HR.out]; exact OwnsL.nil _ _, Below.refl _ _⟩

/-- Between two lines. -/
def RsO (ok : Nat → Nat → Bool) (n : Nat) (w1 : World) (out from_ : Value) (wr : World) : Prop :=
  ∃ (f : Nat) (L : List (Nat × Nat)), from_ = .int .i64 f ∧ OwnsL wr w1.heap.size out L ∧ Below w1.heap.size w1 wr ∧ ((f = n ∧ L = linesOf ok n) ∨ (f < n ∧ lnTo ok (f + 1) = (L, f)))
/-- Within a line. -/
def RsI (ok : Nat → Nat → Bool) (n f : Nat) (L : List (Nat × Nat)) (w1 : World) (t_ : Value) (wr : World) : Prop :=
  ∃ t : Nat, f < t ∧ t ≤ n ∧ t_ = .int .i64 t ∧ lnTo ok t = (L, f) ∧ wr = w1

set_option maxRecDepth 100000 in
set_option maxHeartbeats 4000000 in
theorem rsplit_good (zs : List Int) (gap room : Int) (wrap : Bool) (v : Value) (B : Nat) (w : World) (h : Ints w B v zs) (hB : B ≤ w.heap.size)
    (g1 : ¬ 2048 < zs.length) (g2 : ¬ gap < 0) (g3 : ¬ room < -1) (hA : zs.all fit = true) (hg : fit gap = true) (hr : fit room = true) :
    Calls Try.prog 46 #[v, .int .i64 gap, .int .i64 room, .bool wrap] w (SplitPost zs gap room wrap w) := by
  have HR := Lib.hid (split_ok (wrap := wrap) (show ¬ (2048 < zs.length ∨ gap < 0 ∨ room < -1) by omega) ⟨hA, hg, hr⟩)
  have hf1 := rall zs v B w h (by omega)
  have hf2 := rfits gap w
  have hf3 := rfits room w
  rw [hA] at hf1
  rw [hg] at hf2
  rw [hr] at hf3
  obtain ⟨p1, p2⟩ := (fit_iff _).1 hg
  obtain ⟨p3, p4⟩ := (fit_iff _).1 hr
  have h' := h
  obtain ⟨A, c, rfl, hc, hrd⟩ := h'
  have HOK := Lib.hid (fun f t => show okAt zs gap room wrap f t = (!wrap || decide (room = -1) || decide (longOf zs gap f (t + 1) ≤ room)) from rfl)
  have HLN := Lib.hid (fun i => lnTo_len (okAt zs gap room wrap) i)
  have HON := Lib.hid (fun (h0 : 0 < zs.length) => lnTo_one (okAt zs gap room wrap))
  generalize okAt zs gap room wrap = ok at *
  have HA := Lib.hid hA
  clear hA hg hr
  go_enter Try.func46, Try.ntmps46
  go_wp2_with fail
  refine hf1.mono ?_
  rintro e w2 ⟨rfl, rfl⟩
  go_wp2_with fail
  refine hf2.mono ?_
  rintro e w2 ⟨rfl, rfl⟩
  go_wp2_with fail
  refine hf3.mono ?_
  rintro e w2 ⟨rfl, rfl⟩
  clear hf1 hf2 hf3
  go_wp2_with fail
  go_loopw [10, 11] (RsO ok zs.length w) (fun _ f _ => zs.length - (intOf f).toNat)
  case atStart =>
    refine ⟨0, [], rfl, OwnsL.nil _ _, Below.refl _ _, ?_⟩
    rcases Nat.eq_zero_or_pos zs.length with h0 | h0
    · exact .inl ⟨h0.symm, by rw [h0]; rfl⟩
    · exact .inr ⟨h0, HON.out h0⟩
  case round =>
    obtain ⟨f, L, rfl, hown, hbr, hcs⟩ := hrel
    rcases hcs with ⟨rfl, rfl⟩ | ⟨hlt, hln⟩
    · go_wp2_with fail
      go_ret2
      exact ⟨_, by rw [HR.out]; rfl, by rw [HR.out]; exact hown, hbr⟩
    · have hrd2 := hrd.below (hbr.mono hB)
      have hbase := hbr.size
      have Hln := Lib.hid hln; clear hln
      have hfl : (f : Int) < (zs.length : Int) := by omega
      go_wp2_with fail
      go_loopw [12] (RsI ok zs.length f L wr) (fun t _ => zs.length - (intOf t).toNat)
      case atStart => exact ⟨f + 1, by omega, by omega, by go_num, Hln.out, rfl⟩
      case round =>
        obtain ⟨t, ht1, ht2, rfl, htl, rfl⟩ := hrel
        have Htl := Lib.hid htl; clear htl
        have hpl := HLN.out t
        rw [Htl.out] at hpl
        change L.length ≤ t - 1 at hpl
        have hapl : L.length < 1000000 := by omega
        by_cases htn : t < zs.length
        · have hoks := HOK.out f t
          rcases (show wrap = false ∨ (wrap = true ∧ room = -1) ∨ (wrap = true ∧ room ≠ -1) by cases wrap <;> simp <;> omega) with rfl | ⟨rfl, hr1⟩ | ⟨rfl, hr1⟩
          · have HT := Lib.hid (lnTo_on Htl.out (.inr (by rw [hoks]; rfl)))
            clear hoks
            go_wp2_with fail
            go_roundw
            case rel => exact ⟨t + 1, by omega, by omega, by go_num, HT.out, rfl⟩
            case measure => simp [intOf] <;> omega
          · have HT := Lib.hid (lnTo_on Htl.out (.inr (by rw [hoks, hr1]; rfl)))
            have hrq : (room == -1) = true := by rw [hr1]; rfl
            clear hoks
            go_wp2_with fail
            go_roundw
            case rel => exact ⟨t + 1, by omega, by omega, by go_num, HT.out, rfl⟩
            case measure => simp [intOf] <;> omega
          · have hrq : (room == -1) = false := beq_eq_false_iff_ne.2 hr1
            obtain ⟨ad, rfl, hsub⟩ := Reads.sub hrd2 (show f < t + 1 by omega) (show t + 1 ≤ zs.length by omega)
            have hsl := sub_len zs (a := f) (show t + 1 ≤ zs.length by omega)
            have lg := fun c' (hc' : ((zs.take (t + 1)).drop f).length ≤ c') => rlong_any ((zs.take (t + 1)).drop f) gap _ B wr ⟨_, c', rfl, hc', hsub⟩ (by omega) (by omega) (sub_fit HA.out _ _) (by omega) p2
            rw [sub_long zs gap (show f < t + 1 by omega) (by omega)] at lg
            rw [hsl] at lg
            have hoks2 : ok f t = decide (longOf zs gap f (t + 1) ≤ room) := by rw [hoks]; simp [hr1]
            generalize longOf zs gap f (t + 1) = lo at *
            by_cases hlr : lo ≤ room
            · have HT := Lib.hid (lnTo_on Htl.out (.inr (by rw [hoks2]; exact decide_eq_true hlr)))
              clear hoks hoks2 hsub hrd hrd2
              go_wp2_with fail
              refine (lg (c - f) (by omega)).mono ?_
              rintro e w4 ⟨rfl, rfl⟩
              clear lg
              go_wp2_with fail
              go_roundw
              case rel => exact ⟨t + 1, by omega, by omega, by go_num, HT.out, rfl⟩
              case measure => simp [intOf] <;> omega
            · have HT := Lib.hid (lnTo_break Htl.out ht1 (by rw [hoks2]; exact decide_eq_false hlr))
              clear hoks hoks2 hsub hrd hrd2
              go_wp2_with fail
              refine (lg (c - f) (by omega)).mono ?_
              rintro e w4 ⟨rfl, rfl⟩
              clear lg
              go_wp2_with (at_builtin; refine append_line _ (f, t) rfl _ _ rfl w.heap.size u10 _ rfl hown rfl hapl hbase ?_; intro v3 w3 hown3 hb3)
              go_roundw
              case rel => exact ⟨t, _, rfl, hown3, hbr.trans hb3, .inr ⟨htn, HT.out⟩⟩
              case measure => simp [intOf] <;> omega
        · obtain rfl : t = zs.length := by omega
          have HE := Lib.hid (linesOf_end (show 0 < zs.length by omega) Htl.out)
          go_wp2_with (at_builtin; refine append_line _ (f, zs.length) rfl _ _ rfl w.heap.size u10 _ rfl hown rfl hapl hbase ?_; intro v3 w3 hown3 hb3)
          go_roundw
          case rel => exact ⟨zs.length, _, rfl, hown3, hbr.trans hb3, .inl ⟨rfl, HE.out.symm⟩⟩
          case measure => simp [intOf] <;> omega

/-- windowpaneref15.Split: what it answers. -/
theorem rsplit_any (zs : List Int) (gap room : Int) (wrap : Bool) (v : Value) (B : Nat) (w : World) (h : Ints w B v zs) (hB : B ≤ w.heap.size) (hm : zs.length ≤ 17592186044416) :
    Calls Try.prog 46 #[v, .int .i64 gap, .int .i64 room, .bool wrap] w (SplitPost zs gap room wrap w) := by
  by_cases hb : 2048 < zs.length ∨ gap < 0 ∨ room < -1
  · exact rsplit_bad zs gap room wrap v B w h hm hb
  · by_cases hf : zs.all fit = true ∧ fit gap = true ∧ fit room = true
    · exact rsplit_good zs gap room wrap v B w h hB (by omega) (by omega) (by omega) hf.1 hf.2.1 hf.2.2
    · exact rsplit_unfit zs gap room wrap v B w h (by omega) (by omega) (by omega) hf
/-- flexline.Split: what it answers. -/
theorem split_any (zs : List Int) (gap room : Int) (wrap : Bool) (v : Value) (B : Nat) (w : World) (h : Ints w B v zs) (hB : B ≤ w.heap.size) (hm : zs.length ≤ 17592186044416) :
    Calls Try.prog 47 #[v, .int .i64 gap, .int .i64 room, .bool wrap] w (SplitPost zs gap room wrap w) := by
  by_cases hb : 2048 < zs.length ∨ gap < 0 ∨ room < -1
  · exact split_bad zs gap room wrap v B w h hm hb
  · by_cases hf : zs.all fit = true ∧ fit gap = true ∧ fit room = true
    · exact split_good zs gap room wrap v B w h hB (by omega) (by omega) (by omega) hf.1 hf.2.1 hf.2.2
    · exact split_unfit zs gap room wrap v B w h (by omega) (by omega) (by omega) hf

/-! Same. -/
def SaA (n : Nat) (w0 : World) (i : Value) (wr : World) : Prop := ∃ k : Nat, k ≤ n ∧ i = .int .i64 k ∧ Quiet w0 wr

set_option maxRecDepth 100000 in
set_option maxHeartbeats 4000000 in
theorem rsame_lines (L : List (Nat × Nat)) (v u : Value) (lo hi lo' hi' : Nat) (w : World) (h : LinesIn w lo hi v L) (h' : LinesIn w lo' hi' u L) (hm : L.length ≤ 1000000) :
    Calls Try.prog 48 #[v, u] w fun e w' => e = .returned (.bool true) ∧ Quiet w w' := by
  rcases h with ⟨rfl, A, c, rfl⟩ | ⟨g, cap, rfl, h0, _, _, hc, hcs, _⟩
  · rcases h' with ⟨_, A', c', rfl⟩ | ⟨g', cap', _, h0, _⟩
    · go_enter Try.func48, Try.ntmps48
      go_wp2_with fail
      go_loopw [5] (SaA 0 w) (fun _ _ => 0)
      case atStart => exact ⟨0, by omega, rfl, Quiet.refl _⟩
      case round =>
        obtain ⟨i, hi, rfl, mo, rfl⟩ := hrel
        obtain rfl : i = 0 := by omega
        go_wp2_with fail
        go_ret
        exact ⟨rfl, _, rfl⟩
    · simp at h0
  · rcases h' with ⟨rfl, _⟩ | ⟨g', cap', rfl, _, _, _, hc', hcs', _⟩
    · simp at h0
    · go_enter Try.func48, Try.ntmps48
      go_wp2_with fail
      go_loopw [5] (SaA L.length w) (fun i _ => L.length - (intOf i).toNat)
      case atStart => exact ⟨0, by omega, rfl, Quiet.refl _⟩
      case round =>
        obtain ⟨i, hi, rfl, mo, rfl⟩ := hrel
        by_cases hli : i < L.length
        · obtain ⟨a1, a2⟩ := hcs i hli
          obtain ⟨b1, b2⟩ := hcs' i hli
          have HC := Lib.hid hcs
          have HC' := Lib.hid hcs'
          clear hcs hcs'
          generalize (L[i]).1 = x at *
          generalize (L[i]).2 = y at *
          go_wp2_with fail
          go_quiet (fail)
          go_wp2_with fail
          go_roundw
          case rel => exact ⟨i + 1, hli, by go_num, _, rfl⟩
          case measure => simp [intOf]; omega
        · obtain rfl : i = L.length := by omega
          clear hcs hcs'
          go_wp2_with fail
          go_ret
          exact ⟨rfl, _, rfl⟩

end Go.Proofs.Ytpelapdadgmlkaa
