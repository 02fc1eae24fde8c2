/-
  Walks: script.style: what it answers, and what it throws (under way).
-/
import Derived.Deep.LoopGhost
import Derived.Test.YtaoehdmdjplegaaGreatDoorPlain32
import Derived.Test.YtaoehdmdjplegaaGreatDoorSetP
namespace Go.Proofs.YtaoehdmdjplegaaGreatDoor
open Go.RowKit Go.Shelf

theorem index_eq1 : ∀ l : List UInt8, match cutEq l with
    | none => Lib.index l [61] = -1
    | some (a, b) => Lib.index l [61] = ((a.length : Nat) : Int) ∧ l = a ++ 61 :: b
  | [] => rfl
  | c :: l => by
    have ih := index_eq1 l
    rw [cutEq]
    by_cases h : c = 61
    · subst h
      rw [if_pos rfl]
      exact ⟨by rw [Lib.index]; rfl, rfl⟩
    · rw [if_neg h]
      have hp : List.isPrefixOf [61] (c :: l) = false := by simp [List.isPrefixOf, Ne.symm h]
      cases hc : cutEq l with
      | none =>
        rw [hc] at ih
        simp only [Option.map_none]
        simp only at ih
        rw [Lib.index, hp, ih]; rfl
      | some ab =>
        obtain ⟨a, b⟩ := ab
        rw [hc] at ih
        simp only at ih
        simp only [Option.map_some]
        refine ⟨?_, by rw [ih.2]; rfl⟩
        rw [Lib.index, hp, ih.1]
        have : (((a.length : Nat) : Int) == -1) = false := by rw [beq_eq_false_iff_ne]; omega
        simp [this]
theorem cut_eq1 (l : List UInt8) : Lib.cut l [61] = match cutEq l with
    | none => (l, [], false)
    | some (a, b) => (a, b, true) := by
  have h := index_eq1 l
  unfold Lib.cut
  cases hc : cutEq l with
  | none =>
    rw [hc] at h
    simp only at h
    rw [h]; rfl
  | some ab =>
    obtain ⟨a, b⟩ := ab
    rw [hc] at h
    simp only at h
    rw [h.1, if_pos (by omega)]
    simp only [Int.toNat_natCast]
    rw [h.2]
    simp
theorem cutEq_len {l a b : List UInt8} (h : cutEq l = some (a, b)) : a.length ≤ l.length ∧ b.length ≤ l.length := by
  have := index_eq1 l
  rw [h] at this
  simp only at this
  rw [this.2]
  simp; omega
theorem find_step (x : List UInt8) (T : List (List (List UInt8))) (i : Nat) (hi : i < T.length) (j : Nat) : findPick (T.drop i) j x = if 0 < idxW (T[i]'hi) x ∧ idxW (T[i]'hi) x < (T[i]'hi).length ∧ x ≠ [63] then some (j, idxW (T[i]'hi) x) else findPick (T.drop (i + 1)) (j + 1) x := by
  rw [List.drop_eq_getElem_cons hi, findPick]

theorem ptr_pick (g : Nat) (i : Fin 7) (W : World) : (Instr.index 92 (.agg (ptrsC g 0 pickO)) (.int .i64 ((i.val : Nat) : Int))).run Tryz.prog W = .ok (.pointer (some ⟨g, pickO.getD i.val 0, none⟩)) W := by
  have e0 : (Instr.index 92 (.agg (ptrsC g 0 pickO)) (.int .i64 ((0 : Nat) : Int))).run Tryz.prog W = .ok (.pointer (some ⟨g, pickO.getD 0 0, none⟩)) W := by kernel_rfl
  have e1 : (Instr.index 92 (.agg (ptrsC g 0 pickO)) (.int .i64 ((1 : Nat) : Int))).run Tryz.prog W = .ok (.pointer (some ⟨g, pickO.getD 1 0, none⟩)) W := by kernel_rfl
  have e2 : (Instr.index 92 (.agg (ptrsC g 0 pickO)) (.int .i64 ((2 : Nat) : Int))).run Tryz.prog W = .ok (.pointer (some ⟨g, pickO.getD 2 0, none⟩)) W := by kernel_rfl
  have e3 : (Instr.index 92 (.agg (ptrsC g 0 pickO)) (.int .i64 ((3 : Nat) : Int))).run Tryz.prog W = .ok (.pointer (some ⟨g, pickO.getD 3 0, none⟩)) W := by kernel_rfl
  have e4 : (Instr.index 92 (.agg (ptrsC g 0 pickO)) (.int .i64 ((4 : Nat) : Int))).run Tryz.prog W = .ok (.pointer (some ⟨g, pickO.getD 4 0, none⟩)) W := by kernel_rfl
  have e5 : (Instr.index 92 (.agg (ptrsC g 0 pickO)) (.int .i64 ((5 : Nat) : Int))).run Tryz.prog W = .ok (.pointer (some ⟨g, pickO.getD 5 0, none⟩)) W := by kernel_rfl
  have e6 : (Instr.index 92 (.agg (ptrsC g 0 pickO)) (.int .i64 ((6 : Nat) : Int))).run Tryz.prog W = .ok (.pointer (some ⟨g, pickO.getD 6 0, none⟩)) W := by kernel_rfl
  obtain ⟨i, hi⟩ := i
  have h : i = 0 ∨ i = 1 ∨ i = 2 ∨ i = 3 ∨ i = 4 ∨ i = 5 ∨ i = 6 := by omega
  rcases h with rfl | rfl | rfl | rfl | rfl | rfl | rfl
  · exact e0
  · exact e1
  · exact e2
  · exact e3
  · exact e4
  · exact e5
  · exact e6
theorem pickO_lt : ∀ i : Fin 7, pickO.getD i.val 0 < 47 := by decide
/-- What lies in memory while a style is read. -/
structure StM (st : Sty) (w0 w : World) : Prop where
  cur : Blk w w0.heap.size 28 (styC st).toArray
  bel : Below w0.heap.size w0 w
theorem StM.more {st : Sty} {w0 w w' : World} (h : StM st w0 w) (hb : Below w.heap.size w w') : StM st w0 w' := ⟨h.cur.below hb h.cur.lt, h.bel.trans (hb.mono h.bel.size)⟩
theorem StM.write {st st' : Sty} {w0 w w' : World} (h : StM st w0 w) (hk : Kept [w0.heap.size] w w') (hc : Blk w' w0.heap.size 28 (styC st').toArray) : StM st' w0 w' := ⟨hc, h.bel.trans (hk.to_below h.bel.size (by simp))⟩
def StlA (ws : List (List UInt8)) (w0 : World) (g : Nat) (i : Value) (w : World) : Prop :=
  ∃ (k : Nat) (st : Sty), k + g = ws.length ∧ i = .int .i64 k ∧ st.Ok ∧ StM st w0 w ∧ stylP sty0 ws = stylP st (ws.drop k)
def PckA (x : List UInt8) (w5 : World) (g : Nat) (i : Value) (w : World) : Prop :=
  ∃ j : Nat, j + g = 7 ∧ i = .int .i64 j ∧ w = w5 ∧ findPick picksT 0 x = findPick (picksT.drop j) j x
def styO (o : Option Sty) : Option Value := o.map fun s => .agg (styC s).toArray

theorem OptPost.badS {o : Option Sty} {w w' : World} (h : o = none) (hb : Below w.heap.size w w') : OptPost (styO o) w (.panicked wrongC) w' :=
  ⟨hb, fun y hy => (by rw [h] at hy; cases hy), fun _ => rfl⟩
set_option maxRecDepth 100000 in
set_option maxHeartbeats 8000000 in
theorem style_any (ws : List (List UInt8)) (hx : ∀ x ∈ ws, x.length ≤ 5000) (hm : ws.length ≤ 100000) (v : Value) (B : Nat) (w : World) (hs : Strs w B v ws) (hB : B ≤ w.heap.size) (hw : ScrW w) :
    Calls Tryz.prog 21 #[v] w (OptPost (styO (stylP sty0 ws)) w) := by
  obtain ⟨A, c, rfl, hc, hr⟩ := hs
  have hm0 : StM sty0 w (w.alloc (.cells (styC sty0).toArray 28)) := ⟨Blk.new w _ _, below_one _ _⟩
  go_enter Tryz.func21, Tryz.ntmps21
  go_wp2_with fail
  go_step3
  go_wp2_with fail
  go_step3
  go_wp2_with fail
  go_loopg [13] ws.length (StlA ws w)
  case atStart => exact ⟨0, sty0, by omega, rfl, ok0, hm0, rfl⟩
  case round =>
    clear hm0
    obtain ⟨k, st, hkg, rfl, hst, hm1, hsp⟩ := hrel
    have HSP := Lib.hid hsp
    clear hsp
    cases gk with
    | zero =>
      have hke : k = ws.length := by omega
      have hlt0 : ¬ ((k : Nat) : Int) < ((ws.length : Nat) : Int) := by omega
      go_wp2_with (first | (refine wpList_load_blk rfl 28 _ rfl w.heap.size 0 28 (styC st) (styC st) _ rfl hm1.cur (fun j v hv => by rw [Nat.zero_add]; exact hv) Tryz.underlying28 rfl styC_size ?_) | (refine wpList_store_blk rfl 28 _ _ rfl w.heap.size 0 28 (styC st) (styC st) rfl hm1.cur rfl (by rw [styC_len]; exact Nat.le_refl _) styC_size (styC_cells _) ?_; intro w6 b6 k6 z6; rw [setL_all (by rw [styC_len])] at b6; simp only [Act.put]))
      (try simp only [Exit.noGoto_ret, Exit.inBlock, Exit.then])
      refine bodyPost_ret (results_cell_row rfl _ _ w.heap.size 28 (styC st).toArray (0, 0) _ rfl b6 Tryz.underlying28 rfl styC_size) rfl ?_
      have hres : stylP sty0 ws = some st := by rw [HSP.out, hke, List.drop_of_length_le (Nat.le_refl _)]; rfl
      exact ⟨hm1.bel.trans (k6.to_below hm1.bel.size (by simp)), fun y hy => by (rw [hres] at hy; injection hy with hy; rw [← hy]), fun hn => by (rw [hres] at hn; cases hn)⟩
    | succ g1 =>
      have hlt : k < ws.length := by omega
      have hlt0 : ((k : Nat) : Int) < ((ws.length : Nat) : Int) := by omega
      obtain ⟨ad, rfl, hab, hcell⟩ := strs_val (hr.below (hm1.bel.mono hB)) hlt
      have hxk := hx _ (List.getElem_mem hlt)
      have hsw := hw.below hm1.bel (Nat.le_refl _)
      have HSW0 := Lib.hid hsw
      clear hsw
      have HSTEP := Lib.hid (show stylP st (ws.drop k) = match stepW st ws[k] with
          | none => none
          | some s' => stylP s' (ws.drop (k + 1)) by rw [List.drop_eq_getElem_cons hlt, stylP]; cases stepW st ws[k] <;> rfl)
      generalize ws[k] = x at *
      go_wp2_with fail
      refine (picked_of w.heap.size 0 _).mono ?_
      rintro e w5 ⟨rfl, hb5⟩
      have hm5 := hm1.more hb5
      have HW5 := Lib.hid (HSW0.out.below hb5 (Nat.le_refl _))
      clear hb5 hm1 HSW0
      go_wp2_with fail
      go_loopg [18] 7 (PckA x w5)
      case atStart => exact ⟨0, rfl, rfl, rfl, rfl⟩
      case round =>
        obtain ⟨j, hj, rfl, hww, hfp⟩ := hrel
        subst hww
        have HFP := Lib.hid hfp
        clear hfp
        cases gk with
        | zero =>
          have hj7 : j = 7 := by omega
          have hl7 : ¬ ((j : Nat) : Int) < 7 := by omega
          have HNP := Lib.hid (show findPick picksT 0 x = none by rw [HFP.out, hj7]; rfl)
          obtain ⟨m, hmx⟩ := HW5.out.max
          have HMX := Lib.hid hmx
          clear hmx hj7
          cases hce : cutEq x with
          | none =>
            have hcut := cut_eq1 x
            rw [hce] at hcut
            have HCE := Lib.hid hce
            have HCU := Lib.hid (fun W h => (Tryz.strings_Cut (mkB x) ⟨#[61]⟩ m W (by rw [mkB_size]; omega) h).mono (R' := fun e w' => e = .returned (.tuple #[.string (mkB x), .string (mkB []), .bool false]) ∧ ∃ n, w' = W.drewN n) fun e w' ⟨h1, h2⟩ => ⟨by rw [h1]; show Ending.returned (.tuple #[.string ⟨(Lib.cut x [61]).1.toArray⟩, .string ⟨(Lib.cut x [61]).2.1.toArray⟩, .bool (Lib.cut x [61]).2.2]) = _; rw [hcut]; rfl, h2⟩)
            clear hce hcut
            go_wp2_with fail
            refine (HCU.out _ HMX.out).mono ?_
            rintro e w6 ⟨rfl, nq, rfl⟩
            have hm6 := hm5.more (below_drewN (Below.refl _ _) nq)
            go_upto_region 13 with fail
            by_cases hwhole : x = [119, 104, 111, 108, 101]
            · have m1 : ((mkB x).toList == ([119, 104, 111, 108, 101] : List UInt8)) = true := str_eq' (b := [119, 104, 111, 108, 101]) hwhole
              have HSW := Lib.hid (show stepW st x = some { st with whole := true } by unfold stepW; rw [HNP.out]; simp only; rw [if_pos (show x = wholeB from hwhole)])
              clear hwhole
              go_wp2_with (refine wpList_store_one rfl 4 _ _ rfl w.heap.size 1 28 (styC st) (.bool true) (by rfl) hm6.cur (by rfl) (by rw [styC_len]; omega) (by rfl) (storeVar_bool _ _ _) ?_; intro w7 b7 k7 z7; have b7 : Blk w7 w.heap.size 28 (styC { st with whole := true }).toArray := b7; have hm7 := hm6.write k7 b7; clear b7 k7 z7; simp only [Act.put])
              go_roundg g1
              case measure => omega
              case rel => exact ⟨k + 1, { st with whole := true }, by omega, by go_num, ok_flags hst true st.wrap, hm7, by rw [HSP.out, HSTEP.out, HSW.out]⟩
            have mwhole : ((mkB x).toList == ([119, 104, 111, 108, 101] : List UInt8)) = false := str_ne' (b := [119, 104, 111, 108, 101]) hwhole
            have Hwhole := Lib.hid (show ¬ x = wholeB from hwhole)
            clear hwhole
            go_upto_region 15 with fail
            by_cases hwrap : x = [119, 114, 97, 112]
            · have m1 : ((mkB x).toList == ([119, 114, 97, 112] : List UInt8)) = true := str_eq' (b := [119, 114, 97, 112]) hwrap
              have HSW := Lib.hid (show stepW st x = some { st with wrap := true } by unfold stepW; rw [HNP.out]; simp only; rw [if_neg Hwhole.out, if_pos (show x = wrapB from hwrap)])
              clear hwrap
              go_wp2_with (refine wpList_store_one rfl 4 _ _ rfl w.heap.size 38 28 (styC st) (.bool true) (by rfl) hm6.cur (by rfl) (by rw [styC_len]; omega) (by rfl) (storeVar_bool _ _ _) ?_; intro w7 b7 k7 z7; have b7 : Blk w7 w.heap.size 28 (styC { st with wrap := true }).toArray := b7; have hm7 := hm6.write k7 b7; clear b7 k7 z7; simp only [Act.put])
              go_roundg g1
              case measure => omega
              case rel => exact ⟨k + 1, { st with wrap := true }, by omega, by go_num, ok_flags hst st.whole true, hm7, by rw [HSP.out, HSTEP.out, HSW.out]⟩
            have mwrap : ((mkB x).toList == ([119, 114, 97, 112] : List UInt8)) = false := str_ne' (b := [119, 114, 97, 112]) hwrap
            have Hwrap := Lib.hid (show ¬ x = wrapB from hwrap)
            clear hwrap
            go_upto_region 17 with fail
            go_wp2_with fail
            exact ⟨rfl, OptPost.badS (by rw [HSP.out, HSTEP.out, show stepW st x = none by (unfold stepW; rw [HNP.out]; simp only; rw [if_neg Hwhole.out, if_neg Hwrap.out, HCE.out])]) hm6.bel⟩
          | some ab =>
            obtain ⟨a, b⟩ := ab
            have hcut := cut_eq1 x
            rw [hce] at hcut
            obtain ⟨la, lb⟩ := cutEq_len hce
            have hnw : ¬ x = [119, 104, 111, 108, 101] := fun h => by rw [h] at hce; cases hce
            have hnr : ¬ x = [119, 114, 97, 112] := fun h => by rw [h] at hce; cases hce
            have mw : ((mkB x).toList == ([119, 104, 111, 108, 101] : List UInt8)) = false := str_ne' (b := [119, 104, 111, 108, 101]) hnw
            have mr : ((mkB x).toList == ([119, 114, 97, 112] : List UInt8)) = false := str_ne' (b := [119, 114, 97, 112]) hnr
            have HSW := Lib.hid (show stepW st x = setP st a b by unfold stepW; rw [HNP.out]; simp only; rw [if_neg (show ¬ x = wholeB from hnw), if_neg (show ¬ x = wrapB from hnr), hce])
            have HCU := Lib.hid (fun W h => (Tryz.strings_Cut (mkB x) ⟨#[61]⟩ m W (by rw [mkB_size]; omega) h).mono (R' := fun e w' => e = .returned (.tuple #[.string (mkB a), .string (mkB b), .bool true]) ∧ ∃ n, w' = W.drewN n) fun e w' ⟨h1, h2⟩ => ⟨by rw [h1]; show Ending.returned (.tuple #[.string ⟨(Lib.cut x [61]).1.toArray⟩, .string ⟨(Lib.cut x [61]).2.1.toArray⟩, .bool (Lib.cut x [61]).2.2]) = _; rw [hcut]; rfl, h2⟩)
            clear hce hcut hnw hnr
            go_wp2_with fail
            refine (HCU.out _ HMX.out).mono ?_
            rintro e w6 ⟨rfl, nq, rfl⟩
            have hb6 : Below wr.heap.size wr (wr.drewN nq) := below_drewN (Below.refl _ _) nq
            have hm6 := hm5.more hb6
            have hw6 := HW5.out.below hb6 (Nat.le_refl _)
            have HW6 := Lib.hid hw6
            clear hw6 hb6
            go_wp2_with fail
            refine (set_any w.heap.size st hst a b (by omega) _ HW6.out hm6.cur).mono ?_
            rintro e w7 ⟨hk7, hgood, hbad⟩
            cases hset : setP st a b with
            | none =>
              have := hbad hset
              subst this
              exact ⟨rfl, OptPost.badS (by rw [HSP.out, HSTEP.out, HSW.out, hset]) (hm6.bel.trans (hk7.to_below hm6.bel.size (by simp)))⟩
            | some st' =>
              obtain ⟨h1, h2⟩ := hgood st' hset
              subst h1
              have HST := Lib.hid hset
              have hm7 := hm6.write hk7 h2
              have hok' := setP_ok hst hset
              clear hset hgood hbad h2 hk7
              go_wp2_with fail
              go_roundg g1
              case measure => omega
              case rel => exact ⟨k + 1, st', by omega, by go_num, hok', hm7, by rw [HSP.out, HSTEP.out, HSW.out, HST.out]⟩
        | succ g2 =>
          have hj7 : j < 7 := by omega
          have hl7 : ((j : Nat) : Int) < 7 := by omega
          obtain ⟨b, oo, cc, p1, p2, p3⟩ := HW5.out.pck j hj7
          have hlen : (picksT.getD j []).length ≤ 6 := by
            have := picks_len ⟨j, hj7⟩
            rw [List.getD_eq_getElem?_getD, List.getElem?_eq_getElem (show j < picksT.length from hj7)]
            exact this
          have hpp := ptr_pick w.heap.size ⟨j, hj7⟩
          have HPO := Lib.hid (pickO_lt ⟨j, hj7⟩)
          have HFS := Lib.hid (find_step x picksT j hj7 j)
          rw [show picksT[j]'hj7 = picksT.getD j [] by rw [List.getD_eq_getElem?_getD, List.getElem?_eq_getElem (show j < picksT.length from hj7)]; rfl] at HFS
          have HIX := Lib.hid (fun W h => index_words_at b oo cc (picksT.getD j []) x (by omega) W h)
          have HP3 := Lib.hid p3
          have HSPK := Lib.hid (fun n => styC_setPick hst.p ⟨j, hj7⟩ n)
          clear p3
          simp only at hpp
          generalize picksT.getD j [] = T at *
          by_cases hl : idxW T x < T.length
          · have HIX2 := Lib.hid (show ∀ W, (∀ jj, jj < T.length → W.cell? ⟨b, oo + jj, none⟩ = some (.string (mkB (T.getD jj [])))) → Calls Tryz.prog 47 #[.slice (some ⟨b, oo, none⟩) T.length cc, .string (mkB x)] W fun e w' => e = .returned (.int .i64 ((idxW T x : Nat) : Int)) ∧ w' = W from fun W h => by
              have := HIX.out W h
              rw [idxV_hit hl] at this
              exact this)
            by_cases h0 : 0 < idxW T x
            · have z0 : (0 : Int) < ((idxW T x : Nat) : Int) := by omega
              by_cases h63 : x = [63]
              · have q1 : ((mkB x).toList == ([63] : List UInt8)) = true := str_eq' (b := [63]) h63
                have HW := Lib.hid (show ¬ (0 < idxW T x ∧ idxW T x < T.length ∧ x ≠ [63]) from fun h => h.2.2 h63)
                clear h63 h0 hl
                go_wp2_with fail
                refine (HIX2.out _ (fun jj hjj => HP3.out jj hjj)).mono ?_
                rintro e w6 ⟨rfl, rfl⟩
                go_wp2_with fail
                go_roundg g2
                case measure => omega
                case rel => exact ⟨j + 1, by omega, by go_num, rfl, by rw [HFP.out, HFS.out, if_neg HW.out]⟩
              · have q1 : ((mkB x).toList == ([63] : List UInt8)) = false := str_ne' (b := [63]) h63
                have HSW := Lib.hid (show stepW st x = some { st with picks := st.picks.set j (idxW T x) } by unfold stepW; rw [HFP.out, HFS.out, if_pos ⟨h0, hl, h63⟩])
                have hn5 : idxW T x ≤ 5 := by omega
                clear h63 h0 hl HIX HFS HFP
                generalize idxW T x = n at *
                have i2 : IntKind.u8.wrap ((n : Nat) : Int) = ((n : Nat) : Int) := by simp [IntKind.wrap, IntKind.bits, IntKind.signed]; omega
                go_wp2_with fail
                refine (HIX2.out _ (fun jj hjj => HP3.out jj hjj)).mono ?_
                rintro e w6 ⟨rfl, rfl⟩
                go_wp2_with (refine wpList_store_one rfl 5 _ _ rfl w.heap.size (pickO.getD j 0) 28 (styC st) (.int .u8 ((n : Nat) : Int)) (by rfl) hm5.cur (by rfl) (by rw [styC_len]; exact HPO.out) (by rfl) (storeVar_u8 _ _ _ _) ?_; intro w7 b7 k7 z7; rw [HSPK.out] at b7; have hm7 := hm5.write k7 b7; clear b7 k7 z7; simp only [Act.put])
                go_roundg g1
                case measure => omega
                case rel => exact ⟨k + 1, { st with picks := st.picks.set j n }, by omega, by go_num, ok_pick hst j n (by omega), hm7, by rw [HSP.out, HSTEP.out, HSW.out]⟩
            · have z0 : ¬ (0 : Int) < ((idxW T x : Nat) : Int) := by omega
              have HW := Lib.hid (show ¬ (0 < idxW T x ∧ idxW T x < T.length ∧ x ≠ [63]) from fun h => h0 h.1)
              clear h0 hl
              go_wp2_with fail
              refine (HIX2.out _ (fun jj hjj => HP3.out jj hjj)).mono ?_
              rintro e w6 ⟨rfl, rfl⟩
              go_wp2_with fail
              go_roundg g2
              case measure => omega
              case rel => exact ⟨j + 1, by omega, by go_num, rfl, by rw [HFP.out, HFS.out, if_neg HW.out]⟩
          · have HIX2 := Lib.hid (show ∀ W, (∀ jj, jj < T.length → W.cell? ⟨b, oo + jj, none⟩ = some (.string (mkB (T.getD jj [])))) → Calls Tryz.prog 47 #[.slice (some ⟨b, oo, none⟩) T.length cc, .string (mkB x)] W fun e w' => e = .returned (.int .i64 (-1)) ∧ w' = W from fun W h => by
              have := HIX.out W h
              rw [idxV_no hl] at this
              exact this)
            have HW := Lib.hid (show ¬ (0 < idxW T x ∧ idxW T x < T.length ∧ x ≠ [63]) from fun h => hl h.2.1)
            clear hl
            go_wp2_with fail
            refine (HIX2.out _ (fun jj hjj => HP3.out jj hjj)).mono ?_
            rintro e w6 ⟨rfl, rfl⟩
            go_wp2_with fail
            go_roundg g2
            case measure => omega
            case rel => exact ⟨j + 1, by omega, by go_num, rfl, by rw [HFP.out, HFS.out, if_neg HW.out]⟩

end Go.Proofs.YtaoehdmdjplegaaGreatDoor
