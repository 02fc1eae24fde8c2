/-
  Walks: slices.Equal of bytes, script.same: what they answer.
-/
import Derived.Test.YtaoehdmdjplegaaGreatDoorSame32
import Derived.Test.YtaoehdmdjplegaaGreatDoorReadP
import Derived.Test.YtaoehdmdjplegaaGreatDoorRParse
namespace Go.Proofs.YtaoehdmdjplegaaGreatDoor
open Go.RowKit Go.Shelf

def EqA (a b : List UInt8) (W : World) (i : Value) (w : World) : Prop := ∃ k : Nat, k ≤ a.length ∧ i = .int .i64 k ∧ a.take k = b.take k ∧ QuietP W w
set_option maxRecDepth 100000 in
set_option maxHeartbeats 8000000 in
theorem equal_bytes (a b : List UInt8) (hla : a.length ≤ 100000) (va vb : Value) (B : Nat) (w : World) (hya : Byts w B va a) (hyb : Byts w B vb b) :
    Calls Tryz.prog 40 #[va, vb] w fun e w' => e = .returned (.bool (decide (a = b))) ∧ QuietP w w' := by
  obtain ⟨A1, c1, rfl, hc1, hr1⟩ := hya.reads
  obtain ⟨A2, c2, rfl, hc2, hr2⟩ := hyb.reads
  clear hya hyb
  by_cases k5 : a.length = b.length
  · have t5 : (((a.length : Nat) : Int) != ((b.length : Nat) : Int)) = false := by unfold bne; rw [show (((a.length : Nat) : Int) == ((b.length : Nat) : Int)) = true by rw [beq_iff_eq]; omega]; rfl
    have HL := Lib.hid k5
    clear k5
    go_enter Tryz.func40, Tryz.ntmps40
    go_wp2_with fail
    go_loopw [13] (EqA a b w) (fun i _ => a.length - (intOf i).toNat)
    case atStart => exact ⟨0, by omega, rfl, by simp, QuietP.refl _⟩
    case round =>
      obtain ⟨k, hk, rfl, htk, nq, rfl⟩ := hrel
      have hr1 : Reads (w.drewN nq) B 1 A1 a.length (byV a) := hr1
      have hr2 : Reads (w.drewN nq) B 1 A2 b.length (byV b) := hr2
      generalize hWq : w.drewN nq = Wq at *
      have HT := Lib.hid htk
      clear htk t5
      by_cases hlt : k < a.length
      · have hlt2 : k < b.length := by rw [← HL.out]; exact hlt
        obtain ⟨ad1, rfl, hb1, hcell1⟩ := byts_val hr1 hlt
        obtain ⟨ad2, rfl, hb2, hcell2⟩ := byts_val hr2 hlt2
        have l1 : ((k : Nat) : Int) < ((a.length : Nat) : Int) := by omega
        have l2 : ((k : Nat) : Int) < ((b.length : Nat) : Int) := by omega
        by_cases he : a[k] = b[k]
        · have m1 : ((((a[k]).toNat : Nat) : Int) != (((b[k]).toNat : Nat) : Int)) = false := by unfold bne; rw [he, beq_iff_eq.2 rfl]; rfl
          have HE := Lib.hid he
          clear he
          go_wp2_with fail
          go_region
          go_wp2_with fail
          go_roundw
          case rel => exact ⟨k + 1, by omega, by go_num, by rw [List.take_succ_eq_append_getElem hlt, List.take_succ_eq_append_getElem hlt2, HT.out, HE.out], ⟨nq + 1, by rw [← World.drewN_drewN, hWq]; rfl⟩⟩
          case measure => simp [intOf]; omega
        · have m1 : ((((a[k]).toNat : Nat) : Int) != (((b[k]).toNat : Nat) : Int)) = true := by unfold bne; rw [show ((((a[k]).toNat : Nat) : Int) == (((b[k]).toNat : Nat) : Int)) = false by (rw [beq_eq_false_iff_ne]; intro h; exact he (UInt8.toNat_inj.1 (by omega)))]; rfl
          have HN := Lib.hid (show decide (a = b) = false by simp; intro e; exact he (by congr 1))
          clear he
          go_wp2_with fail
          go_region
          go_wp2_with fail
          go_ret
          exact ⟨by rw [HN.out]; rfl, ⟨nq + 1, by rw [← World.drewN_drewN, hWq]; rfl⟩⟩
      · have HN := Lib.hid (show decide (a = b) = true by
          have hl := HL.out
          have hT := HT.out
          rw [List.take_of_length_le (by omega), List.take_of_length_le (by omega)] at hT
          simpa using hT)
        have l1 : ¬ ((k : Nat) : Int) < ((a.length : Nat) : Int) := by omega
        go_wp2_with fail
        go_ret
        exact ⟨by rw [HN.out]; rfl, ⟨nq, hWq.symm⟩⟩
  · have t5 : (((a.length : Nat) : Int) != ((b.length : Nat) : Int)) = true := by unfold bne; rw [show (((a.length : Nat) : Int) == ((b.length : Nat) : Int)) = false by rw [beq_eq_false_iff_ne]; omega]; rfl
    have HN := Lib.hid (show decide (a = b) = false by simp; intro e; exact k5 (by rw [e]))
    clear k5
    go_enter Tryz.func40, Tryz.ntmps40
    go_wp2_with fail
    go_ret
    exact ⟨by rw [HN.out]; rfl, QuietP.refl _⟩

set_option maxRecDepth 100000 in
set_option maxHeartbeats 8000000 in
theorem same_any (a b : Ev) (ha : a.Ok) (hb : b.Ok) (hta : a.text.length ≤ 100000) (htb : b.text.length ≤ 100000) (va vb : Value) (w : World) (hya : Byts w w.heap.size va a.bytes) (hyb : Byts w w.heap.size vb b.bytes) (hla : a.bytes.length ≤ 100000) :
    Calls Tryz.prog 14 #[.agg (evC a va).toArray, .agg (evC b vb).toArray] w (SamePost a b w) := by
  have hiff := ev_eq ha hb
  obtain ⟨W, hW⟩ : ∃ W, W = (w.alloc (.cells (evC a va).toArray 34)).alloc (.cells (evC b vb).toArray 34) := ⟨_, rfl⟩
  have hbel : Below w.heap.size w W := by rw [hW]; exact ((Below.refl _ _).alloc (Nat.le_refl _) _).alloc (by simp) _
  have g1 : Blk W w.heap.size 34 (evC a va).toArray := by rw [hW]; exact allocs_blk [.cells (evC a va).toArray 34, .cells (evC b vb).toArray 34] w 0 _ _ rfl
  have g2 : Blk W (w.heap.size + 1) 34 (evC b vb).toArray := by rw [hW]; exact allocs_blk [.cells (evC a va).toArray 34, .cells (evC b vb).toArray 34] w 1 _ _ rfl
  obtain ⟨A1, c1, rfl, hc1, hr1⟩ := (hya.below hbel).reads
  obtain ⟨A2, c2, rfl, hc2, hr2⟩ := (hyb.below hbel).reads
  have a0 : W.cell? ⟨w.heap.size, 0, none⟩ = some (.int .u8 (a.kind : Int)) := g1.cell 0
  have a1 : W.cell? ⟨w.heap.size, 1, none⟩ = some (.int .i64 a.client) := g1.cell 1
  have a2 : W.cell? ⟨w.heap.size, 2, none⟩ = some (.int .i64 a.n) := g1.cell 2
  have a3 : W.cell? ⟨w.heap.size, 3, none⟩ = some (.slice A1 a.bytes.length c1) := g1.cell 3
  have b0 : W.cell? ⟨w.heap.size + 1, 0, none⟩ = some (.int .u8 (b.kind : Int)) := g2.cell 0
  have b1 : W.cell? ⟨w.heap.size + 1, 1, none⟩ = some (.int .i64 b.client) := g2.cell 1
  have b2 : W.cell? ⟨w.heap.size + 1, 2, none⟩ = some (.int .i64 b.n) := g2.cell 2
  have b3 : W.cell? ⟨w.heap.size + 1, 3, none⟩ = some (.slice A2 b.bytes.length c2) := g2.cell 3
  have bad : ¬ a = b → decide (a = b) = false := fun h => by simp [h]
  have HIF := Lib.hid hiff
  have HBD := Lib.hid bad
  clear hiff bad hya hyb
  by_cases k1 : a.kind = b.kind
  · have t1 : (((a.kind : Nat) : Int) == ((b.kind : Nat) : Int)) = true := by rw [beq_iff_eq]; omega
    by_cases k2 : a.client = b.client
    · have t2 : (a.client == b.client) = true := beq_iff_eq.2 k2
      by_cases k3 : a.n = b.n
      · have t3 : (a.n == b.n) = true := beq_iff_eq.2 k3
        by_cases k4 : chC a = chC b
        · have hq : ∀ W, (Op.equal 32 (.agg (chC a).toArray) (.agg (chC b).toArray)).run Tryz.prog W = .ok true W := fun W => by
            obtain ⟨r, h1, h2⟩ := change_equal ha hb hta htb W
            rw [h1, h2.2 k4]
          have HQ := Lib.hid hq
          have HK := Lib.hid (show decide (a = b) = decide (a.bytes = b.bytes) by
            by_cases h : a.bytes = b.bytes
            · rw [decide_eq_true h, decide_eq_true (HIF.out.2 ⟨k1, k2, k3, k4, h⟩)]
            · rw [decide_eq_false h, HBD.out (fun e => h (HIF.out.1 e).2.2.2.2)])
          have HY := Lib.hid (show ∀ V v l, V = W → Byts V w.heap.size v l → True from fun _ _ _ _ _ => trivial)
          have hya' : Byts W w.heap.size (.slice A1 a.bytes.length c1) a.bytes := ⟨A1, c1, rfl, hc1, hr1⟩
          have hyb' : Byts W w.heap.size (.slice A2 b.bytes.length c2) b.bytes := ⟨A2, c2, rfl, hc2, hr2⟩
          have HYA := Lib.hid hya'
          have HYB := Lib.hid hyb'
          clear k1 k2 k3 k4 hq HIF hya' hyb' HY HBD
          go_enter Tryz.func14, Tryz.ntmps14
          go_upto_region 1 with fail
          rw [← hW]
          clear hW
          go_wp2_with (first | (refine wpList_load_blk_w (by rfl) 32 _ rfl w.heap.size 4 34 _ (chC a) _ rfl g1 (evC_ch a _) Tryz.underlying32 rfl chC_size ?_) | (refine wpList_load_blk_w (by rfl) 32 _ rfl (w.heap.size + 1) 4 34 _ (chC b) _ rfl g2 (evC_ch b _) Tryz.underlying32 rfl chC_size ?_) | (refine wpList_eql_agg (by rfl) _ _ _ _ rfl _ _ rfl rfl (by kernel_rfl) true (HQ.out _) ?_))
          refine (equal_bytes a.bytes b.bytes hla _ _ _ _ HYA.out HYB.out).mono ?_
          rintro e w6 ⟨rfl, nq, rfl⟩
          rw [← HK.out]
          go_wp2_with fail
          go_ret
          exact ⟨rfl, below_drewN hbel nq⟩
        · have HQ := Lib.hid (show ∀ W, (Op.equal 32 (.agg (chC a).toArray) (.agg (chC b).toArray)).run Tryz.prog W = .ok false W from fun W => by
            obtain ⟨r, h1, h2⟩ := change_equal ha hb hta htb W
            rw [h1, show r = false by (cases r with | false => rfl | true => exact absurd (h2.1 rfl) k4)])
          have HN := Lib.hid (HBD.out fun e => k4 (HIF.out.1 e).2.2.2.1)
          clear k1 k2 k3 k4 HIF HBD
          go_enter Tryz.func14, Tryz.ntmps14
          go_upto_region 1 with fail
          rw [← hW]
          clear hW
          go_wp2_with (first | (refine wpList_load_blk_w (by rfl) 32 _ rfl w.heap.size 4 34 _ (chC a) _ rfl g1 (evC_ch a _) Tryz.underlying32 rfl chC_size ?_) | (refine wpList_load_blk_w (by rfl) 32 _ rfl (w.heap.size + 1) 4 34 _ (chC b) _ rfl g2 (evC_ch b _) Tryz.underlying32 rfl chC_size ?_) | (refine wpList_eql_agg (by rfl) _ _ _ _ rfl _ _ rfl rfl (by kernel_rfl) false (HQ.out _) ?_))
          go_ret
          exact ⟨by rw [HN.out]; rfl, hbel⟩
      · have t3 : (a.n == b.n) = false := by simpa using k3
        have HN := Lib.hid (HBD.out fun e => k3 (HIF.out.1 e).2.2.1)
        clear k1 k2 k3 HIF HBD
        go_enter Tryz.func14, Tryz.ntmps14
        go_upto_region 1 with fail
        rw [← hW]
        clear hW
        go_wp2_with fail
        go_ret
        exact ⟨by rw [HN.out]; rfl, hbel⟩
    · have t2 : (a.client == b.client) = false := by simpa using k2
      have HN := Lib.hid (HBD.out fun e => k2 (HIF.out.1 e).2.1)
      clear k1 k2 HIF HBD
      go_enter Tryz.func14, Tryz.ntmps14
      go_upto_region 1 with fail
      rw [← hW]
      clear hW
      go_wp2_with fail
      go_ret
      exact ⟨by rw [HN.out]; rfl, hbel⟩
  · have t1 : (((a.kind : Nat) : Int) == ((b.kind : Nat) : Int)) = false := by rw [beq_eq_false_iff_ne]; omega
    have HN := Lib.hid (HBD.out fun e => k1 (HIF.out.1 e).1)
    clear k1 HIF HBD
    go_enter Tryz.func14, Tryz.ntmps14
    go_upto_region 1 with fail
    rw [← hW]
    clear hW
    go_wp2_with fail
    go_ret
    exact ⟨by rw [HN.out]; rfl, hbel⟩

end Go.Proofs.YtaoehdmdjplegaaGreatDoor
namespace Go.Proofs.YtaoehdmdjplegaaGreatDoor
open Go.RowKit Go.Shelf

theorem join_own {w : World} {base : Nat} {v : Value} {l : List (List UInt8)} (h : OwnsS w base v l) (hl : (joinC l).length ≤ 100000) (hm : l.length ≤ 1000) :
    Calls Tryz.prog 12 #[v, .string ⟨#[32]⟩] w fun e w' => e = .returned (.string (mkB (joinC l))) ∧ Below w.heap.size w w' := by
  rcases h.2 with ⟨rfl, h0⟩ | ⟨g, cap, cur, rfl, hg, hb, hc, hcm, hs, ht⟩
  · have : l = [] := List.eq_nil_of_length_eq_zero h0
    subst this
    refine (Tryz.strings_Join_none none 0 ⟨#[32]⟩ w).mono ?_
    rintro e w' ⟨rfl, rfl⟩
    exact ⟨rfl, Below.refl _ _⟩
  · have e1 : (l.map mkB).map (·.data.toList) = l := by rw [List.map_map]; exact List.map_id _
    have e2 : (l.map mkB).length = l.length := by simp
    have hgl := (World.ownsRow.lt h g rfl).2
    have := Tryz.strings_Join g 0 cap (l.map mkB) ⟨#[32]⟩ w (fun j x hx => by
      have hc := World.ownsRow.cells h (g := g) rfl j (.string x) (by
        unfold strV
        rw [List.getElem?_map] at hx ⊢
        obtain ⟨y, hy, rfl⟩ := Option.map_eq_some_iff.1 hx
        rw [hy]; rfl)
      have e : (⟨g, 0, none⟩ : Addr).add j = ⟨g, 0 + j, none⟩ := by unfold Addr.add; split <;> simp_all
      rw [← e]; exact hc) hgl (by rw [e2]; omega) (by rw [e2]; exact hc) (by
        rw [e1, show (⟨#[32]⟩ : ByteArray).data.toList = [32] from rfl, join_eq]; omega)
    rw [e1, e2, show (⟨#[32]⟩ : ByteArray).data.toList = [32] from rfl, join_eq] at this
    exact this

set_option maxRecDepth 100000 in
set_option maxHeartbeats 8000000 in
theorem pprint_any (e : Ev) (he : e.Ok) (htx : e.text.length ≤ 4100) (hbl : e.bytes.length ≤ 3000) (va : Value) (w : World) (hw : ScrW w) (hyb : Byts w w.heap.size va e.bytes) :
    Calls Tryz.prog 7 #[.agg (evC e va).toArray] w (PrintPost e w) := by
  obtain ⟨W, hW⟩ : ∃ W, W = w.alloc (.cells (evC e va).toArray 34) := ⟨_, rfl⟩
  have hbel : Below w.heap.size w W := by rw [hW]; exact below_one _ _
  have g1 : Blk W w.heap.size 34 (evC e va).toArray := by rw [hW]; exact Blk.new w _ _
  have HY := Lib.hid ((hyb.below hbel).up hbel.size)
  have HSW := Lib.hid hw
  clear hyb hw
  go_enter Tryz.func7, Tryz.ntmps7
  go_upto_region 1 with fail
  rw [← hW]
  clear hW
  go_wp2_with (refine wpList_load_blk rfl 34 _ rfl w.heap.size 0 34 (evC e va) (evC e va) _ rfl g1 (evC_self' e va) Tryz.underlying34 rfl evC_size ?_)
  refine (words_any e he htx hbl va _ (HSW.out.below hbel (Nat.le_refl _)) HY.out).mono ?_
  rintro e5 w5 ⟨v5, l, b, rfl, hown, hb5, hll, hjl, hwe⟩
  have G1 := g1.below hb5 g1.lt
  have hbw5 : Below w.heap.size w w5 := hbel.trans (hb5.mono hbel.size)
  have HWE := Lib.hid hwe
  clear hwe g1 hbel
  go_wp2_with fail
  refine (join_own hown (by omega) (by omega)).mono ?_
  rintro e6 w6 ⟨rfl, hb6⟩
  have G1 := G1.below hb6 G1.lt
  have hbw6 : Below w.heap.size w w6 := hbw5.trans (hb6.mono hbw5.size)
  have HYE := Lib.hid (((HY.out.below hb5).up hb5.size).below hb6 |>.up hb6.size)
  have HSW6 := Lib.hid (HSW.out.below hbw6 (Nat.le_refl _))
  clear hown hb6 hbw5 HSW HY hb5
  cases b with
  | false =>
    have HQ := Lib.hid (show printS e = ([], 2) by
      have h : wordsP e = none := HWE.out
      unfold printS
      rw [h])
    go_wp2_with fail
    go_ret2
    exact ⟨by rw [HQ.out]; rfl, hbw6⟩
  | true =>
    have HW := Lib.hid (show wordsP e = some l from HWE.out)
    have hxs := mkB_size (joinC l)
    by_cases hl : (joinC l).length ≤ 4096
    · have z1 : ¬ (4096 : Int) < (((mkB (joinC l)).size : Nat) : Int) := by omega
      have HP := Lib.hid (printS_read he HW.out)
      have HL := Lib.hid hl
      clear hxs hl HWE
      go_wp2_with fail
      refine (read_any (joinC l) (by have := HL.out; omega) w6 HSW6.out).mono ?_
      rintro e7 w7 ⟨hb7, vb, rfl, hyb⟩
      have G1 := G1.below hb7 G1.lt
      have hbw7 : Below w.heap.size w w7 := hbw6.trans (hb7.mono hbw6.size)
      have HYE := Lib.hid ((HYE.out.below hb7).up hb7.size)
      have HYB := Lib.hid hyb
      have hvb := hyb.byts.one
      clear hyb hb7 hbw6 HSW6
      cases hrd : readP (joinC l) with
      | none =>
        have HQ := Lib.hid (show printS e = ([], 2) by rw [HP.out, hrd, if_neg (fun h => by cases h.2)])
        clear hrd
        go_upto_region 6 with (refine wpList_store_blk rfl 34 _ _ rfl w7.heap.size 0 34 (evC ev0 (.slice none 0 0)) (evC ev0 vb) rfl (allocs_blk [.cells (evC ev0 (.slice none 0 0)).toArray 34] w7 0 _ _ rfl) rfl (by rw [evC_len, evC_len]; exact Nat.le_refl _) evC_size (evC_cells _ hvb) ?_; intro w8 b8 k8 z8; rw [setL_all (by first | rfl | rw [evC_len, evC_len])] at b8; have hb8 : Below w7.heap.size w7 w8 := (below_one _ _).trans (Kept.to_below k8 (by simp) (by simp)); clear k8 z8; simp only [Act.put])
        have hbw8 := hbw7.trans (hb8.mono hbw7.size)
        go_wp2_with fail
        go_ret2
        exact ⟨by rw [HQ.out]; rfl, hbw8⟩
      | some o =>
        have hok := readP_ok hrd
        obtain ⟨hot, hob⟩ := readP_len hrd
        have HRD := Lib.hid hrd
        clear hrd
        go_upto_region 6 with (refine wpList_store_blk rfl 34 _ _ rfl w7.heap.size 0 34 (evC ev0 (.slice none 0 0)) (evC o vb) rfl (allocs_blk [.cells (evC ev0 (.slice none 0 0)).toArray 34] w7 0 _ _ rfl) rfl (by rw [evC_len, evC_len]; exact Nat.le_refl _) evC_size (evC_cells _ hvb) ?_; intro w8 b8 k8 z8; rw [setL_all (by first | rfl | rw [evC_len, evC_len])] at b8; have hb8 : Below w7.heap.size w7 w8 := (below_one _ _).trans (Kept.to_below k8 (by simp) (by simp)); clear k8 z8; simp only [Act.put])
        have hbw8 := hbw7.trans (hb8.mono hbw7.size)
        have G1 := G1.below hb8 G1.lt
        have HYE := Lib.hid ((HYE.out.below hb8).up hb8.size)
        have hyo : OwnsY w7 w6.heap.size vb o.bytes := by have h := HYB.out; rw [HRD.out] at h; exact h
        have HYO := Lib.hid (((hyo.byts).below hb8).up hb8.size)
        clear hyo
        have hll := HL.out
        go_wp2_with (first | (refine wpList_load_blk_w (by rfl) 34 _ rfl w7.heap.size 0 34 (evC o vb) (evC o vb) _ rfl b8 (evC_self' o vb) Tryz.underlying34 rfl evC_size ?_) | (refine wpList_load_blk_w (by rfl) 34 _ rfl w.heap.size 0 34 (evC e va) (evC e va) _ rfl G1 (evC_self' e va) Tryz.underlying34 rfl evC_size ?_))
        refine (same_any o e hok he (by omega) (by omega) vb va _ HYO.out HYE.out (by omega)).mono ?_
        rintro e9 w9 ⟨rfl, hb9⟩
        have hbw9 := hbw8.trans (hb9.mono hbw8.size)
        by_cases heo : o = e
        · have hdec : decide (o = e) = true := by simpa using heo
          rw [hdec]
          have HQ := Lib.hid (show printS e = (joinC l, 0) by rw [HP.out, if_pos ⟨HL.out, HRD.out.trans (congrArg some heo)⟩])
          clear hdec heo
          go_wp2_with fail
          go_ret2
          exact ⟨by rw [HQ.out]; rfl, hbw9⟩
        · have hdec : decide (o = e) = false := by simpa using heo
          rw [hdec]
          have HQ := Lib.hid (show printS e = ([], 2) by rw [HP.out, if_neg (fun h => heo (by have h2 := h.2; rw [HRD.out] at h2; injection h2))])
          clear hdec heo
          go_wp2_with fail
          go_ret2
          exact ⟨by rw [HQ.out]; rfl, hbw9⟩
    · have z1 : (4096 : Int) < (((mkB (joinC l)).size : Nat) : Int) := by omega
      have HQ := Lib.hid (show printS e = ([], 2) by
        unfold printS
        rw [HW.out]
        exact if_neg (fun h => hl h.2))
      clear hxs hl
      go_wp2_with fail
      go_ret2
      exact ⟨by rw [HQ.out]; rfl, hbw6⟩

end Go.Proofs.YtaoehdmdjplegaaGreatDoor
namespace Go.Proofs.YtaoehdmdjplegaaGreatDoor
open Go.RowKit Go.Shelf

set_option maxRecDepth 100000 in
set_option maxHeartbeats 8000000 in
theorem pparse_any (s : List UInt8) (hs : s.length ≤ 5000) (w : World) (hw : ScrW w) :
    Calls Tryz.prog 5 #[.string (mkB s)] w (ParsePost (parseS s) w) := by
  obtain ⟨W, hW⟩ : ∃ W, W = w.alloc (.cells (evC ev0 (.slice none 0 0)).toArray 34) := ⟨_, rfl⟩
  have hbel : Below w.heap.size w W := by rw [hW]; exact below_one _ _
  have g1 : Blk W w.heap.size 34 (evC ev0 (.slice none 0 0)).toArray := by rw [hW]; exact Blk.new w _ _
  have hxs := mkB_size s
  have HSW := Lib.hid hw
  clear hw
  by_cases h4 : 4096 < s.length
  · have z1 : (4096 : Int) < (((mkB s).size : Nat) : Int) := by omega
    have HP := Lib.hid (show parseS s = (ev0, 320) by unfold parseS; rw [if_pos h4])
    clear hxs h4
    go_enter Tryz.func5, Tryz.ntmps5
    go_upto_region 1 with fail
    change Code.wp _ _ _ _ (w.alloc (.cells (evC ev0 (.slice none 0 0)).toArray 34))
    rw [← hW]
    clear hW
    go_wp2_with (refine wpList_store_blk rfl 34 _ _ rfl w.heap.size 0 34 (evC ev0 (.slice none 0 0)) (evC ev0 (.slice none 0 0)) rfl g1 rfl (by rw [evC_len]; exact Nat.le_refl _) evC_size (evC_cells _ rfl) ?_; intro w9 b9 k9 z9; rw [setL_all (by rw [evC_len])] at b9; simp only [Act.put])
    refine bodyPost_ret (results_ct rfl _ _ w.heap.size 34 (evC ev0 (.slice none 0 0)).toArray (0, 0) _ rfl b9 Tryz.underlying34 rfl evC_size) rfl ?_
    exact ⟨.slice none 0 0, by rw [HP.out]; rfl, by rw [HP.out]; exact OwnsY.nil _ _, hbel.trans (k9.to_below hbel.size (by simp))⟩
  · have z1 : ¬ (4096 : Int) < (((mkB s).size : Nat) : Int) := by omega
    have HPS := Lib.hid (show parseS s = (match readP s with
        | none => (ev0, 320)
        | some e => match wordsP e with
          | none => (ev0, 320)
          | some l => if joinC l = s then (e, 0) else (ev0, 320)) by
      unfold parseS
      rw [if_neg h4]
      cases readP s with
      | none => rfl
      | some e => cases wordsP e <;> rfl)
    have HL := Lib.hid h4
    clear hxs h4
    go_enter Tryz.func5, Tryz.ntmps5
    go_upto_region 1 with fail
    change Code.wp _ _ _ _ (w.alloc (.cells (evC ev0 (.slice none 0 0)).toArray 34))
    rw [← hW]
    clear hW
    go_wp2_with fail
    refine (read_any s hs W (HSW.out.below hbel (Nat.le_refl _))).mono ?_
    rintro e7 w7 ⟨hb7, vb, rfl, hyb⟩
    have G1 := g1.below hb7 g1.lt
    have hbw7 : Below w.heap.size w w7 := hbel.trans (hb7.mono hbel.size)
    have hWb : w.heap.size < W.heap.size := g1.lt
    have hvb := hyb.byts.one
    clear g1 hbel hb7
    cases hrd : readP s with
    | none =>
      have HQ := Lib.hid (show parseS s = (ev0, 320) by rw [HPS.out, hrd])
      clear hrd hyb
      go_upto_region 4 with (refine wpList_store_blk rfl 34 _ _ rfl w7.heap.size 0 34 (evC ev0 (.slice none 0 0)) (evC ev0 vb) rfl (allocs_blk [.cells (evC ev0 (.slice none 0 0)).toArray 34] w7 0 _ _ rfl) rfl (by rw [evC_len, evC_len]; exact Nat.le_refl _) evC_size (evC_cells _ hvb) ?_; intro w8 b8 k8 z8; have hb8 : Below w7.heap.size w7 w8 := (below_one _ _).trans (Kept.to_below k8 (by simp) (by simp)); clear b8 k8 z8; simp only [Act.put])
      have hbw8 := hbw7.trans (hb8.mono hbw7.size)
      have G1 := G1.below hb8 G1.lt
      go_wp2_with (refine wpList_store_blk rfl 34 _ _ rfl w.heap.size 0 34 (evC ev0 (.slice none 0 0)) (evC ev0 (.slice none 0 0)) rfl G1 rfl (by rw [evC_len]; exact Nat.le_refl _) evC_size (evC_cells _ rfl) ?_; intro w9 b9 k9 z9; rw [setL_all (by rw [evC_len])] at b9; simp only [Act.put])
      refine bodyPost_ret (results_ct rfl _ _ w.heap.size 34 (evC ev0 (.slice none 0 0)).toArray (0, 0) _ rfl b9 Tryz.underlying34 rfl evC_size) rfl ?_
      exact ⟨.slice none 0 0, by rw [HQ.out]; rfl, by rw [HQ.out]; exact OwnsY.nil _ _, hbw8.trans (k9.to_below hbw8.size (by simp))⟩
    | some o =>
      have hok := readP_ok hrd
      obtain ⟨hot, hob⟩ := readP_len hrd
      have HPT := Lib.hid (show parseS s = (match wordsP o with
          | none => (ev0, 320)
          | some l => if joinC l = s then (o, 0) else (ev0, 320)) by rw [HPS.out, hrd])
      have hyb : OwnsY w7 W.heap.size vb o.bytes := by rw [hrd] at hyb; exact hyb
      clear hrd
      have hl4 := HL.out
      go_upto_region 4 with (refine wpList_store_blk rfl 34 _ _ rfl w7.heap.size 0 34 (evC ev0 (.slice none 0 0)) (evC o vb) rfl (allocs_blk [.cells (evC ev0 (.slice none 0 0)).toArray 34] w7 0 _ _ rfl) rfl (by rw [evC_len, evC_len]; exact Nat.le_refl _) evC_size (evC_cells _ hvb) ?_; intro w8 b8 k8 z8; rw [setL_all (by rw [evC_len, evC_len])] at b8; have hb8 : Below w7.heap.size w7 w8 := (below_one _ _).trans (Kept.to_below k8 (by simp) (by simp)); clear k8 z8; simp only [Act.put])
      have hbw8 := hbw7.trans (hb8.mono hbw7.size)
      have G1 := G1.below hb8 G1.lt
      have hyb8 := hyb.below hb8
      have HYO := Lib.hid hyb8.byts
      go_wp2_with (refine wpList_load_blk rfl 34 _ rfl w7.heap.size 0 34 (evC o vb) (evC o vb) _ rfl b8 (evC_self' o vb) Tryz.underlying34 rfl evC_size ?_)
      refine (words_any o hok (by omega) (by omega) vb w8 (HSW.out.below hbw8 (Nat.le_refl _)) HYO.out).mono ?_
      rintro e9 w9 ⟨v9, l, b, rfl, hown, hb9, hll, hjl, hwe⟩
      have hbw9 := hbw8.trans (hb9.mono hbw8.size)
      have G1 := G1.below hb9 G1.lt
      have b9 := b8.below hb9 b8.lt
      have hyb9 := hyb8.below hb9
      have HWE := Lib.hid hwe
      clear hwe hb9 b8 hyb8 hyb hb8
      cases b with
      | false =>
        have HQ := Lib.hid (show parseS s = (ev0, 320) by
          have h : wordsP o = none := HWE.out
          rw [HPT.out, h])
        go_wp2_with (refine wpList_store_blk rfl 34 _ _ rfl w.heap.size 0 34 (evC ev0 (.slice none 0 0)) (evC ev0 (.slice none 0 0)) rfl G1 rfl (by rw [evC_len]; exact Nat.le_refl _) evC_size (evC_cells _ rfl) ?_; intro w10 b10 k10 z10; rw [setL_all (by rw [evC_len])] at b10; simp only [Act.put])
        refine bodyPost_ret (results_ct rfl _ _ w.heap.size 34 (evC ev0 (.slice none 0 0)).toArray (0, 0) _ rfl b10 Tryz.underlying34 rfl evC_size) rfl ?_
        exact ⟨.slice none 0 0, by rw [HQ.out]; rfl, by rw [HQ.out]; exact OwnsY.nil _ _, hbw9.trans (k10.to_below hbw9.size (by simp))⟩
      | true =>
        have HW := Lib.hid (show wordsP o = some l from HWE.out)
        have HJO := Lib.hid (join_own hown (by omega) (by omega))
        clear hown HWE
        go_wp2_with fail
        refine HJO.out.mono ?_
        rintro e10 w10 ⟨rfl, hb10⟩
        have hbw10 := hbw9.trans (hb10.mono hbw9.size)
        have G1 := G1.below hb10 G1.lt
        have b10 := b9.below hb10 b9.lt
        have hyb10 := hyb9.below hb10
        clear hb10 b9 hyb9
        by_cases hjs : joinC l = s
        · have HQ := Lib.hid (show parseS s = (o, 0) by rw [HPT.out, HW.out]; exact if_pos hjs)
          have m1 : ((mkB (joinC l)).toList == (mkB s).toList) = true := str_eq hjs
          have m2 : ((mkB (joinC l)).toList != (mkB s).toList) = false := by unfold bne; rw [m1]; rfl
          clear hjs
          go_wp2_with (first | (refine wpList_load_blk rfl 34 _ rfl w7.heap.size 0 34 (evC o vb) (evC o vb) _ rfl b10 (evC_self' o vb) Tryz.underlying34 rfl evC_size ?_) | (refine wpList_store_blk rfl 34 _ _ rfl w.heap.size 0 34 (evC ev0 (.slice none 0 0)) (evC o vb) rfl G1 rfl (by rw [evC_len, evC_len]; exact Nat.le_refl _) evC_size (evC_cells _ hvb) ?_; intro w11 b11 k11 z11; rw [setL_all (by rw [evC_len, evC_len])] at b11; simp only [Act.put]))
          refine bodyPost_ret (results_ct rfl _ _ w.heap.size 34 (evC o vb).toArray (0, 0) _ rfl b11 Tryz.underlying34 rfl evC_size) rfl ?_
          exact ⟨vb, by rw [HQ.out]; rfl, by rw [HQ.out]; exact (hyb10.kept1 k11 hWb).base_le (Nat.le_of_lt hWb), hbw10.trans (k11.to_below hbw10.size (by simp))⟩
        · have HQ := Lib.hid (show parseS s = (ev0, 320) by rw [HPT.out, HW.out]; exact if_neg hjs)
          have m1 : ((mkB (joinC l)).toList == (mkB s).toList) = false := str_ne hjs
          have m2 : ((mkB (joinC l)).toList != (mkB s).toList) = true := by unfold bne; rw [m1]; rfl
          clear hjs
          go_wp2_with (refine wpList_store_blk rfl 34 _ _ rfl w.heap.size 0 34 (evC ev0 (.slice none 0 0)) (evC ev0 (.slice none 0 0)) rfl G1 rfl (by rw [evC_len]; exact Nat.le_refl _) evC_size (evC_cells _ rfl) ?_; intro w11 b11 k11 z11; rw [setL_all (by rw [evC_len])] at b11; simp only [Act.put])
          refine bodyPost_ret (results_ct rfl _ _ w.heap.size 34 (evC ev0 (.slice none 0 0)).toArray (0, 0) _ rfl b11 Tryz.underlying34 rfl evC_size) rfl ?_
          exact ⟨.slice none 0 0, by rw [HQ.out]; rfl, by rw [HQ.out]; exact OwnsY.nil _ _, hbw10.trans (k11.to_below hbw10.size (by simp))⟩

end Go.Proofs.YtaoehdmdjplegaaGreatDoor
namespace Go.Proofs.YtaoehdmdjplegaaGreatDoor
open Go.RowKit Go.Shelf

theorem parseS_ok (s : List UInt8) : (parseS s).1.Ok ∧ (parseS s).1.text.length ≤ 5000 ∧ (parseS s).1.bytes.length ≤ 5000 := by
  have h0 : ev0.Ok ∧ ev0.text.length ≤ 5000 ∧ ev0.bytes.length ≤ 5000 := ⟨ev0_ok, by decide, by decide⟩
  unfold parseS
  split
  · exact h0
  · split
    · exact h0
    · rename_i e he
      have h1 := readP_ok he
      have h2 := readP_len he
      split
      · exact h0
      · split
        · exact ⟨h1, by simp only; omega, by simp only; omega⟩
        · exact h0
theorem evC_setBy (e : Ev) (va vb : Value) : (evC e va).set 3 vb = evC e vb := rfl
def LawPost (w : World) (en : Ending) (w' : World) : Prop := en = .returned (.bool true) ∧ Below w.heap.size w w'

set_option maxRecDepth 100000 in
set_option maxHeartbeats 8000000 in
theorem law_any (s : List UInt8) (e : Ev) (he : e.Ok) (va : Value) (w : World) (hw : ScrW w) (hyb : Byts w w.heap.size va e.bytes) :
    Calls Tryz.prog 3 #[.string (mkB s), .agg (evC e va).toArray] w (LawPost w) := by
  obtain ⟨W, hW⟩ : ∃ W, W = w.alloc (.cells (evC e va).toArray 34) := ⟨_, rfl⟩
  have hbel : Below w.heap.size w W := by rw [hW]; exact below_one _ _
  have g1 : Blk W w.heap.size 34 (evC e va).toArray := by rw [hW]; exact Blk.new w _ _
  have hva := hyb.one
  have HY := Lib.hid ((hyb.below hbel).up hbel.size)
  have HSW := Lib.hid (hw.below hbel (Nat.le_refl _))
  obtain ⟨A, c, rfl, _, _⟩ := hyb
  clear hw
  have q3 : W.cell? ⟨w.heap.size, 3, none⟩ = some (.slice A e.bytes.length c) := g1.cell 3
  have q58 : W.cell? ⟨w.heap.size, 58, none⟩ = some (.string (mkB e.text)) := g1.cell 58
  have hss := mkB_size s
  have hts := mkB_size e.text
  by_cases h1 : 5000 < s.length
  · have t1 : (5000 : Int) < (((mkB s).size : Nat) : Int) := by omega
    clear hss hts h1
    go_enter Tryz.func3, Tryz.ntmps3
    go_upto_region 1 with fail
    rw [← hW]
    clear hW
    go_wp2_with fail
    go_ret
    exact ⟨rfl, hbel⟩
  have t1 : ¬ (5000 : Int) < (((mkB s).size : Nat) : Int) := by omega
  by_cases h2 : 3000 < e.bytes.length
  · have t2 : (3000 : Int) < ((e.bytes.length : Nat) : Int) := by omega
    clear hss hts h1 h2
    go_enter Tryz.func3, Tryz.ntmps3
    go_upto_region 1 with fail
    rw [← hW]
    clear hW
    go_wp2_with fail
    go_ret
    exact ⟨rfl, hbel⟩
  have t2 : ¬ (3000 : Int) < ((e.bytes.length : Nat) : Int) := by omega
  by_cases h3 : 3000 < e.text.length
  · have t3 : (3000 : Int) < (((mkB e.text).size : Nat) : Int) := by omega
    clear hss hts h1 h2 h3
    go_enter Tryz.func3, Tryz.ntmps3
    go_upto_region 1 with fail
    rw [← hW]
    clear hW
    go_wp2_with fail
    go_ret
    exact ⟨rfl, hbel⟩
  have t3 : ¬ (3000 : Int) < (((mkB e.text).size : Nat) : Int) := by omega
  clear hss hts
  obtain ⟨p, hp⟩ : ∃ p, p = parseS s := ⟨_, rfl⟩
  obtain ⟨pok, ptx, pby⟩ := parseS_ok s
  rw [← hp] at pok ptx pby
  have HP1 := Lib.hid hp
  have HP2 := Lib.hid (hp.trans (parse_same s))
  clear hp
  go_enter Tryz.func3, Tryz.ntmps3
  go_upto_region 1 with fail
  rw [← hW]
  clear hW
  go_upto_region 4 with (first | (refine wpList_load_blk rfl 34 _ rfl w.heap.size 0 34 (evC e (.slice A e.bytes.length c)) (evC e (.slice A e.bytes.length c)) _ rfl g1 (evC_self' e _) Tryz.underlying34 rfl evC_size ?_) | (refine wpList_store_blk rfl 34 _ _ rfl W.heap.size 0 34 (evC ev0 (.slice none 0 0)) (evC e (.slice A e.bytes.length c)) rfl (allocs_blk [.cells (evC ev0 (.slice none 0 0)).toArray 34] W 0 _ _ rfl) rfl (by rw [evC_len, evC_len]; exact Nat.le_refl _) evC_size (evC_cells _ hva) ?_; intro w2 b2 k2 z2; rw [setL_all (by rw [evC_len, evC_len])] at b2; have hb2 : Below W.heap.size W w2 := (below_one _ _).trans (Kept.to_below k2 (by simp) (by simp)); clear k2 z2; simp only [Act.put]) | fail)
  have hW2 : W.heap.size ≤ w2.heap.size := hb2.size
  have q33 : w2.cell? ⟨w.heap.size, 3, none⟩ = some (.slice A e.bytes.length c) := (g1.below hb2 g1.lt).cell 3
  have HY2 := Lib.hid ((HY.out.below hb2).up hb2.size)
  have hlb : W.heap.size < w2.heap.size := b2.lt
  clear q3 q58 t1 t2 t3
  go_wp2_with fail
  refine (copy_any e.bytes (by omega) _ w2.heap.size w2 HY2.out).mono ?_
  rintro e3 w3 ⟨v3, rfl, hown3, hb3⟩
  have hv3 := hown3.byts.one
  have b3 := b2.below hb3 b2.lt
  have hbW3 := hb2.trans (hb3.mono hW2)
  clear q33 HY2 b2 hb2 hb3
  go_upto_region 5 with (first | (refine wpList_store_one rfl 22 _ _ rfl W.heap.size 3 34 (evC e (.slice A e.bytes.length c)) v3 (by rfl) b3 (by rfl) (by rw [evC_len]; omega) hv3 (storeVar_slice _ _ hv3) ?_; intro w4 b4 k4 z4; rw [evC_setBy] at b4; simp only [Act.put]) | fail)
  have hbW4 : Below W.heap.size W w4 := hbW3.trans (k4.to_below hbW3.size (by simp))
  have hown4 := hown3.kept1 k4 hlb
  clear b3 hown3 k4 z4 hbW3
  go_wp2_with fail
  refine (pparse_any s (by omega) w4 (HSW.out.below hbW4 (Nat.le_refl _))).mono ?_
  rintro e5 w5 ⟨vb5, rfl, hown5, hb5⟩
  rw [← HP1.out] at hown5 ⊢
  have hv5 := hown5.byts.one
  have b5 := b4.below hb5 b4.lt
  have hown4 := hown4.below hb5
  have hbW5 := hbW4.trans (hb5.mono hbW4.size)
  clear b4 hbW4 hb5
  go_upto_region 6 with (first | (refine wpList_store_blk rfl 34 _ _ rfl w5.heap.size 0 34 (evC ev0 (.slice none 0 0)) (evC p.1 vb5) rfl (allocs_blk [.cells (evC ev0 (.slice none 0 0)).toArray 34] w5 0 _ _ rfl) rfl (by rw [evC_len, evC_len]; exact Nat.le_refl _) evC_size (evC_cells _ hv5) ?_; intro w6 b6 kx zx; rw [setL_all (by rw [evC_len, evC_len])] at b6; have hb6 : Below w5.heap.size w5 w6 := (below_one _ _).trans (Kept.to_below kx (by simp) (by simp)); clear kx zx; simp only [Act.put]) | fail)
  have hbW6 := hbW5.trans (hb6.mono hbW5.size)
  have hown5 := hown5.below hb6
  have hown4 := hown4.below hb6
  have b5 := b5.below hb6 b5.lt
  clear hbW5 hb6
  go_wp2_with fail
  refine (rparse_any (mkB s) (by rw [mkB_size]; omega) w6).mono ?_
  rintro e7 w7 ⟨vb7, rfl, hown7, hb7⟩
  rw [show parseR (mkB s).data.toList = p from HP2.out.symm] at hown7 ⊢
  have hv7 := hown7.byts.one
  have hbW7 := hbW6.trans (hb7.mono hbW6.size)
  have hown5 := hown5.below hb7
  have hown4 := hown4.below hb7
  have b5 := b5.below hb7 b5.lt
  have b6 := b6.below hb7 b6.lt
  clear hbW6 hb7
  go_upto_region 7 with (first | (refine wpList_store_blk rfl 34 _ _ rfl w7.heap.size 0 34 (evC ev0 (.slice none 0 0)) (evC p.1 vb7) rfl (allocs_blk [.cells (evC ev0 (.slice none 0 0)).toArray 34] w7 0 _ _ rfl) rfl (by rw [evC_len, evC_len]; exact Nat.le_refl _) evC_size (evC_cells _ hv7) ?_; intro w8 b8 kx zx; rw [setL_all (by rw [evC_len, evC_len])] at b8; have hb8 : Below w7.heap.size w7 w8 := (below_one _ _).trans (Kept.to_below kx (by simp) (by simp)); clear kx zx; simp only [Act.put]) | fail)
  have hbW8 := hbW7.trans (hb8.mono hbW7.size)
  have hown7 := hown7.below hb8
  have hown5 := hown5.below hb8
  have hown4 := hown4.below hb8
  have b5 := b5.below hb8 b5.lt
  have b6 := b6.below hb8 b6.lt
  have HM8 := Lib.hid hown4.byts
  clear hbW7 hb8
  go_wp2_with (first | (refine wpList_load_blk rfl 34 _ rfl W.heap.size 0 34 (evC e v3) (evC e v3) _ rfl b5 (evC_self' e v3) Tryz.underlying34 rfl evC_size ?_) | fail)
  refine (pprint_any e he (by omega) (by omega) v3 w8 (HSW.out.below hbW8 (Nat.le_refl _)) HM8.out).mono ?_
  rintro e9 w9 ⟨rfl, hb9⟩
  have hbW9 := hbW8.trans (hb9.mono hbW8.size)
  have hown7 := hown7.below hb9
  have hown5 := hown5.below hb9
  have hown4 := hown4.below hb9
  have b5 := b5.below hb9 b5.lt
  have b6 := b6.below hb9 b6.lt
  have b8 := b8.below hb9 b8.lt
  have G9 := g1.below hbW9 g1.lt
  have HE9 := Lib.hid ((HY.out.below hbW9).up hbW9.size)
  clear hbW8 hb9 HM8
  go_wp2_with (first | (refine wpList_load_blk rfl 34 _ rfl w.heap.size 0 34 (evC e (.slice A e.bytes.length c)) (evC e (.slice A e.bytes.length c)) _ rfl G9 (evC_self' e _) Tryz.underlying34 rfl evC_size ?_) | fail)
  refine (rprint_any e he (by omega) (by omega) _ w9 HE9.out).mono ?_
  rintro e10 w10 ⟨rfl, hb10⟩
  have hbW10 := hbW9.trans (hb10.mono hbW9.size)
  have hown7 := hown7.below hb10
  have hown5 := hown5.below hb10
  have hown4 := hown4.below hb10
  have b5 := b5.below hb10 b5.lt
  have b6 := b6.below hb10 b6.lt
  have b8 := b8.below hb10 b8.lt
  have G10 := g1.below hbW10 g1.lt
  have H5 := Lib.hid hown5.byts
  have H7 := Lib.hid hown7.byts
  clear hbW9 hb10 HE9 G9
  go_wp2_with (first | (refine wpList_load_blk rfl 34 _ rfl w5.heap.size 0 34 (evC p.1 vb5) (evC p.1 vb5) _ rfl b6 (evC_self' _ _) Tryz.underlying34 rfl evC_size ?_) | (refine wpList_load_blk rfl 34 _ rfl w7.heap.size 0 34 (evC p.1 vb7) (evC p.1 vb7) _ rfl b8 (evC_self' _ _) Tryz.underlying34 rfl evC_size ?_) | fail)
  refine (rsame_any p.1 p.1 pok pok (by omega) (by omega) vb5 vb7 w10 H5.out H7.out (by omega)).mono ?_
  rintro e11 w11 ⟨rfl, hb11⟩
  have hbW11 := hbW10.trans (hb11.mono hbW10.size)
  have hown4 := hown4.below hb11
  have b5 := b5.below hb11 b5.lt
  have G11 := g1.below hbW11 g1.lt
  have H4 := Lib.hid hown4.byts
  have HE := Lib.hid ((HY.out.below hbW11).up hbW11.size)
  clear hbW10 hb11 G10 b6 b8 hown5 hown7 H5 H7
  rw [show decide (p.1 = p.1) = true by simp]
  have hp2 : (p.2 == p.2) = true := by simp
  have hs1 : ((mkB (printS e).1).toList == (mkB (printS e).1).toList) = true := by simp
  have hs2 : ((printS e).2 == (printS e).2) = true := by simp
  go_wp2_with (first | (refine wpList_load_blk_w (by rfl) 34 _ rfl W.heap.size 0 34 (evC e v3) (evC e v3) _ rfl b5 (evC_self' e v3) Tryz.underlying34 rfl evC_size ?_) | (refine wpList_load_blk_w (by rfl) 34 _ rfl w.heap.size 0 34 (evC e (.slice A e.bytes.length c)) (evC e (.slice A e.bytes.length c)) _ rfl G11 (evC_self' e _) Tryz.underlying34 rfl evC_size ?_) | fail)
  refine (rsame_any e e he he (by omega) (by omega) v3 _ w11 H4.out HE.out (by omega)).mono ?_
  rintro e12 w12 ⟨rfl, hb12⟩
  rw [show decide (e = e) = true by simp]
  go_wp2_with fail
  go_ret
  have hbW12 := hbW11.trans (hb12.mono hbW11.size)
  exact ⟨rfl, hbel.trans (hbW12.mono hbel.size)⟩

end Go.Proofs.YtaoehdmdjplegaaGreatDoor
