/-
  Walks: windowpaneref02.Copy, windowpaneref32.Same: what they answer.
-/
import Derived.Test.YtaoehdmdjplegaaGreatDoorWantW
namespace Go.Proofs.YtaoehdmdjplegaaGreatDoor
open Go.RowKit Go.Shelf

theorem Byts.reads {w : World} {B : Nat} {v : Value} {l : List UInt8} (h : Byts w B v l) : ∃ A c, v = .slice A l.length c ∧ l.length ≤ c ∧ Reads w B 1 A l.length (byV l) := h
theorem byV_cells (l : List UInt8) : ∀ u ∈ byV l, u.oneCell' = true := by
  intro u hu
  unfold byV at hu
  obtain ⟨x, _, rfl⟩ := List.mem_map.1 hu
  rfl
/-- 'append(out, b...)'. -/
theorem append_byts {ops : Array Oper} {rest : List Oper} {o : Oper} {a : Act} {Q : Exit → Act → World → Prop} (w : World) (hgd : o.guard = none) (s x : Operand)
    (ho : o.op = .call { callee := .builtin .append, args := #[s, x], argTypes := #[22, 22] })
    (base : Nat) (v : Value) (l : List UInt8) (hs : a.eval s = v) (hown : OwnsY w base v l) (B : Nat) (v2 : Value) (l2 : List UInt8) (hx : a.eval x = v2) (hb : Byts w B v2 l2)
    (h47 : l.length + l2.length < 17592186044416) (hbase : base ≤ w.heap.size)
    (h : ∀ v' w', OwnsY w' base v' (l ++ l2) → Below base w w' → wpList Tryz.prog ops Q rest (a.put o.dst v') w') : wpList Tryz.prog ops Q (o :: rest) a w := by
  obtain ⟨i0, hi0, hz0, hz1, hz2⟩ := info_parts Tryz.infoU8
  have hlt := fun k (e : v.ownBlock = some k) => (World.ownsRow.lt hown k e).1
  obtain ⟨A, c, rfl, _, hr⟩ := hb.reads
  refine wpList_append_any w hgd s x _ ho base 5 i0 _ 1 1 Tryz.underlying22 hi0 hz0 hz1 hz2 rfl (by omega) v _ _ hs hown B A l2.length c (byV l2) hx hr (byV_cells l2) (by simp only [maxLen]; omega) (by omega) hbase ?_
  intro v' w' h1 h2 _
  refine h v' w' (by unfold OwnsY; rw [List.length_append, show byV (l ++ l2) = byV l ++ byV l2 by simp [byV]]; exact h1) ?_
  exact (Below.refl base w).grown h2 hbase (fun k e => hlt k e)

def CopyPost (l : List UInt8) (w : World) (e : Ending) (w' : World) : Prop := ∃ v, e = .returned v ∧ OwnsY w' w.heap.size v l ∧ Below w.heap.size w w'
set_option maxRecDepth 100000 in
theorem copy_any (l : List UInt8) (hm : l.length ≤ 100000) (v : Value) (B : Nat) (w : World) (h : Byts w B v l) : Calls Tryz.prog 4 #[v] w (CopyPost l w) := by
  have hl : ([] : List UInt8).length + l.length < 17592186044416 := by simp; omega
  go_enter Tryz.func4, Tryz.ntmps4
  go_wp2_with (at_builtin; refine append_byts _ rfl _ _ rfl w.heap.size _ [] rfl (OwnsY.nil _ _) B v l rfl h hl (Nat.le_refl _) ?_; intro v3 w3 hown3 hb3)
  go_ret
  exact ⟨v3, rfl, by simpa using hown3, hb3⟩

/-- Where the bytes' comparison stands. -/
def SmA (a b : List UInt8) (W : World) (i : Value) (w : World) : Prop := ∃ k : Nat, k ≤ a.length ∧ i = .int .i64 k ∧ a.take k = b.take k ∧ QuietP W w
theorem ev_eq {a b : Ev} (ha : a.Ok) (hb : b.Ok) : a = b ↔ a.kind = b.kind ∧ a.client = b.client ∧ a.n = b.n ∧ chC a = chC b ∧ a.bytes = b.bytes := by
  rw [chC_inj ha hb]
  constructor
  · rintro rfl
    simp
  · obtain ⟨⟩ := a
    obtain ⟨⟩ := b
    rintro ⟨h1, h2, h3, ⟨h4, h5, h6, h7, h8, h9, h10, h11, h12⟩, h13⟩
    simp at *
    simp [*]
def SamePost (a b : Ev) (w : World) (e : Ending) (w' : World) : Prop := e = .returned (.bool (decide (a = b))) ∧ Below w.heap.size w w'
theorem evC_ch (e : Ev) (bv : Value) : ∀ j v, (chC e)[j]? = some v → (evC e bv)[4 + j]? = some v := fun j v h => by
  show ([.int .u8 (e.kind : Int), .int .i64 e.client, .int .i64 e.n, bv] ++ (chC e))[4 + j]? = some v
  rw [List.getElem?_append_right (by simp)]
  simpa using h

set_option maxRecDepth 100000 in
set_option maxHeartbeats 8000000 in
theorem rsame_any (a b : Ev) (ha : a.Ok) (hb : b.Ok) (hta : a.text.length ≤ 100000) (htb : b.text.length ≤ 100000) (va vb : Value) (w : World) (hya : Byts w w.heap.size va a.bytes) (hyb : Byts w w.heap.size vb b.bytes) (hla : a.bytes.length ≤ 100000) :
    Calls Tryz.prog 9 #[.agg (evC a va).toArray, .agg (evC b vb).toArray] w (SamePost a b w) := by
  have hiff := ev_eq ha hb
  obtain ⟨W, hW⟩ : ∃ W, W = (w.alloc (.cells (evC a va).toArray 34)).alloc (.cells (evC b vb).toArray 34) := ⟨_, rfl⟩
  have hbel : Below w.heap.size w W := by rw [hW]; exact ((Below.refl _ _).alloc (Nat.le_refl _) _).alloc (by simp) _
  have g1 : Blk W w.heap.size 34 (evC a va).toArray := by rw [hW]; exact allocs_blk [.cells (evC a va).toArray 34, .cells (evC b vb).toArray 34] w 0 _ _ rfl
  have g2 : Blk W (w.heap.size + 1) 34 (evC b vb).toArray := by rw [hW]; exact allocs_blk [.cells (evC a va).toArray 34, .cells (evC b vb).toArray 34] w 1 _ _ rfl
  obtain ⟨A1, c1, rfl, hc1, hr1⟩ := (hya.below hbel).reads
  obtain ⟨A2, c2, rfl, hc2, hr2⟩ := (hyb.below hbel).reads
  have a0 : W.cell? ⟨w.heap.size, 0, none⟩ = some (.int .u8 (a.kind : Int)) := g1.cell 0
  have a1 : W.cell? ⟨w.heap.size, 1, none⟩ = some (.int .i64 a.client) := g1.cell 1
  have a2 : W.cell? ⟨w.heap.size, 2, none⟩ = some (.int .i64 a.n) := g1.cell 2
  have a3 : W.cell? ⟨w.heap.size, 3, none⟩ = some (.slice A1 a.bytes.length c1) := g1.cell 3
  have b0 : W.cell? ⟨w.heap.size + 1, 0, none⟩ = some (.int .u8 (b.kind : Int)) := g2.cell 0
  have b1 : W.cell? ⟨w.heap.size + 1, 1, none⟩ = some (.int .i64 b.client) := g2.cell 1
  have b2 : W.cell? ⟨w.heap.size + 1, 2, none⟩ = some (.int .i64 b.n) := g2.cell 2
  have b3 : W.cell? ⟨w.heap.size + 1, 3, none⟩ = some (.slice A2 b.bytes.length c2) := g2.cell 3
  have bad : ¬ a = b → decide (a = b) = false := fun h => by simp [h]
  have HIF := Lib.hid hiff
  have HBD := Lib.hid bad
  clear hiff bad hya hyb
  by_cases k1 : a.kind = b.kind
  · have t1 : (((a.kind : Nat) : Int) != ((b.kind : Nat) : Int)) = false := by unfold bne; rw [show (((a.kind : Nat) : Int) == ((b.kind : Nat) : Int)) = true by rw [beq_iff_eq]; omega]; rfl
    by_cases k2 : a.client = b.client
    · have t2 : (a.client != b.client) = false := by unfold bne; rw [beq_iff_eq.2 k2]; rfl
      by_cases k3 : a.n = b.n
      · have t3 : (a.n != b.n) = false := by unfold bne; rw [beq_iff_eq.2 k3]; rfl
        by_cases k4 : chC a = chC b
        · have hq : ∀ W, (Op.equal 32 (.agg (chC a).toArray) (.agg (chC b).toArray)).run Tryz.prog W = .ok true W := fun W => by
            obtain ⟨r, h1, h2⟩ := change_equal ha hb hta htb W
            rw [h1, h2.2 k4]
          by_cases k5 : a.bytes.length = b.bytes.length
          · have t5 : (((a.bytes.length : Nat) : Int) != ((b.bytes.length : Nat) : Int)) = false := by unfold bne; rw [show (((a.bytes.length : Nat) : Int) == ((b.bytes.length : Nat) : Int)) = true by rw [beq_iff_eq]; omega]; rfl
            have HQ := Lib.hid hq
            have HK := Lib.hid (show a.bytes = b.bytes → a = b from fun h => HIF.out.2 ⟨k1, k2, k3, k4, h⟩)
            have HKN := Lib.hid (show a.bytes ≠ b.bytes → ¬ a = b from fun h e => h (HIF.out.1 e).2.2.2.2)
            have HL := Lib.hid k5
            clear k1 k2 k3 k4 hq HIF k5
            go_enter Tryz.func9, Tryz.ntmps9
            go_upto_region 1 with fail
            rw [← hW]
            clear hW
            go_wp2_with (first | (refine wpList_load_blk_w (by rfl) 32 _ rfl w.heap.size 4 34 _ (chC a) _ rfl g1 (evC_ch a _) Tryz.underlying32 rfl chC_size ?_) | (refine wpList_load_blk_w (by rfl) 32 _ rfl (w.heap.size + 1) 4 34 _ (chC b) _ rfl g2 (evC_ch b _) Tryz.underlying32 rfl chC_size ?_) | (refine wpList_neq_agg (by rfl) _ _ _ _ rfl _ _ rfl rfl (by kernel_rfl) true (HQ.out _) ?_; simp only [Bool.not_true]))
            go_loopw [5] (SmA a.bytes b.bytes W) (fun i _ => a.bytes.length - (intOf i).toNat)
            case atStart => exact ⟨0, by omega, rfl, by simp, QuietP.refl _⟩
            case round =>
              obtain ⟨k, hk, rfl, htk, nq, rfl⟩ := hrel
              have a3 : (W.drewN nq).cell? ⟨w.heap.size, 3, none⟩ = some (.slice A1 a.bytes.length c1) := a3
              have b3 : (W.drewN nq).cell? ⟨w.heap.size + 1, 3, none⟩ = some (.slice A2 b.bytes.length c2) := b3
              have hr1 : Reads (W.drewN nq) w.heap.size 1 A1 a.bytes.length (byV a.bytes) := hr1
              have hr2 : Reads (W.drewN nq) w.heap.size 1 A2 b.bytes.length (byV b.bytes) := hr2
              have hbel := below_drewN hbel nq
              generalize hWq : W.drewN nq = Wq at *
              have HT := Lib.hid htk
              clear htk t1 t2 t3 t5 a0 a1 a2 b0 b1 b2 HQ
              by_cases hlt : k < a.bytes.length
              · have hlt2 : k < b.bytes.length := by rw [← HL.out]; exact hlt
                obtain ⟨ad1, rfl, hb1, hcell1⟩ := byts_val hr1 hlt
                obtain ⟨ad2, rfl, hb2, hcell2⟩ := byts_val hr2 hlt2
                have l1 : ((k : Nat) : Int) < ((a.bytes.length : Nat) : Int) := by omega
                have l2 : ((k : Nat) : Int) < ((b.bytes.length : Nat) : Int) := by omega
                by_cases he : a.bytes[k] = b.bytes[k]
                · have m1 : ((((a.bytes[k]).toNat : Nat) : Int) != (((b.bytes[k]).toNat : Nat) : Int)) = false := by unfold bne; rw [he, beq_iff_eq.2 rfl]; rfl
                  have HE := Lib.hid he
                  clear he
                  go_wp2_with fail
                  go_region
                  go_wp2_with fail
                  go_roundw
                  case rel => exact ⟨k + 1, by omega, by go_num, by rw [List.take_succ_eq_append_getElem hlt, List.take_succ_eq_append_getElem hlt2, HT.out, HE.out], ⟨nq + 1, by rw [← World.drewN_drewN, hWq]; rfl⟩⟩
                  case measure => simp [intOf]; omega
                · have m1 : ((((a.bytes[k]).toNat : Nat) : Int) != (((b.bytes[k]).toNat : Nat) : Int)) = true := by unfold bne; rw [show ((((a.bytes[k]).toNat : Nat) : Int) == (((b.bytes[k]).toNat : Nat) : Int)) = false by (rw [beq_eq_false_iff_ne]; intro h; exact he (UInt8.toNat_inj.1 (by omega)))]; rfl
                  have HN := Lib.hid (HBD.out (HKN.out fun e => he (by congr 1)))
                  clear he
                  go_wp2_with fail
                  go_region
                  go_wp2_with fail
                  go_ret
                  exact ⟨by rw [HN.out]; rfl, below_drewN hbel _⟩
              · have HN := Lib.hid (show decide (a = b) = true by
                  have hl := HL.out
                  have hT := HT.out
                  rw [List.take_of_length_le (by omega), List.take_of_length_le (by omega)] at hT
                  simpa using HK.out hT)
                have l1 : ¬ ((k : Nat) : Int) < ((a.bytes.length : Nat) : Int) := by omega
                go_wp2_with fail
                go_ret
                exact ⟨by rw [HN.out]; rfl, hbel⟩
          · have t5 : (((a.bytes.length : Nat) : Int) != ((b.bytes.length : Nat) : Int)) = true := by unfold bne; rw [show (((a.bytes.length : Nat) : Int) == ((b.bytes.length : Nat) : Int)) = false by rw [beq_eq_false_iff_ne]; omega]; rfl
            have HQ := Lib.hid hq
            have HN := Lib.hid (HBD.out fun e => k5 (by rw [(HIF.out.1 e).2.2.2.2]))
            clear k1 k2 k3 k4 k5 hq HIF HBD
            go_enter Tryz.func9, Tryz.ntmps9
            go_upto_region 1 with fail
            rw [← hW]
            clear hW
            go_wp2_with (first | (refine wpList_load_blk_w (by rfl) 32 _ rfl w.heap.size 4 34 _ (chC a) _ rfl g1 (evC_ch a _) Tryz.underlying32 rfl chC_size ?_) | (refine wpList_load_blk_w (by rfl) 32 _ rfl (w.heap.size + 1) 4 34 _ (chC b) _ rfl g2 (evC_ch b _) Tryz.underlying32 rfl chC_size ?_) | (refine wpList_neq_agg (by rfl) _ _ _ _ rfl _ _ rfl rfl (by kernel_rfl) true (HQ.out _) ?_; simp only [Bool.not_true]))
            go_ret
            exact ⟨by rw [HN.out]; rfl, hbel⟩
        · have HQ := Lib.hid (show ∀ W, (Op.equal 32 (.agg (chC a).toArray) (.agg (chC b).toArray)).run Tryz.prog W = .ok false W from fun W => by
            obtain ⟨r, h1, h2⟩ := change_equal ha hb hta htb W
            rw [h1, show r = false by (cases r with | false => rfl | true => exact absurd (h2.1 rfl) k4)])
          have HN := Lib.hid (HBD.out fun e => k4 (HIF.out.1 e).2.2.2.1)
          clear k1 k2 k3 k4 HIF HBD
          go_enter Tryz.func9, Tryz.ntmps9
          go_upto_region 1 with fail
          rw [← hW]
          clear hW
          go_wp2_with (first | (refine wpList_load_blk_w (by rfl) 32 _ rfl w.heap.size 4 34 _ (chC a) _ rfl g1 (evC_ch a _) Tryz.underlying32 rfl chC_size ?_) | (refine wpList_load_blk_w (by rfl) 32 _ rfl (w.heap.size + 1) 4 34 _ (chC b) _ rfl g2 (evC_ch b _) Tryz.underlying32 rfl chC_size ?_) | (refine wpList_neq_agg (by rfl) _ _ _ _ rfl _ _ rfl rfl (by kernel_rfl) false (HQ.out _) ?_; simp only [Bool.not_false]))
          go_ret
          exact ⟨by rw [HN.out]; rfl, hbel⟩
      · have t3 : (a.n != b.n) = true := by unfold bne; rw [show (a.n == b.n) = false by simpa using k3]; rfl
        have HN := Lib.hid (HBD.out fun e => k3 (HIF.out.1 e).2.2.1)
        clear k1 k2 k3 HIF HBD
        go_enter Tryz.func9, Tryz.ntmps9
        go_upto_region 1 with fail
        rw [← hW]
        clear hW
        go_wp2_with fail
        go_ret
        exact ⟨by rw [HN.out]; rfl, hbel⟩
    · have t2 : (a.client != b.client) = true := by unfold bne; rw [show (a.client == b.client) = false by simpa using k2]; rfl
      have HN := Lib.hid (HBD.out fun e => k2 (HIF.out.1 e).2.1)
      clear k1 k2 HIF HBD
      go_enter Tryz.func9, Tryz.ntmps9
      go_upto_region 1 with fail
      rw [← hW]
      clear hW
      go_wp2_with fail
      go_ret
      exact ⟨by rw [HN.out]; rfl, hbel⟩
  · have t1 : (((a.kind : Nat) : Int) != ((b.kind : Nat) : Int)) = true := by unfold bne; rw [show (((a.kind : Nat) : Int) == ((b.kind : Nat) : Int)) = false by rw [beq_eq_false_iff_ne]; omega]; rfl
    have HN := Lib.hid (HBD.out fun e => k1 (HIF.out.1 e).1)
    clear k1 HIF HBD
    go_enter Tryz.func9, Tryz.ntmps9
    go_upto_region 1 with fail
    rw [← hW]
    clear hW
    go_wp2_with fail
    go_ret
    exact ⟨by rw [HN.out]; rfl, hbel⟩

end Go.Proofs.YtaoehdmdjplegaaGreatDoor
