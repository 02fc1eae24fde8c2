/-
  Walks: windowpaneref32.reader's bytes: what it answers, and what it leaves.
-/
import Derived.Test.YtaoehdmdjplegaaGreatDoorRText
namespace Go.Proofs.YtaoehdmdjplegaaGreatDoor
open Go.RowKit Go.Shelf

/-- 'out = append(out, c)' in a region that draws its order. -/
theorem step_append_byte {ops : Array Oper} {o : Oper} {a : Act} {K : Act → World → Prop} {Q : Exit → Act → World → Prop} {E : Prop} (w : World) (c : UInt8) (cv : Value) (hcv : cv = .int .u8 (c.toNat : Nat)) (hgd : o.guard = none) (s x : Operand)
    (ho : o.op = .call { callee := .builtin .append, args := #[s, x], argTypes := #[22, 22] })
    (base : Nat) (v : Value) (l : List UInt8) (hs : a.eval s = v) (hown : OwnsY w base v l)
    (hx : a.eval x = .slice (some ⟨w.heap.size, 0, none⟩) 1 1)
    (h47 : l.length < 17592186044416) (hbase : base ≤ w.heap.size)
    (h : ∀ v' w', OwnsY w' base v' (l ++ [c]) → Below base w w' → K (a.put o.dst v') w') :
    if Region.wanted o (yielded ops a.tmps) = true then Oper.wp Tryz.prog o a (w.alloc (.cells #[cv] 5)) K Q else E := by
  subst hcv
  obtain ⟨i0, hi0, hz0, hz1, hz2⟩ := info_parts Tryz.infoU8
  have hlt := fun k (e : v.ownBlock = some k) => (World.ownsRow.lt hown k e).1
  have hr : Reads (w.alloc (.cells #[.int .u8 (c.toNat : Nat)] 5)) (w.heap.size + 1) 1 (some ⟨w.heap.size, 0, none⟩) 1 (byV [c]) := by
    refine ⟨by simp [byV], fun hn => ⟨_, rfl, by simp, fun j u hu => ?_⟩⟩
    have e : (⟨w.heap.size, 0, none⟩ : Addr).add j = ⟨w.heap.size, j, none⟩ := by unfold Addr.add; split <;> simp_all
    rw [e, (Blk.new w 5 #[.int .u8 (c.toNat : Nat)]).cell j]
    simpa [byV] using hu
  refine step_append_any _ hgd s x _ ho base 5 i0 _ 1 1 Tryz.underlying22 hi0 hz0 hz1 hz2 rfl (by omega) v _ _ hs (World.ownsRow.alloc hown _) (w.heap.size + 1) _ 1 1 (byV [c]) hx hr ?_ (by simp only [maxLen]; omega) (by omega) (by simp; omega) ?_
  · intro u hu
    simp [byV] at hu
    subst hu
    rfl
  · intro v' w' h1 h2 _
    refine h v' w' (by unfold OwnsY; rw [List.length_append, byV_snoc]; exact h1) ?_
    exact ((Below.refl base w).alloc hbase _).grown h2 (by simp; omega) (fun k e => hlt k e)

theorem hex_val {a b : Nat} (ha : a < 16) (_hb : b < 16) : Value.int .u8 (IntKind.u8.wrap (IntKind.u8.wrap ((a : Int) * 16) + (b : Int))) = .int .u8 ((UInt8.ofNat (a * 16 + b)).toNat : Nat) := by
  congr 1
  rw [UInt8.toNat_ofNat', show IntKind.u8.wrap ((a : Int) * 16) = (a : Int) * 16 by simp [IntKind.wrap, IntKind.bits, IntKind.signed]; omega]
  simp [IntKind.wrap, IntKind.bits, IntKind.signed]
section
variable {S : ByteArray} {k : Nat}
theorem pr_end (h : S.size ≤ k) : pairs (S.data.toList.drop k) = some [] := by rw [drop_end h]; rfl
theorem pr_odd (h : k < S.size) (h1 : S.size ≤ k + 1) : pairs (S.data.toList.drop k) = none := by rw [drop_cons h, drop_end h1]; rfl
theorem pr_bad (h : k + 1 < S.size) (h1 : ¬ (hv S[k] < 16 ∧ hv S[k + 1] < 16)) : pairs (S.data.toList.drop k) = none := by
  rw [drop_cons (show k < S.size by omega), drop_cons h, pairs, if_neg h1]
theorem pr_two (h : k + 1 < S.size) (h1 : hv S[k] < 16 ∧ hv S[k + 1] < 16) : pairs (S.data.toList.drop k) = (pairs (S.data.toList.drop (k + 2))).map (UInt8.ofNat (hv S[k] * 16 + hv S[k + 1]) :: ·) := by
  rw [drop_cons (show k < S.size by omega), drop_cons h, pairs, if_pos h1]
end

/-- What bytes' reading leaves. -/
def RBytesPost (t : TypeId) (g : Nat) (s : ByteArray) (a : Nat) (bad : Bool) (l : List UInt8) (w : World) (e : Ending) (w' : World) : Prop :=
  ∃ v, e = .returned v ∧ OwnsY w' w.heap.size v ((bytesR l).getD []) ∧ Kept [g] w w' ∧ Rdr t w' g s a (bad || (bytesR l).isNone)
def RbA2 (S : ByteArray) (w0 : World) (out i : Value) (w : World) : Prop :=
  ∃ (k : Nat) (o : List UInt8), k ≤ S.size ∧ i = .int .i64 k ∧ o.length ≤ k ∧ OwnsY w w0.heap.size out o ∧ Below w0.heap.size w0 w ∧ pairs S.data.toList = (pairs (S.data.toList.drop k)).map (o ++ ·)

set_option maxRecDepth 100000 in
set_option maxHeartbeats 4000000 in
theorem rrbytes_any (t : TypeId) (g : Nat) (l : ByteArray) (hl : l.size ≤ 5000) (s : ByteArray) (a : Nat) (bad : Bool) (w : World) (hr : Rdr t w g s a bad) :
    Calls Tryz.prog 39 #[.pointer (some ⟨g, 0, none⟩), .string l] w (RBytesPost t g s a bad l.data.toList w) := by
  have hg := hr.lt
  have hf := hr.frozen
  by_cases hd : l.data.toList = [45]
  · have m0 : (l.toList == ([45] : List UInt8)) = true := by rw [Lib.toList_data, hd]; simp
    have HT := Lib.hid (show bytesR l.data.toList = some [] by unfold bytesR; rw [if_pos hd])
    clear hd
    go_enter Tryz.func39, Tryz.ntmps39
    go_wp2_with fail
    go_ret
    exact ⟨_, rfl, by rw [HT.out]; exact OwnsY.nil _ _, Kept.refl _ _, by rw [HT.out]; simpa using hr⟩
  · have m0 : (l.toList == ([45] : List UInt8)) = false := by rw [Lib.toList_data, beq_eq_false_iff_ne]; exact hd
    have HT := Lib.hid (show bytesR l.data.toList = pairs l.data.toList by unfold bytesR; rw [if_neg hd])
    clear hd
    go_enter Tryz.func39, Tryz.ntmps39
    go_wp2_with fail
    go_loopw [5, 6] (RbA2 l w) (fun _ i _ => l.size - (intOf i).toNat)
    case atStart => exact ⟨0, [], by omega, rfl, by simp, OwnsY.nil _ _, Below.refl _ _, by simp⟩
    case round =>
      obtain ⟨k, o, hk, rfl, hok, hown, hbw, htx⟩ := hrel
      have HX := Lib.hid htx
      clear htx
      have hbase := hbw.size
      have hlo : o.length < 17592186044416 := by omega
      by_cases hlt : k < l.size
      · have hrk := hr.kept hbw
        have hgw := hrk.lt
        have hfw := hrk.frozen
        have c2 := hrk.cell 2
        simp only [List.getElem?_toArray, List.getElem?_cons_succ, List.getElem?_cons_zero] at c2
        by_cases l1 : k + 1 < l.size
        · have n1 : (((k : Nat) : Int) + 1 == ((l.size : Nat) : Int)) = false := by rw [beq_eq_false_iff_ne]; omega
          by_cases a16 : hv l[k] < 16
          · have d16 : ¬ (15 : Int) < ((hv l[k] : Nat) : Int) := by omega
            by_cases b16 : hv l[k + 1] < 16
            · have d17 : ¬ (15 : Int) < ((hv l[k + 1] : Nat) : Int) := by omega
              have HST := Lib.hid (pr_two l1 ⟨a16, b16⟩)
              go_wp2_with fail
              refine (rhex_any _ _).mono ?_
              rintro e w4 ⟨rfl, rfl⟩
              go_wp2_with fail
              refine (rhex_any _ _).mono ?_
              rintro e w4 ⟨rfl, rfl⟩
              go_wp2_with fail
              have e1 := Lib.hid (rhex_any l[k])
              have e2 := Lib.hid (rhex_any l[k + 1])
              have i1 : (((k + 1 : Nat) : Int)) < ((l.size : Nat) : Int) := by omega
              have i2 : IntKind.i64.wrap ((k : Int) + 1) = ((k + 1 : Nat) : Int) := by rw [IntKind.wrap_i64]; omega
              have i3 : ((k : Nat) : Int) < ((l.size : Nat) : Int) := by omega
              have HV := Lib.hid (hex_val a16 b16)
              go_region_held3 (fun _ => True) (exact trivial)
                (first | (go_at_call 62; with_reducible refine (e1.out _).mono ?_; rintro e w5 ⟨rfl, rfl⟩) | (go_at_call 62; with_reducible refine (e2.out _).mono ?_; rintro e w5 ⟨rfl, rfl⟩) | (refine step_append_byte _ (UInt8.ofNat (hv l[k] * 16 + hv l[k + 1])) _ HV.out (by rfl) _ _ (by rfl) w.heap.size u5 o (by rfl) (hown.drewN 1) (by rfl) hlo hbase ?_; intro v3 w3 hown3 hb3))
              all_goals
                clear e1 e2 HV
                go_wp2_with fail
                go_roundw
                case rel => exact ⟨k + 2, _, by omega, by go_num, by simp; omega, hown3, (below_drewN hbw 1).trans hb3, by rw [HX.out, HST.out]; simp [Function.comp_def]⟩
                case measure => simp [intOf] <;> omega
            · have d17 : (15 : Int) < ((hv l[k + 1] : Nat) : Int) := by omega
              have HST := Lib.hid (pr_bad l1 fun h => b16 h.2)
              go_wp2_with fail
              refine (rhex_any _ _).mono ?_
              rintro e w4 ⟨rfl, rfl⟩
              go_wp2_with fail
              refine (rhex_any _ _).mono ?_
              rintro e w4 ⟨rfl, rfl⟩
              go_wp2_with fail
              go_ret
              exact ⟨_, rfl, by rw [HT.out, HX.out, HST.out]; exact OwnsY.nil _ _, (Kept.of_below hbw).setCell (by simp) _, by rw [HT.out, HX.out, HST.out]; simpa using hrk.wrong⟩
          · have d16 : (15 : Int) < ((hv l[k] : Nat) : Int) := by omega
            have HST := Lib.hid (pr_bad l1 fun h => a16 h.1)
            go_wp2_with fail
            refine (rhex_any _ _).mono ?_
            rintro e w4 ⟨rfl, rfl⟩
            go_wp2_with fail
            go_ret
            exact ⟨_, rfl, by rw [HT.out, HX.out, HST.out]; exact OwnsY.nil _ _, (Kept.of_below hbw).setCell (by simp) _, by rw [HT.out, HX.out, HST.out]; simpa using hrk.wrong⟩
        · have n1 : (((k : Nat) : Int) + 1 == ((l.size : Nat) : Int)) = true := by rw [beq_iff_eq]; omega
          have HST := Lib.hid (pr_odd hlt (by omega))
          go_wp2_with fail
          go_ret
          exact ⟨_, rfl, by rw [HT.out, HX.out, HST.out]; exact OwnsY.nil _ _, (Kept.of_below hbw).setCell (by simp) _, by rw [HT.out, HX.out, HST.out]; simpa using hrk.wrong⟩
      · have hcv := byts_string hown.byts
        go_wp2_with fail
        go_ret
        exact ⟨_, rfl, by rw [HT.out, HX.out, pr_end (by omega)]; simpa using hown, Kept.of_below hbw, by rw [HT.out, HX.out, pr_end (by omega)]; simpa using hr.kept hbw⟩

end Go.Proofs.YtaoehdmdjplegaaGreatDoor
