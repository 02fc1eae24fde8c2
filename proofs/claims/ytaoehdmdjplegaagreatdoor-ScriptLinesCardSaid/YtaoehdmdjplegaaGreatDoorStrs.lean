/-
  Slices of strings and of bytes, read; walks: windowpaneref32.index, picked, bytes.
-/
import Derived.Test.YtaoehdmdjplegaaGreatDoorWord
namespace Go.Proofs.YtaoehdmdjplegaaGreatDoor
open Go.RowKit Go.Shelf

/-- A slice of strings, readable below block B. -/
def Strs (w : World) (B : Nat) (v : Value) (ws : List (List UInt8)) : Prop :=
  ∃ A c, v = .slice A ws.length c ∧ ws.length ≤ c ∧ Reads w B 1 A ws.length (ws.map fun x => Value.string (mkB x))
theorem Strs.below {w w' : World} {B : Nat} {v : Value} {ws : List (List UInt8)} (h : Strs w B v ws) (hb : Below B w w') : Strs w' B v ws := by
  obtain ⟨A, c, rfl, h1, h2⟩ := h
  exact ⟨A, c, rfl, h1, h2.below hb⟩
theorem strs_val {w : World} {B : Nat} {A : Option Addr} {ws : List (List UInt8)} (h : Reads w B 1 A ws.length (ws.map fun x => Value.string (mkB x))) {k : Nat} (hk : k < ws.length) :
    ∃ ad, A = some ad ∧ ad.block < B ∧ w.cell? (ad.add k) = some (.string (mkB ws[k])) := by
  obtain ⟨ad, u, h1, h2, h3, h4⟩ := h.at_ hk
  rw [List.getElem?_eq_getElem (by simpa using hk)] at h3
  simp at h3
  subst h3
  exact ⟨ad, h1, h2, h4⟩
/-- A slice of bytes. -/
def Byts (w : World) (B : Nat) (v : Value) (l : List UInt8) : Prop :=
  ∃ A c, v = .slice A l.length c ∧ l.length ≤ c ∧ Reads w B 1 A l.length (l.map fun x => Value.int .u8 (x.toNat : Nat))
theorem Byts.below {w w' : World} {B : Nat} {v : Value} {l : List UInt8} (h : Byts w B v l) (hb : Below B w w') : Byts w' B v l := by
  obtain ⟨A, c, rfl, h1, h2⟩ := h
  exact ⟨A, c, rfl, h1, h2.below hb⟩
theorem byts_val {w : World} {B : Nat} {A : Option Addr} {l : List UInt8} (h : Reads w B 1 A l.length (l.map fun x => Value.int .u8 (x.toNat : Nat))) {k : Nat} (hk : k < l.length) :
    ∃ ad, A = some ad ∧ ad.block < B ∧ w.cell? (ad.add k) = some (.int .u8 ((l[k]).toNat : Nat)) := by
  obtain ⟨ad, u, h1, h2, h3, h4⟩ := h.at_ hk
  rw [List.getElem?_eq_getElem (by simpa using hk)] at h3
  simp at h3
  subst h3
  exact ⟨ad, h1, h2, h4⟩

/-- Where a word stands in a list, from 1 on; 0: it does not, or it is none. -/
def idxR (ws : List (List UInt8)) (x : List UInt8) : Nat := if x = [] ∨ ws.length ≤ ws.findIdx (· = x) then 0 else ws.findIdx (· = x) + 1
def IxA (ws : List (List UInt8)) (x : List UInt8) (i : Value) : Prop := ∃ k : Nat, k ≤ ws.length ∧ i = .int .i64 k ∧ (x = [] ∨ ∀ j (h : j < k) (hl : j < ws.length), ws[j] ≠ x)

theorem str_eq {a b : List UInt8} (h : a = b) : ((mkB a).toList == (mkB b).toList) = true := by subst h; simp
theorem str_ne {a b : List UInt8} (h : a ≠ b) : ((mkB a).toList == (mkB b).toList) = false := by
  rw [Lib.toList_data, Lib.toList_data, mkB_toList, mkB_toList, beq_eq_false_iff_ne]; exact h

set_option maxRecDepth 100000 in
set_option maxHeartbeats 4000000 in
theorem rindex_any (x : List UInt8) (ws : List (List UInt8)) (hm : ws.length ≤ 100) (v : Value) (B : Nat) (w : World) (h : Strs w B v ws) :
    Calls Tryz.prog 60 #[.string (mkB x), v] w fun e w' => e = .returned (.int .i64 (idxR ws x : Nat)) ∧ w' = w := by
  obtain ⟨A, c, rfl, hc, hr⟩ := h
  have hE : (⟨#[]⟩ : ByteArray) = mkB [] := rfl
  by_cases h0 : x = []
  · subst h0
    have HR := Lib.hid (show idxR ws [] = 0 by unfold idxR; rw [if_pos (Or.inl rfl)])
    rw [HR.out]
    go_enter Tryz.func60, Tryz.ntmps60
    go_wp2_with fail
    go_loop [5] (IxA ws []) (fun i => ws.length - (intOf i).toNat)
    case atStart => exact ⟨0, by omega, rfl, .inl rfl⟩
    case round =>
      obtain ⟨k, hk, rfl, hno⟩ := hrel
      by_cases hlt : k < ws.length
      · obtain ⟨ad, rfl, hb, hcell⟩ := strs_val hr hlt
        by_cases he : ws[k] = []
        · have e1 := str_eq he
          go_wp2_with fail
          go_round
          case rel => exact ⟨k + 1, by omega, by go_num, .inl rfl⟩
          case measure => simp [intOf]; omega
        · have e1 := str_ne he
          go_wp2_with fail
          go_round
          case rel => exact ⟨k + 1, by omega, by go_num, .inl rfl⟩
          case measure => simp [intOf]; omega
      · go_wp2_with fail
        go_ret
        exact ⟨rfl, rfl⟩
  · have n0 : ((mkB x).toList == (mkB []).toList) = false := str_ne h0
    go_enter Tryz.func60, Tryz.ntmps60
    go_wp2_with fail
    go_loop [5] (IxA ws x) (fun i => ws.length - (intOf i).toNat)
    case atStart => exact ⟨0, by omega, rfl, .inr fun j h => absurd h (by omega)⟩
    case round =>
      obtain ⟨k, hk, rfl, hno⟩ := hrel
      have hno : ∀ j (h : j < k) (hl : j < ws.length), ws[j] ≠ x := hno.resolve_left h0
      by_cases hlt : k < ws.length
      · obtain ⟨ad, rfl, hb, hcell⟩ := strs_val hr hlt
        by_cases he : ws[k] = x
        · have e1 := str_eq he
          have HR := Lib.hid (show idxR ws x = k + 1 by
            have hf : ws.findIdx (· = x) = k := by
              rw [List.findIdx_eq hlt]
              exact ⟨by simpa using he, fun j hj => by simpa using hno j hj (by omega)⟩
            unfold idxR
            rw [hf, if_neg (by
              rintro (h | h)
              · exact h0 h
              · omega)])
          clear hno
          go_wp2_with fail
          go_ret
          exact ⟨by rw [HR.out]; rfl, rfl⟩
        · have e1 := str_ne he
          have HN := Lib.hid (show ∀ j (h : j < k + 1) (hl : j < ws.length), ws[j] ≠ x from fun j hj hl => by
            by_cases hjk : j = k
            · subst hjk; exact he
            · exact hno j (by omega) hl)
          clear hno
          go_wp2_with fail
          go_round
          case rel => exact ⟨k + 1, by omega, by go_num, .inr HN.out⟩
          case measure => simp [intOf]; omega
      · have HR := Lib.hid (show idxR ws x = 0 by
          unfold idxR
          rw [if_pos (Or.inr (by
            rcases Nat.lt_or_ge (ws.findIdx (· = x)) ws.length with hl | hl
            · have := List.findIdx_getElem (w := hl)
              simp at this
              exact absurd this (hno _ (by omega) hl)
            · exact hl))])
        clear hno
        go_wp2_with fail
        go_ret
        exact ⟨by rw [HR.out]; rfl, rfl⟩

/-! ### windowpaneref32.bytes -/
def RbA (l : List UInt8) (w0 : World) (out i : Value) (w : World) : Prop := ∃ k : Nat, k ≤ l.length ∧ i = .int .i64 k ∧ out = .string (mkB (hexs (l.take k))) ∧ QuietP w0 w
theorem hexs_len : ∀ l : List UInt8, (hexs l).length = 2 * l.length
  | [] => rfl
  | c :: l => by
    have := hexs_len l
    simp [hexs, hexB]
    omega
set_option maxRecDepth 100000 in
set_option maxHeartbeats 4000000 in
theorem rbytes_any (l : List UInt8) (hm : l.length ≤ 3000) (v : Value) (B : Nat) (w : World) (h : Byts w B v l) :
    Calls Tryz.prog 43 #[v] w fun e w' => e = .returned (.string (mkB (hexW l))) ∧ QuietP w w' := by
  obtain ⟨A, c, rfl, hc, hr⟩ := h
  by_cases h0 : l = []
  · subst h0
    go_enter Tryz.func43, Tryz.ntmps43
    go_wp2_with fail
    go_ret
    exact ⟨rfl, QuietP.refl _⟩
  · have hz : (((l.length : Nat) : Int) == 0) = false := by
      rw [beq_eq_false_iff_ne]
      intro h
      exact h0 (List.eq_nil_of_length_eq_zero (by omega))
    have HX := Lib.hid (show hexW l = hexs l by unfold hexW; rw [if_neg h0])
    clear h0
    go_enter Tryz.func43, Tryz.ntmps43
    go_wp2_with fail
    go_loopw [3, 4] (RbA l w) (fun _ i _ => l.length - (intOf i).toNat)
    case atStart => exact ⟨0, by omega, rfl, rfl, QuietP.refl _⟩
    case round =>
      obtain ⟨k, hk, rfl, rfl, hq⟩ := hrel
      by_cases hlt : k < l.length
      · obtain ⟨ad, rfl, hb, hcell⟩ := byts_val (hr.below (hq.below B)) hlt
        have HT := Lib.hid (show hexs (l.take (k + 1)) = hexs (l.take k) ++ hexB l[k] by rw [List.take_succ_eq_append_getElem hlt, hexs_append]; simp [hexs])
        have hS := hexs_len (l.take k)
        have hS2 : (l.take k).length ≤ l.length := by simp; omega
        have hd := Lib.hid (hexed_any l[k])
        have z5 : (mkB (hexB l[k])).size = 2 := by rw [mkB_size]; rfl
        generalize hexs (l.take k) = S at *
        have z1 : (mkB S).size ≤ 6000 := by rw [mkB_size]; omega
        go_wp2_with fail
        refine (hd.out _).mono ?_
        rintro e w' ⟨rfl, m, rfl⟩
        go_wp2_with fail
        go_round
        case rel => exact ⟨k + 1, by omega, by go_num, by rw [HT.out, ← mkB_append], hq.drewN m⟩
        case measure => simp [intOf]; omega
      · go_wp2_with fail
        go_ret
        exact ⟨by rw [HX.out]; exact congrArg (fun z => Ending.returned (.string (mkB (hexs z)))) (List.take_of_length_le (show l.length ≤ k by omega)), hq⟩

end Go.Proofs.YtaoehdmdjplegaaGreatDoor
