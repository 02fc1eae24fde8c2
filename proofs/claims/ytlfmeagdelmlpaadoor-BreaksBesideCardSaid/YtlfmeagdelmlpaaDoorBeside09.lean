/-
  Walk: the law BreaksBeside.
-/
import Derived.Test.YtlfmeagdelmlpaaDoorTurns09
namespace Go.Proofs.YtlfmeagdelmlpaaDoor
open Go.RowKit Go.Shelf

def BsA (n : Nat) (w1 : World) (i : Value) (wr : World) : Prop := ∃ k : Nat, k ≤ n ∧ i = .int .i64 k ∧ QuietP w1 wr

set_option maxRecDepth 100000 in
set_option maxHeartbeats 4000000 in
/-- The rounds: what is at place k of both together is at its place in one of them. -/
theorem beside_law (s t : ByteArray) (keep : Bool) (m : Int) (w : World) (hm : w.cell? ⟨0, 0, none⟩ = some (.int .i64 m)) (hrs : s.size ≤ 9223372036854775807) (hrt : t.size ≤ 9223372036854775807) :
    LawReturns 7 #[.string s, .string t, .bool keep] w := by
  unfold LawReturns
  have haw := awake09 m w hm
  have h3 : 1500 < s.size ∨ (¬ 1500 < s.size ∧ 1500 < t.size) ∨ (¬ 1500 < s.size ∧ ¬ 1500 < t.size) := by omega
  rcases h3 with g1 | ⟨g1, g2⟩ | ⟨g1, g2⟩
  · go_enter Tryd.func7, Tryd.ntmps7
    go_wp2_with fail
    refine haw.mono ?_
    rintro e w0 ⟨rfl, hb0⟩
    go_wp2_with fail
    go_ret
    exact ⟨rfl, hb0⟩
  · go_enter Tryd.func7, Tryd.ntmps7
    go_wp2_with fail
    refine haw.mono ?_
    rintro e w0 ⟨rfl, hb0⟩
    go_wp2_with fail
    go_ret
    exact ⟨rfl, hb0⟩
  · obtain ⟨ws, b, hws, hbe⟩ : ∃ (ws : Int) (b : UInt8), (if keep then ws = 2 ∧ b = 10 else ws = 0 ∧ b = 32) ∧
        cutR ws (s ++ (⟨#[97]⟩ : ByteArray) ++ ((⟨#[b]⟩ : ByteArray) ++ t)).data.toList = cutR ws (s ++ (⟨#[97]⟩ : ByteArray)).data.toList ++ cutR ws ((⟨#[b]⟩ : ByteArray) ++ t).data.toList := by
      have e : ∀ b : UInt8, (s ++ (⟨#[97]⟩ : ByteArray) ++ ((⟨#[b]⟩ : ByteArray) ++ t)).data.toList = s.data.toList ++ [97] ++ (b :: t.data.toList) := fun b => by
        rw [append_data, append_data, append_data]; rfl
      have e1 : (s ++ (⟨#[97]⟩ : ByteArray)).data.toList = s.data.toList ++ [97] := by rw [append_data]
      have e2 : ∀ b : UInt8, ((⟨#[b]⟩ : ByteArray) ++ t).data.toList = b :: t.data.toList := fun b => by rw [append_data]; rfl
      cases keep with
      | true => exact ⟨2, 10, ⟨rfl, rfl⟩, by rw [e, e1, e2]; exact besideK _ _⟩
      | false => exact ⟨0, 32, ⟨rfl, rfl⟩, by rw [e, e1, e2]; exact besideN _ _⟩
    have z1 : (s ++ (⟨#[97]⟩ : ByteArray)).size = s.size + 1 := ByteArray.size_append
    have z2 : ((⟨#[b]⟩ : ByteArray) ++ t).size = 1 + t.size := ByteArray.size_append
    have z3 : (s ++ (⟨#[97]⟩ : ByteArray) ++ ((⟨#[b]⟩ : ByteArray) ++ t)).size = s.size + 1 + (1 + t.size) := by rw [ByteArray.size_append, z1, z2]
    have c1 := fun W h => cut_any (s ++ (⟨#[97]⟩ : ByteArray)) (by omega) ws m W h
    have c2 := fun W h => cut_any ((⟨#[b]⟩ : ByteArray) ++ t) (by omega) ws m W h
    have c3 := fun W h => cut_any (s ++ (⟨#[97]⟩ : ByteArray) ++ ((⟨#[b]⟩ : ByteArray) ++ t)) (by omega) ws m W h
    unfold CutPost at c1 c2 c3
    rw [hbe] at c3
    have l1 := (cutR_bd ws (s ++ (⟨#[97]⟩ : ByteArray)).data.toList).2
    have l2 := (cutR_bd ws ((⟨#[b]⟩ : ByteArray) ++ t).data.toList).2
    rw [size_len, z1] at l1
    rw [size_len, z2] at l2
    have l1' : (cutR ws (s ++ (⟨#[97]⟩ : ByteArray)).data.toList).length ≤ 1501 := by omega
    have l2' : (cutR ws ((⟨#[b]⟩ : ByteArray) ++ t).data.toList).length ≤ 1501 := by omega
    generalize cutR ws (s ++ (⟨#[97]⟩ : ByteArray)).data.toList = X at *
    generalize cutR ws ((⟨#[b]⟩ : ByteArray) ++ t).data.toList = Y at *
    have Z1 := Lib.hid z1
    have Z2 := Lib.hid z2
    clear z1 z2 z3 l1 l2 hbe
    have h2 : (keep = true ∧ ws = 2 ∧ b = 10) ∨ (keep = false ∧ ws = 0 ∧ b = 32) := by
      cases keep with
      | true => exact .inl ⟨rfl, by simpa using hws⟩
      | false => exact .inr ⟨rfl, by simpa using hws⟩
    clear hws
    rcases h2 with ⟨rfl, rfl, rfl⟩ | ⟨rfl, rfl, rfl⟩
    all_goals
      have z1 := Z1.out
      have z2 := Z2.out
      have q1 : (s ++ (⟨#[97]⟩ : ByteArray)).size ≤ 1501 := by omega
      have q2 : (_ ++ t : ByteArray).size ≤ 1501 := Nat.le_trans (Nat.le_of_eq z2) (by omega)
      clear z1 z2
      go_enter Tryd.func7, Tryd.ntmps7
      go_wp2_with fail
      refine haw.mono ?_
      rintro e w0 ⟨rfl, hb0⟩
      have d1 := c1 w0 (cell_later hb0 hm)
      clear c1 haw
      go_wp2_with fail
      refine d1.mono ?_
      rintro e w1 ⟨vx, rfl, ox, b1⟩
      have b01 := below_of hb0 b1 (Nat.le_refl _)
      have d2 := c2 w1 (cell_later b01 hm)
      obtain ⟨Ax, cx, rfl⟩ := owns_form ox
      clear c2 d1
      go_wp2_with fail
      refine d2.mono ?_
      rintro e w2 ⟨vy, rfl, oy, b2⟩
      have b02 := below_of b01 b2 (Nat.le_refl _)
      have d3 := c3 w2 (cell_later b02 hm)
      obtain ⟨Ay, cy, rfl⟩ := owns_form oy
      clear c3 d2
      go_wp2_with fail
      refine d3.mono ?_
      rintro e w3 ⟨vz, rfl, oz, b3⟩
      have b03 := below_of b02 b3 (Nat.le_refl _)
      have b23 := b2.trans (b3.mono b2.size)
      obtain ⟨Az, cz, rfl⟩ := owns_form oz
      rw [List.length_append]
      clear d3
      have hle : X.length + Y.length ≤ 3002 := by omega
      go_wp2_with fail
      go_loopw [13] (BsA (X.length + Y.length) w3) (fun i _ => X.length + Y.length - (intOf i).toNat)
      case atStart => exact ⟨0, Nat.zero_le _, rfl, QuietP.refl _⟩
      case round =>
        obtain ⟨k, hk, rfl, nq, rfl⟩ := hrel
        have hZl : (X ++ Y).length = X.length + Y.length := List.length_append
        by_cases hlt : k < X.length + Y.length
        · obtain ⟨gz, capz, ez, hcz⟩ := owns_cells oz (by omega)
          injection ez with ez1 _ ez2
          subst ez1 ez2
          obtain ⟨z0, z1⟩ := hcz w3 (Below.refl _ _) k (by omega)
          have HCZ := Lib.hid hcz
          clear hcz
          by_cases hkx : k < X.length
          · obtain ⟨gx, capx, ex, hcx⟩ := owns_cells ox (by omega)
            injection ex with ex1 _ ex2
            subst ex1 ex2
            obtain ⟨x0, x1⟩ := hcx w3 b23 k hkx
            have HCX := Lib.hid hcx
            clear hcx
            rw [List.getElem_append_left hkx] at z0 z1
            generalize X[k] = p at *
            have hkI : (k : Int) < (X.length : Int) := by omega
            have hg1 : decide (X.length ≤ k) = false := decide_eq_false (by omega)
            have hg2 : decide ((X.length : Int) ≤ (k : Int)) = false := decide_eq_false (by omega)
            have HZL := Lib.hid hZl
            clear hZl
            go_wp2_with fail
            go_quiet (fail)
            go_wp2_with fail
            go_roundw
            case rel => exact ⟨k + 1, by omega, by go_num, _, rfl⟩
            case measure => simp [intOf]; omega
          · obtain ⟨j, rfl⟩ : ∃ j, k = X.length + j := ⟨k - X.length, by omega⟩
            have hjy : j < Y.length := by omega
            obtain ⟨gy, capy, ey, hcy⟩ := owns_cells oy (by omega)
            injection ey with ey1 _ ey2
            subst ey1 ey2
            obtain ⟨y0, y1⟩ := hcy w3 b3 j hjy
            have HCY := Lib.hid hcy
            clear hcy
            rw [List.getElem_append_right (by omega)] at z0 z1
            simp only [Nat.add_sub_cancel_left] at z0 z1
            generalize Y[j] = p at *
            have hkI : ¬ ((X.length + j : Nat) : Int) < (X.length : Int) := by omega
            have hkI2 : (X.length : Int) ≤ ((X.length + j : Nat) : Int) := by omega
            have hw1 : IntKind.i64.wrap (((X.length + j : Nat) : Int) - (X.length : Int)) = (j : Int) := by rw [IntKind.wrap_i64]; omega
            have hw2 : IntKind.i64.wrap (j : Int) = (j : Int) := by rw [IntKind.wrap_i64]; omega
            have hjI : (j : Int) < (Y.length : Int) := by omega
            have hg1 : decide (X.length + j < X.length) = false := decide_eq_false (by omega)
            have hg2 : decide ((X.length : Int) + (j : Int) < (X.length : Int)) = false := decide_eq_false (by omega)
            have hg3 : decide ((X.length : Int) ≤ (X.length : Int) + (j : Int)) = true := decide_eq_true (by omega)
            have HZL := Lib.hid hZl
            clear hZl
            go_wp2_with fail
            go_quiet (fail)
            go_wp2_with fail
            go_roundw
            case rel => exact ⟨X.length + j + 1, by omega, by go_num, _, rfl⟩
            case measure => simp [intOf]; omega
        · obtain rfl : k = X.length + Y.length := by omega
          go_wp2_with fail
          go_ret
          exact ⟨rfl, below_drewN b03 _⟩

end Go.Proofs.YtlfmeagdelmlpaaDoor
