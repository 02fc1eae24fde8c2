/-
  Walks: slices.symMergeCmpFunc, whole.
-/
import Derived.Test.YtbhdolghokhfnaaSymLeft
import Derived.Test.YtbhdolghokhfnaaSymRight
namespace Go.Proofs.Ytbhdolghokhfnaa
open Go.Shelf Go.RowKit Go.Lib Go.Sort

section Plain
variable {α : Type} [Inhabited α] {lt cl : α → α → Bool}
theorem sorted_out {a m s e : Nat} {d d' : Array α} (h : PermIn a m d d') (hm : m ≤ s) (hs : SortedIn lt s e d) : SortedIn lt s e d' := fun i j k1 k2 k3 => by
  rw [h.2.1 i (Or.inr (by omega)), h.2.1 j (Or.inr (by omega))]
  exact hs i j k1 k2 k3
theorem agree_out {a m s e : Nat} {d d' : Array α} (h : PermIn a m d d') (hs : AgreeAt cl lt d m s e) : AgreeAt cl lt d' m s e := fun i j k1 k2 k3 k4 => by
  rw [h.2.1 i (Or.inr k1), h.2.1 j (Or.inr (by omega))]
  exact hs i j k1 k2 k3 k4
/-- What is kept of a merge's state once the rows have been turned. -/
structure Parted (lt cl : α → α → Bool) (d d1 : Array α) (a mid b s e : Nat) : Prop where
  size : d1.size = d.size
  perm : PermIn a b d d1
  cross : CrossAt lt d1 a mid b
  l1 : SortedIn lt a s d1
  l2 : SortedIn lt s mid d1
  r1 : SortedIn lt mid e d1
  r2 : SortedIn lt e b d1
  al : AgreeAt cl lt d1 a s mid
  ar : AgreeAt cl lt d1 mid e b
theorem parted_of (hS : SWO lt) {d d1 : Array α} {a m b mid s e : Nat} (hl : SortedIn lt a m d) (hr : SortedIn lt m b d) (hA : AgreeAt cl lt d a m b) (F : Found lt d a m b mid s e) (T : Turned d d1 s m e) (P : PermIn a b d d1) :
    Parted lt cl d d1 a mid b s e := by
  obtain ⟨h1, h2, h3, h4, h5, h6, h7⟩ := sym_cross hS hl hr hA F T
  exact ⟨T.1, P, h1, h2, h3, h4, h5, h6, h7⟩
theorem parted_rot (hS : SWO lt) {d : Array α} {a m b mid s e : Nat} (hb : b ≤ d.size) (hl : SortedIn lt a m d) (hr : SortedIn lt m b d) (hA : AgreeAt cl lt d a m b) (F : Found lt d a m b mid s e) (h1 : s < m) (h2 : m < e) :
    Parted lt cl d (rotL m (e - s) (m - s) (e - m) d) a mid b s e := by
  have hF := F.as
  have hE := F.eb
  exact parted_of hS hl hr hA F (turned_rot h1 h2 (by omega)) (rotL_perm (by omega) (by omega) (by omega) (by omega) (by omega) (by omega) hb)
theorem parted_same (hS : SWO lt) {d : Array α} {a m b mid s e : Nat} (hl : SortedIn lt a m d) (hr : SortedIn lt m b d) (hA : AgreeAt cl lt d a m b) (F : Found lt d a m b mid s e) (h : s = m ∨ e = m) :
    Parted lt cl d d a mid b s e := parted_of hS hl hr hA F (turned_refl F.sm F.me h) (permIn_refl _ _ _)
theorem Parted.join {d d1 d2 d3 : Array α} {a mid b s e : Nat} (h : Parted lt cl d d1 a mid b s e) (hb : b ≤ d.size) (ha : a ≤ mid) (hm : mid ≤ b) (h2 : PermIn a mid d1 d2) (s2 : SortedIn lt a mid d2) (h3 : PermIn mid b d2 d3) (s3 : SortedIn lt mid b d3) :
    PermIn a b d d3 ∧ SortedIn lt a b d3 := by
  have hz := h.size
  obtain ⟨p, q⟩ := sym_join (by omega) ha hm h.cross h2 s2 h3 s3
  exact ⟨permIn_trans _ _ _ _ _ h.perm p, q⟩
end Plain

/-- What a merge leaves. -/
def SymPost {N : Nat} (g : Nat) (lt : Fin (N + 1) → Fin (N + 1) → Bool) (w : World) (a b : Nat) (d : Array (Fin (N + 1))) (x : Ending) (w' : World) : Prop :=
  x = .returned (.tuple #[]) ∧ ∃ d' k, PermIn a b d d' ∧ SortedIn lt a b d' ∧ w' = (putRow encF w g 0 d').drewN k

set_option maxRecDepth 1000000 in
set_option maxHeartbeats 16000000 in
theorem sym_any {N : Nat} (g cap gf : Nat) (cb : Array Value) (cf : Fin (N + 1) → Fin (N + 1) → Int) (lt : Fin (N + 1) → Fin (N + 1) → Bool) (hS : SWO lt) (w : World) (d0 : Array (Fin (N + 1)))
    (hH : Holds encF w g 0 d0) (hsz : d0.size < 4611686018427387904)
    (eg : ∀ args w, (callFunc gf args).run Try.prog w = .ok (.enter gf args) w) (hcmp : CmpReads Try.prog gf cb encF cf g 0 d0.size w) (F : Nat) :
    ∀ (a m b k0 : Nat) (d : Array (Fin (N + 1))), b - a ≤ F → a < m → m < b → b ≤ d0.size → d.size = d0.size → SortedIn lt a m d → SortedIn lt m b d → AgreeAt (ltOf cf) lt d a m b →
    Calls Try.prog 73 #[.slice (some ⟨g, 0, none⟩) d0.size cap, .int .i64 a, .int .i64 m, .int .i64 b, .func (.func gf) #[] cb] ((putRow encF w g 0 d).drewN k0) (SymPost g lt w a b d) := by
  induction F with
  | zero => intro a m b k0 d h h1 h2; omega
  | succ F ih =>
    intro a m b k0 d hF h1 h2 h3 hs hl hr hA
    by_cases hm1 : m = a + 1
    · exact sym_left g cap gf cb cf lt hS w d0 hH hsz eg hcmp a m b k0 d hm1 h2 h3 hs hr hA
    by_cases hb1 : b = m + 1
    · exact sym_right g cap gf cb cf lt hS w d0 hH hsz eg hcmp a m b k0 d hb1 (by omega) h3 hs hl hA
    have IH : Aside _ := ih
    have hcAt : ∀ (X : Array (Fin (N + 1))) (x y : Fin (N + 1)), X.size = d0.size → ∀ m n, Calls Try.prog gf (#[encF x, encF y] ++ cb) (((putRow encF w g 0 X).drewN m).drewN n) fun e w' => e = .returned (.int .i64 (cf x y)) ∧ ∃ q, w' = (((putRow encF w g 0 X).drewN m).drewN n).drewN q := fun X x y hX m n => by
      have := hcmp (m + n) #[] X hX x y
      rw [sortWorld_none, ← World.drewN_drewN] at this
      exact this
    have HC : Aside _ := hcAt
    have hRot := fun (s e k : Nat) (h1 : s < m) (h2 : m < e) (h3 : e ≤ d0.size) => rotate_any g cap s m e k d (.func (.func gf) #[] cb) w d0 hH hs h1 h2 h3 hsz
    have HRot : Aside _ := hRot
    have HH : Hid (Holds encF w g 0 d0) := hH
    have HA : Aside _ := hA
    have HL : Aside _ := hl
    have HR : Aside _ := hr
    have HSZ := Lib.hid hs
    clear hcAt hcmp hH hA hl hr ih hRot
    have hq1 : 1 < m - a := by omega
    have hq2 : 1 < b - m := by omega
    clear hm1 hb1
    obtain ⟨q0, hq0⟩ : ∃ q, q = m - a := ⟨_, rfl⟩
    have w0 : IntKind.i64.wrap ((m : Int) - (a : Int)) = (q0 : Int) := by rw [IntKind.wrap_i64]; omega
    have q01 : ¬ ((q0 : Int) = 1) := by omega
    have q02 : ((q0 : Int) == 1) = false := by simp; omega
    obtain ⟨q3, hq3⟩ : ∃ q, q = b - m := ⟨_, rfl⟩
    have w3 : IntKind.i64.wrap ((b : Int) - (m : Int)) = (q3 : Int) := by rw [IntKind.wrap_i64]; omega
    have q31 : ¬ ((q3 : Int) = 1) := by omega
    have q32 : ((q3 : Int) == 1) = false := by simp; omega
    clear hq0 hq3
    have s1 : IntKind.i64.wrap ((a : Int) + (b : Int)) = (a : Int) + (b : Int) := by rw [IntKind.wrap_i64]; omega
    have s2 : IntKind.u64.wrap ((a : Int) + (b : Int)) = (a : Int) + (b : Int) := by rw [IntKind.wrap_u64]; omega
    obtain ⟨mid, m1, m2⟩ : ∃ h : Nat, h + h ≤ a + b ∧ a + b ≤ h + h + 1 := ⟨(a + b) / 2, by omega, by omega⟩
    have eh : ((a : Int) + (b : Int)) / 2 = (mid : Int) := by omega
    obtain ⟨n, n1, n2⟩ : ∃ n : Nat, n ≤ mid + m ∧ mid + m ≤ n := ⟨mid + m, by omega, by omega⟩
    have wn : IntKind.i64.wrap ((mid : Int) + (m : Int)) = (n : Int) := by rw [IntKind.wrap_i64]; omega
    obtain ⟨p, p1, p2⟩ : ∃ p : Nat, p + 1 ≤ n ∧ n ≤ p + 1 := ⟨n - 1, by omega, by omega⟩
    have wp : IntKind.i64.wrap ((n : Int) - 1) = (p : Int) := by rw [IntKind.wrap_i64]; omega
    obtain ⟨s0, r0, hs0, hsr, hrm, hcs⟩ : ∃ s0 r0 : Nat, a ≤ s0 ∧ s0 ≤ r0 ∧ r0 ≤ m ∧ ((mid < m ∧ s0 + b ≤ n ∧ n ≤ s0 + b ∧ r0 = mid) ∨ (¬ mid < m ∧ s0 = a ∧ r0 = m)) := by
      by_cases h : mid < m
      · exact ⟨n - b, mid, by omega, by omega, by omega, Or.inl ⟨h, by omega, by omega, rfl⟩⟩
      · exact ⟨a, m, by omega, by omega, by omega, Or.inr ⟨h, rfl, rfl⟩⟩
    -- bounds that hold on both ways
    have lo : s0 = a ∨ s0 + b = n := by rcases hcs with ⟨_, _, _, _⟩ | ⟨_, h, _⟩ <;> omega
    have hi : r0 + m = n ∨ r0 = m := by rcases hcs with ⟨_, _, _, h⟩ | ⟨_, _, h⟩ <;> omega
    have b1 : n ≤ s0 + b := by omega
    have b2 : r0 + m ≤ n := by omega
    have b3 : r0 ≤ mid := by omega
    have LO := Lib.hid lo
    have HI := Lib.hid hi
    clear lo hi
    have hst : (mid < m ∧ Hid (IntKind.i64.wrap ((n : Int) - (b : Int)) = (s0 : Int)) ∧ r0 ≤ mid ∧ mid ≤ r0) ∨ (¬ mid < m ∧ s0 ≤ a ∧ a ≤ s0 ∧ r0 ≤ m ∧ m ≤ r0) := by
      rcases hcs with ⟨h, _, _, _⟩ | ⟨h, _, _⟩
      · refine Or.inl ⟨h, ?_, by omega, by omega⟩
        show _ = _
        rw [IntKind.wrap_i64]; omega
      · exact Or.inr ⟨h, by omega, by omega, by omega, by omega⟩
    clear hcs
    rcases hst with ⟨hmm, wsH, v1, v2⟩ | ⟨hmm, v1, v2, v3, v4⟩
    · have ws := wsH.out
      have hmmz : (mid : Int) < (m : Int) := by omega
      go_enter Try.func73, Try.ntmps73
      go_wp2_with fail
      go_loopg [20, 21] (m + 1) (fun g1 vi vj wr => ∃ (s r k : Nat), vi = .int .i64 s ∧ vj = .int .i64 r ∧ s0 ≤ s ∧ s ≤ r ∧ r ≤ r0 ∧ r - s ≤ g1 ∧ wr = (putRow encF w g 0 d).drewN k ∧ Aside (s = s0 ∨ lt d[n - s]! d[s - 1]! = false) ∧ Aside (r = r0 ∨ lt d[n - 1 - r]! d[r]! = true))
      case atStart => exact ⟨s0, mid, k0, rfl, rfl, by omega, by omega, by omega, by omega, rfl, Or.inl (by omega), Or.inl (by omega)⟩
      case round =>
        obtain ⟨s, r, k, rfl, rfl, hi, hij, hj, hg1, rfl, FL, FH⟩ := hrel
        by_cases hlt : s < r
        · have hltz : (s : Int) < (r : Int) := by omega
          have s1 : IntKind.i64.wrap ((s : Int) + (r : Int)) = (s : Int) + (r : Int) := by rw [IntKind.wrap_i64]; omega
          have s2 : IntKind.u64.wrap ((s : Int) + (r : Int)) = (s : Int) + (r : Int) := by rw [IntKind.wrap_u64]; omega
          obtain ⟨c, c1, c2⟩ : ∃ h : Nat, h + h ≤ s + r ∧ s + r ≤ h + h + 1 := ⟨(s + r) / 2, by omega, by omega⟩
          have eh2 : ((s : Int) + (r : Int)) / 2 = (c : Int) := by omega
          obtain ⟨y, y1, y2⟩ : ∃ y : Nat, y + c ≤ p ∧ p ≤ y + c := ⟨p - c, by omega, by omega⟩
          have wy : IntKind.i64.wrap ((p : Int) - (c : Int)) = (y : Int) := by rw [IntKind.wrap_i64]; omega
          have hs := HSZ.out
          have HHj := holds_putRow encF w g 0 d0 d HH.out hs
          obtain ⟨xc, hxc⟩ : ∃ x, d[c]! = x := ⟨_, rfl⟩
          obtain ⟨xy, hxy⟩ : ∃ x, d[y]! = x := ⟨_, rfl⟩
          have cc := (HHj c (by omega)).1
          have cy := (HHj y (by omega)).1
          rw [hxc] at cc
          rw [hxy] at cy
          have cc' : ((putRow encF w g 0 d).drewN k).cell? ⟨g, 0 + c, none⟩ = some (encF xc) := cc
          have cy' : ((putRow encF w g 0 d).drewN k).cell? ⟨g, 0 + y, none⟩ = some (encF xy) := cy
          rw [Nat.zero_add] at cc' cy'
          have hc := HC.out d xy xc hs k
          have hcz : (c : Int) < (d0.size : Int) := by omega
          have hyz : (y : Int) < (d0.size : Int) := by omega
          have hagr : decide (cf xy xc < 0) = lt xy xc := by have := HA.out c y (by omega) (by omega) (by omega) (by omega); rw [hxc, hxy] at this; exact this
          clear HHj cc cy hs
          obtain ⟨wq, hwq⟩ : ∃ W, (putRow encF w g 0 d).drewN k = W := ⟨_, rfl⟩
          have HW := Lib.hid hwq
          rw [hwq] at cc' cy' hc ⊢
          have HXC := Lib.hid hxc
          have HXY := Lib.hid hxy
          have HG := Lib.hid hagr
          clear hwq hxc hxy hagr
          unfold encF at cc' cy' hc
          by_cases hlv : cf xy xc < 0
          · go_wp2_with fail
            go_quiet (first | (go_at_fn gf; refine Calls.quiet_of (hc _)))
            go_wp2_with fail
            go_roundg (c - s)
            case measure => omega
            case rel =>
              refine ⟨s, c, k + nq, rfl, rfl, hi, by omega, by omega, by omega, by rw [← HW.out, World.drewN_drewN], FL, Or.inr ?_⟩
              rw [show n - 1 - c = y by omega, HXC.out, HXY.out, ← HG.out]
              exact decide_eq_true hlv
          · have hlb : decide (cf xy xc < 0) = false := decide_eq_false hlv
            have hlb2 : (!decide (cf xy xc < 0)) = true := by rw [hlb]; rfl
            go_wp2_with fail
            go_quiet (first | (go_at_fn gf; refine Calls.quiet_of (hc _)))
            have s3 : IntKind.i64.wrap ((c : Int) + 1) = (c : Int) + 1 := by rw [IntKind.wrap_i64]; omega
            go_wp2_with fail
            go_roundg (r - (c + 1))
            case measure => omega
            case rel =>
              refine ⟨c + 1, r, k + nq, by go_num, rfl, by omega, by omega, hj, by omega, by rw [← HW.out, World.drewN_drewN], Or.inr ?_, FH⟩
              rw [show n - (c + 1) = y by omega, Nat.add_sub_cancel, HXC.out, HXY.out, ← HG.out]
              exact decide_eq_false (by omega)
        · have hltz : ¬ (s : Int) < (r : Int) := by omega
          obtain rfl : s = r := by omega
          obtain ⟨e, e1, e2⟩ : ∃ e : Nat, e + s ≤ n ∧ n ≤ e + s := ⟨n - s, by omega, by omega⟩
          have we : IntKind.i64.wrap ((n : Int) - (s : Int)) = (e : Int) := by rw [IntKind.wrap_i64]; omega
          have FD : Hid (Found lt d a m b mid s e) := by
            refine ⟨by omega, by omega, by omega, by omega, by omega, ?_, ?_⟩
            · rcases (FL : _ ∨ _) with h | h
              · rcases (LO.out : _ ∨ _) with h2 | h2
                · exact Or.inl (by omega)
                · exact Or.inr (Or.inl (by omega))
              · rw [show n - s = e by omega] at h
                exact Or.inr (Or.inr h)
            · rcases (FH : _ ∨ _) with h | h
              · rcases (HI.out : _ ∨ _) with h2 | h2
                · exact Or.inl (by omega)
                · exact Or.inr (Or.inl (by omega))
              · rw [show n - 1 - s = e - 1 by omega] at h
                exact Or.inr (Or.inr h)
          clear FL FH
          by_cases hsm : s < m
          · have hsmz : (s : Int) < (m : Int) := by omega
            by_cases hme : m < e
            · have hmez : (m : Int) < (e : Int) := by omega
              obtain ⟨d1, hd1⟩ : ∃ x, x = rotL m (e - s) (m - s) (e - m) d := ⟨_, rfl⟩
              have PT : Hid (Parted lt (ltOf cf) d d1 a mid b s e) := by rw [hd1]; exact parted_rot hS (by have := HSZ.out; omega) HL.out HR.out HA.out FD.out hsm hme
              have hrc := HRot.out s e k hsm hme (by omega)
              rw [← hd1] at hrc
              have hmdz : (mid : Int) < (e : Int) := by omega
              have hsdz : (s : Int) < (mid : Int) := by omega
              clear hd1
              go_wp2_with fail
              refine hrc.mono ?_
              clear hrc
              rintro x w' ⟨rfl, k2, rfl⟩
              by_cases hl1 : a < s
              · have hl1z : (a : Int) < (s : Int) := by omega
                have hlc := IH.out a s mid k2 d1 (by omega) hl1 (by omega) (by omega) (PT.out.size.trans HSZ.out) PT.out.l1 PT.out.l2 PT.out.al
                go_wp2_with fail
                refine hlc.mono ?_
                clear hlc
                rintro x w' ⟨rfl, d2, k3, p2, t2, rfl⟩
                have HP2 := Lib.hid p2
                have HT2 := Lib.hid t2
                clear p2 t2
                by_cases hr1 : e < b
                · have hr1z : (e : Int) < (b : Int) := by omega
                  have hrc := IH.out mid e b k3 d2 (by omega) (by omega) hr1 (by omega) (HP2.out.1.trans (PT.out.size.trans HSZ.out)) (sorted_out HP2.out (Nat.le_refl _) PT.out.r1) (sorted_out HP2.out (by omega) PT.out.r2) (agree_out HP2.out PT.out.ar)
                  go_wp2_with fail
                  refine hrc.mono ?_
                  clear hrc
                  rintro x w' ⟨rfl, d3, k4, p3, t3, rfl⟩
                  have HPT := PT.out.join (by have := HSZ.out; omega) (by omega) (by omega) HP2.out HT2.out p3 t3
                  have HJ := Lib.hid HPT
                  clear HPT p3 t3
                  go_wp2_with fail
                  go_end0
                  exact ⟨rfl, d3, k4, HJ.out.1, HJ.out.2, rfl⟩
                · have hr1z : ¬ (e : Int) < (b : Int) := by omega
                  go_wp2_with fail
                  go_end0
                  obtain rfl : e = b := by omega
                  have HJ := PT.out.join (by have := HSZ.out; omega) (by omega) (by omega) HP2.out HT2.out (permIn_refl _ _ _) (sorted_out HP2.out (Nat.le_refl _) PT.out.r1)
                  exact ⟨rfl, d2, k3, HJ.1, HJ.2, rfl⟩
              · have hl1z : ¬ (a : Int) < (s : Int) := by omega
                by_cases hr1 : e < b
                · have hr1z : (e : Int) < (b : Int) := by omega
                  have hrc := IH.out mid e b k2 d1 (by omega) (by omega) hr1 (by omega) (PT.out.size.trans HSZ.out) PT.out.r1 PT.out.r2 PT.out.ar
                  go_wp2_with fail
                  refine hrc.mono ?_
                  clear hrc
                  rintro x w' ⟨rfl, d3, k4, p3, t3, rfl⟩
                  obtain rfl : a = s := by have := FD.out.as; omega
                  have HPT := PT.out.join (by have := HSZ.out; omega) (by omega) (by omega) (permIn_refl _ _ _) PT.out.l2 p3 t3
                  have HJ := Lib.hid HPT
                  clear HPT p3 t3
                  go_wp2_with fail
                  go_end0
                  exact ⟨rfl, d3, k4, HJ.out.1, HJ.out.2, rfl⟩
                · have hr1z : ¬ (e : Int) < (b : Int) := by omega
                  go_wp2_with fail
                  go_end0
                  obtain rfl : e = b := by omega
                  obtain rfl : a = s := by have := FD.out.as; omega
                  have HJ := PT.out.join (by have := HSZ.out; omega) (by omega) (by omega) (permIn_refl _ _ _) PT.out.l2 (permIn_refl _ _ _) PT.out.r1
                  exact ⟨rfl, d1, k2, HJ.1, HJ.2, rfl⟩
            · have hmez : ¬ (m : Int) < (e : Int) := by omega
              have hem : e = m := by have := FD.out.me; omega
              have PT : Hid (Parted lt (ltOf cf) d d a mid b s e) := parted_same hS HL.out HR.out HA.out FD.out (Or.inr hem)
              have hrc := IH.out mid m b k d (by omega) (by omega) h2 h3 HSZ.out (by have := PT.out.r1; rw [hem] at this; exact this) (by have := PT.out.r2; rw [hem] at this; exact this) (by have := PT.out.ar; rw [hem] at this; exact this)
              have hasz : (a : Int) < (s : Int) ∨ True := Or.inr trivial
              have hsdz : ¬ (s : Int) < (mid : Int) := by omega
              have hmdz : (mid : Int) < (e : Int) := by omega
              have hebz : (e : Int) < (b : Int) := by omega
              have HEM := Lib.hid hem
              clear hem hasz
              by_cases hl1 : (a : Int) < (s : Int)
              all_goals
                go_wp2_with fail
                rw [HEM.out]
                refine hrc.mono ?_
                clear hrc
                rintro x w' ⟨rfl, d3, k4, p3, t3, rfl⟩
                have HPT := PT.out.join (by have := HSZ.out; omega) (by omega) (by omega) (permIn_refl _ _ _) (by have h := PT.out.l1; rw [show s = mid by have := HEM.out; omega] at h; exact h) p3 t3
                have HJ := Lib.hid HPT
                clear HPT p3 t3
                go_wp2_with fail
                go_end0
                exact ⟨rfl, d3, k4, HJ.out.1, HJ.out.2, rfl⟩
          · exfalso
            omega
    · have hmmz : ¬ (mid : Int) < (m : Int) := by omega
      go_enter Try.func73, Try.ntmps73
      go_wp2_with fail
      go_loopg [20, 21] (m + 1) (fun g1 vi vj wr => ∃ (s r k : Nat), vi = .int .i64 s ∧ vj = .int .i64 r ∧ s0 ≤ s ∧ s ≤ r ∧ r ≤ r0 ∧ r - s ≤ g1 ∧ wr = (putRow encF w g 0 d).drewN k ∧ Aside (s = s0 ∨ lt d[n - s]! d[s - 1]! = false) ∧ Aside (r = r0 ∨ lt d[n - 1 - r]! d[r]! = true))
      case atStart => exact ⟨a, m, k0, rfl, rfl, by omega, by omega, by omega, by omega, rfl, Or.inl (by omega), Or.inl (by omega)⟩
      case round =>
        obtain ⟨s, r, k, rfl, rfl, hi, hij, hj, hg1, rfl, FL, FH⟩ := hrel
        by_cases hlt : s < r
        · have hltz : (s : Int) < (r : Int) := by omega
          have s1 : IntKind.i64.wrap ((s : Int) + (r : Int)) = (s : Int) + (r : Int) := by rw [IntKind.wrap_i64]; omega
          have s2 : IntKind.u64.wrap ((s : Int) + (r : Int)) = (s : Int) + (r : Int) := by rw [IntKind.wrap_u64]; omega
          obtain ⟨c, c1, c2⟩ : ∃ h : Nat, h + h ≤ s + r ∧ s + r ≤ h + h + 1 := ⟨(s + r) / 2, by omega, by omega⟩
          have eh2 : ((s : Int) + (r : Int)) / 2 = (c : Int) := by omega
          obtain ⟨y, y1, y2⟩ : ∃ y : Nat, y + c ≤ p ∧ p ≤ y + c := ⟨p - c, by omega, by omega⟩
          have wy : IntKind.i64.wrap ((p : Int) - (c : Int)) = (y : Int) := by rw [IntKind.wrap_i64]; omega
          have hs := HSZ.out
          have HHj := holds_putRow encF w g 0 d0 d HH.out hs
          obtain ⟨xc, hxc⟩ : ∃ x, d[c]! = x := ⟨_, rfl⟩
          obtain ⟨xy, hxy⟩ : ∃ x, d[y]! = x := ⟨_, rfl⟩
          have cc := (HHj c (by omega)).1
          have cy := (HHj y (by omega)).1
          rw [hxc] at cc
          rw [hxy] at cy
          have cc' : ((putRow encF w g 0 d).drewN k).cell? ⟨g, 0 + c, none⟩ = some (encF xc) := cc
          have cy' : ((putRow encF w g 0 d).drewN k).cell? ⟨g, 0 + y, none⟩ = some (encF xy) := cy
          rw [Nat.zero_add] at cc' cy'
          have hc := HC.out d xy xc hs k
          have hcz : (c : Int) < (d0.size : Int) := by omega
          have hyz : (y : Int) < (d0.size : Int) := by omega
          have hagr : decide (cf xy xc < 0) = lt xy xc := by have := HA.out c y (by omega) (by omega) (by omega) (by omega); rw [hxc, hxy] at this; exact this
          clear HHj cc cy hs
          obtain ⟨wq, hwq⟩ : ∃ W, (putRow encF w g 0 d).drewN k = W := ⟨_, rfl⟩
          have HW := Lib.hid hwq
          rw [hwq] at cc' cy' hc ⊢
          have HXC := Lib.hid hxc
          have HXY := Lib.hid hxy
          have HG := Lib.hid hagr
          clear hwq hxc hxy hagr
          unfold encF at cc' cy' hc
          by_cases hlv : cf xy xc < 0
          · go_wp2_with fail
            go_quiet (first | (go_at_fn gf; refine Calls.quiet_of (hc _)))
            go_wp2_with fail
            go_roundg (c - s)
            case measure => omega
            case rel =>
              refine ⟨s, c, k + nq, rfl, rfl, hi, by omega, by omega, by omega, by rw [← HW.out, World.drewN_drewN], FL, Or.inr ?_⟩
              rw [show n - 1 - c = y by omega, HXC.out, HXY.out, ← HG.out]
              exact decide_eq_true hlv
          · have hlb : decide (cf xy xc < 0) = false := decide_eq_false hlv
            have hlb2 : (!decide (cf xy xc < 0)) = true := by rw [hlb]; rfl
            go_wp2_with fail
            go_quiet (first | (go_at_fn gf; refine Calls.quiet_of (hc _)))
            have s3 : IntKind.i64.wrap ((c : Int) + 1) = (c : Int) + 1 := by rw [IntKind.wrap_i64]; omega
            go_wp2_with fail
            go_roundg (r - (c + 1))
            case measure => omega
            case rel =>
              refine ⟨c + 1, r, k + nq, by go_num, rfl, by omega, by omega, hj, by omega, by rw [← HW.out, World.drewN_drewN], Or.inr ?_, FH⟩
              rw [show n - (c + 1) = y by omega, Nat.add_sub_cancel, HXC.out, HXY.out, ← HG.out]
              exact decide_eq_false (by omega)
        · have hltz : ¬ (s : Int) < (r : Int) := by omega
          obtain rfl : s = r := by omega
          obtain ⟨e, e1, e2⟩ : ∃ e : Nat, e + s ≤ n ∧ n ≤ e + s := ⟨n - s, by omega, by omega⟩
          have we : IntKind.i64.wrap ((n : Int) - (s : Int)) = (e : Int) := by rw [IntKind.wrap_i64]; omega
          have FD : Hid (Found lt d a m b mid s e) := by
            refine ⟨by omega, by omega, by omega, by omega, by omega, ?_, ?_⟩
            · rcases (FL : _ ∨ _) with h | h
              · rcases (LO.out : _ ∨ _) with h2 | h2
                · exact Or.inl (by omega)
                · exact Or.inr (Or.inl (by omega))
              · rw [show n - s = e by omega] at h
                exact Or.inr (Or.inr h)
            · rcases (FH : _ ∨ _) with h | h
              · rcases (HI.out : _ ∨ _) with h2 | h2
                · exact Or.inl (by omega)
                · exact Or.inr (Or.inl (by omega))
              · rw [show n - 1 - s = e - 1 by omega] at h
                exact Or.inr (Or.inr h)
          clear FL FH
          by_cases hsm : s < m
          · have hsmz : (s : Int) < (m : Int) := by omega
            by_cases hme : m < e
            · have hmez : (m : Int) < (e : Int) := by omega
              obtain ⟨d1, hd1⟩ : ∃ x, x = rotL m (e - s) (m - s) (e - m) d := ⟨_, rfl⟩
              have PT : Hid (Parted lt (ltOf cf) d d1 a mid b s e) := by rw [hd1]; exact parted_rot hS (by have := HSZ.out; omega) HL.out HR.out HA.out FD.out hsm hme
              have hrc := HRot.out s e k hsm hme (by omega)
              rw [← hd1] at hrc
              have hmdz : (mid : Int) < (e : Int) := by omega
              have hsdz : (s : Int) < (mid : Int) := by omega
              clear hd1
              go_wp2_with fail
              refine hrc.mono ?_
              clear hrc
              rintro x w' ⟨rfl, k2, rfl⟩
              by_cases hl1 : a < s
              · have hl1z : (a : Int) < (s : Int) := by omega
                have hlc := IH.out a s mid k2 d1 (by omega) hl1 (by omega) (by omega) (PT.out.size.trans HSZ.out) PT.out.l1 PT.out.l2 PT.out.al
                go_wp2_with fail
                refine hlc.mono ?_
                clear hlc
                rintro x w' ⟨rfl, d2, k3, p2, t2, rfl⟩
                have HP2 := Lib.hid p2
                have HT2 := Lib.hid t2
                clear p2 t2
                by_cases hr1 : e < b
                · have hr1z : (e : Int) < (b : Int) := by omega
                  have hrc := IH.out mid e b k3 d2 (by omega) (by omega) hr1 (by omega) (HP2.out.1.trans (PT.out.size.trans HSZ.out)) (sorted_out HP2.out (Nat.le_refl _) PT.out.r1) (sorted_out HP2.out (by omega) PT.out.r2) (agree_out HP2.out PT.out.ar)
                  go_wp2_with fail
                  refine hrc.mono ?_
                  clear hrc
                  rintro x w' ⟨rfl, d3, k4, p3, t3, rfl⟩
                  have HPT := PT.out.join (by have := HSZ.out; omega) (by omega) (by omega) HP2.out HT2.out p3 t3
                  have HJ := Lib.hid HPT
                  clear HPT p3 t3
                  go_wp2_with fail
                  go_end0
                  exact ⟨rfl, d3, k4, HJ.out.1, HJ.out.2, rfl⟩
                · have hr1z : ¬ (e : Int) < (b : Int) := by omega
                  go_wp2_with fail
                  go_end0
                  obtain rfl : e = b := by omega
                  have HJ := PT.out.join (by have := HSZ.out; omega) (by omega) (by omega) HP2.out HT2.out (permIn_refl _ _ _) (sorted_out HP2.out (Nat.le_refl _) PT.out.r1)
                  exact ⟨rfl, d2, k3, HJ.1, HJ.2, rfl⟩
              · have hl1z : ¬ (a : Int) < (s : Int) := by omega
                by_cases hr1 : e < b
                · have hr1z : (e : Int) < (b : Int) := by omega
                  have hrc := IH.out mid e b k2 d1 (by omega) (by omega) hr1 (by omega) (PT.out.size.trans HSZ.out) PT.out.r1 PT.out.r2 PT.out.ar
                  go_wp2_with fail
                  refine hrc.mono ?_
                  clear hrc
                  rintro x w' ⟨rfl, d3, k4, p3, t3, rfl⟩
                  obtain rfl : a = s := by have := FD.out.as; omega
                  have HPT := PT.out.join (by have := HSZ.out; omega) (by omega) (by omega) (permIn_refl _ _ _) PT.out.l2 p3 t3
                  have HJ := Lib.hid HPT
                  clear HPT p3 t3
                  go_wp2_with fail
                  go_end0
                  exact ⟨rfl, d3, k4, HJ.out.1, HJ.out.2, rfl⟩
                · have hr1z : ¬ (e : Int) < (b : Int) := by omega
                  go_wp2_with fail
                  go_end0
                  obtain rfl : e = b := by omega
                  obtain rfl : a = s := by have := FD.out.as; omega
                  have HJ := PT.out.join (by have := HSZ.out; omega) (by omega) (by omega) (permIn_refl _ _ _) PT.out.l2 (permIn_refl _ _ _) PT.out.r1
                  exact ⟨rfl, d1, k2, HJ.1, HJ.2, rfl⟩
            · have hmez : ¬ (m : Int) < (e : Int) := by omega
              have hem : e = m := by have := FD.out.me; omega
              have PT : Hid (Parted lt (ltOf cf) d d a mid b s e) := parted_same hS HL.out HR.out HA.out FD.out (Or.inr hem)
              have hrc := IH.out mid m b k d (by omega) (by omega) h2 h3 HSZ.out (by have := PT.out.r1; rw [hem] at this; exact this) (by have := PT.out.r2; rw [hem] at this; exact this) (by have := PT.out.ar; rw [hem] at this; exact this)
              have hasz : (a : Int) < (s : Int) ∨ True := Or.inr trivial
              have hsdz : ¬ (s : Int) < (mid : Int) := by omega
              have hmdz : (mid : Int) < (e : Int) := by omega
              have hebz : (e : Int) < (b : Int) := by omega
              have HEM := Lib.hid hem
              clear hem hasz
              by_cases hl1 : (a : Int) < (s : Int)
              all_goals
                go_wp2_with fail
                rw [HEM.out]
                refine hrc.mono ?_
                clear hrc
                rintro x w' ⟨rfl, d3, k4, p3, t3, rfl⟩
                have HPT := PT.out.join (by have := HSZ.out; omega) (by omega) (by omega) (permIn_refl _ _ _) (by have h := PT.out.l1; rw [show s = mid by have := HEM.out; omega] at h; exact h) p3 t3
                have HJ := Lib.hid HPT
                clear HPT p3 t3
                go_wp2_with fail
                go_end0
                exact ⟨rfl, d3, k4, HJ.out.1, HJ.out.2, rfl⟩
          · have hsmz : ¬ (s : Int) < (m : Int) := by omega
            have hsm2 : s = m := by have := FD.out.sm; omega
            have PT : Hid (Parted lt (ltOf cf) d d a mid b s e) := parted_same hS HL.out HR.out HA.out FD.out (Or.inl hsm2)
            have hasz : (a : Int) < (s : Int) := by omega
            have hmdz : ¬ (mid : Int) < (e : Int) := by omega
            by_cases hl1 : s < mid
            · have hl1z : (s : Int) < (mid : Int) := by omega
              have hlc := IH.out a s mid k d (by omega) (by omega) (by omega) (by omega) HSZ.out PT.out.l1 PT.out.l2 PT.out.al
              clear hsm2
              go_wp2_with fail
              refine hlc.mono ?_
              clear hlc
              rintro x w' ⟨rfl, d2, k3, p2, t2, rfl⟩
              have HP2 := Lib.hid p2
              have HT2 := Lib.hid t2
              clear p2 t2
              go_wp2_with fail
              go_end0
              have HJ := PT.out.join (by have := HSZ.out; omega) (by omega) (by omega) HP2.out HT2.out (permIn_refl _ _ _) (sorted_out HP2.out (Nat.le_refl _) (by have h := PT.out.r2; rw [show e = mid by omega] at h; exact h))
              exact ⟨rfl, d2, k3, HJ.1, HJ.2, rfl⟩
            · have hl1z : ¬ (s : Int) < (mid : Int) := by omega
              clear hsm2
              go_wp2_with fail
              go_end0
              have HJ := PT.out.join (by have := HSZ.out; omega) (by omega) (by omega) (permIn_refl _ _ _) (by have h := PT.out.l1; rw [show s = mid by omega] at h; exact h) (permIn_refl _ _ _) (by have h := PT.out.r2; rw [show e = mid by omega] at h; exact h)
              exact ⟨rfl, d, k, HJ.1, HJ.2, rfl⟩

end Go.Proofs.Ytbhdolghokhfnaa
