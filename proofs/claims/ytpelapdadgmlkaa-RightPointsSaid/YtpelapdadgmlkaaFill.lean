/-
  Walks: right.Fill.
-/
import Derived.Test.YtpelapdadgmlkaaRight
import Derived.Deep.RegionHeld3
import Derived.Deep.QuietTactic
import Derived.BigQuiet
namespace Go.Proofs.Ytpelapdadgmlkaa
open Go.RowKit

/-! Plain. -/
def fitF (f : Fr) : Bool := [f.x, f.y, f.w, f.h].all fit
def big (f : Fr) : Bool := decide (0 < f.w ∧ 0 < f.h)
def mn (sel : Fr → Int) : List Fr → Int
  | [] => 0
  | f :: L => L.foldl (fun a g => min a (sel g)) (sel f)
def mx (sel : Fr → Int) : List Fr → Int
  | [] => 0
  | f :: L => L.foldl (fun a g => max a (sel g)) (sel f)
theorem mn_snoc (sel : Fr → Int) (L : List Fr) (f : Fr) : mn sel (L ++ [f]) = if L = [] then sel f else min (mn sel L) (sel f) := by
  cases L with
  | nil => rfl
  | cons g L => simp [mn, List.foldl_append]
theorem mx_snoc (sel : Fr → Int) (L : List Fr) (f : Fr) : mx sel (L ++ [f]) = if L = [] then sel f else max (mx sel L) (sel f) := by
  cases L with
  | nil => rfl
  | cons g L => simp [mx, List.foldl_append]
def gr (fs : List Fr) (k : Nat) : List Fr := (fs.take k).filter big
theorem gr_big {fs : List Fr} {k : Nat} (hk : k < fs.length) (h : big fs[k] = true) : gr fs (k + 1) = gr fs k ++ [fs[k]] := by
  unfold gr
  rw [List.take_succ_eq_append_getElem hk, List.filter_append]
  simp [h]
theorem gr_small {fs : List Fr} {k : Nat} (hk : k < fs.length) (h : big fs[k] = false) : gr fs (k + 1) = gr fs k := by
  unfold gr
  rw [List.take_succ_eq_append_getElem hk, List.filter_append]
  simp [h]
def rt (f : Fr) : Int := f.x + f.w
def bt (f : Fr) : Int := f.y + f.h
def fillR (fs : List Fr) : Int × Int × Int × Int :=
  if fs.all fitF then (mn Fr.x (gr fs fs.length), mn Fr.y (gr fs fs.length), mx rt (gr fs fs.length) - mn Fr.x (gr fs fs.length), mx bt (gr fs fs.length) - mn Fr.y (gr fs fs.length)) else (0, 0, 0, 0)
theorem fitF_bd {f : Fr} (h : fitF f = true) : (-1099511627776 ≤ f.x ∧ f.x ≤ 1099511627776) ∧ (-1099511627776 ≤ f.y ∧ f.y ≤ 1099511627776) ∧ (-1099511627776 ≤ f.w ∧ f.w ≤ 1099511627776) ∧ (-1099511627776 ≤ f.h ∧ f.h ≤ 1099511627776) := by
  unfold fitF at h
  simp only [List.all_cons, List.all_nil, Bool.and_true, Bool.and_eq_true, fit_iff] at h
  exact h
theorem mn_bd {sel : Fr → Int} {a b : Int} (ha : a ≤ 0) (hb : 0 ≤ b) : ∀ {L : List Fr}, (∀ f ∈ L, a ≤ sel f ∧ sel f ≤ b) → a ≤ mn sel L ∧ mn sel L ≤ b := by
  intro L h
  rcases List.eq_nil_or_concat L with rfl | ⟨L', f, rfl⟩
  · exact ⟨ha, hb⟩
  · have hf := h f (by simp)
    have ih := mn_bd ha hb (L := L') fun g hg => h g (by simp [hg])
    rw [List.concat_eq_append, mn_snoc]
    split <;> omega
termination_by L => L.length
theorem mx_bd {sel : Fr → Int} {a b : Int} (ha : a ≤ 0) (hb : 0 ≤ b) : ∀ {L : List Fr}, (∀ f ∈ L, a ≤ sel f ∧ sel f ≤ b) → a ≤ mx sel L ∧ mx sel L ≤ b := by
  intro L h
  rcases List.eq_nil_or_concat L with rfl | ⟨L', f, rfl⟩
  · exact ⟨ha, hb⟩
  · have hf := h f (by simp)
    have ih := mx_bd ha hb (L := L') fun g hg => h g (by simp [hg])
    rw [List.concat_eq_append, mx_snoc]
    split <;> omega
termination_by L => L.length
theorem gr_fit {fs : List Fr} {k : Nat} (h : (fs.take k).all fitF = true) : ∀ f ∈ gr fs k, fitF f = true := fun f hf => List.all_eq_true.1 h f (List.mem_filter.1 hf).1
theorem gr_bd {fs : List Fr} {k : Nat} (h : (fs.take k).all fitF = true) :
    (-1099511627776 ≤ mn Fr.x (gr fs k) ∧ mn Fr.x (gr fs k) ≤ 1099511627776) ∧ (-1099511627776 ≤ mn Fr.y (gr fs k) ∧ mn Fr.y (gr fs k) ≤ 1099511627776) ∧ (-2199023255552 ≤ mx rt (gr fs k) ∧ mx rt (gr fs k) ≤ 2199023255552) ∧ (-2199023255552 ≤ mx bt (gr fs k) ∧ mx bt (gr fs k) ≤ 2199023255552) := by
  have hf := gr_fit h
  refine ⟨mn_bd (by omega) (by omega) fun f m => (fitF_bd (hf f m)).1, mn_bd (by omega) (by omega) fun f m => (fitF_bd (hf f m)).2.1, mx_bd (by omega) (by omega) fun f m => ?_, mx_bd (by omega) (by omega) fun f m => ?_⟩
  · have := fitF_bd (hf f m); unfold rt; omega
  · have := fitF_bd (hf f m); unfold bt; omega

def nonE : List Fr → Bool
  | [] => false
  | _ :: _ => true
theorem nonE_snoc (L : List Fr) (f : Fr) : nonE (L ++ [f]) = true := by cases L <;> rfl
def FiA (fs : List Fr) (w0 : World) (x y r b some_ i : Value) (wr : World) : Prop :=
  ∃ k : Nat, k ≤ fs.length ∧ i = .int .i64 k ∧ (fs.take k).all fitF = true ∧ x = .int .i64 (mn Fr.x (gr fs k)) ∧ y = .int .i64 (mn Fr.y (gr fs k)) ∧ r = .int .i64 (mx rt (gr fs k)) ∧ b = .int .i64 (mx bt (gr fs k)) ∧
    some_ = .bool (nonE (gr fs k)) ∧ Below w0.heap.size w0 wr

set_option maxRecDepth 100000 in
set_option maxHeartbeats 4000000 in
theorem fill_any (fs : List Fr) (v : Value) (B : Nat) (w : World) (h : Frags w B v fs) (hB : B ≤ w.heap.size) (hm : fs.length ≤ 2100) :
    Calls Try.prog 49 #[v] w fun e w' => e = .returned (.tuple #[.int .i64 (fillR fs).1, .int .i64 (fillR fs).2.1, .int .i64 (fillR fs).2.2.1, .int .i64 (fillR fs).2.2.2]) ∧ Below w.heap.size w w' := by
  obtain ⟨A, c, rfl, hc, hf⟩ := h
  go_enter Try.func49, Try.ntmps49
  go_wp2_with fail
  go_loopw [2, 3, 6, 7, 8, 13] (FiA fs w) (fun _ _ _ _ _ i _ => fs.length - (intOf i).toNat)
  case atStart => exact ⟨0, by omega, rfl, rfl, rfl, rfl, rfl, rfl, rfl, Below.refl _ _⟩
  case round =>
    obtain ⟨k, hk, rfl, hall, rfl, rfl, rfl, rfl, rfl, hbr⟩ := hrel
    have hbs := hbr.size
    have HA := Lib.hid hall
    obtain ⟨⟨bx1, bx2⟩, ⟨by1, by2⟩, ⟨br1, br2⟩, ⟨bb1, bb2⟩⟩ := gr_bd hall
    clear hall
    by_cases hlt : k < fs.length
    · obtain ⟨ad, rfl, hbk, hat⟩ := hf (by omega)
      obtain ⟨k0, k1, k2, k3, k4, k5, k6, k7⟩ := (hat k hlt).below hbr (by rw [block_of_add]; omega)
      clear hat hf
      have hGb := gr_big hlt
      have hGs := gr_small hlt
      have HT : fitF fs[k] = true → (fs.take (k + 1)).all fitF = true := fun h => by rw [List.take_succ_eq_append_getElem hlt, List.all_append, HA.out]; simp [h]
      have HF : fitF fs[k] = false → fillR fs = (0, 0, 0, 0) := fun h => by
        unfold fillR
        rw [if_neg]
        intro ha
        have := List.all_eq_true.1 ha _ (List.getElem_mem hlt)
        rw [h] at this
        cases this
      generalize fs[k] = f at *
      have hfit := fun W => fits_any [f.x, f.y, f.w, f.h] _ _ _ (Ints.built W [f.x, f.y, f.w, f.h] 3) (by simp)
      change ∀ W, Calls _ _ _ _ fun e w' => e = .returned (.bool (fitF f)) ∧ _ at hfit
      have hbd := fun h => fitF_bd (f := f) h
      have hbig : big f = decide (0 < f.w ∧ 0 < f.h) := rfl
      have hrt : rt f = f.x + f.w := rfl
      have hbt : bt f = f.y + f.h := rfl
      have hfx : Fr.x f = f.x := rfl
      obtain ⟨n, p, d, fx, fy, fw, fh, s⟩ := f
      simp only at hfit hbd hbig hrt hbt k0 k1 k2 k3 k4 k5 k6 k7
      clear hfx
      have hbA : Below wr.heap.size wr ((wr.alloc (.cells #[.int .i64 n, .int .i64 p, .int .i64 d, .int .i64 fx, .int .i64 fy, .int .i64 fw, .int .i64 fh, .string s] 107)).alloc (.cells #[.int .i64 fx, .int .i64 fy, .int .i64 fw, .int .i64 fh] 3)) := ((Below.refl _ _).alloc (Nat.le_refl _) _).alloc (by simp) _
      have c3 : ((wr.alloc (.cells #[.int .i64 n, .int .i64 p, .int .i64 d, .int .i64 fx, .int .i64 fy, .int .i64 fw, .int .i64 fh, .string s] 107)).alloc (.cells #[.int .i64 fx, .int .i64 fy, .int .i64 fw, .int .i64 fh] 3)).cell? ⟨wr.heap.size, 3, none⟩ = some (.int .i64 fx) := by simp [go_sem]
      have c4 : ((wr.alloc (.cells #[.int .i64 n, .int .i64 p, .int .i64 d, .int .i64 fx, .int .i64 fy, .int .i64 fw, .int .i64 fh, .string s] 107)).alloc (.cells #[.int .i64 fx, .int .i64 fy, .int .i64 fw, .int .i64 fh] 3)).cell? ⟨wr.heap.size, 4, none⟩ = some (.int .i64 fy) := by simp [go_sem]
      have c5 : ((wr.alloc (.cells #[.int .i64 n, .int .i64 p, .int .i64 d, .int .i64 fx, .int .i64 fy, .int .i64 fw, .int .i64 fh, .string s] 107)).alloc (.cells #[.int .i64 fx, .int .i64 fy, .int .i64 fw, .int .i64 fh] 3)).cell? ⟨wr.heap.size, 5, none⟩ = some (.int .i64 fw) := by simp [go_sem]
      have c6 : ((wr.alloc (.cells #[.int .i64 n, .int .i64 p, .int .i64 d, .int .i64 fx, .int .i64 fy, .int .i64 fw, .int .i64 fh, .string s] 107)).alloc (.cells #[.int .i64 fx, .int .i64 fy, .int .i64 fw, .int .i64 fh] 3)).cell? ⟨wr.heap.size, 6, none⟩ = some (.int .i64 fh) := by simp [go_sem]
      have hf1 := hfit (wr.alloc (.cells #[.int .i64 n, .int .i64 p, .int .i64 d, .int .i64 fx, .int .i64 fy, .int .i64 fw, .int .i64 fh, .string s] 107))
      simp only [List.length_cons, List.length_nil, Nat.zero_add, Nat.reduceAdd, List.map_cons, List.map_nil, World.size_alloc] at hf1
      clear hfit
      cases hft : fitF ⟨n, p, d, fx, fy, fw, fh, s⟩ with
      | false =>
        rw [hft] at hf1
        have HR := Lib.hid (HF hft)
        clear HT HF hbd hGb hGs hft c3 c4 c5 c6
        go_wp2_with fail
        refine hf1.mono ?_
        rintro e w5 ⟨rfl, rfl⟩
        go_wp2_with fail
        refine bodyPost_ret (results_tmp4 rfl _ _ _) rfl ?_
        exact ⟨by rw [HR.out]; rfl, hbr.trans (hbA.mono hbs)⟩
      | true =>
        rw [hft] at hf1
        have HT' := Lib.hid (HT hft)
        obtain ⟨⟨f1, f2⟩, ⟨f3, f4⟩, ⟨f5, f6⟩, ⟨f7, f8⟩⟩ := hbd hft
        clear HT HF hbd hft
        cases hbg : big ⟨n, p, d, fx, fy, fw, fh, s⟩ with
        | false =>
          have HG := Lib.hid (hGs hbg)
          rw [hbg] at hbig
          have h2 : fw ≤ 0 ∨ (¬ fw ≤ 0 ∧ fh ≤ 0) := by
            have := of_decide_eq_false hbig.symm
            omega
          clear hGb hGs hbg hbig
          generalize gr fs k = G at *
          rcases h2 with g1 | ⟨g1, g2⟩
          all_goals
            go_wp2_with fail
            refine hf1.mono ?_
            rintro e w5 ⟨rfl, rfl⟩
            go_wp2_with fail
            go_roundw
            case rel => exact ⟨k + 1, hlt, by go_num, HT'.out, by rw [HG.out], by rw [HG.out], by rw [HG.out], by rw [HG.out], by rw [HG.out], hbr.trans (hbA.mono hbs)⟩
            case measure => simp [intOf] <;> omega
        | true =>
          have HG := Lib.hid (hGb hbg)
          rw [hbg] at hbig
          obtain ⟨g1, g2⟩ := of_decide_eq_true hbig.symm
          clear hGb hGs hbg hbig
          have HNE := Lib.hid (nonE_snoc (gr fs k) ⟨n, p, d, fx, fy, fw, fh, s⟩)
          have HM1 := Lib.hid (mn_snoc Fr.x (gr fs k) ⟨n, p, d, fx, fy, fw, fh, s⟩)
          have HM2 := Lib.hid (mn_snoc Fr.y (gr fs k) ⟨n, p, d, fx, fy, fw, fh, s⟩)
          have HM3 := Lib.hid (mx_snoc rt (gr fs k) ⟨n, p, d, fx, fy, fw, fh, s⟩)
          have HM4 := Lib.hid (mx_snoc bt (gr fs k) ⟨n, p, d, fx, fy, fw, fh, s⟩)
          rw [hrt] at HM3
          rw [hbt] at HM4
          simp only at HM1 HM2
          clear hrt hbt
          generalize gr fs k = G at *
          obtain ⟨r0, hr0⟩ : ∃ r0, fx + fw = r0 := ⟨_, rfl⟩
          obtain ⟨b0, hb0⟩ : ∃ b0, fy + fh = b0 := ⟨_, rfl⟩
          have hw1 : IntKind.i64.wrap (fx + fw) = r0 := by rw [hr0, IntKind.wrap_i64]; omega
          have hw2 : IntKind.i64.wrap (fy + fh) = b0 := by rw [hb0, IntKind.wrap_i64]; omega
          rw [hr0] at HM3
          rw [hb0] at HM4
          clear hr0 hb0
          cases G with
          | nil =>
            rw [if_pos rfl] at HM1 HM2 HM3 HM4
            have hne : nonE [] = false := rfl
            generalize mn Fr.x [] = mx0 at *
            generalize mn Fr.y [] = my0 at *
            generalize mx rt [] = mr0 at *
            generalize mx bt [] = mb0 at *
            rw [hne]
            go_wp2_with fail
            refine hf1.mono ?_
            rintro e w5 ⟨rfl, rfl⟩
            go_wp2_with fail
            generalize (wr.alloc (.cells #[.int .i64 n, .int .i64 p, .int .i64 d, .int .i64 fx, .int .i64 fy, .int .i64 fw, .int .i64 fh, .string s] 107)).alloc (.cells #[.int .i64 fx, .int .i64 fy, .int .i64 fw, .int .i64 fh] 3) = W1 at *
            clear k0 k1 k2 k3 k4 k5 k6 k7 hf1
            go_quiet (fail)
            go_wp2_with fail
            go_quiet (fail)
            go_wp2_with fail
            go_quiet (fail)
            go_wp2_with fail
            go_roundw
            case rel => exact ⟨k + 1, hlt, by go_num, HT'.out, by rw [HG.out, HM1.out], by rw [HG.out, HM2.out], by rw [HG.out, HM3.out], by rw [HG.out, HM4.out], by rw [HG.out, HNE.out], hbr.trans ((below_drewN hbA _).mono hbs)⟩
            case measure => simp [intOf] <;> omega
          | cons g0 G0 =>
            rw [if_neg (by simp)] at HM1 HM2 HM3 HM4
            have hne : nonE (g0 :: G0) = true := rfl
            generalize g0 :: G0 = G at *
            generalize mn Fr.x G = mx0 at *
            generalize mn Fr.y G = my0 at *
            generalize mx rt G = mr0 at *
            generalize mx bt G = mb0 at *
            rw [hne]
            go_wp2_with fail
            refine hf1.mono ?_
            rintro e w5 ⟨rfl, rfl⟩
            go_wp2_with fail
            generalize (wr.alloc (.cells #[.int .i64 n, .int .i64 p, .int .i64 d, .int .i64 fx, .int .i64 fy, .int .i64 fw, .int .i64 fh, .string s] 107)).alloc (.cells #[.int .i64 fx, .int .i64 fy, .int .i64 fw, .int .i64 fh] 3) = W1 at *
            clear k0 k1 k2 k3 k4 k5 k6 k7 hf1
            go_quiet (fail)
            go_wp2_with fail
            go_quiet (fail)
            go_wp2_with fail
            go_roundw
            case rel => exact ⟨k + 1, hlt, by go_num, HT'.out, by rw [HG.out, HM1.out], by rw [HG.out, HM2.out], by rw [HG.out, HM3.out], by rw [HG.out, HM4.out], by rw [HG.out, HNE.out], hbr.trans ((below_drewN hbA _).mono hbs)⟩
            case measure => simp [intOf] <;> omega
    · obtain rfl : k = fs.length := by omega
      have hall' : fs.all fitF = true := by have := HA.out; rwa [List.take_of_length_le (Nat.le_refl _)] at this
      have HR := Lib.hid (show fillR fs = (mn Fr.x (gr fs fs.length), mn Fr.y (gr fs fs.length), mx rt (gr fs fs.length) - mn Fr.x (gr fs fs.length), mx bt (gr fs fs.length) - mn Fr.y (gr fs fs.length)) from if_pos hall')
      clear hall'
      go_wp2_with fail
      refine bodyPost_ret (results_tmp4 rfl _ _ _) rfl ?_
      exact ⟨by rw [HR.out]; rfl, hbr⟩

end Go.Proofs.Ytpelapdadgmlkaa
