/-
  Walks: windowpaneref19.Fill.
-/
import Derived.Test.YtpelapdadgmlkaaFill
import Derived.StillTailTactics
namespace Go.Proofs.Ytpelapdadgmlkaa
open Go.RowKit

theorem Try.infoFrag : (Try.prog.info? 107).map (fun i => (i.zero, i.size, i.bytes)) = some (some (.agg #[.int .i64 0, .int .i64 0, .int .i64 0, .int .i64 0, .int .i64 0, .int .i64 0, .int .i64 0, .string ⟨#[]⟩]), 8, 72) := by kernel_rfl
def encF (f : Fr) : List Value := [.int .i64 f.node, .int .i64 f.part, .int .i64 f.depth, .int .i64 f.x, .int .i64 f.y, .int .i64 f.w, .int .i64 f.h, .string f.text]
def rowF (L : List Fr) : List Value := L.flatMap encF
theorem rowF_snoc (L : List Fr) (x : Fr) : rowF (L ++ [x]) = rowF L ++ encF x := by simp [rowF]
theorem rowF_len : ∀ L : List Fr, (rowF L).length = L.length * 8
  | [] => rfl
  | x :: L => by
    show (encF x ++ rowF L).length = _
    rw [List.length_append, rowF_len L]
    simp [encF]
    omega
theorem rowF_at : ∀ {L : List Fr} {k : Nat} (hk : k < L.length) (j : Nat), j < 8 → (rowF L)[k * 8 + j]? = (encF L[k])[j]?
  | x :: L, 0, _, j, hj => by
    show (encF x ++ rowF L)[_]? = _
    rw [List.getElem?_append_left (by simp [encF]; omega)]
    simp
  | x :: L, k + 1, hk, j, hj => by
    have h := rowF_at (L := L) (k := k) (by simpa using hk) j hj
    show (encF x ++ rowF L)[_]? = _
    rw [List.getElem?_append_right (by simp [encF]; omega), show (k + 1) * 8 + j - (encF x).length = k * 8 + j by simp [encF]; omega, h]
    simp
def OwnsF (w : World) (base : Nat) (v : Value) (L : List Fr) : Prop := w.ownsRow base 107 8 v L.length (rowF L)
theorem OwnsF.nil (w : World) (base : Nat) : OwnsF w base (.slice none 0 0) [] := World.ownsRow_nil _ _ _ _
theorem OwnsF.open_ {w : World} {base : Nat} {v : Value} {L : List Fr} (h : OwnsF w base v L) (h0 : 0 < L.length) :
    ∃ g cap, v = .slice (some ⟨g, 0, none⟩) L.length cap ∧ base ≤ g ∧ g < w.heap.size ∧ ∀ k (hk : k < L.length) j, j < 8 → w.cell? ⟨g, k * 8 + j, none⟩ = (encF L[k])[j]? := by
  rcases h.2 with ⟨_, e⟩ | ⟨g, cap, cur, rfl, hg, hb, hc, _, hs, ht⟩
  · omega
  · refine ⟨g, cap, rfl, hg, (Array.getElem?_eq_some_iff.1 hb).1, fun k hk j hj => ?_⟩
    rw [cell_of_row w g _ cur _ _ hb, ← rowF_at hk j hj, ← ht, List.getElem?_take_of_lt (by omega), Array.getElem?_toList]

/-- 'great = append(great, l[i])': the one fragment lies in a new block of its own. -/
theorem append_frag {ops : Array Oper} {rest : List Oper} {o : Oper} {a : Act} {Q : Exit → Act → World → Prop} (w : World) (f : Fr) (hgd : o.guard = none) (s y : Operand)
    (ho : o.op = .call { callee := .builtin .append, args := #[s, y], argTypes := #[44, 44] })
    (base : Nat) (v : Value) (L : List Fr) (hs : a.eval s = v) (hown : OwnsF w base v L)
    (hx : a.eval y = .slice (some ⟨w.heap.size, 0, none⟩) 1 1)
    (h47 : L.length < 1000000) (hbase : base ≤ w.heap.size)
    (h : ∀ v' w', OwnsF w' base v' (L ++ [f]) → Below base w w' → wpList Try.prog ops Q rest (a.put o.dst v') w') : wpList Try.prog ops Q (o :: rest) a (w.alloc (.cells #[.int .i64 f.node, .int .i64 f.part, .int .i64 f.depth, .int .i64 f.x, .int .i64 f.y, .int .i64 f.w, .int .i64 f.h, .string f.text] 107)) := by
  obtain ⟨i0, hi0, hz0, hz1, hz2⟩ := info_parts Try.infoFrag
  have hlt := fun k (e : v.ownBlock = some k) => (World.ownsRow.lt hown k e).1
  refine wpList_append_any _ hgd s y _ ho base 107 i0 _ 8 72 Try.underlying44 hi0 hz0 hz1 hz2 rfl (by omega) v _ _ hs (World.ownsRow.alloc hown _) (w.heap.size + 1) _ 1 1 (encF f) hx ?_ ?_ (by simp only [maxLen]; omega) (by omega) (by simp; omega) ?_
  · refine ⟨rfl, fun _ => ⟨_, rfl, by simp, fun j u hu => ?_⟩⟩
    have e : (⟨w.heap.size, 0, none⟩ : Addr).add j = ⟨w.heap.size, j, none⟩ := by unfold Addr.add; split <;> simp_all
    rw [e, (Blk.new w 107 #[.int .i64 f.node, .int .i64 f.part, .int .i64 f.depth, .int .i64 f.x, .int .i64 f.y, .int .i64 f.w, .int .i64 f.h, .string f.text]).cell j]
    simpa [encF] using hu
  · intro u hu
    simp [encF] at hu
    rcases hu with rfl | rfl | rfl | rfl | rfl | rfl | rfl | rfl <;> rfl
  · intro v' w' h1 h2 _
    refine h v' w' (by unfold OwnsF; rw [List.length_append, rowF_snoc]; exact h1) ?_
    exact ((Below.refl base w).alloc hbase _).grown h2 (by simp; omega) (fun k e => hlt k e)

/-! Plain: the loops. -/
/-- How far the greatest reach lies behind x. -/
def wz (x : Int) (sel : Fr → Int) : List Fr → Int
  | [] => 0
  | f :: L => max (wz x sel L) (sel f - x)
theorem wz_eq {x : Int} {sel : Fr → Int} : ∀ {L : List Fr}, (∀ f ∈ L, x ≤ sel f) → wz x sel L = if L = [] then 0 else mx sel L - x := by
  intro L
  induction L with
  | nil => intro _; rfl
  | cons f L ih =>
    intro h
    have h1 := h f (by simp)
    have h2 := ih fun g hg => h g (by simp [hg])
    rw [if_neg (by simp)]
    show max (wz x sel L) (sel f - x) = _
    rw [h2]
    have key : ∀ (M : List Fr) (a : Int), M.foldl (fun a g => max a (sel g)) a = max a (if M = [] then a else mx sel M) := by
      intro M
      induction M with
      | nil => intro a; simp
      | cons g M ihM =>
        intro a
        simp only [List.foldl_cons]
        rw [ihM (max a (sel g)), if_neg (List.cons_ne_nil g M), show mx sel (g :: M) = M.foldl (fun a g => max a (sel g)) (sel g) from rfl, ihM (sel g)]
        by_cases e : M = []
        · rw [if_pos e, if_pos e]; omega
        · rw [if_neg e, if_neg e]; omega
    have := key L (sel f)
    show _ = L.foldl (fun a g => max a (sel g)) (sel f) - x
    rw [this]
    by_cases e : L = []
    · subst e; simp; omega
    · simp [e]; omega
theorem wz_snoc (x : Int) (sel : Fr → Int) (L : List Fr) (f : Fr) : wz x sel (L ++ [f]) = max (wz x sel L) (sel f - x) := by
  induction L with
  | nil => rfl
  | cons g L ih =>
    show max (wz x sel (L ++ [f])) (sel g - x) = max (max (wz x sel L) (sel g - x)) (sel f - x)
    rw [ih]
    omega
theorem mn_le {sel : Fr → Int} {f : Fr} : ∀ {L : List Fr}, f ∈ L → mn sel L ≤ sel f := by
  intro L hf
  rcases List.eq_nil_or_concat L with rfl | ⟨L', g, rfl⟩
  · simp at hf
  · rw [List.concat_eq_append] at hf ⊢
    rw [mn_snoc]
    rcases List.mem_append.1 hf with h | h
    · have := mn_le (sel := sel) (L := L') h
      rw [if_neg (by intro e; rw [e] at h; simp at h)]
      omega
    · simp at h
      subst h
      split <;> omega
termination_by L => L.length

theorem mn_step {sel : Fr → Int} {G : List Fr} {k : Nat} (hk : k < G.length) : mn sel (G.take (max (k + 1) 1)) = if sel G[k] < mn sel (G.take (max k 1)) then sel G[k] else mn sel (G.take (max k 1)) := by
  rcases Nat.eq_zero_or_pos k with h | h
  · subst h
    have e : G.take 1 = [G[0]] := by
      cases G with
      | nil => simp at hk
      | cons g G => rfl
    rw [show max (0 + 1) 1 = 1 by omega, show max 0 1 = 1 by omega, e]
    show sel G[0] = if sel G[0] < sel G[0] then _ else sel G[0]
    rw [if_neg (by omega)]
  · have hne : G.take k ≠ [] := fun e => by
      have h2 : (G.take k).length = 0 := by rw [e]; rfl
      rw [List.length_take] at h2
      omega
    rw [show max (k + 1) 1 = k + 1 by omega, show max k 1 = k by omega, List.take_succ_eq_append_getElem hk, mn_snoc, if_neg hne]
    split <;> omega
theorem wz_bd {x b : Int} (hb : 0 ≤ b) {sel : Fr → Int} : ∀ {L : List Fr}, (∀ f ∈ L, sel f - x ≤ b) → 0 ≤ wz x sel L ∧ wz x sel L ≤ b := by
  intro L
  induction L with
  | nil => intro _; exact ⟨by simp [wz], by simpa [wz] using hb⟩
  | cons g L ih =>
    intro h
    have h1 := h g (by simp)
    have h2 := ih fun f hf => h f (by simp [hf])
    show 0 ≤ max (wz x sel L) (sel g - x) ∧ max (wz x sel L) (sel g - x) ≤ b
    omega
theorem wz_step {x : Int} {sel : Fr → Int} {G : List Fr} {k : Nat} (hk : k < G.length) : wz x sel (G.take (k + 1)) = if wz x sel (G.take k) < sel G[k] - x then sel G[k] - x else wz x sel (G.take k) := by
  rw [List.take_succ_eq_append_getElem hk, wz_snoc]
  split <;> omega
def RfB (G : List Fr) (w0 : World) (x y i : Value) (wr : World) : Prop :=
  ∃ k : Nat, k ≤ G.length ∧ i = .int .i64 k ∧ x = .int .i64 (mn Fr.x (G.take (max k 1))) ∧ y = .int .i64 (mn Fr.y (G.take (max k 1))) ∧ Quiet w0 wr
def RfC (G : List Fr) (x y : Int) (w0 : World) (ww hh i : Value) (wr : World) : Prop :=
  ∃ k : Nat, k ≤ G.length ∧ i = .int .i64 k ∧ ww = .int .i64 (wz x rt (G.take k)) ∧ hh = .int .i64 (wz y bt (G.take k)) ∧ Quiet w0 wr
def RfA (fs : List Fr) (w0 : World) (great i : Value) (wr : World) : Prop :=
  ∃ k : Nat, k ≤ fs.length ∧ i = .int .i64 k ∧ (fs.take k).all fitF = true ∧ OwnsF wr w0.heap.size great (gr fs k) ∧ Below w0.heap.size w0 wr

set_option maxRecDepth 100000 in
set_option maxHeartbeats 4000000 in
theorem rfill_any (fs : List Fr) (v : Value) (B : Nat) (w : World) (h : Frags w B v fs) (hB : B ≤ w.heap.size) (hm : fs.length ≤ 2100) :
    Calls Try.prog 50 #[v] w fun e w' => e = .returned (.tuple #[.int .i64 (fillR fs).1, .int .i64 (fillR fs).2.1, .int .i64 (fillR fs).2.2.1, .int .i64 (fillR fs).2.2.2]) ∧ Below w.heap.size w w' := by
  obtain ⟨A, c, rfl, hc, hf⟩ := h
  go_enter Try.func50, Try.ntmps50
  go_wp2_with fail
  go_loopw [6, 7] (RfA fs w) (fun _ i _ => fs.length - (intOf i).toNat)
  case atStart => exact ⟨0, by omega, rfl, rfl, OwnsF.nil _ _, Below.refl _ _⟩
  case round =>
    obtain ⟨k, hk, rfl, hall, hown, hbr⟩ := hrel
    have hbs := hbr.size
    have HA := Lib.hid hall
    clear hall
    by_cases hlt : k < fs.length
    · obtain ⟨ad, rfl, hbk, hat⟩ := hf (by omega)
      obtain ⟨k0, k1, k2, k3, k4, k5, k6, k7⟩ := (hat k hlt).below hbr (by rw [block_of_add]; omega)
      clear hat hf
      have hGb := gr_big hlt
      have hGs := gr_small hlt
      have HT : fitF fs[k] = true → (fs.take (k + 1)).all fitF = true := fun h => by rw [List.take_succ_eq_append_getElem hlt, List.all_append, HA.out]; simp [h]
      have HF : fitF fs[k] = false → fillR fs = (0, 0, 0, 0) := fun h => by
        unfold fillR
        rw [if_neg]
        intro ha
        have := List.all_eq_true.1 ha _ (List.getElem_mem hlt)
        rw [h] at this
        cases this
      generalize fs[k] = f at *
      have hfit := fun W => rall [f.x, f.y, f.w, f.h] _ _ _ ((Ints.built W [f.x, f.y, f.w, f.h] 3).below ((Below.refl _ _).drew)) (by simp)
      change ∀ W, Calls _ _ _ _ fun e w' => e = .returned (.bool (fitF f)) ∧ _ at hfit
      have hbig : big f = decide (0 < f.w ∧ 0 < f.h) := rfl
      obtain ⟨n, p, d, fx, fy, fw, fh, s⟩ := f
      simp only at hfit hbig k0 k1 k2 k3 k4 k5 k6 k7
      simp only [List.length_cons, List.length_nil, Nat.zero_add, Nat.reduceAdd, List.map_cons, List.map_nil] at hfit
      have hf1 := hfit wr
      have hbA : Below wr.heap.size wr (wr.alloc (.cells #[.int .i64 fx, .int .i64 fy, .int .i64 fw, .int .i64 fh] 3)).drew := ((Below.refl _ _).alloc (Nat.le_refl _) _).drew
      have kb : (ad.add (k * 8)).block < wr.heap.size := by rw [block_of_add]; omega
      have n3 := World.new_ne wr _ k3
      have n4 := World.new_ne wr _ k4
      have n5 := World.new_ne wr _ k5
      have n6 := World.new_ne wr _ k6
      cases hft : fitF ⟨n, p, d, fx, fy, fw, fh, s⟩ with
      | false =>
        rw [hft] at hf1
        have HR := Lib.hid (HF hft)
        clear HT HF hGb hGs hft hfit
        go_wp2_with fail
        go_region_held3 (fun w' => w'.cell? ⟨(ad.add (k * 8)).block, (ad.add (k * 8)).off + 3, none⟩ = some (.int .i64 fx) ∧ w'.cell? ⟨(ad.add (k * 8)).block, (ad.add (k * 8)).off + 4, none⟩ = some (.int .i64 fy) ∧ w'.cell? ⟨(ad.add (k * 8)).block, (ad.add (k * 8)).off + 5, none⟩ = some (.int .i64 fw) ∧ w'.cell? ⟨(ad.add (k * 8)).block, (ad.add (k * 8)).off + 6, none⟩ = some (.int .i64 fh)) (go_keep)
          (first | (go_at_call 42; with_reducible refine hf1.mono ?_; rintro e w5 ⟨rfl, rfl⟩))
        go_wp2_with fail
        refine bodyPost_ret (results_tmp4 rfl _ _ _) rfl ?_
        exact ⟨by rw [HR.out]; rfl, hbr.trans (hbA.mono hbs)⟩
      | true =>
        rw [hft] at hf1
        have HT' := Lib.hid (HT hft)
        clear HT HF hft hfit
        have hbase : w.heap.size ≤ (wr.alloc (.cells #[.int .i64 fx, .int .i64 fy, .int .i64 fw, .int .i64 fh] 3)).drew.heap.size := Nat.le_trans hbs hbA.size
        have hbS : Below w.heap.size w (wr.alloc (.cells #[.int .i64 fx, .int .i64 fy, .int .i64 fw, .int .i64 fh] 3)).drew := hbr.trans (hbA.mono hbs)
        have hownS : OwnsF (wr.alloc (.cells #[.int .i64 fx, .int .i64 fy, .int .i64 fw, .int .i64 fh] 3)).drew w.heap.size u6 (gr fs k) := World.ownsRow.alloc hown _
        obtain ⟨j0, j1, j2, j3, j4, j5, j6, j7⟩ := FragAt.below (f := ⟨n, p, d, fx, fy, fw, fh, s⟩) ⟨k0, k1, k2, k3, k4, k5, k6, k7⟩ hbA kb
        have hgl : (gr fs k).length < 1000000 := by
          have := List.length_filter_le big (fs.take k)
          unfold gr
          simp at this ⊢
          omega
        cases hbg : big ⟨n, p, d, fx, fy, fw, fh, s⟩ with
        | false =>
          have HG := Lib.hid (hGs hbg)
          rw [hbg] at hbig
          have h2 : ¬ 0 < fw ∨ (0 < fw ∧ ¬ 0 < fh) := by
            have := of_decide_eq_false hbig.symm
            omega
          clear hGb hGs hbg hbig
          generalize gr fs k = G at *
          rcases h2 with g1 | ⟨g1, g2⟩
          all_goals
            go_wp2_with fail
            go_region_held3 (fun w' => w'.cell? ⟨(ad.add (k * 8)).block, (ad.add (k * 8)).off + 3, none⟩ = some (.int .i64 fx) ∧ w'.cell? ⟨(ad.add (k * 8)).block, (ad.add (k * 8)).off + 4, none⟩ = some (.int .i64 fy) ∧ w'.cell? ⟨(ad.add (k * 8)).block, (ad.add (k * 8)).off + 5, none⟩ = some (.int .i64 fw) ∧ w'.cell? ⟨(ad.add (k * 8)).block, (ad.add (k * 8)).off + 6, none⟩ = some (.int .i64 fh)) (go_keep)
              (first | (go_at_call 42; with_reducible refine hf1.mono ?_; rintro e w5 ⟨rfl, rfl⟩))
            generalize (wr.alloc (.cells #[.int .i64 fx, .int .i64 fy, .int .i64 fw, .int .i64 fh] 3)).drew = W1 at *
            go_wp2_with fail
            go_roundw
            case rel => exact ⟨k + 1, hlt, by go_num, HT'.out, by rw [HG.out]; exact hownS, hbS⟩
            case measure => simp [intOf] <;> omega
        | true =>
          have HG := Lib.hid (hGb hbg)
          rw [hbg] at hbig
          obtain ⟨g1, g2⟩ := of_decide_eq_true hbig.symm
          clear hGb hGs hbg hbig
          generalize gr fs k = G at *
          go_wp2_with fail
          go_region_held3 (fun w' => w'.cell? ⟨(ad.add (k * 8)).block, (ad.add (k * 8)).off + 3, none⟩ = some (.int .i64 fx) ∧ w'.cell? ⟨(ad.add (k * 8)).block, (ad.add (k * 8)).off + 4, none⟩ = some (.int .i64 fy) ∧ w'.cell? ⟨(ad.add (k * 8)).block, (ad.add (k * 8)).off + 5, none⟩ = some (.int .i64 fw) ∧ w'.cell? ⟨(ad.add (k * 8)).block, (ad.add (k * 8)).off + 6, none⟩ = some (.int .i64 fh)) (go_keep)
            (first | (go_at_call 42; with_reducible refine hf1.mono ?_; rintro e w5 ⟨rfl, rfl⟩))
          clear hf1 k0 k1 k2 k3 k4 k5 k6 k7 n3 n4 n5 n6 hown
          generalize (wr.alloc (.cells #[.int .i64 fx, .int .i64 fy, .int .i64 fw, .int .i64 fh] 3)).drew = W1 at *
          go_wp2_with (at_builtin; refine append_frag _ ⟨n, p, d, fx, fy, fw, fh, s⟩ rfl _ _ rfl w.heap.size u6 _ rfl hownS rfl hgl hbase ?_; intro v3 w3 hown3 hb3)
          go_roundw
          case rel => exact ⟨k + 1, hlt, by go_num, HT'.out, by rw [HG.out]; exact hown3, hbS.trans hb3⟩
          case measure => simp [intOf] <;> omega
    · obtain rfl : k = fs.length := by omega
      have hall : fs.all fitF = true := by have := HA.out; rwa [List.take_of_length_le (Nat.le_refl _)] at this
      have hGF := gr_fit HA.out
      obtain ⟨⟨bx1, bx2⟩, ⟨by1, by2⟩, _, _⟩ := gr_bd HA.out
      have HR := Lib.hid (show fillR fs = (mn Fr.x (gr fs fs.length), mn Fr.y (gr fs fs.length), mx rt (gr fs fs.length) - mn Fr.x (gr fs fs.length), mx bt (gr fs fs.length) - mn Fr.y (gr fs fs.length)) from if_pos hall)
      have hbig : ∀ f ∈ gr fs fs.length, 0 < f.w ∧ 0 < f.h := fun f hf => of_decide_eq_true (List.mem_filter.1 hf).2
      have hgl : (gr fs fs.length).length ≤ 2100 := by
        have := List.length_filter_le big (fs.take fs.length)
        unfold gr
        simp at this ⊢
        omega
      clear hall HA hf
      generalize gr fs fs.length = G at *
      rcases Nat.eq_zero_or_pos G.length with h0 | h0
      · obtain rfl := List.eq_nil_of_length_eq_zero h0
        obtain ⟨A6, c6, rfl⟩ : ∃ A6 c6, u6 = .slice A6 0 c6 := by
          rcases hown.2 with ⟨e, _⟩ | ⟨g, cap, cur, e, _⟩
          · exact ⟨_, _, e⟩
          · exact ⟨_, _, e⟩
        go_wp2_with fail
        refine bodyPost_ret (results_tmp4 rfl _ _ _) rfl ?_
        exact ⟨by rw [HR.out]; rfl, hbr⟩
      · obtain ⟨g, cap, rfl, hg, hgh, hcs⟩ := hown.open_ h0
        have hne : ((G.length : Int) == 0) = false := beq_eq_false_iff_ne.2 (by omega)
        have h0i : (0 : Int) < (G.length : Int) := by omega
        have z3 : wr.cell? ⟨g, 3, none⟩ = some (.int .i64 (G[0]).x) := by have := hcs 0 h0 3 (by omega); simpa [encF] using this
        have z4 : wr.cell? ⟨g, 4, none⟩ = some (.int .i64 (G[0]).y) := by have := hcs 0 h0 4 (by omega); simpa [encF] using this
        have HCS := Lib.hid hcs
        have HX0 := Lib.hid (show (G[0]).x = mn Fr.x (G.take (max 0 1)) from by cases G with
          | nil => simp at h0
          | cons a G => rfl)
        have HY0 := Lib.hid (show (G[0]).y = mn Fr.y (G.take (max 0 1)) from by cases G with
          | nil => simp at h0
          | cons a G => rfl)
        have HGF := Lib.hid hGF
        have HBG := Lib.hid hbig
        clear hcs hown hGF hbig
        generalize (G[0]).x = x0 at *
        generalize (G[0]).y = y0 at *
        go_wp2_with fail
        go_quiet (fail)
        go_wp2_with fail
        go_loopw [8, 9, 10] (RfB G wr) (fun _ _ i _ => G.length - (intOf i).toNat)
        case atStart => exact ⟨0, by omega, rfl, by rw [HX0.out], by rw [HY0.out], _, rfl⟩
        case round =>
          obtain ⟨k, hk, rfl, rfl, rfl, mo, rfl⟩ := hrel
          by_cases hlt : k < G.length
          · have k3 : wr.cell? ⟨g, k * 8 + 3, none⟩ = some (.int .i64 (G[k]).x) := by have := HCS.out k hlt 3 (by omega); simpa [encF] using this
            have k4 : wr.cell? ⟨g, k * 8 + 4, none⟩ = some (.int .i64 (G[k]).y) := by have := HCS.out k hlt 4 (by omega); simpa [encF] using this
            have HX := Lib.hid (mn_step (sel := Fr.x) hlt)
            have HY := Lib.hid (mn_step (sel := Fr.y) hlt)
            generalize mn Fr.x (G.take (max k 1)) = xx at *
            generalize mn Fr.y (G.take (max k 1)) = yy at *
            generalize (G[k]).x = fx at *
            generalize (G[k]).y = fy at *
            have h4 : (fx < xx ∧ fy < yy) ∨ (fx < xx ∧ ¬ fy < yy) ∨ (¬ fx < xx ∧ fy < yy) ∨ (¬ fx < xx ∧ ¬ fy < yy) := by omega
            rcases h4 with ⟨g1, g2⟩ | ⟨g1, g2⟩ | ⟨g1, g2⟩ | ⟨g1, g2⟩
            all_goals
              have HX' := Lib.hid HX.out
              have HY' := Lib.hid HY.out
              first | rw [if_pos g1] at HX' | rw [if_neg g1] at HX'
              first | rw [if_pos g2] at HY' | rw [if_neg g2] at HY'
              go_wp2_with fail
              go_roundw
              case rel => exact ⟨k + 1, hlt, by go_num, by rw [HX'.out], by rw [HY'.out], _, rfl⟩
              case measure => simp [intOf] <;> omega
          · obtain rfl : k = G.length := by omega
            have em : max G.length 1 = G.length := by omega
            rw [em, List.take_of_length_le (Nat.le_refl _)]
            have hsx : ∀ f ∈ G, mn Fr.x G ≤ rt f := fun f hf => by
              have h1 := mn_le (sel := Fr.x) hf
              have h2 := (HBG.out f hf).1
              show _ ≤ f.x + f.w
              omega
            have hsy : ∀ f ∈ G, mn Fr.y G ≤ bt f := fun f hf => by
              have h1 := mn_le (sel := Fr.y) hf
              have h2 := (HBG.out f hf).2
              show _ ≤ f.y + f.h
              omega
            have HWX := Lib.hid (wz_eq hsx)
            have HWY := Lib.hid (wz_eq hsy)
            rw [if_neg (by intro e; rw [e] at h0; simp at h0)] at HWX HWY
            have hbx : ∀ f ∈ G, rt f - mn Fr.x G ≤ 4398046511104 := fun f hf => by
              have := fitF_bd (HGF.out f hf)
              show f.x + f.w - _ ≤ _
              omega
            have hby : ∀ f ∈ G, bt f - mn Fr.y G ≤ 4398046511104 := fun f hf => by
              have := fitF_bd (HGF.out f hf)
              show f.y + f.h - _ ≤ _
              omega
            have HBX := Lib.hid (fun k => wz_bd (by omega) (L := G.take k) fun f hf => hbx f (List.mem_of_mem_take hf))
            have HBY := Lib.hid (fun k => wz_bd (by omega) (L := G.take k) fun f hf => hby f (List.mem_of_mem_take hf))
            have HSX := Lib.hid (fun k (hk : k < G.length) => wz_step (x := mn Fr.x G) (sel := rt) hk)
            have HSY := Lib.hid (fun k (hk : k < G.length) => wz_step (x := mn Fr.y G) (sel := bt) hk)
            clear hsx hsy hbx hby em z3 z4
            generalize hxx : mn Fr.x G = xx at *
            generalize hyy : mn Fr.y G = yy at *
            have HXX := Lib.hid hxx
            have HYY := Lib.hid hyy
            clear hxx hyy
            go_wp2_with fail
            go_loopw [11, 12, 13] (RfC G xx yy wr) (fun _ _ i _ => G.length - (intOf i).toNat)
            case atStart => exact ⟨0, by omega, rfl, rfl, rfl, _, rfl⟩
            case round =>
              obtain ⟨k, hk, rfl, rfl, rfl, mo2, rfl⟩ := hrel
              by_cases hlt : k < G.length
              · have k3 : wr.cell? ⟨g, k * 8 + 3, none⟩ = some (.int .i64 (G[k]).x) := by have := HCS.out k hlt 3 (by omega); simpa [encF] using this
                have k4 : wr.cell? ⟨g, k * 8 + 4, none⟩ = some (.int .i64 (G[k]).y) := by have := HCS.out k hlt 4 (by omega); simpa [encF] using this
                have k5 : wr.cell? ⟨g, k * 8 + 5, none⟩ = some (.int .i64 (G[k]).w) := by have := HCS.out k hlt 5 (by omega); simpa [encF] using this
                have k6 : wr.cell? ⟨g, k * 8 + 6, none⟩ = some (.int .i64 (G[k]).h) := by have := HCS.out k hlt 6 (by omega); simpa [encF] using this
                have HX := Lib.hid (HSX.out k hlt)
                have HY := Lib.hid (HSY.out k hlt)
                obtain ⟨w1, w2⟩ := HBX.out k
                obtain ⟨w3, w4⟩ := HBY.out k
                obtain ⟨⟨f1, f2⟩, ⟨f3, f4⟩, ⟨f5, f6⟩, ⟨f7, f8⟩⟩ := fitF_bd (HGF.out _ (List.getElem_mem hlt))
                have er : rt G[k] = (G[k]).x + (G[k]).w := rfl
                have eb : bt G[k] = (G[k]).y + (G[k]).h := rfl
                generalize wz xx rt (G.take k) = wk at *
                generalize wz yy bt (G.take k) = hk2 at *
                generalize rt G[k] = r at *
                generalize bt G[k] = b at *
                generalize (G[k]).x = fx at *
                generalize (G[k]).y = fy at *
                generalize (G[k]).w = fw at *
                generalize (G[k]).h = fh at *
                obtain ⟨a1, ha1⟩ : ∃ a1, r - xx = a1 := ⟨_, rfl⟩
                obtain ⟨a2, ha2⟩ : ∃ a2, b - yy = a2 := ⟨_, rfl⟩
                rw [ha1] at HX
                rw [ha2] at HY
                have hw1 : IntKind.i64.wrap (fx + fw) = r := by rw [IntKind.wrap_i64]; omega
                have hw2 : IntKind.i64.wrap (fy + fh) = b := by rw [IntKind.wrap_i64]; omega
                have hw3 : IntKind.i64.wrap (r - xx) = a1 := by rw [ha1, IntKind.wrap_i64]; omega
                have hw4 : IntKind.i64.wrap (b - yy) = a2 := by rw [ha2, IntKind.wrap_i64]; omega
                clear er eb ha1 ha2
                by_cases g1 : wk < a1
                · by_cases g2 : hk2 < a2
                  · have HX' := Lib.hid HX.out
                    have HY' := Lib.hid HY.out
                    rw [if_pos g1] at HX'
                    rw [if_pos g2] at HY'
                    go_wp2_with fail
                    go_quiet (fail)
                    go_wp2_with fail
                    go_quiet (fail)
                    go_wp2_with fail
                    go_quiet (fail)
                    go_wp2_with fail
                    go_quiet (fail)
                    go_wp2_with fail
                    go_roundw
                    case rel => exact ⟨k + 1, hlt, by go_num, by rw [HX'.out], by rw [HY'.out], _, rfl⟩
                    case measure => simp [intOf] <;> omega
                  · have HX' := Lib.hid HX.out
                    have HY' := Lib.hid HY.out
                    rw [if_pos g1] at HX'
                    rw [if_neg g2] at HY'
                    go_wp2_with fail
                    go_quiet (fail)
                    go_wp2_with fail
                    go_quiet (fail)
                    go_wp2_with fail
                    go_quiet (fail)
                    go_wp2_with fail
                    go_roundw
                    case rel => exact ⟨k + 1, hlt, by go_num, by rw [HX'.out], by rw [HY'.out], _, rfl⟩
                    case measure => simp [intOf] <;> omega
                · by_cases g2 : hk2 < a2
                  · have HX' := Lib.hid HX.out
                    have HY' := Lib.hid HY.out
                    rw [if_neg g1] at HX'
                    rw [if_pos g2] at HY'
                    go_wp2_with fail
                    go_quiet (fail)
                    go_wp2_with fail
                    go_quiet (fail)
                    go_wp2_with fail
                    go_quiet (fail)
                    go_wp2_with fail
                    go_roundw
                    case rel => exact ⟨k + 1, hlt, by go_num, by rw [HX'.out], by rw [HY'.out], _, rfl⟩
                    case measure => simp [intOf] <;> omega
                  · have HX' := Lib.hid HX.out
                    have HY' := Lib.hid HY.out
                    rw [if_neg g1] at HX'
                    rw [if_neg g2] at HY'
                    go_wp2_with fail
                    go_quiet (fail)
                    go_wp2_with fail
                    go_quiet (fail)
                    go_wp2_with fail
                    go_roundw
                    case rel => exact ⟨k + 1, hlt, by go_num, by rw [HX'.out], by rw [HY'.out], _, rfl⟩
                    case measure => simp [intOf] <;> omega
              · obtain rfl : k = G.length := by omega
                rw [List.take_of_length_le (Nat.le_refl _)]
                go_wp2_with fail
                refine bodyPost_ret (results_tmp4 rfl _ _ _) rfl ?_
                exact ⟨by rw [HR.out, HWX.out, HWY.out]; rfl, below_drewN hbr mo2⟩

end Go.Proofs.Ytpelapdadgmlkaa
