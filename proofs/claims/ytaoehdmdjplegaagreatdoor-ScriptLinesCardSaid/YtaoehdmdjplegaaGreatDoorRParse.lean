/-
  Walks: windowpaneref32.Print: what it answers.
-/
import Derived.Test.YtaoehdmdjplegaaGreatDoorRLine
import Derived.Test.YtaoehdmdjplegaaGreatDoorREvent
namespace Go.Proofs.YtaoehdmdjplegaaGreatDoor
open Go.RowKit Go.Shelf

theorem onlyR_ok {e : Ev} (h : e.Ok) : (onlyR e).Ok := by
  have z := ev0_ok
  unfold onlyR
  (repeat' split) <;> exact ⟨by first | exact h.kind | (dsimp only; omega), by first | exact h.client | exact z.client, by first | exact h.n | exact z.n, by first | exact h.ck | (dsimp only [ev0]; omega), by first | exact h.key | exact z.key, by first | exact h.parent | exact z.parent, by first | exact h.at_ | exact z.at_, z.nkey, z.ndepth, by first | exact h.nkind | (dsimp only [ev0]; omega), by first | exact h.sty | exact z.sty⟩
theorem onlyR_text (e : Ev) : (onlyR e).text.length ≤ e.text.length := by
  unfold onlyR
  (repeat' split) <;> first | exact Nat.le_refl _ | exact Nat.zero_le _
theorem Byts.up {w : World} {B B' : Nat} {v : Value} {l : List UInt8} (h : Byts w B v l) (hB : B ≤ B') : Byts w B' v l := by
  obtain ⟨A, c, h1, h2, h3, h4⟩ := h
  refine ⟨A, c, h1, h2, h3, fun hn => ?_⟩
  obtain ⟨ad, e1, e2, e3⟩ := h4 hn
  exact ⟨ad, e1, by omega, e3⟩
def PrintPost (e : Ev) (w : World) (en : Ending) (w' : World) : Prop := en = .returned (.tuple #[.string (mkB (printS e).1), .int .i64 (printS e).2]) ∧ Below w.heap.size w w'
def prObjs (e : Ev) (va : Value) : List Obj := [.cells (evC e va).toArray 34]

set_option maxRecDepth 100000 in
set_option maxHeartbeats 8000000 in
theorem rprint_any (e : Ev) (he : e.Ok) (htx : e.text.length ≤ 4100) (hbl : e.bytes.length ≤ 3000) (va : Value) (w : World) (hyb : Byts w w.heap.size va e.bytes) :
    Calls Tryz.prog 8 #[.agg (evC e va).toArray] w (PrintPost e w) := by
  have hva := hyb.one
  obtain ⟨W, hW⟩ : ∃ W, W = w.alloc (.cells (evC e va).toArray 34) := ⟨_, rfl⟩
  have hbel : Below w.heap.size w W := by rw [hW]; exact below_one _ _
  have g1 : Blk W w.heap.size 34 (evC e va).toArray := by rw [hW]; exact allocs_blk (prObjs e va) w 0 _ _ rfl
  have hsz : w.heap.size + 1 = W.heap.size := by rw [hW]; simp
  have hyW : Byts W W.heap.size va e.bytes := by
    obtain ⟨A, c, h1, h2, h3, h4⟩ := hyb.below hbel
    refine ⟨A, c, h1, h2, h3, fun hn => ?_⟩
    obtain ⟨ad, e1, e2, e3⟩ := h4 hn
    exact ⟨ad, e1, by omega, e3⟩
  have HP := Lib.hid (printS_line e)
  have HY := Lib.hid hyW
  clear hyW hyb
  go_enter Tryz.func8, Tryz.ntmps8
  go_upto_region 1 with fail
  rw [← hW]
  clear hW
  go_wp2_with (refine wpList_load_blk rfl 34 _ rfl w.heap.size 0 34 (evC e va) (evC e va) _ rfl g1 (evC_self e va) Tryz.underlying34 rfl evC_size ?_)
  refine (line_any e he htx hbl va _ HY.out).mono ?_
  rintro e5 w5 ⟨x, bv, rfl, hx, hxl, hb5, hbv⟩
  obtain ⟨b, hb⟩ : ∃ b, b = isR e := ⟨_, rfl⟩
  obtain ⟨o, ho⟩ : ∃ o, o = onlyR e := ⟨_, rfl⟩
  have hok : o.Ok := ho ▸ onlyR_ok he
  have hot : o.text.length ≤ 100000 := by have := onlyR_text e; rw [← ho] at this; omega
  rw [← hb] at hx HP ⊢
  rw [← ho] at HP hbv ⊢
  clear hb ho
  have hbo : bv.oneCell' = true := by
    rcases hbv with ⟨h, _⟩ | ⟨h, _⟩
    · rw [h]; rfl
    · rw [h]; exact hva
  have hya5 : Byts w5 w5.heap.size va e.bytes := (HY.out.below hb5).up hb5.size
  have hyb5 : Byts w5 w5.heap.size bv o.bytes := by
    rcases hbv with ⟨h1, h2⟩ | ⟨h1, h2⟩
    · rw [h1, h2]; exact Byts.nil_ _ _
    · rw [h1, h2]; exact hya5
  have G1 : Blk w5 w.heap.size 34 (evC e va).toArray := g1.below hb5 g1.lt
  have hbw5 : Below w.heap.size w w5 := hbel.trans (hb5.mono hbel.size)
  have hlo : w.heap.size ≤ w5.heap.size := hbw5.size
  have HX := Lib.hid hx
  have HY5 := Lib.hid hya5
  have HZ5 := Lib.hid hyb5
  clear hx hbv g1 hb5 hya5 hyb5 hbel HY
  go_upto_region 2 with (refine wpList_store_blk rfl 34 _ _ rfl w5.heap.size 0 34 (evC ev0 (.slice none 0 0)) (evC o bv) rfl (allocs_blk [.cells (evC ev0 (.slice none 0 0)).toArray 34] w5 0 _ _ rfl) rfl (by rw [evC_len, evC_len]; exact Nat.le_refl _) evC_size (evC_cells _ hbo) ?_; intro w6 b6 k6 z6; rw [setL_all (by rw [evC_len, evC_len])] at b6; have hb6 : Below w5.heap.size w5 w6 := (below_one _ _).trans (Kept.to_below k6 (by simp) (by simp)); clear k6 z6; simp only [Act.put])
  have hbw6 : Below w.heap.size w w6 := hbw5.trans (hb6.mono hlo)
  have G1 := G1.below hb6 G1.lt
  cases b with
  | false =>
    have HQ := Lib.hid (show printS e = ([], 2) by rw [HP.out, if_neg (fun h => by cases h.1)])
    go_wp2_with fail
    go_ret2
    exact ⟨by rw [HQ.out]; rfl, hbw6⟩
  | true =>
    have hx := HX.out rfl
    have hya6 := (HY5.out.below hb6).up hb6.size
    have hyb6 := (HZ5.out.below hb6).up hb6.size
    have HA := Lib.hid hya6
    have HB := Lib.hid hyb6
    have HXX := Lib.hid hx
    clear hya6 hyb6 hx HX HY5 HZ5
    go_wp2_with (first | (refine wpList_load_blk_w (by rfl) 34 _ rfl w.heap.size 0 34 (evC e va) (evC e va) _ rfl G1 (evC_self e va) Tryz.underlying34 rfl evC_size ?_) | (refine wpList_load_blk_w (by rfl) 34 _ rfl w5.heap.size 0 34 (evC o bv) (evC o bv) _ rfl b6 (evC_self o bv) Tryz.underlying34 rfl evC_size ?_))
    refine (rsame_any e o he hok (by omega) hot va bv _ HA.out HB.out (by omega)).mono ?_
    rintro e8 w8 ⟨rfl, hb8⟩
    have hbw8 : Below w.heap.size w w8 := hbw6.trans (hb8.mono hbw6.size)
    by_cases heo : e = o
    · have hdec : decide (e = o) = true := by simpa using heo
      rw [hdec]
      have hxs := mkB_size x
      by_cases hl : x.length ≤ 4096
      · have HQ := Lib.hid (show printS e = (x, 0) by rw [HP.out, if_pos ⟨by first | rfl | trivial, heo.symm, by rw [← HXX.out]; exact hl⟩, ← HXX.out])
        have z1 : ¬ (4096 : Int) < (((mkB x).size : Nat) : Int) := by omega
        clear hdec heo hxs
        go_wp2_with fail
        go_ret2
        exact ⟨by rw [HQ.out]; rfl, hbw8⟩
      · have HQ := Lib.hid (show printS e = ([], 2) by rw [HP.out, if_neg (fun h => hl (by have := h.2.2; rw [← HXX.out] at this; exact this))])
        have z1 : (4096 : Int) < (((mkB x).size : Nat) : Int) := by omega
        clear hdec heo hxs
        go_wp2_with fail
        go_ret2
        exact ⟨by rw [HQ.out]; rfl, hbw8⟩
    · have hdec : decide (e = o) = false := by simpa using heo
      rw [hdec]
      have HQ := Lib.hid (show printS e = ([], 2) by rw [HP.out, if_neg (fun h => heo h.2.1.symm)])
      clear hdec heo
      go_wp2_with fail
      go_ret2
      exact ⟨by rw [HQ.out]; rfl, hbw8⟩

end Go.Proofs.YtaoehdmdjplegaaGreatDoor
namespace Go.Proofs.YtaoehdmdjplegaaGreatDoor
open Go.RowKit Go.Shelf

theorem results_ct {P : Program} {fn : Func} {p b : Tmp} {ty : TypeId} (h : fn.results = #[.cell p ty, .tmp b]) (tmps : Array Value) (w : World) (g : Nat) (t : TypeId) (cs : Array Value) (fr : Nat × Nat) (d : TypeDesc)
    (hp : tmps.getD p undef = .pointer (some ⟨g, 0, none⟩)) (hg : w.heap[g]? = some (.cells cs t fr))
    (hu : P.underlying ty = some d) (hd : (match d with | .struct _ | .array _ _ => true | _ => false) = true) (hi : (P.info? ty).map (·.size) = some cs.size) :
    (results fn tmps).run P w = .ok (.tuple #[.agg cs, tmps.getD b undef]) w := by
  have hp' : tmps[p]?.getD undef = .pointer (some ⟨g, 0, none⟩) := by simpa using hp
  simp [results, h, hp', asAddr, run_loadVar_row w g t ty cs fr d hg hu hd hi]
theorem textGo_len : ∀ (n : Nat) (l : List UInt8), l.length ≤ n → (textGo l).length ≤ l.length
  | _, [], _ => by simp [textGo]
  | 0, c :: l, h => by simp at h
  | n + 1, c :: l, h => by
    have ih := textGo_len n
    simp only [List.length_cons] at h
    rw [textGo.eq_def]
    dsimp only
    split
    · split
      · simp
      · rename_i d r'
        simp only [List.length_cons] at h ⊢
        split
        · have := ih r' (by omega)
          simp only [List.length_cons]; omega
        · split
          · split
            · rename_i a b r''
              simp only [List.length_cons] at h ⊢
              split
              · have := ih r'' (by omega)
                simp only [List.length_cons]; omega
              · have := ih (a :: b :: r'') (by simp only [List.length_cons]; omega)
                simp only [List.length_cons] at this ⊢; omega
            · have := ih r' (by omega)
              simp only [List.length_cons]; omega
          · have := ih r' (by omega)
            simp only [List.length_cons]; omega
    · have := ih l (by omega)
      simp only [List.length_cons]; omega
theorem textR_len (l : List UInt8) : (textR l).1.length ≤ l.length := by
  unfold textR
  split
  · have := textGo_len _ l.tail.dropLast (Nat.le_refl _)
    simp at this ⊢
    omega
  · simp
theorem pairs_len : ∀ (l x : List UInt8), pairs l = some x → 2 * x.length ≤ l.length
  | [], x, h => by
    injection h with h
    subst h; simp
  | [_], _, h => by cases h
  | a :: b :: r, x, h => by
    rw [pairs] at h
    split at h
    · obtain ⟨y, hy, rfl⟩ := Option.map_eq_some_iff.1 h
      have := pairs_len r y hy
      simp; omega
    · cases h
theorem bytesR_len {l x : List UInt8} (h : bytesR l = some x) : 2 * x.length ≤ l.length := by
  unfold bytesR at h
  split at h
  · injection h with h
    subst h; simp
  · exact pairs_len l x h
theorem restC_le (l : List UInt8) : (restC l).length ≤ l.length := by
  cases l with
  | nil => simp [restC]
  | cons c l => exact Nat.le_of_lt (restC_lt (by simp))
theorem numR_le {r r' : List UInt8} {n : Int} (h : numR r = some (n, r')) : r'.length ≤ r.length := by
  unfold numR at h
  split at h
  · cases h
  · injection h with h
    injection h with _ h
    rw [← h]; exact restC_le r
theorem numsR_le : ∀ (k : Nat) {r r' : List UInt8} {l : List Int}, numsR k r = some (l, r') → r'.length ≤ r.length
  | 0, r, r', l, h => by
    injection h with h
    injection h with _ h
    rw [h]; exact Nat.le_refl _
  | k + 1, r, r', l, h => by
    rw [numsR] at h
    split at h
    · cases h
    · rename_i n q hn
      cases hq : numsR k q with
      | none => rw [hq] at h; cases h
      | some x =>
        rw [hq] at h
        injection h with h
        injection h with _ h
        subst h
        exact Nat.le_trans (numsR_le k (l := x.1) (r' := x.2) hq) (numR_le hn)
theorem textO_len {r t : List UInt8} (h : textO r = some t) : t.length ≤ r.length := by
  unfold textO at h
  split at h
  · cases h
  · injection h with h
    rw [← h]; exact textR_len r
theorem setF_small (k c : Nat) (l : List Int) : (setF k c l).text = [] ∧ (setF k c l).bytes = [] := by
  unfold setF
  (repeat' split) <;> exact ⟨rfl, rfl⟩
/-- What is read is no longer than the line. -/
theorem eventR_len {line : List UInt8} {e : Ev} (h : eventR line = some e) : e.text.length ≤ line.length ∧ 2 * e.bytes.length ≤ line.length := by
  have h0 := restC_le line
  unfold eventR eventG at h
  split at h
  · split at h
    · rename_i p a r hn
      have h1 := numsR_le _ hn
      have h2 := restC_le r
      split at h
      · obtain ⟨s, hs, rfl⟩ := Option.map_eq_some_iff.1 h
        exact ⟨by simp [ev0], by simp [ev0]⟩
      · split at h
        · obtain ⟨s, hs, rfl⟩ := Option.map_eq_some_iff.1 h
          exact ⟨by have := textO_len hs; show s.length ≤ _; omega, by simp [ev0]⟩
        · cases h
    · cases h
  · split at h
    · split at h
      · obtain ⟨s, hs, rfl⟩ := Option.map_eq_some_iff.1 h
        exact ⟨by simp [ev0], by simp [ev0]⟩
      · cases h
    · split at h
      · split at h
        · rename_i k r hk
          have h1 := numR_le hk
          obtain ⟨s, hs, rfl⟩ := Option.map_eq_some_iff.1 h
          exact ⟨by have := textO_len hs; show s.length ≤ _; omega, by simp [ev0]⟩
        · cases h
      · split at h
        · split at h
          · rename_i k r hk
            have h1 := numR_le hk
            obtain ⟨s, hs, rfl⟩ := Option.map_eq_some_iff.1 h
            exact ⟨by simp [ev0], by have := bytesR_len hs; show 2 * s.length ≤ _; omega⟩
          · cases h
        · split at h
          · cases h
          · rename_i t ht
            obtain ⟨x, hs, rfl⟩ := Option.map_eq_some_iff.1 h
            obtain ⟨e1, e2⟩ := setF_small t.2.1 t.2.2.1 x.1
            rw [e1, e2]
            simp

def ParsePost (o : Ev × Int) (w : World) (en : Ending) (w' : World) : Prop :=
  ∃ bv, en = .returned (.tuple #[.agg (evC o.1 bv).toArray, .int .i64 o.2]) ∧ OwnsY w' w.heap.size bv o.1.bytes ∧ Below w.heap.size w w'
theorem EvRel.bad {o : Option Ev} {ev : Ev} (h : EvRel o true ev) : o = none := by
  cases o with
  | none => rfl
  | some x => cases h.1
theorem EvRel.good {o : Option Ev} {ev : Ev} (h : EvRel o false ev) : o = some ev := by
  cases o with
  | none => cases h
  | some x => rw [h.2]
theorem parseR_none {line : List UInt8} (h : 4096 < line.length ∨ eventR line = none) : parseR line = (ev0, 320) := by
  unfold parseR
  by_cases hl : 4096 < line.length
  · rw [if_pos hl]
  · rw [if_neg hl, h.resolve_left hl]
theorem parseR_some {line : List UInt8} {e : Ev} (hl : ¬ 4096 < line.length) (h : eventR line = some e) : parseR line = if printS e = (line, 0) then (e, 0) else (ev0, 320) := by
  unfold parseR
  rw [if_neg hl, h]

set_option maxRecDepth 100000 in
set_option maxHeartbeats 8000000 in
theorem rparse_any (l : ByteArray) (hl : l.size ≤ 5000) (w : World) :
    Calls Tryz.prog 6 #[.string l] w (ParsePost (parseR l.data.toList) w) := by
  have hlen := size_len l
  have hbel : Below w.heap.size w (w.alloc (.cells (evC ev0 (.slice none 0 0)).toArray 34)) := below_one _ _
  have g1 : Blk (w.alloc (.cells (evC ev0 (.slice none 0 0)).toArray 34)) w.heap.size 34 (evC ev0 (.slice none 0 0)).toArray := Blk.new w _ _
  have hsz : (w.alloc (.cells (evC ev0 (.slice none 0 0)).toArray 34)).heap.size = w.heap.size + 1 := by simp
  by_cases h4 : 4096 < l.size
  · have HP := Lib.hid (parseR_none (line := l.data.toList) (Or.inl (by omega)))
    have z1 : (4096 : Int) < ((l.size : Nat) : Int) := by omega
    clear hlen
    go_enter Tryz.func6, Tryz.ntmps6
    go_upto_region 1 with fail
    go_wp2_with (refine wpList_store_blk rfl 34 _ _ rfl w.heap.size 0 34 (evC ev0 (.slice none 0 0)) (evC ev0 (.slice none 0 0)) rfl g1 rfl (by rw [evC_len]; exact Nat.le_refl _) evC_size (evC_cells _ rfl) ?_; intro w9 b9 k9 z9; rw [setL_all (by rw [evC_len])] at b9; simp only [Act.put])
    refine bodyPost_ret (results_ct rfl _ _ w.heap.size 34 (evC ev0 (.slice none 0 0)).toArray (0, 0) _ rfl b9 Tryz.underlying34 rfl evC_size) rfl ?_
    exact ⟨.slice none 0 0, by rw [HP.out]; rfl, by rw [HP.out]; exact OwnsY.nil _ _, hbel.trans (k9.to_below hbel.size (by simp))⟩
  · have z1 : ¬ (4096 : Int) < ((l.size : Nat) : Int) := by omega
    have hl4 : ¬ 4096 < l.data.toList.length := by omega
    have HL := Lib.hid hl4
    have HLEN := Lib.hid hlen
    clear hlen hl4
    go_enter Tryz.func6, Tryz.ntmps6
    go_upto_region 1 with fail
    have hr : Rdr 53 ((w.alloc (.cells (evC ev0 (.slice none 0 0)).toArray 34)).alloc (.cells #[.string l, .int .i64 ((0 : Nat) : Int), .bool false] 53)) (w.heap.size + 1) l 0 false := by
      have h := Blk.new (w.alloc (.cells (evC ev0 (.slice none 0 0)).toArray 34)) 53 #[.string l, .int .i64 ((0 : Nat) : Int), .bool false]
      rw [hsz] at h
      exact h
    have hb2 := below_one (w.alloc (.cells (evC ev0 (.slice none 0 0)).toArray 34)) (.cells #[.string l, .int .i64 ((0 : Nat) : Int), .bool false] 53)
    go_wp2_with fail
    refine (revent_any 53 (w.heap.size + 1) l hl _ hr).mono ?_
    rintro e w3 ⟨ev, bv, k, bd, rfl, hk, hrd, hby, hrel⟩
    have hbo := hby.byts.one
    have hnb : w.heap.size < ((w.alloc (.cells (evC ev0 (.slice none 0 0)).toArray 34)).alloc (.cells #[.string l, .int .i64 ((0 : Nat) : Int), .bool false] 53)).heap.size := by simp; omega
    have hW3 : Below (w.alloc (.cells (evC ev0 (.slice none 0 0)).toArray 34)).heap.size (w.alloc (.cells (evC ev0 (.slice none 0 0)).toArray 34)) w3 := hb2.trans (hk.to_below (by simp) (by simp))
    have hbel := hbel.trans (hW3.mono hbel.size)
    have g1 := g1.below hW3 g1.lt
    clear hb2 hk hr hW3
    go_upto_region 5 with (refine wpList_store_blk rfl 34 _ _ rfl w3.heap.size 0 34 (evC ev0 (.slice none 0 0)) (evC ev bv) rfl (allocs_blk [.cells (evC ev0 (.slice none 0 0)).toArray 34] w3 0 _ _ rfl) rfl (by rw [evC_len, evC_len]; exact Nat.le_refl _) evC_size (evC_cells _ hbo) ?_; intro w6 b6 k6 z6; rw [setL_all (by rw [evC_len, evC_len])] at b6; have hb6 : Below w3.heap.size w3 w6 := (below_one _ _).trans (Kept.to_below k6 (by simp) (by simp)); clear k6 z6; simp only [Act.put])
    have hbel := hbel.trans (hb6.mono hbel.size)
    have g1 := g1.below hb6 g1.lt
    have hrd := Blk.below hrd hb6 hrd.lt
    have hby6 := hby.below hb6
    have c2 : w6.cell? ⟨w.heap.size + 1, 2, none⟩ = some (.bool bd) := hrd.cell 2
    have HBY := Lib.hid hby6
    clear hby hby6 hb6
    cases bd with
    | true =>
      have HP := Lib.hid (parseR_none (line := l.data.toList) (Or.inr hrel.bad))
      clear hrel
      go_wp2_with (refine wpList_store_blk rfl 34 _ _ rfl w.heap.size 0 34 (evC ev0 (.slice none 0 0)) (evC ev0 (.slice none 0 0)) rfl g1 rfl (by rw [evC_len]; exact Nat.le_refl _) evC_size (evC_cells _ rfl) ?_; intro w9 b9 k9 z9; rw [setL_all (by rw [evC_len])] at b9; simp only [Act.put])
      refine bodyPost_ret (results_ct rfl _ _ w.heap.size 34 (evC ev0 (.slice none 0 0)).toArray (0, 0) _ rfl b9 Tryz.underlying34 rfl evC_size) rfl ?_
      exact ⟨.slice none 0 0, by rw [HP.out]; rfl, by rw [HP.out]; exact OwnsY.nil _ _, hbel.trans (k9.to_below hbel.size (by simp))⟩
    | false =>
      have hev := hrel.good
      have hok := eventR_ok hev
      obtain ⟨ht1, ht2⟩ := eventR_len hev
      have hll := HL.out
      have HP := Lib.hid (parseR_some HL.out hev)
      have htx : ev.text.length ≤ 4100 := by omega
      have hbl : ev.bytes.length ≤ 3000 := by omega
      clear hrel hev ht1 ht2 hll
      go_wp2_with (refine wpList_load_blk rfl 34 _ rfl w3.heap.size 0 34 (evC ev bv) (evC ev bv) _ rfl b6 (evC_self ev bv) Tryz.underlying34 rfl evC_size ?_)
      refine (rprint_any ev hok htx hbl bv _ HBY.out.byts).mono ?_
      rintro e w8 ⟨rfl, hb8⟩
      have hbel := hbel.trans (hb8.mono hbel.size)
      have g1 := g1.below hb8 g1.lt
      have b6 := b6.below hb8 b6.lt
      have hby8 := HBY.out.below hb8
      have HB8 := Lib.hid hby8
      clear hby8 HBY hb8 c2
      obtain ⟨x, f, hpx⟩ : ∃ x f, printS ev = (x, f) := ⟨_, _, rfl⟩
      rw [hpx] at HP ⊢
      clear hpx
      by_cases hf : f = 0
      · subst hf
        by_cases hx : x = l.data.toList
        · have e1 : ((mkB x).toList == l.toList) = true := by rw [Lib.toList_data, Lib.toList_data, mkB_toList, hx]; simp
          have HQ := Lib.hid (show parseR l.data.toList = (ev, 0) by rw [HP.out, if_pos (by rw [hx])])
          clear hx HP
          go_wp2_with (first | (refine wpList_load_blk rfl 34 _ rfl w3.heap.size 0 34 (evC ev bv) (evC ev bv) _ rfl b6 (evC_self ev bv) Tryz.underlying34 rfl evC_size ?_) | (refine wpList_store_blk rfl 34 _ _ rfl w.heap.size 0 34 (evC ev0 (.slice none 0 0)) (evC ev bv) rfl g1 rfl (by rw [evC_len, evC_len]; exact Nat.le_refl _) evC_size (evC_cells _ hbo) ?_; intro w9 b9 k9 z9; rw [setL_all (by rw [evC_len, evC_len])] at b9; simp only [Act.put]))
          refine bodyPost_ret (results_ct rfl _ _ w.heap.size 34 (evC ev bv).toArray (0, 0) _ rfl b9 Tryz.underlying34 rfl evC_size) rfl ?_
          refine ⟨bv, by rw [HQ.out]; rfl, ?_, hbel.trans (k9.to_below hbel.size (by simp))⟩
          rw [HQ.out]
          exact (HB8.out.kept1 k9 hnb).base_le (Nat.le_of_lt hnb)
        · have e1 : ((mkB x).toList == l.toList) = false := by rw [Lib.toList_data, Lib.toList_data, mkB_toList, beq_eq_false_iff_ne]; exact hx
          have HQ := Lib.hid (show parseR l.data.toList = (ev0, 320) by rw [HP.out, if_neg (fun h => hx (by injection h))])
          clear hx HP
          go_wp2_with (refine wpList_store_blk rfl 34 _ _ rfl w.heap.size 0 34 (evC ev0 (.slice none 0 0)) (evC ev0 (.slice none 0 0)) rfl g1 rfl (by rw [evC_len]; exact Nat.le_refl _) evC_size (evC_cells _ rfl) ?_; intro w9 b9 k9 z9; rw [setL_all (by rw [evC_len])] at b9; simp only [Act.put])
          refine bodyPost_ret (results_ct rfl _ _ w.heap.size 34 (evC ev0 (.slice none 0 0)).toArray (0, 0) _ rfl b9 Tryz.underlying34 rfl evC_size) rfl ?_
          exact ⟨.slice none 0 0, by rw [HQ.out]; rfl, by rw [HQ.out]; exact OwnsY.nil _ _, hbel.trans (k9.to_below hbel.size (by simp))⟩
      · have e0 : (f != 0) = true := by simpa using hf
        have HQ := Lib.hid (show parseR l.data.toList = (ev0, 320) by rw [HP.out, if_neg (fun h => hf (by injection h))])
        clear hf HP
        go_wp2_with (refine wpList_store_blk rfl 34 _ _ rfl w.heap.size 0 34 (evC ev0 (.slice none 0 0)) (evC ev0 (.slice none 0 0)) rfl g1 rfl (by rw [evC_len]; exact Nat.le_refl _) evC_size (evC_cells _ rfl) ?_; intro w9 b9 k9 z9; rw [setL_all (by rw [evC_len])] at b9; simp only [Act.put])
        refine bodyPost_ret (results_ct rfl _ _ w.heap.size 34 (evC ev0 (.slice none 0 0)).toArray (0, 0) _ rfl b9 Tryz.underlying34 rfl evC_size) rfl ?_
        exact ⟨.slice none 0 0, by rw [HQ.out]; rfl, by rw [HQ.out]; exact OwnsY.nil _ _, hbel.trans (k9.to_below hbel.size (by simp))⟩

end Go.Proofs.YtaoehdmdjplegaaGreatDoor
