/-
  Walks: package windowpaneref15: long, Split, Same: what each call answers.
-/
import Derived.Test.YtbhdolghokhfnaaSplit2
namespace Go.Proofs.Ytbhdolghokhfnaa
open Go.RowKit

theorem sub_sum (zs : List Int) {a b : Nat} (h : a ≤ b) : ((zs.take b).drop a).sum = (zs.take b).sum - (zs.take a).sum := by
  have h1 : (zs.take b).sum = ((zs.take b).take a).sum + ((zs.take b).drop a).sum := by rw [← List.sum_append, List.take_append_drop]
  rw [List.take_take, show min a b = a by omega] at h1
  omega
theorem sub_len (zs : List Int) {a b : Nat} (hb : b ≤ zs.length) : ((zs.take b).drop a).length = b - a := by simp; omega
theorem sub_fit {zs : List Int} (h : zs.all fit = true) (a b : Nat) : ((zs.take b).drop a).all fit = true :=
  List.all_eq_true.2 fun x hx => List.all_eq_true.1 h x (List.mem_of_mem_take (List.mem_of_mem_drop hx))
theorem sub_long (zs : List Int) (gap : Int) {a b : Nat} (h : a < b) (hb : b ≤ zs.length) : gap * ((((zs.take b).drop a).length : Int) - 1) + ((zs.take b).drop a).sum = longOf zs gap a b := by
  rw [sub_sum zs (by omega), sub_len zs hb]
  unfold longOf
  rw [show ((b - a : Nat) : Int) - 1 = (b : Int) - (a : Int) - 1 by omega]
theorem Reads.sub {w : World} {B : Nat} {A : Option Addr} {zs : List Int} (h : Reads w B 1 A zs.length (zs.map (Value.int .i64))) {a b : Nat} (hab : a < b) (hb : b ≤ zs.length) :
    ∃ ad, A = some ad ∧ Reads w B 1 (some (ad.add a)) ((zs.take b).drop a).length (((zs.take b).drop a).map (Value.int .i64)) := by
  obtain ⟨ad, rfl, hbk, _⟩ := Reads.val h (show a < zs.length by omega)
  refine ⟨ad, rfl, by simp, fun hn => ⟨_, rfl, ?_, fun j u hu => ?_⟩⟩
  · show (ad.add a).block < B
    unfold Addr.add
    split <;> exact hbk
  · have hl := sub_len zs (a := a) hb
    have hj : j < ((zs.take b).drop a).length := by
      rcases Nat.lt_or_ge j (((zs.take b).drop a).map (Value.int .i64)).length with h1 | h1
      · simpa using h1
      · rw [List.getElem?_eq_none h1] at hu; cases hu
    obtain ⟨ad', e, _, hc⟩ := Reads.val h (show a + j < zs.length by omega)
    cases e
    rw [List.getElem?_eq_getElem (by simpa using hj)] at hu
    injection hu with hu
    rw [← hu, Addr.add_add, hc]
    simp

def LgA (zs : List Int) (G : Int) (w0 : World) (n i : Value) (wr : World) : Prop :=
  ∃ k : Nat, k ≤ zs.length ∧ i = .int .i64 k ∧ n = .int .i64 (G + (zs.take k).sum) ∧ wr = w0

/-- 'out = append(out, Line{..})': the one line lies in a new block of its own. -/
theorem append_line {ops : Array Oper} {rest : List Oper} {o : Oper} {a : Act} {Q : Exit → Act → World → Prop} (w : World) (x : Nat × Nat) (hgd : o.guard = none) (s y : Operand)
    (ho : o.op = .call { callee := .builtin .append, args := #[s, y], argTypes := #[48, 48] })
    (base : Nat) (v : Value) (L : List (Nat × Nat)) (hs : a.eval s = v) (hown : OwnsL w base v L)
    (hx : a.eval y = .slice (some ⟨w.heap.size, 0, none⟩) 1 1)
    (h47 : L.length < 1000000) (hbase : base ≤ w.heap.size)
    (h : ∀ v' w', OwnsL w' base v' (L ++ [x]) → Below base w w' → wpList Try.prog ops Q rest (a.put o.dst v') w') : wpList Try.prog ops Q (o :: rest) a (w.alloc (.cells #[.int .i64 (x.1 : Int), .int .i64 (x.2 : Int)] 90)) := by
  obtain ⟨i0, hi0, hz0, hz1, hz2⟩ := info_parts Try.infoLine
  have hlt := fun k (e : v.ownBlock = some k) => (World.ownsRow.lt hown k e).1
  refine wpList_append_any _ hgd s y _ ho base 90 i0 _ 2 16 Try.underlying48 hi0 hz0 hz1 hz2 rfl (by omega) v _ _ hs (World.ownsRow.alloc hown _) (w.heap.size + 1) _ 1 1 (encL x) hx ?_ ?_ (by simp only [maxLen]; omega) (by omega) (by simp; omega) ?_
  · exact ⟨rfl, fun _ => ⟨_, rfl, by simp, cells_two w x⟩⟩
  · intro u hu
    simp [encL] at hu
    rcases hu with rfl | rfl <;> rfl
  · intro v' w' h1 h2 _
    refine h v' w' (by unfold OwnsL; rw [List.length_append, rowL_snoc]; exact h1) ?_
    exact ((Below.refl base w).alloc hbase _).grown h2 (by simp; omega) (fun k e => hlt k e)

/-- Between two lines. -/
def RsO (ok : Nat → Nat → Bool) (n : Nat) (w1 : World) (out from_ : Value) (wr : World) : Prop :=
  ∃ (f : Nat) (L : List (Nat × Nat)), from_ = .int .i64 f ∧ OwnsL wr w1.heap.size out L ∧ Below w1.heap.size w1 wr ∧ ((f = n ∧ L = linesOf ok n) ∨ (f < n ∧ lnTo ok (f + 1) = (L, f)))
/-- Within a line. -/
def RsI (ok : Nat → Nat → Bool) (n f : Nat) (L : List (Nat × Nat)) (w1 : World) (t_ : Value) (wr : World) : Prop :=
  ∃ t : Nat, f < t ∧ t ≤ n ∧ t_ = .int .i64 t ∧ lnTo ok t = (L, f) ∧ wr = w1

/-- flexline.Split: what it answers. -/
theorem split_any (zs : List Int) (gap room : Int) (wrap : Bool) (v : Value) (B : Nat) (w : World) (h : Ints w B v zs) (hB : B ≤ w.heap.size) (hm : zs.length ≤ 17592186044416) :
    Calls Try.prog 32 #[v, .int .i64 gap, .int .i64 room, .bool wrap] w (SplitPost zs gap room wrap w) := by
  by_cases hb : 2048 < zs.length ∨ gap < 0 ∨ room < -1
  · exact split_bad zs gap room wrap v B w h hm hb
  · by_cases hf : zs.all fit = true ∧ fit gap = true ∧ fit room = true
    · exact split_good zs gap room wrap v B w h hB (by omega) (by omega) (by omega) hf.1 hf.2.1 hf.2.2
    · exact split_unfit zs gap room wrap v B w h (by omega) (by omega) (by omega) hf

/-! Same. -/
def SaA (n : Nat) (w0 : World) (i : Value) (wr : World) : Prop := ∃ k : Nat, k ≤ n ∧ i = .int .i64 k ∧ Quiet w0 wr

end Go.Proofs.Ytbhdolghokhfnaa
