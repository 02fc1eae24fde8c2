/-
  From a walk to a row: a law (all arguments plain data, one bool back) whose call returns true in a world that is, below the blocks that were there, as it was, has its row. Program-wide facts (own knob, layout, the bool's and the int's types).
-/
import Derived.Test.YtbhdolghokhfnaaRows
import Derived.Test.YtbhdolghokhfnaaWords
import Derived.Test.YtbhdolghokhfnaaHead
import Derived.ProofKit
import Derived.SizedLaws
import Derived.Carry
namespace Go.Proofs.Ytbhdolghokhfnaa
open Go.ChangeShapes Go.WideShapes Go.ChangeAt Go.RowKit

theorem Try.own : ownKnob Try.prog.godebug = none := by kernel_rfl
theorem Try.laidOut : laidOutB Try.prog = true := by kernel_rfl

/-- Reading the arguments again, below which nothing has turned. -/
theorem trodAll_below {H : Type} {enc : TypeId × Value → H} {W W' : World} (hb : Below W.heap.size W W') : ∀ {ts : List TypeId} {vs : List Value} {ds : List (DataW H)} {ps : List MemPlace},
    (∀ t ∈ ts, Try.prog.readableRec t = true ∧ t < Try.prog.types.size) →
    DataW.TrodAll enc Try.prog W 0 (fun _ => true) true ts vs ds ps → (∀ x ∈ ps, x.block < W.heap.size) →
    DataW.TrodAll enc Try.prog W' 0 (fun b => decide (b < W.heap.size)) true ts vs ds ps := by
  intro ts
  induction ts with
  | nil =>
    intro vs ds ps _ h _
    obtain ⟨rfl, rfl, rfl⟩ := trodAll_nil h
    exact trodAll_mk0
  | cons t ts ih =>
    intro vs ds ps hr h hlt
    obtain ⟨v, vs', d, ds', p, q, rfl, rfl, rfl, h1, h2⟩ := trodAll_cons h
    have hrt := hr t (by simp)
    exact ⟨p, q, Below.trod Try.laidOut hrt.1 hrt.2 h1 hb (fun x hx => hlt x (List.mem_append.2 (Or.inl hx))),
      ih (fun t' ht' => hr t' (List.mem_cons_of_mem _ ht')) h2 (fun x hx => hlt x (List.mem_append.2 (Or.inr hx))), rfl⟩

/-- What a walk of a law has to show. -/
def LawReturns (f : FuncId) (args : Array Value) (W : World) : Prop :=
  Calls Try.prog f args W fun e W' => e = .returned (.bool true) ∧ Below W.heap.size W W'

set_option maxRecDepth 100000 in
theorem law_lift {f : FuncId} {fn : Func} {s : ChangeSpec} {conds : List PathCond} (os : Os) (started : os.Started) (H : Type) (enc : TypeId × Value → H)
    (noInit : Try.checked.prog.inits.idxOf? f = none) (hfn : Try.checked.prog.funcs[f]? = some fn)
    (hvars : s.vars = []) (hspec : ∀ ds : List (DataW H), ds.length = fn.params.toList.length → (s.fn H ds).results = [.lit (.bool true)] ∧ (s.fn H ds).args = ds ∧ (s.fn H ds).vars = [])
    (hret : fn.resultTypes = #[4])
    (hread : ∀ t ∈ fn.params.toList, Try.prog.readableRec t = true ∧ t < Try.prog.types.size)
    (witness : ∃ (w : World) (tape : Tape) (i : Input), w.os = os ∧ (w.forCall tape i).Shaped Try.checked.prog ∧ i.vars = [] ∧ Input.okWide Try.checked.prog (w.forCall tape i) .any w.heap.size f i ∧
      s.pre6 enc Try.checked.prog fn conds false (w.forCall tape i).memory i.args ∧ Assume.holds {} Try.checked.prog (lone (Frame.enter Try.checked.prog f i.args .normal) [] (w.forCall tape i)))
    (contract : ∀ (W : World) (base : Nat) (args : Array Value) (ds : List (DataW H)) (p : List MemPlace),
      (∀ (j : Nat) t v, fn.params[j]? = some t → args[j]? = some v → Value.okWide Try.prog W .any base t v) →
      DataW.TrodAll enc Try.prog W 0 (fun _ => true) true fn.params.toList args.toList ds p →
      (DataW.weightsEach Try.prog fn.params.toList ds).all (· ≤ reachBytes) = true →
      (∀ x ∈ p, x.block < W.heap.size) → LawReturns f args W) :
    ReturnsInHanded {} Try.checked os f .any (s.pre6 enc Try.checked.prog fn conds false) (s.post enc Try.checked.prog fn false true false false) := by
  refine returnsInHanded_of_change_sized (C := Try.checked) Try.own started noInit hfn witness ?_
  intro W base args ds gs before hval hW _ hsz _
  have hW' := hW
  obtain ⟨p, q, hA, hV, rfl, _, _⟩ := hW
  rw [hvars] at hV
  obtain ⟨rfl, rfl⟩ := trodVars_none hV
  have hlt : ∀ x ∈ p, x.block < W.heap.size := fun x hx => hW'.lt x (List.mem_append.2 (Or.inl hx))
  have hlen : ∀ {ts : List TypeId} {vs : List Value} {ds : List (DataW H)} {ps : List MemPlace}, DataW.TrodAll enc Try.prog W 0 (fun _ => true) true ts vs ds ps → ds.length = ts.length := by
    intro ts
    induction ts with
    | nil => intro vs ds ps h; obtain ⟨rfl, rfl, rfl⟩ := trodAll_nil h; rfl
    | cons t ts ih => intro vs ds ps h; obtain ⟨v, vs', d, ds', p, q, rfl, rfl, rfl, h1, h2⟩ := trodAll_cons h; simp [ih h2]
  obtain ⟨hs1, hs2, hs3⟩ := hspec ds (hlen hA)
  have hvt : s.plain.varTypes Try.checked.prog = [] := by simp [DataSpec.varTypes, ChangeSpec.plain, hvars]
  rw [hvt, List.append_nil, List.append_nil] at hsz
  refine (contract W base args ds p hval hA hsz hlt).mono fun e W' ⟨he, hb⟩ => ?_
  subst he
  refine ⟨_, rfl, ds, [], p ++ [], [], p, [], hW', ?_, ?_, ?_, hb.frame _, fun h => by cases h⟩
  · rw [List.append_nil, hs1, hret]
    exact trodAll_mk1 (shut_bool Try.underlying4 _)
  · rw [List.append_nil, hs2]
    exact trodAll_below hb hread hA hlt
  · rw [List.append_nil, hs3, hvars]
    rfl

theorem Try.mapsRowed : mapsRowed Try.prog = true := by kernel_rfl
theorem Try.stops : (Try.prog.stops == []) = true := by kernel_rfl
theorem Try.stopKnobs : (Try.prog.stopKnobs == []) = true := by kernel_rfl
theorem Try.plainKeys : Try.prog.plainKeys = true := by kernel_rfl
theorem Try.stopsHeard : Try.prog.stopsHeard = true := by kernel_rfl

/-- The closed facts of a row, put together: those that hang on the whole program are proved once. -/
theorem closed_of (f : FuncId) (fn : Func) (s : ChangeSpec) (c : OpenClaim)
    (k1 : c.wf (OpenSpec.ofChange s) = true) (k2 : fn.params.all (Try.prog.readableRec ·) = true) (k3 : namedTie Try.prog c.named s.vars = true)
    (k4 : (c.stops == []) = true) (k5 : (c.knobs == []) = true)
    (k6 : (c.inPlace == Try.prog.inPlace f) = true) (k7 : (c.unfollowed == Try.prog.unfollowed f) = true) (k8 : (c.recurses == Try.prog.recurses f) = true) (k9 : (c.named == Try.prog.varsNamed f) = true)
    (k10 : (c.maps == (fn.params.toList ++ s.plain.varTypes Try.prog).any (Try.prog.mapsRec ·)) = true) (k11 : (c.ifaces == (fn.params.toList ++ s.plain.varTypes Try.prog).any (Try.prog.ifacesRec ·)) = true) (k12 : (c.mapsOut == Try.prog.mapsAmong fn.resultTypes.toList) = true)
    (k13 : (c.loops == (fn.params.toList ++ s.plain.varTypes Try.prog).any (Try.prog.loopsFrom ·)) = true) (k14 : (c.wideKeys == (fn.params.toList ++ s.plain.varTypes Try.prog ++ fn.resultTypes.toList).any (Try.prog.wideKeysFrom ·)) = true)
    (k15 : s.vars.all (Try.prog.varReadable ·) = true) (k16 : fn.resultTypes.all (fun t => Try.prog.readableRec t && decide (t < Try.prog.types.size)) = true) (k17 : (c.ifacesOut == fn.resultTypes.toList.any (Try.prog.ifacesRec ·)) = true) (k18 : (c.loopsOut == fn.resultTypes.toList.any (Try.prog.loopsFrom ·)) = true)
    (k19 : c.plainKeys = true) (k20 : c.shortTexts.isNone = true) (k21 : c.lifted = headRow.lifted) (k22 : c.make = headRow.make) (k23 : c.domain.isEmpty = true) (k24 : (c.kinds == []) = true) (k25 : (c.pinned == c.pinnedBy) = true)
    (k26 : (c.veiled == (fn.params.toList ++ s.plain.varTypes Try.prog ++ fn.resultTypes.toList).any (Try.prog.veiledRec ·)) = true) (k27 : c.veiledFits Try.prog fn.params.toList (fn.params.toList ++ s.plain.varTypes Try.prog ++ fn.resultTypes.toList) = true) :
    joinedFacts Try.prog f fn s c = true := by
  have hl := Try.laidOut
  have h1 := Try.mapsRowed
  have h2 := Try.stops
  have h3 := Try.stopKnobs
  have h4 := Try.plainKeys
  have h5 := Try.stopsHeard
  have h6 := make_eq
  have h7 := liftsFinal_eq
  have h8 := mayEnter_eq
  rw [← k22] at h6
  rw [← k21] at h7
  generalize Try.prog = P at *
  unfold joinedFacts
  rw [k1, k2, k3, k4, k5, k6, k7, k8, k9, k10, k11, k12, k13, k14, k15, k16, k17, k18, k19, k20, k23, k25, k26, k27, hl, h1, h2, h3, h4, h5, h6, h7, h8]
  simpa using k24

end Go.Proofs.Ytbhdolghokhfnaa
