/-
  RightFlow: In a layout of a document of blocks alone (any document of at most 320 nodes and 5000 bytes of texts, made so; any width) boxes without margins stand below one another without a gap. No condition.
-/
import Derived.Test.YtlnekijhbnlclaaGreatDoorFlowLaw
import Derived.Test.YtlnekijhbnlclaaGreatDoorArgDoc
import Derived.Test.YtlnekijhbnlclaaGreatDoorCardP
import Derived.Test.YtlnekijhbnlclaaGreatDoorFlowPlain
import Derived.Test.YtlnekijhbnlclaaGreatDoorTie
import Derived.Test.YtlnekijhbnlclaaGreatDoorCards
namespace Go.Proofs.YtlnekijhbnlclaaGreatDoor
open Go.ChangeShapes Go.WideShapes Go.ChangeAt Go.RowKit
open Go.ChangeMaps (open_string)
set_option maxRecDepth 100000 in
theorem rightFlow_lifted (os:Os) (started:os.Started) (H:Type) (enc:TypeId×Value->H) :
  ReturnsInHanded {} Tryz.checked os 7 .any (fun w args=>(Rows.rightFlowSpec.pre enc Tryz.prog Tryz.f7 Rows.rightFlowRow.domain false w args/\laidMetH Tryz.prog Rows.rightFlowRow.laid w)/\sizedMet enc Tryz.prog Tryz.f7 (OpenSpec.ofChange Rows.rightFlowSpec) false w args)
   (Rows.rightFlowSpec.post enc Tryz.prog Tryz.f7 false true false false):=by
 refine qgt os started H enc (by kernel_rfl) Tryz.func7 rfl (fun ds hd=>?_) rfl ?_
  (ChangeSpec.witness_shaped (enc:=enc) (C:=Tryz.checked) (os:=os) (X:=fun w _=>laidMetH Tryz.prog Rows.rightFlowRow.laid w) false (World.laidAll Tryz.prog os Rows.rightFlowRow.laid) #[.agg #[.slice none 0 0,.int .i64 0],.int .i64 0] 8 (World.laidAll_os _ _ _)
   (World.shaped_of_ZipB (by kernel_rfl) (by kernel_rfl)) (by kernel_rfl) (by kernel_rfl) (by kernel_rfl) (by rw [MakeChecks.laidMetH_plain _ _ _ (by kernel_rfl)]; exact laidMet_laidAll _ (by kernel_rfl) (by kernel_rfl))) ?_
 ·match ds,hd with
  | [_d0,_d1],_=>exact ⟨rfl,rfl,rfl⟩
 ·rw [Tryz.params7]
  intro t ht
  simp only [List.mem_cons,List.not_mem_nil,or_false] at ht
  rcases ht with rfl | rfl
  all_goals exact ⟨by kernel_rfl,of_decide_eq_true (by kernel_rfl)⟩
 ·intro W base args ds p hval hA _ hlt hsh _
  rw [Tryz.params7] at hA hval
  obtain ⟨v0,v1,d0,d1,p0,p1,rfl,rfl,rfl,h0,h1⟩:=trodAll_two hA
  obtain ⟨m,hm⟩:=Tryz.laysM146.s1_3 W hsh
  obtain ⟨dvD,nxD,D,rfl,hD,wD,nD⟩:=qsx Tryz.underlying24 ⟨rfl,rfl⟩ ⟨rfl,rfl⟩ (hval 0 _ v0 rfl rfl) h0 (fun x hx=>hlt x (by simp [hx]))
  obtain ⟨x,rfl,rfl,rfl,_⟩:=open_int Tryz.underlying3 (hval 1 _ v1 rfl rfl) h1
  exact rightFlow_walk D dvD nxD x W hD wD ⟨m,hm⟩
theorem rightFlow_inPlace:(Rows.rightFlowRow.inPlace == Tryz.prog.inPlace 7)=true:=by kernel_rfl
theorem rightFlow_unfollowed:(Rows.rightFlowRow.unfollowed == Tryz.prog.unfollowed 7)=true:=by kernel_rfl
theorem rightFlow_recurses:(Rows.rightFlowRow.recurses == Tryz.prog.recurses 7)=true:=by kernel_rfl
theorem rightFlow_named:(Rows.rightFlowRow.named == Tryz.prog.varsNamed 7)=true:=by kernel_rfl
theorem rightFlow_tied:namedTie Tryz.prog Rows.rightFlowRow.named Rows.rightFlowSpec.vars=true:=by kernel_rfl
theorem rightFlow_veils:Rows.rightFlowRow.veiledFits Tryz.prog Tryz.f7.params.toList (Tryz.f7.params.toList ++ Rows.rightFlowSpec.plain.varTypes Tryz.prog ++ Tryz.f7.resultTypes.toList)=true:=by kernel_rfl
theorem rightFlow_closed:joinedFacts Tryz.prog 7 Tryz.f7 Rows.rightFlowSpec Rows.rightFlowRow=true :=
 qcq _ _ _ _ (by kernel_rfl) (by kernel_rfl) rightFlow_tied (by kernel_rfl) (by kernel_rfl) rightFlow_inPlace rightFlow_unfollowed rightFlow_recurses rightFlow_named (by kernel_rfl) (by kernel_rfl) (by kernel_rfl) (by kernel_rfl) (by kernel_rfl) (by kernel_rfl) (by kernel_rfl) (by kernel_rfl) (by kernel_rfl) (by kernel_rfl) (by kernel_rfl) (by kernel_rfl) (by kernel_rfl) (by kernel_rfl) (by kernel_rfl) (by kernel_rfl) (by kernel_rfl) rightFlow_veils
theorem rightFlow_row:Rows.RightFlowSaid :=
 OpenClaim.holds_of_wide 7 Tryz.f7 rfl rfl rfl rfl rfl rfl rfl ⟨rfl,rfl,rfl,rfl,rfl⟩ rfl rfl rfl rfl rfl (by kernel_rfl) Tryz.func7 rightFlow_closed
  (of_decide_eq_true (by kernel_rfl)) (by unfold Func.isWrapper; first | (rw [if_pos (by decide +kernel)]; kernel_rfl) | (rw [if_neg (by decide +kernel)]; exact ⟨rfl,rfl⟩))
  (fun os started H enc _=>rightFlow_lifted os started H enc)
theorem rightFlow_holds:Rows.RightFlowCardSaid :=
 Claim7.holds_tied_plain_at .later [] [.data,.pinned] true (true,"617517110e7d79e90873164d66b100420adf705e8f4b182ef2cbb93281018b33") true rightFlow_row (fun _ h=>by cases h) (by kernel_rfl) (fun _ h=>by cases h) rightFlow_row_tie rfl ⟨rfl,rfl⟩ (by kernel_rfl) rfl
  (fun f fn hf hfn=>by
   obtain rfl:f=7:=Option.some.inj ((show Tryz.prog.funcNamed "windowpane/windowpanelaw19.RightFlow"=some 7 by kernel_rfl).symm.trans hf) |>.symm
   obtain rfl:fn=Tryz.f7:=(Option.some.inj (Tryz.func7.symm.trans hfn)).symm
   exact ⟨by kernel_rfl,fun j t ht=>by
    rw [Tryz.params7] at ht
    have hm:t ∈ ([24,3]:List Nat):=by simpa using Array.mem_of_getElem? ht
    have hall:(([24,3]:List Nat).all fun u=>!Tryz.prog.wantsStandIn u)=true:=by kernel_rfl
    exact (show Tryz.prog.wantsStandIn t=false by simpa using List.all_eq_true.1 hall t hm)⟩)
  (by kernel_rfl)
#print axioms rightFlow_holds
end Go.Proofs.YtlnekijhbnlclaaGreatDoor
