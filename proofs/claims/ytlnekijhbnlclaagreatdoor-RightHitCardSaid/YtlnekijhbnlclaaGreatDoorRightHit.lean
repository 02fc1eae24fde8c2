/-
  RightHit: What is hit covers the point, and none behind it does; a point out of what fragments fill hits none; each fragment that has a width and a height lies within that: of at most 300 fragments, numbers up to 2^38. No condition.
-/
import Derived.Test.YtlnekijhbnlclaaGreatDoorHitLaw
import Derived.Test.YtlnekijhbnlclaaGreatDoorCardP
import Derived.Test.YtlnekijhbnlclaaGreatDoorFlowPlain
import Derived.Test.YtlnekijhbnlclaaGreatDoorTie
import Derived.Test.YtlnekijhbnlclaaGreatDoorCards
namespace Go.Proofs.YtlnekijhbnlclaaGreatDoor
open Go.ChangeShapes Go.WideShapes Go.ChangeAt Go.RowKit
open Go.ChangeMaps (open_string)
set_option maxRecDepth 100000 in
theorem rightHit_lifted (os:Os) (started:os.Started) (H:Type) (enc:TypeId×Value->H) :
  ReturnsInHanded {} Tryz.checked os 9 .any (fun w args=>(Rows.rightHitSpec.pre enc Tryz.prog Tryz.f9 Rows.rightHitRow.domain false w args/\laidMetH Tryz.prog Rows.rightHitRow.laid w)/\sizedMet enc Tryz.prog Tryz.f9 (OpenSpec.ofChange Rows.rightHitSpec) false w args)
   (Rows.rightHitSpec.post enc Tryz.prog Tryz.f9 false true false false):=by
 refine qgt os started H enc (by kernel_rfl) Tryz.func9 rfl (fun ds hd=>?_) rfl ?_
  (ChangeSpec.witness_shaped (enc:=enc) (C:=Tryz.checked) (os:=os) (X:=fun w _=>laidMetH Tryz.prog Rows.rightHitRow.laid w) false (World.laidAll Tryz.prog os Rows.rightHitRow.laid) #[.slice none 0 0,.int .i64 0,.int .i64 0] 8 (World.laidAll_os _ _ _)
   (World.shaped_of_ZipB (by kernel_rfl) (by kernel_rfl)) (by kernel_rfl) (by kernel_rfl) (by kernel_rfl) (by rw [MakeChecks.laidMetH_plain _ _ _ (by kernel_rfl)]; exact laidMet_laidAll _ (by kernel_rfl) (by kernel_rfl))) ?_
 ·match ds,hd with
  | [_d0,_d1,_d2],_=>exact ⟨rfl,rfl,rfl⟩
 ·rw [Tryz.params9]
  intro t ht
  simp only [List.mem_cons,List.not_mem_nil,or_false] at ht
  rcases ht with rfl | rfl | rfl
  all_goals exact ⟨by kernel_rfl,of_decide_eq_true (by kernel_rfl)⟩
 ·intro W base args ds p hval hA _ hlt hsh _
  rw [Tryz.params9] at hA hval
  obtain ⟨v0,v1,v2,d0,d1,d2,p0,p1,p2,rfl,rfl,rfl,h0,h1,h2⟩:=trodAll_three hA
  obtain ⟨m,hm⟩:=Tryz.laysM146.s1_3 W hsh
  obtain ⟨fs,hfs⟩:=qxu (hval 0 _ v0 rfl rfl) h0 (fun x hx=>hlt x (by simp [hx]))
  obtain ⟨x,rfl,rfl,rfl,_⟩:=open_int Tryz.underlying3 (hval 1 _ v1 rfl rfl) h1
  obtain ⟨y,rfl,rfl,rfl,_⟩:=open_int Tryz.underlying3 (hval 2 _ v2 rfl rfl) h2
  exact qkt fs x y v0 W hfs ⟨m,hm⟩
theorem qhw:(Rows.rightHitRow.inPlace == Tryz.prog.inPlace 9)=true:=by kernel_rfl
theorem qms:(Rows.rightHitRow.unfollowed == Tryz.prog.unfollowed 9)=true:=by kernel_rfl
theorem qrw:(Rows.rightHitRow.recurses == Tryz.prog.recurses 9)=true:=by kernel_rfl
theorem q7p:(Rows.rightHitRow.named == Tryz.prog.varsNamed 9)=true:=by kernel_rfl
theorem q0r:namedTie Tryz.prog Rows.rightHitRow.named Rows.rightHitSpec.vars=true:=by kernel_rfl
theorem qep:Rows.rightHitRow.veiledFits Tryz.prog Tryz.f9.params.toList (Tryz.f9.params.toList ++ Rows.rightHitSpec.plain.varTypes Tryz.prog ++ Tryz.f9.resultTypes.toList)=true:=by kernel_rfl
theorem qat:joinedFacts Tryz.prog 9 Tryz.f9 Rows.rightHitSpec Rows.rightHitRow=true :=
 qcq _ _ _ _ (by kernel_rfl) (by kernel_rfl) q0r (by kernel_rfl) (by kernel_rfl) qhw qms qrw q7p (by kernel_rfl) (by kernel_rfl) (by kernel_rfl) (by kernel_rfl) (by kernel_rfl) (by kernel_rfl) (by kernel_rfl) (by kernel_rfl) (by kernel_rfl) (by kernel_rfl) (by kernel_rfl) (by kernel_rfl) (by kernel_rfl) (by kernel_rfl) (by kernel_rfl) (by kernel_rfl) (by kernel_rfl) qep
theorem rightHit_row:Rows.RightHitSaid :=
 OpenClaim.holds_of_wide 9 Tryz.f9 rfl rfl rfl rfl rfl rfl rfl ⟨rfl,rfl,rfl,rfl,rfl⟩ rfl rfl rfl rfl rfl (by kernel_rfl) Tryz.func9 qat
  (of_decide_eq_true (by kernel_rfl)) (by unfold Func.isWrapper; first | (rw [if_pos (by decide +kernel)]; kernel_rfl) | (rw [if_neg (by decide +kernel)]; exact ⟨rfl,rfl⟩))
  (fun os started H enc _=>rightHit_lifted os started H enc)
theorem rightHit_holds:Rows.RightHitCardSaid :=
 Claim7.holds_tied_plain_at .later [] [.data,.pinned] true (true,"617517110e7d79e90873164d66b100420adf705e8f4b182ef2cbb93281018b33") true rightHit_row (fun _ h=>by cases h) (by kernel_rfl) (fun _ h=>by cases h) rightHit_row_tie rfl ⟨rfl,rfl⟩ (by kernel_rfl) rfl
  (fun f fn hf hfn=>by
   obtain rfl:f=9:=Option.some.inj ((show Tryz.prog.funcNamed "windowpane/windowpanelaw19.RightHit"=some 9 by kernel_rfl).symm.trans hf) |>.symm
   obtain rfl:fn=Tryz.f9:=(Option.some.inj (Tryz.func9.symm.trans hfn)).symm
   exact ⟨by kernel_rfl,fun j t ht=>by
    rw [Tryz.params9] at ht
    have hm:t ∈ ([36,3,3]:List Nat):=by simpa using Array.mem_of_getElem? ht
    have hall:(([36,3,3]:List Nat).all fun u=>!Tryz.prog.wantsStandIn u)=true:=by kernel_rfl
    exact (show Tryz.prog.wantsStandIn t=false by simpa using List.all_eq_true.1 hall t hm)⟩)
  (by kernel_rfl)
#print axioms rightHit_holds
end Go.Proofs.YtlnekijhbnlclaaGreatDoor
