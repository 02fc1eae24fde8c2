/-
  Closed facts on the whole program that a row of it asks, one by one (together they take the kernel more than 10 GB).
-/
import Derived.Test.YtlnekijhbnlclaaGreatDoorFlowPlain
namespace Go.Proofs.YtlnekijhbnlclaaGreatDoor
open Go.ChangeShapes Go.WideShapes Go.ChangeAt Go.RowKit
theorem qnw:mapsRowed Tryz.prog=true:=by kernel_rfl
theorem qur:(Tryz.prog.stops == [])=true:=by kernel_rfl
theorem qys:(Tryz.prog.stopKnobs == [])=true:=by kernel_rfl
theorem qiq:Tryz.prog.plainKeys=true:=by kernel_rfl
theorem qqt:Tryz.prog.stopsHeard=true:=by kernel_rfl
theorem qfu:Tryz.prog.mayEnter=true:=by kernel_rfl
theorem q5p:Tryz.prog.liftsFinal=false:=by kernel_rfl
theorem qjv:Tryz.prog.make=some .cut:=by kernel_rfl
theorem qcq (f:FuncId) (fn:Func) (s:ChangeSpec) (c:OpenClaim)
  (k1:c.wf (OpenSpec.ofChange s)=true) (k4:fn.params.all (Tryz.prog.readableRec ·)=true) (k5:namedTie Tryz.prog c.named s.vars=true)
  (k6:(c.stops == [])=true) (k8:(c.knobs == [])=true)
  (k10:(c.inPlace == Tryz.prog.inPlace f)=true) (k11:(c.unfollowed == Tryz.prog.unfollowed f)=true) (k12:(c.recurses == Tryz.prog.recurses f)=true) (k13:(c.named == Tryz.prog.varsNamed f)=true)
  (k14:(c.maps == (fn.params.toList ++ s.plain.varTypes Tryz.prog).any (Tryz.prog.mapsRec ·))=true) (k15:(c.ifaces == (fn.params.toList ++ s.plain.varTypes Tryz.prog).any (Tryz.prog.ifacesRec ·))=true) (k16:(c.mapsOut == Tryz.prog.mapsAmong fn.resultTypes.toList)=true)
  (k17:(c.loops == (fn.params.toList ++ s.plain.varTypes Tryz.prog).any (Tryz.prog.loopsFrom ·))=true) (k18:(c.wideKeys == (fn.params.toList ++ s.plain.varTypes Tryz.prog ++ fn.resultTypes.toList).any (Tryz.prog.wideKeysFrom ·))=true)
  (k19:s.vars.all (Tryz.prog.varReadable ·)=true) (k20:fn.resultTypes.all (fun t=>Tryz.prog.readableRec t && decide (t < Tryz.prog.types.size))=true) (k21:(c.ifacesOut == fn.resultTypes.toList.any (Tryz.prog.ifacesRec ·))=true) (k22:(c.loopsOut == fn.resultTypes.toList.any (Tryz.prog.loopsFrom ·))=true)
  (k23:c.plainKeys=true) (k24:c.shortTexts.isNone=true) (k27:c.lifted=false) (k28:c.make=.cut) (k29:c.domain.isEmpty=true) (k29b:(c.kinds == [])=true) (k30:(c.pinned == c.pinnedBy)=true)
  (k31:(c.veiled == (fn.params.toList ++ s.plain.varTypes Tryz.prog ++ fn.resultTypes.toList).any (Tryz.prog.veiledRec ·))=true) (k32:c.veiledFits Tryz.prog fn.params.toList (fn.params.toList ++ s.plain.varTypes Tryz.prog ++ fn.resultTypes.toList)=true) :
  joinedFacts Tryz.prog f fn s c=true:=by
 have h2:=Tryz.laidOut
 have h3:=qnw
 have h7:=qur
 have h9:=qys
 have h23:=qiq
 have h25:=qqt
 have h26:=qfu
 have h27:=q5p
 have h28:=qjv
 generalize Tryz.prog=P at *
 unfold joinedFacts
 rw [k1,h2,h3,k4,k5,k6,h7,k8,h9,k10,k11,k12,k13,k14,k15,k16,k17,k18,k19,k20,k21,k22,h23,k23,k24,h25,h26,h27,k27,h28,k28,k29,k30,k31,k32]
 simpa using k29b
end Go.Proofs.YtlnekijhbnlclaaGreatDoor
