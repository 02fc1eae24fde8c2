/-
  Plain: a document made plain (boxes of DBlock alone, without margins above and below, offsets, and heights asked for at boxes with kids).
-/
import Derived.Test.YtlnekijhbnlclaaGreatDoorLawB
import Derived.Test.YtlnekijhbnlclaaGreatDoorRef05
namespace Go.Proofs.YtlnekijhbnlclaaGreatDoor
open Go.RowKit
set_option linter.unusedSimpArgs false
set_option linter.unusedVariables false
def plSt (s:St) (kids:Bool):St:={ s with mT:=(0,0),mB:=(0,0),offX:=0,offY:=0,display:=0,height:=if kids=true then (0,0) else s.height,minH:=if kids=true then (0,0) else s.minH,maxH:=if kids=true then (0,0) else s.maxH }
def plNd (ns:List Nd) (i:Nat):Nd:={ ndAt ns i with st:=plSt (ndAt ns i).st (decide (kidsN ns i≠[])) }
def plTo (ns:List Nd) (k:Nat):List Nd:=(List.range ns.length).map fun i=>if i < k then plNd ns i else ndAt ns i
def qcc (ns:List Nd):List Nd:=plTo ns ns.length
section
variable {ns:List Nd} {k:Nat}
theorem qic:(plTo ns k).length=ns.length:=by simp [plTo]
theorem qpe {i:Nat} (h:i < (plTo ns k).length):(plTo ns k)[i]=if i < k then plNd ns i else ndAt ns i:=by simp [plTo]
theorem q2u:plTo ns 0=ns:=by
 refine List.ext_getElem qic fun i h1 h2=>?_
 rw [qpe,if_neg (by omega),qxb h2]
theorem qvm (hk:k < ns.length):(plTo ns k).set k (plNd ns k)=plTo ns (k+1):=by
 refine List.ext_getElem (by rw [List.length_set,qic,qic]) fun i h1 h2=>?_
 rw [List.getElem_set,qpe h2]
 by_cases e:k=i
 ·subst e
  rw [if_pos rfl,if_pos (by omega)]
 ·rw [if_neg e,qpe]
  by_cases h3:i < k
  ·rw [if_pos h3,if_pos (by omega)]
  ·rw [if_neg h3,if_neg (by omega)]
theorem qgh (i:Nat):ndAt (plTo ns k) i=if i < k/\i < ns.length then plNd ns i else ndAt ns i:=by
 by_cases h:i < ns.length
 ·rw [qxb (by rw [qic]; exact h),qpe]
  by_cases h2:i < k
  ·rw [if_pos h2,if_pos ⟨h2,h⟩]
  ·rw [if_neg h2,if_neg (by omega)]
 ·rw [if_neg (by omega)]
  unfold ndAt
  rw [List.getD_eq_getElem?_getD,List.getElem?_eq_none (by rw [qic]; omega),List.getD_eq_getElem?_getD,List.getElem?_eq_none (by omega)]
theorem qjj (i:Nat):(ndAt (plTo ns k) i).depth=(ndAt ns i).depth:=by
 rw [qgh]
 split <;> rfl
theorem qwx (i:Nat):(ndAt (plTo ns k) i).key=(ndAt ns i).key:=by
 rw [qgh]
 split <;> rfl
theorem qsl (i:Nat):kidsN (plTo ns k) i=kidsN ns i:=by
 unfold kidsN qcb
 simp only [qjj,qic]
theorem q0l {m:Nd} (q:Bool) (h0:(ndC m).all wfC=true):(ndC { m with st:=plSt m.st q }).all wfC=true:=by
 have z1:(Lit.int .u8 ((0:Nat):Int)).wf=true:=by decide
 have z2:(Lit.int .i64 0).wf=true:=by decide
 cases q <;> simp_all [ndC,stC,plSt,wfC]
theorem q4u {a b:List Nd} (hd:∀ i,(ndAt a i).depth=(ndAt b i).depth) (hl:a.length=b.length) (i:Nat):kidsN a i=kidsN b i:=by
 unfold kidsN qcb
 simp only [hd,hl]
theorem q3v (h:∀ n ∈ ns,(ndC n).all wfC=true):∀ n ∈ plTo ns k,(ndC n).all wfC=true:=by
 intro n hn
 obtain ⟨i,hi,rfl⟩:=List.getElem_of_mem hn
 rw [qic] at hi
 have h0:(ndC (ndAt ns i)).all wfC=true:=by rw [qxb hi]; exact h _ (List.getElem_mem hi)
 rw [qpe]
 split
 ·exact q0l _ h0
 ·exact h0
end
theorem qtx {ns:List Nd} {next:Int} (h:qgb (qcc ns) next=true):Blocks (qcc ns) next:=by
 obtain ⟨h1,h2⟩:=qjw h
 have key:∀ i,(stAt (qcc ns) i).display=0/\(stAt (qcc ns) i).mT=(0,0)/\(stAt (qcc ns) i).mB=(0,0)/\(stAt (qcc ns) i).offY=0/\(kidsN ns i≠[]->(stAt (qcc ns) i).height=(0,0)/\(stAt (qcc ns) i).minH=(0,0)/\(stAt (qcc ns) i).maxH=(0,0)):=by
  intro i
  unfold stAt qcc
  rw [qgh]
  by_cases hi:i < ns.length
  ·rw [if_pos ⟨hi,hi⟩]
   refine ⟨rfl,rfl,rfl,rfl,fun hk=>?_⟩
   unfold plNd
   rw [decide_eq_true hk]
   exact ⟨rfl,rfl,rfl⟩
  ·rw [if_neg (by omega)]
   have e:ndAt ns i=nd0:=by
    unfold ndAt
    rw [List.getD_eq_getElem?_getD,List.getElem?_eq_none (by omega)]
    rfl
   rw [e]
   exact ⟨rfl,rfl,rfl,rfl,fun _=>⟨rfl,rfl,rfl⟩⟩
 refine ⟨q9k h,h1,h2,fun i=>(key i).1,fun i=>(key i).2.1,fun i=>(key i).2.2.1,fun i=>(key i).2.2.2.1,fun i hk=>(key i).2.2.2.2 ?_⟩
 unfold qcc at hk
 rwa [qsl] at hk
end Go.Proofs.YtlnekijhbnlclaaGreatDoor
