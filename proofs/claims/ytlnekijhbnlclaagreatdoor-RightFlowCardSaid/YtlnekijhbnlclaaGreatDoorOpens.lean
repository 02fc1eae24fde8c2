/-
  What a cell of an argument reads as; structs of plain cells taken apart.
-/
import Derived.ChangeSlices
import Derived.OpenShut
import Derived.ChangeShapes
import Derived.WideShapes
import Derived.ChangeAt
import Derived.Test.YtlnekijhbnlclaaGreatDoorHit
import Derived.Test.YtlnekijhbnlclaaGreatDoorDocFacts
namespace Go.Proofs.YtlnekijhbnlclaaGreatDoor
open Go.ChangeShapes Go.WideShapes Go.ChangeAt Go.RowKit
def lsh (P:Program):Nat->TypeId->Option (List TypeId)
 | 0,_=>none
 | d+1,t=>match P.underlying t with
  | some .bool | some (.int _) | some .string | some (.slice _)=>if P.cellsOf t=1 then some [t] else none
  | some (.array n e)=>match lsh P d e with
   | none=>none
   | some l=>if P.cellsOf e=l.length/\P.cellsOf t=n * l.length then some (List.replicate n l).flatten else none
  | some (.struct fs)=>match shpF P (lsh P d) fs.toList 0 with
   | none=>none
   | some l=>if P.cellsOf t=l.length then some l else none
  | _=>none
def Opens (R:TypeId->Value->Prop):List TypeId->List Value->Prop
 | [],[]=>True
 | t :: ts,c :: cs=>R t c/\Opens R ts cs
 | _,_=>False
theorem Opens.append {R:TypeId->Value->Prop}:∀ {a:List TypeId} {x:List Value} {b:List TypeId} {y:List Value},Opens R a x->Opens R b y->Opens R (a ++ b) (x ++ y)
 | [],[],_,_,_,h=>h
 | _ :: _,_ :: _,_,_,⟨h0,h1⟩,h=>⟨h0,h1.append h⟩
 | [],_ :: _,_,_,h,_=>h.elim
 | _ :: _,[],_,_,h,_=>h.elim
theorem Opens.cons {R:TypeId->Value->Prop} {t:TypeId} {ts:List TypeId}:∀ {cs:List Value},Opens R (t :: ts) cs->∃ c cs',cs=c :: cs'/\R t c/\Opens R ts cs'
 | [],h=>h.elim
 | c :: cs,h=>⟨c,cs,rfl,h.1,h.2⟩
theorem Opens.nil {R:TypeId->Value->Prop}:∀ {cs:List Value},Opens R [] cs->cs=[]
 | [],_=>rfl
 | _ :: _,h=>h.elim
section
variable {H:Type} {enc:TypeId×Value->H} {P:Program} {W:World} {base:Nat} {sp:Nat->Bool} {held:Bool} {p:List MemPlace}
def q3c (enc:TypeId×Value->H) (P:Program) (W:World) (base:Nat) (sp:Nat->Bool) (held:Bool) (p:List MemPlace) (t:TypeId) (c:Value):Prop :=
 ∃ m y,DataW.trod enc P W base sp held m t [c]=some y/\∀ z ∈ y.2,z ∈ p
theorem qtj {m:Nat} {sh:TypeId->Option (List TypeId)} (ih:∀ t l,sh t=some l->∀ cs x,DataW.trod enc P W base sp held m t cs=some x->(∀ z ∈ x.2,z ∈ p)->cs.length=l.length->Opens (q3c enc P W base sp held p) l cs) (all:List Value) :
  ∀ (fs:List Field) (o:Nat) (l:List TypeId),shpF P sh fs o=some l->all.length=o+l.length ->
   (∀ f ∈ fs,∃ y,DataW.trod enc P W base sp held m f.type ((all.drop f.offset).take (P.cellsOf f.type))=some y/\∀ z ∈ y.2,z ∈ p)->Opens (q3c enc P W base sp held p) l (all.drop o)
 | [],o,l,h,hl,_=>by
  simp only [shpF] at h
  injection h with h
  subst h
  rw [List.drop_of_length_le (by simpa using Nat.le_of_eq hl)]
  trivial
 | f :: fs,o,l,h,hl,hall=>by
  rw [shpF] at h
  split at h
  ·cases h
  ·rename_i l1 h1
   split at h
   ·rename_i hc
    cases h2:shpF P sh fs (o+l1.length) with
    | none=>rw [h2] at h; cases h
    | some l2 =>
     rw [h2] at h
     injection h with h
     subst h
     rw [List.length_append] at hl
     obtain ⟨y,hy,hz⟩:=hall f (by simp)
     rw [hc.1,hc.2] at hy
     have a1:=ih f.type l1 h1 _ y hy hz (by rw [List.length_take,List.length_drop]; omega)
     have a2:=qtj ih all fs (o+l1.length) l2 h2 (by omega) (fun g hg=>hall g (by simp [hg]))
     have e:all.drop o=(all.drop o).take l1.length ++ all.drop (o+l1.length):=by rw [<-List.drop_drop,List.take_append_drop]
     rw [e]
     exact a1.append a2
   ·cases h
theorem qhm {m:Nat} {e:TypeId} {l:List TypeId} (ih:∀ cs x,DataW.trod enc P W base sp held m e cs=some x->(∀ z ∈ x.2,z ∈ p)->cs.length=l.length->Opens (q3c enc P W base sp held p) l cs) (all:List Value) :
  ∀ (n j:Nat),all.length=(j+n) * l.length ->
   (∀ i,i < j+n->∃ y,DataW.trod enc P W base sp held m e ((all.drop (i * l.length)).take l.length)=some y/\∀ z ∈ y.2,z ∈ p)->Opens (q3c enc P W base sp held p) (List.replicate n l).flatten (all.drop (j * l.length))
 | 0,j,hl,_=>by
  rw [List.drop_of_length_le (by rw [hl]; simp)]
  trivial
 | n+1,j,hl,hall=>by
  rw [List.replicate_succ,List.flatten_cons]
  obtain ⟨y,hy,hz⟩:=hall j (by omega)
  have hlen:(j+1) * l.length<=all.length:=by rw [hl]; exact Nat.mul_le_mul_right _ (by omega)
  rw [Nat.succ_mul] at hlen
  have a1:=ih _ y hy hz (by rw [List.length_take,List.length_drop]; omega)
  have a2:=qhm ih all n (j+1) (by rw [hl]; congr 1; omega) (fun i hi=>hall i (by omega))
  have e1:all.drop (j * l.length)=(all.drop (j * l.length)).take l.length ++ all.drop ((j+1) * l.length):=by
   rw [Nat.succ_mul,<-List.drop_drop,List.take_append_drop]
  rw [e1]
  exact a1.append a2
theorem qbh:∀ (d:Nat) (t:TypeId) (l:List TypeId),lsh P d t=some l->∀ (fuel:Nat) (cs:List Value) (x:DataW H×List MemPlace),DataW.trod enc P W base sp held fuel t cs=some x->(∀ z ∈ x.2,z ∈ p)->cs.length=l.length->Opens (q3c enc P W base sp held p) l cs
 | 0,_,_,h,_,_,_,_,_,_=>by cases h
 | d+1,t,l,h,fuel,cs,x,hx,hz,hl=>by
  have one:(if P.cellsOf t=1 then some [t] else none)=some l->Opens (q3c enc P W base sp held p) l cs:=by
   intro h
   split at h
   ·injection h with h
    subst h
    obtain ⟨c,rfl⟩:=List.length_eq_one_iff.1 hl
    exact ⟨⟨fuel,x,hx,hz⟩,trivial⟩
   ·cases h
  rw [lsh] at h
  split at h
  ·exact one h
  ·exact one h
  ·exact one h
  ·exact one h
  ·rename_i n e hu
   split at h
   ·cases h
   ·rename_i l1 h1
    split at h
    ·rename_i hc
     injection h with h
     subst h
     obtain ⟨xs,m,rfl,rfl,hcl,hxl,hall⟩:=DataW.trod_array hu hx
     have:=qhm (m:=m) (l:=l1) (fun cs x a b c=>qbh d e l1 h1 m cs x a b c) cs n 0 (by rw [hcl,hc.2]; simp) (fun i hi=>by
      have hi:i < n:=by omega
      have ha:=hall i hi
      rw [hc.1,List.getElem?_eq_getElem (by omega)] at ha
      exact ⟨_,ha,fun z hzz=>hz z (List.mem_flatMap.2 ⟨_,List.getElem_mem _,hzz⟩)⟩)
     simpa using this
    ·cases h
  ·rename_i fs hu
   split at h
   ·cases h
   ·rename_i l1 h1
    split at h
    ·rename_i hc
     injection h with h
     subst h
     obtain ⟨xs,m,rfl,rfl,hcl,hxl,hall⟩:=DataW.trod_struct hu hx
     have:=qtj (m:=m) (fun t l a cs x b c e=>qbh d t l a m cs x b c e) cs fs.toList 0 l1 h1 (by rw [hcl,hc]; simp) (fun f hf=>by
      obtain ⟨i,hi,rfl⟩:=List.getElem_of_mem hf
      have hi':i < fs.size:=by simpa using hi
      have ha:=hall i fs[i] (by simp [hi'])
      rw [List.getElem?_eq_getElem (by omega)] at ha
      exact ⟨_,by simpa using ha,fun z hzz=>hz z (List.mem_flatMap.2 ⟨_,List.getElem_mem _,hzz⟩)⟩)
     simpa using this
    ·cases h
  ·cases h
end
theorem qpx {n:Int} (h:(Lit.int .u8 n).wf=true):∃ k:Nat,n=(k:Int)/\k < 256:=by
 have:0<=n/\n<=255:=by
  simp [Lit.wf,IntKind.min,IntKind.max,IntKind.signed,IntKind.bits] at h
  omega
 exact ⟨n.toNat,by omega,by omega⟩
section
variable {H:Type} {enc:TypeId×Value->H} {W:World} {p:List MemPlace} {c:Value}
theorem ra_u8 (h:q3c enc Tryz.prog W 0 (fun _=>true) true p 5 c):∃ k:Nat,c=.int .u8 (k:Int)/\(Lit.int .u8 (k:Int)).wf=true:=by
 obtain ⟨m,y,hy,_⟩:=h
 obtain ⟨n,e,_,hw⟩:=DataW.trod_int Tryz.underlying5 hy
 obtain ⟨k,rfl,hk⟩:=qpx hw
 injection e with e
 exact ⟨k,e,hw⟩
theorem qta (h:q3c enc Tryz.prog W 0 (fun _=>true) true p 3 c):∃ n:Int,c=.int .i64 n/\(Lit.int .i64 n).wf=true:=by
 obtain ⟨m,y,hy,_⟩:=h
 obtain ⟨n,e,_,hw⟩:=DataW.trod_int Tryz.underlying3 hy
 injection e with e
 exact ⟨n,e,hw⟩
theorem qyk (h:q3c enc Tryz.prog W 0 (fun _=>true) true p 4 c):∃ b:Bool,c=.bool b:=by
 obtain ⟨m,y,hy,_⟩:=h
 obtain ⟨n,e,_⟩:=DataW.trod_bool Tryz.underlying4 hy
 injection e with e
 exact ⟨n,e⟩
theorem q6s (h:q3c enc Tryz.prog W 0 (fun _=>true) true p 9 c):∃ s:ByteArray,c=.string s/\s.size<=maxLen:=by
 obtain ⟨m,y,hy,_⟩:=h
 obtain ⟨s,e,_,hs⟩:=DataW.trod_string Tryz.underlying9 hy
 injection e with e
 exact ⟨s,e,hs⟩
end
end Go.Proofs.YtlnekijhbnlclaaGreatDoor
