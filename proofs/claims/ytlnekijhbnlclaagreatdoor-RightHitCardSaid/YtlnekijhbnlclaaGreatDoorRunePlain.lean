/-
  Whole structs read and written in a block that is known: at a list of operations, at a step of a region that draws. No program.
-/
import Derived.Deep.MidRow
import Derived.Test.YtlnekijhbnlclaaGreatDoorFlowPlain
import Derived.BigQuiet
import Derived.Deep.RegionHeld3
import Derived.StillTail
import Derived.RangeFuncCalls
import Derived.TacticsIn
import Derived.Shelf.Strings.Builder1
import Derived.Shelf.Small.Utf8
import Derived.Shelf.Small.Bits
import Derived.Shelf.Small.Strs
import Derived.Shelf.Small.Wraps
import Derived.Shelf.Strings.BuilderF
import Derived.Shelf.Strings.BuilderK
import Derived.Shelf.Strconv.Itoa0
import Derived.Shelf.Strings.Search1
import Derived.Shelf.Strings.Search2
import Derived.Shelf.Strings.Search3
import Derived.Shelf.Strings.Count
import Derived.Shelf.LaysM
import Derived.Shelf.Strings.Shaped
import Derived.Shelf.Strings.Split
import Derived.Shelf.Strings.SplitShaped
import Derived.Shelf.Strings.Runes
import Derived.Shelf.Bits.Mul64
import Derived.Shelf.Unicode.DecodeSlow
import Derived.Ground.Names2Prog
import Derived.Shelf.Slices.SearchI
import Derived.Ground.SlsfProg
import Derived.Shelf.SlSortCmp.Insertion
import Derived.Shelf.SlSortCmp.Insertion1
import Derived.Test.YtlnekijhbnlclaaGreatDoorProg
import Derived.Deep.QuietTactic
import Derived.WalkKit
import Derived.Lib.Bytealg
namespace Go.Proofs.YtlnekijhbnlclaaGreatDoor
open Go.RowKit
def setL:List Value->Nat->List Value->List Value
 | L,_,[]=>L
 | L,o,v :: r=>setL (L.set o v) (o+1) r
theorem qam:∀ (r:List Value) (L:List Value) (o:Nat),(setL L o r).length=L.length
 | [],_,_=>rfl
 | v :: r,L,o=>by rw [setL,qam r,List.length_set]
theorem q4j:∀ (r B A C:List Value),B.length=r.length->setL (A ++ (B ++ C)) A.length r=A ++ (r ++ C)
 | [],[],_,_,_=>rfl
 | v :: r,b :: B,A,C,h=>by
  have h':B.length=r.length:=by simpa using h
  have e:(A ++ (b :: B ++ C)).set A.length v=(A ++ [v]) ++ (B ++ C):=by simp
  rw [setL,e,show A.length+1=(A ++ [v]).length by simp,q4j r B (A ++ [v]) C h']
  simp
theorem qjd {L r:List Value} (h:L.length=r.length):setL L 0 r=r:=by
 have:=q4j r L [] [] h
 simpa using this
theorem q0h:∀ (vs:List Value) (w:World) (g o:Nat) (t:TypeId) (L:List Value),Blk w g t L.toArray->Blk (w.setCells g o vs) g t (setL L o vs).toArray/\Kept [g] w (w.setCells g o vs)/\(w.setCells g o vs).heap.size=w.heap.size
 | [],w,g,o,t,L,h=>⟨h,Kept.refl _ _,rfl⟩
 | v :: r,w,g,o,t,L,h=>by
  have h1:Blk (w.setCell ⟨g,o,none⟩ v) g t (L.set o v).toArray:=by
   have:=h.set_ o v
   simpa using this
  obtain ⟨a,b,c⟩:=q0h r _ g (o+1) t _ h1
  refine ⟨a,((Kept.refl [g] w).setCell (p:=⟨g,o,none⟩) (by simp) v).trans b,?_⟩
  show ((w.setCell ⟨g,o,none⟩ v).setCells g (o+1) r).heap.size=_
  rw [c]
  simp [World.setCell]
theorem qkm {w:World} {g o n:Nat} {t:TypeId} {L:List Value} (h:Blk w g t L.toArray) (hn:o+n<=L.length):w.there g o n:=fun j hj=>by
 refine ⟨?_,h.frozen _⟩
 rw [h.cell,List.getElem?_toArray,List.getElem?_eq_getElem (by omega)]; rfl
theorem q6n {w:World} {g o:Nat} {t:TypeId} {L cs:List Value} (h:Blk w g t L.toArray) (hc:∀ j v,cs[j]?=some v->L[o+j]?=some v):w.rangeAt g o cs:=fun j v hv=>by
 rw [h.cell,List.getElem?_toArray]
 exact hc j v hv
section
variable {P:Program} {ops:Array Oper} {rest:List Oper} {op:Oper} {a:Act} {w:World} {K:Act->World->Prop} {Q:Exit->Act->World->Prop} {E:Prop}
theorem q7i (ty:TypeId) (x y:Operand) (ho:op.op=.store ty x y) (g o:Nat) (t:TypeId) (L cs:List Value) (hx:a.eval x=.pointer (some ⟨g,o,none⟩)) (hg:Blk w g t L.toArray)
  (hy:a.eval y=.agg cs.toArray) (hs:o+cs.length<=L.length) (hi:(P.info? ty).map (·.size)=some cs.length) (h1:∀ v ∈ cs,v.oneCell'=true)
  (h:∀ w',Blk w' g t (setL L o cs).toArray->Kept [g] w w'->w'.heap.size=w.heap.size->K (a.put op.dst undef) w'):op.wp P a w K Q:=by
 obtain ⟨h2,h3,h4⟩:=q0h cs w g o t L hg
 exact wp_store_mid ty x y ho g o cs.toArray hx hy (qkm hg (by simpa using hs)) (by simpa using hi) (all_oneCell_toArray h1) (h _ (by simpa using h2) (by simpa using h3) (by simpa using h4))
theorem qmd (hgd:op.guard=none) (ty:TypeId) (x y:Operand) (ho:op.op=.store ty x y) (g o:Nat) (t:TypeId) (L cs:List Value) (hx:a.eval x=.pointer (some ⟨g,o,none⟩)) (hg:Blk w g t L.toArray)
  (hy:a.eval y=.agg cs.toArray) (hs:o+cs.length<=L.length) (hi:(P.info? ty).map (·.size)=some cs.length) (h1:∀ v ∈ cs,v.oneCell'=true)
  (h:∀ w',Blk w' g t (setL L o cs).toArray->Kept [g] w w'->w'.heap.size=w.heap.size->wpList P ops Q rest (a.put op.dst undef) w'):wpList P ops Q (op :: rest) a w :=
 wpList_plain hgd fun _ hK=>q7i ty x y ho g o t L cs hx hg hy hs hi h1 fun w' a1 a2 a3=>hK _ _ (h w' a1 a2 a3)
theorem qoe (hgd:op.guard=none) (ty:TypeId) (x y:Operand) (ho:op.op=.store ty x y) (g o:Nat) (t:TypeId) (L cs:List Value) (hx:a.eval x=.pointer (some ⟨g,o,none⟩)) (hg:Blk w g t L.toArray)
  (hy:a.eval y=.agg cs.toArray) (hs:o+cs.length<=L.length) (hi:(P.info? ty).map (·.size)=some cs.length) (h1:∀ v ∈ cs,v.oneCell'=true)
  (h:∀ w',Blk w' g t (setL L o cs).toArray->Kept [g] w w'->w'.heap.size=w.heap.size->K (a.put op.dst undef) w') :
  if Region.wanted op (yielded ops a.tmps)=true then Oper.wp P op a w K Q else E:=by
 have hw:Region.wanted op (yielded ops a.tmps)=true:=by simp [Region.wanted,hgd]
 rw [if_pos hw]
 exact q7i ty x y ho g o t L cs hx hg hy hs hi h1 h
theorem q4m (ty:TypeId) (x:Operand) (ho:op.op=.load ty x) (g o:Nat) (t:TypeId) (L cs:List Value) (d:TypeDesc) (hx:a.eval x=.pointer (some ⟨g,o,none⟩)) (hg:Blk w g t L.toArray)
  (hc:∀ j v,cs[j]?=some v->L[o+j]?=some v) (hu:P.underlying ty=some d) (hd:d.isRow=true) (hi:(P.info? ty).map (·.size)=some cs.length)
  (h:K (a.put op.dst (.agg cs.toArray)) w):op.wp P a w K Q :=
 wp_load_mid ty x ho g o hx cs d (q6n hg hc) hu hd hi h
theorem qwa (hgd:op.guard=none) (ty:TypeId) (x:Operand) (ho:op.op=.load ty x) (g o:Nat) (t:TypeId) (L cs:List Value) (d:TypeDesc) (hx:a.eval x=.pointer (some ⟨g,o,none⟩)) (hg:Blk w g t L.toArray)
  (hc:∀ j v,cs[j]?=some v->L[o+j]?=some v) (hu:P.underlying ty=some d) (hd:d.isRow=true) (hi:(P.info? ty).map (·.size)=some cs.length)
  (h:wpList P ops Q rest (a.put op.dst (.agg cs.toArray)) w):wpList P ops Q (op :: rest) a w :=
 wpList_plain hgd fun _ hK=>q4m ty x ho g o t L cs d hx hg hc hu hd hi (hK _ _ h)
theorem qfl (ty:TypeId) (x y:Operand) (ho:op.op=.store ty x y) (g o:Nat) (t:TypeId) (L:List Value) (v:Value) (hx:a.eval x=.pointer (some ⟨g,o,none⟩)) (hg:Blk w g t L.toArray)
  (hy:a.eval y=v) (hs:o < L.length) (h1:v.oneCell'=true) (hi:(storeVar ty ⟨g,o,none⟩ v).run P w=(store ⟨g,o,none⟩ v).run P w)
  (h:∀ w',Blk w' g t (L.set o v).toArray->Kept [g] w w'->w'.heap.size=w.heap.size->K (a.put op.dst undef) w'):op.wp P a w K Q:=by
 have hc:w.cell? ⟨g,o,none⟩=some L[o]:=by rw [hg.cell,List.getElem?_toArray,List.getElem?_eq_getElem hs]
 have hf:=hg.frozen o
 have hr:(storeVar ty ⟨g,o,none⟩ v).run P w=.ok () (w.setCell ⟨g,o,none⟩ v):=by
  rw [hi,run_store P w _ v _ h1]
  simp [hc,hf]
 unfold Oper.wp execOp
 simp only [ho,hx,hy,Instr.storeAt,Instr.sureAddr,Sem.run_bind,Sem.run_pure,Result.andThen_ok,hr]
 refine h _ ?_ ((Kept.refl _ _).setCell (by simp) v) (by simp [World.setCell])
 have:=hg.set_ o v
 simpa using this
theorem q0m (hgd:op.guard=none) (ty:TypeId) (x y:Operand) (ho:op.op=.store ty x y) (g o:Nat) (t:TypeId) (L:List Value) (v:Value) (hx:a.eval x=.pointer (some ⟨g,o,none⟩)) (hg:Blk w g t L.toArray)
  (hy:a.eval y=v) (hs:o < L.length) (h1:v.oneCell'=true) (hi:(storeVar ty ⟨g,o,none⟩ v).run P w=(store ⟨g,o,none⟩ v).run P w)
  (h:∀ w',Blk w' g t (L.set o v).toArray->Kept [g] w w'->w'.heap.size=w.heap.size->wpList P ops Q rest (a.put op.dst undef) w'):wpList P ops Q (op :: rest) a w :=
 wpList_plain hgd fun _ hK=>qfl ty x y ho g o t L v hx hg hy hs h1 hi fun w' a1 a2 a3=>hK _ _ (h w' a1 a2 a3)
theorem qal (hgd:op.guard=none) (ty:TypeId) (x y:Operand) (ho:op.op=.store ty x y) (g o:Nat) (t:TypeId) (L:List Value) (v:Value) (hx:a.eval x=.pointer (some ⟨g,o,none⟩)) (hg:Blk w g t L.toArray)
  (hy:a.eval y=v) (hs:o < L.length) (h1:v.oneCell'=true) (hi:(storeVar ty ⟨g,o,none⟩ v).run P w=(store ⟨g,o,none⟩ v).run P w)
  (h:∀ w',Blk w' g t (L.set o v).toArray->Kept [g] w w'->w'.heap.size=w.heap.size->K (a.put op.dst undef) w') :
  if Region.wanted op (yielded ops a.tmps)=true then Oper.wp P op a w K Q else E:=by
 have hw:Region.wanted op (yielded ops a.tmps)=true:=by simp [Region.wanted,hgd]
 rw [if_pos hw]
 exact qfl ty x y ho g o t L v hx hg hy hs h1 hi h
end
theorem q8f {P:Program} {ops:Array Oper} {C:World->Prop} {Q:Act->Prop} {a:Act} {o:Oper} {rest:List Oper} (hw:Region.wanted o (yielded ops a.tmps)=true) (ty:TypeId) (x:Operand) (ho:o.op=.load ty x)
  (g off:Nat) (cs:List Value) (d:TypeDesc) (hx:a.eval x=.pointer (some ⟨g,off,none⟩)) (hC:∀ w,C w->w.rangeAt g off cs) (hu:P.underlying ty=some d) (hd:d.isRow=true) (hi:(P.info? ty).map (·.size)=some cs.length)
  (h:wpQuiet P ops C Q rest (a.put o.dst (.agg cs.toArray))):wpQuiet P ops C Q (o :: rest) a :=
 BigFrame.wpQuiet_want hw fun _ hK=>⟨.agg cs.toArray,fun w hcw=>by
  unfold Oper.quietAt execOp
  simp only [ho,hx,Instr.loadAt,Instr.sureAddr,Sem.run_bind,Sem.run_pure,Result.andThen_ok,run_loadVar_mid w g off ty cs d (hC w hcw) hu hd hi]
  exact ⟨rfl,rfl⟩,hK _ h⟩
theorem qwl {w:World} {g:Nat} {t:TypeId} {L:List Value} (h:Blk w g t L.toArray):w.rangeAt g 0 L:=q6n h fun j v hv=>by rwa [Nat.zero_add]
end Go.Proofs.YtlnekijhbnlclaaGreatDoor
namespace Go.Proofs.YtlnekijhbnlclaaGreatDoor
open Go.RowKit
section
variable {P:Program} {ops:Array Oper} {Q:Exit->Act->World->Prop} {md:Region.Mode} {S:World->Prop} {x:List Nat}
def qjb (P:Program) (md:Region.Mode) (ops:Array Oper) (Q:Exit->Act->World->Prop) (S:World->Prop) (x:List Nat):Nat->Array Bool->Act->World->Prop
 | 0,listed,a,w=>Region.ready md ops listed=[]/\Q .normal a w
 | fuel+1,listed,a,w =>
  (Region.ready md ops listed=[]->Q .normal a w) /\
  ∀ i ∈ Region.ready md ops listed,wpOp P ops Q i (fun a' w'=>(i ∈ x\/S w')/\qjb P md ops Q S x fuel (listed.setIfInBounds i true) a' w') a w
theorem q3f:∀ (fuel:Nat) (listed:Array Bool) (a:Act) (w:World),qjb P md ops Q S x fuel listed a w->wpAny P md ops Q fuel listed a w
 | 0,_,_,_,h=>h
 | fuel+1,_,_,_,h=>⟨h.1,fun i hi=>wpOp_mono (fun a' w' h'=>q3f fuel _ a' w' h'.2) (h.2 i hi)⟩
def qhd (md:Region.Mode) (ops:Array Oper):Nat->Nat->Nat->Bool
 | 0,_,_=>false
 | f+1,j,i=>match ops[j]? with
  | some oj=>oj.after.any fun e=>Region.binds md e && (e.on == i || qhd md ops f e.on i)
  | none=>false
def ShutB (md:Region.Mode) (ops:Array Oper) (listed:Array Bool):Prop:=∀ j oj,ops[j]?=some oj->listed.getD j false=true->∀ e ∈ oj.after,Region.binds md e=true->listed.getD e.on false=true
theorem ShutB.set {listed:Array Bool} (h:ShutB md ops listed) {j:Nat} (hj:j ∈ Region.ready md ops listed):ShutB md ops (listed.setIfInBounds j true):=fun k ok hk hl e he hb=>by
 by_cases hjk:j=k
 ·subst hjk
  obtain ⟨_,oj,hoj,hall⟩:=mem_ready.1 hj
  rw [hk] at hoj
  cases hoj
  exact getD_set_true (hall e he hb)
 ·rw [getD_set_ne false hjk] at hl
  exact getD_set_true (h k ok hk hl e he hb)
theorem ShutB.start (n:Nat):ShutB md ops (Array.replicate n false):=fun j oj _ hl=>by rw [getD_replicate_false] at hl; cases hl
theorem ShutB.reach {listed:Array Bool} (h:ShutB md ops listed):∀ (f j i:Nat) {oj:Oper},ops[j]?=some oj->(∀ e ∈ oj.after,Region.binds md e=true->listed.getD e.on false=true)->qhd md ops f j i=true->listed.getD i false=true
 | 0,_,_,_,_,_,hr=>by simp [qhd] at hr
 | f+1,j,i,oj,hj,hall,hr=>by
  simp only [qhd,hj] at hr
  obtain ⟨e,he,h2⟩:=Array.any_eq_true'.1 hr
  simp only [Bool.and_eq_true,Bool.or_eq_true,beq_iff_eq] at h2
  have hl:=hall e he h2.1
  rcases h2.2 with h3 | h3
  ·rw [<-h3]; exact hl
  ·cases hk:ops[e.on]? with
   | none=>cases f <;> simp [qhd,hk] at h3
   | some ok=>exact ShutB.reach h f e.on i hk (fun e' he' hb'=>h e.on ok hk hl e' he' hb') h3
theorem q8m {i:Nat} {oi:Oper} {v:Value} (hi:ops[i]?=some oi) (hsel:∀ (j:Nat) (o:Oper) cs b,ops[j]?=some o->o.op≠.select cs b)
  (hQ:∀ c a w,Q (.panic c) (a.put oi.dst v) w->Q (.panic c) a w) (hxi:x.all (fun y=>qhd md ops ops.size y i)=true) :
  ∀ (fuel:Nat) (listed:Array Bool) (a:Act) (w:World),ShutB md ops listed ->
   (∀ j oj,ops[j]?=some oj->j≠i->listed.getD j true=false->(∀ e ∈ oj.after,Region.binds md e=true->e.on≠i)->oi.apart ops oj=true) ->
   i ∈ Region.ready md ops listed->YieldsIf P ops S oi v a->S w ->
   qjb P md ops Q S x fuel (listed.setIfInBounds i true) (a.put oi.dst v) w->qjb P md ops Q S x (fuel+1) listed a w:=by
 intro fuel
 induction fuel with
 | zero =>
  intro listed a w _ _ hr hy hS H
  refine ⟨fun h=>(by rw [h] at hr; cases hr),fun j hj=>?_⟩
  by_cases hji:j=i
  ·subst hji; exact hy.wpOp hi hS ⟨.inr hS,H⟩
  ·have:=ready_mono hj hji
   rw [H.1] at this
   cases this
 | succ fuel ih =>
  intro listed a w hcl hfree hr hy hS H
  refine ⟨fun h=>(by rw [h] at hr; cases hr),fun j hj=>?_⟩
  by_cases hji:j=i
  ·subst hji; exact hy.wpOp hi hS ⟨.inr hS,H⟩
  ·have h1:=H.2 j (ready_mono hj hji)
   obtain ⟨hjun,oj,hoj,hall⟩:=mem_ready.1 hj
   have hnot:∀ e ∈ oj.after,Region.binds md e=true->e.on≠i:=fun e he hb heq=>by
    have h1:=hall e he hb
    have h0:=(mem_ready.1 hr).1
    rw [heq] at h1
    rcases Nat.lt_or_ge i listed.size with h' | h'
    ·simp [h'] at h0 h1; rw [h0] at h1; cases h1
    ·simp [Array.getElem?_eq_none h'] at h1
   have hjx:j ∉ x:=fun hm=>by
    have h3:=List.all_eq_true.1 hxi j hm
    have h4:=hcl.reach ops.size j i hoj hall h3
    have h0:=(mem_ready.1 hr).1
    rw [getD_both h0] at h4
    cases h4
   have h2:=wpOp_putIf hoj (hfree j oj hoj hji hjun hnot) (fun cs b=>hsel i oi cs b hi) (fun cs b=>hsel j oj cs b hoj) hQ hy h1
   have hfree':∀ k ok,ops[k]?=some ok->k≠i->(listed.setIfInBounds j true).getD k true=false ->
     (∀ e ∈ ok.after,Region.binds md e=true->e.on≠i)->oi.apart ops ok=true:=fun k ok hk hki hun hno=>by
    refine hfree k ok hk hki ?_ hno
    by_cases hjk:j=k
    ·subst hjk; exact hjun
    ·rw [getD_set_ne true hjk] at hun; exact hun
   refine wpOp_mono (fun a' w' h3=>⟨h3.2.1,ih (listed.setIfInBounds j true) a' w' (hcl.set hj) hfree' (ready_mono hr (Ne.symm hji)) h3.1 (h3.2.1.resolve_left hjx) ?_⟩) h2
   rw [Array.setIfInBounds_comm _ _ hji]
   exact h3.2.2
def qfg:Op->Bool
 | .move _ | .assign _ | .pick .. | .load .. | .fieldAddr .. | .indexAddr .. | .extract .. | .binOp .. | .unOp .. | .build .. | .index .. | .field .. | .nilCheck _=>true
 | _=>false
theorem qvr {s:Sem Value} {w:World} {n:Next} {w':World} (h:(Sem.run P (do pure (Next.value (<-s))) w)=.ok n w'):∃ v,n=.value v:=by
 rw [Sem.run_bind] at h
 cases hs:s.run P w <;> simp [hs,Result.andThen] at h
 exact ⟨_,h.1.symm⟩
theorem qnt {s:Sem Bool} {u y:Value} {w:World} {n:Next} {w':World} (h:(Sem.run P (do pure (Next.value (if <-s then u else y))) w)=.ok n w'):∃ v,n=.value v:=by
 rw [Sem.run_bind] at h
 cases hs:s.run P w <;> simp [hs,Result.andThen] at h
 exact ⟨_,h.1.symm⟩
theorem qjq {ρ:Operand->Value} {o:Oper} {w:World} (h:qfg o.op=true) {n:Next} {w':World} (hr:(execOp ρ o).run P w=.ok n w'):∃ v,n=.value v:=by
 obtain ⟨d,op,t,p,af,g⟩:=o
 cases op <;> first | (simp [qfg] at h; done) | exact qvr hr | exact qnt hr | (simp [execOp] at hr; exact ⟨_,hr.1.symm⟩) | skip
 rename_i y
 simp only [execOp] at hr
 split at hr
 ·simp [runtimePanic] at hr
 ·simp [runtimePanic] at hr
 ·simp [runtimePanic] at hr
 ·split at hr
  ·simp [runtimePanic] at hr
  ·rw [Sem.run_bind] at hr
   cases hp:Sem.run P program w with
   | halt e w2=>rw [hp] at hr; simp [Result.andThen] at hr
   | ok pr w2 =>
    rw [hp] at hr
    simp only [Result.andThen,Sem.run_bind] at hr
    split at hr
    ·split at hr
     ·simp [unsupported] at hr
     ·simp at hr; exact ⟨_,hr.1.symm⟩
    ·simp at hr
  ·simp at hr; exact ⟨_,hr.1.symm⟩
 ·simp at hr; exact ⟨_,hr.1.symm⟩
theorem qtm {o:Oper} {a:Act} {K:Act->Prop} (hw:Region.wanted o (yielded ops a.tmps)=true) (hh:qfg o.op=true) (h:o.quiet P a S K):∃ v,YieldsIf P ops S o v a/\K (a.put o.dst v):=by
 obtain ⟨v,hq,hk⟩:=h
 refine ⟨v,.inl ⟨hw,fun w hw'=>?_⟩,hk⟩
 have h1:=hq w hw'
 unfold Oper.quietAt at h1
 cases hr:(execOp a.eval o).run P w with
 | halt e w2=>rw [hr] at h1; exact h1.elim
 | ok n w2 =>
  obtain ⟨u,rfl⟩:=qjq (P:=P) hh hr
  rw [hr] at h1
  obtain ⟨rfl,rfl⟩:=h1
  rfl
def pickL (ops:Array Oper) (hs:List Nat):List Oper:=hs.filterMap fun i=>ops[i]?
def qwc (md:Region.Mode) (ops:Array Oper) (x:List Nat):List Nat->Array Bool->Bool
 | [],_=>true
 | i :: r,listed=>(Region.ready md ops listed).contains i && Region.free md ops listed i && x.all (fun y=>qhd md ops ops.size y i) && (((ops[i]?).map fun o=>qfg o.op).getD false) && qwc md ops x r (listed.setIfInBounds i true)
def qme (md:Region.Mode) (ops:Array Oper):List Nat->Array Bool->Bool
 | [],listed=>(Region.ready md ops listed).isEmpty
 | t :: r,listed=>decide (Region.ready md ops listed=[t]) && qme md ops r (listed.setIfInBounds t true)
def que (hs:List Nat) (listed:Array Bool):Array Bool:=hs.foldl (fun l i=>l.setIfInBounds i true) listed
def wpMix (P:Program) (ops:Array Oper) (Q:Exit->Act->World->Prop) (S:World->Prop) (x:List Nat):List Nat->Act->World->Prop
 | [],a,w=>Q .normal a w
 | t :: r,a,w=>wpOp P ops Q t (fun a' w'=>(t ∈ x\/S w')/\wpMix P ops Q S x r a' w') a w
theorem qla {a:Act} {w:World} (h:Q .normal a w):wpMix P ops Q S x [] a w:=h
theorem qca {t:Nat} {r:List Nat} {o:Oper} {a:Act} {w:World} (ho:ops[t]?=some o)
  (h:∀ K:Act->World->Prop,Shut (∀ a' w',(t ∈ x\/S w')->wpMix P ops Q S x r a' w'->K a' w')->if Region.wanted o (yielded ops a.tmps)=true then Oper.wp P o a w K Q else K (a.put o.dst undef) w):wpMix P ops Q S x (t :: r) a w :=
 wpOp_step ho fun K hK=>h K fun a' w' h1 h2=>hK a' w' ⟨h1,h2⟩
theorem qdk:∀ (ts:List Nat) (listed:Array Bool) (a:Act) (w:World),qme md ops ts listed=true->wpMix P ops Q S x ts a w->qjb P md ops Q S x ts.length listed a w
 | [],listed,a,w,hB,h=>⟨by simpa [qme] using hB,h⟩
 | t :: r,listed,a,w,hB,h=>by
  simp only [qme,Bool.and_eq_true,decide_eq_true_eq] at hB
  refine ⟨fun h0=>(by rw [hB.1] at h0; cases h0),fun i hi=>?_⟩
  rw [hB.1] at hi
  have hit:i=t:=by simpa using hi
  subst hit
  exact wpOp_mono (fun a' w' h'=>⟨h'.1,qdk r _ a' w' hB.2 h'.2⟩) h
theorem q8l (hsel:Region.noSelect ops=true) (hQ:∀ c a d v w,Q (.panic c) (Act.put a d v) w->Q (.panic c) a w) {ts:List Nat} {w:World} (hS:S w) :
  ∀ (hs:List Nat) (listed:Array Bool) (a:Act),ShutB md ops listed->qwc md ops x hs listed=true->qme md ops ts (que hs listed)=true ->
   wpQuiet P ops S (fun a'=>wpMix P ops Q S x ts a' w) (pickL ops hs) a->qjb P md ops Q S x (hs.length+ts.length) listed a w
 | [],listed,a,_,_,hT,h=>by
  rw [List.length_nil,Nat.zero_add]
  exact qdk ts listed a w hT h
 | i :: r,listed,a,hcl,hB,hT,h=>by
  simp only [qwc,Bool.and_eq_true] at hB
  obtain ⟨⟨⟨⟨hr,hf⟩,hx⟩,hh⟩,hB⟩:=hB
  cases hi:ops[i]? with
  | none=>rw [hi] at hh; cases hh
  | some o =>
   rw [hi] at hh
   have e:pickL ops (i :: r)=o :: pickL ops r:=by simp [pickL,hi]
   rw [e] at h
   unfold wpQuiet at h
   rw [show (i :: r).length+ts.length=(r.length+ts.length)+1 by simp; omega]
   have hg:∃ v,YieldsIf P ops S o v a/\wpQuiet P ops S (fun a'=>wpMix P ops Q S x ts a' w) (pickL ops r) (a.put o.dst v):=by
    cases hw:Region.wanted o (yielded ops a.tmps) with
    | true=>rw [hw,if_pos rfl] at h; exact qtm hw (by simpa using hh) h
    | false=>rw [hw,if_neg Bool.false_ne_true] at h; exact ⟨undef,.inr ⟨hw,rfl⟩,h⟩
   obtain ⟨v,hy,hk⟩:=hg
   exact q8m hi (Region.noSelect_spec hsel) (fun c a w=>hQ c a _ _ w) hx _ listed a w hcl (Region.free_spec hi hf) (by simpa using hr) hy hS (q8l hsel hQ hS r _ _ (hcl.set (by simpa using hr)) hB hT hk)
def mixB (md:Region.Mode) (ops:Array Oper) (x:List Nat) (hs ts:List Nat):Bool :=
 Region.noSelect ops && decide (hs.length+ts.length=ops.size) && qwc md ops x hs (Array.replicate ops.size false) && qme md ops ts (que hs (Array.replicate ops.size false))
theorem qri {hs ts:List Nat} (hB:mixB md ops x hs ts=true) (hQ:∀ c a d v w,Q (.panic c) (Act.put a d v) w->Q (.panic c) a w) {a:Act} {w:World} (hS:S w)
  (h:wpQuiet P ops S (fun a'=>wpMix P ops Q S x ts a' w) (pickL ops hs) a):wpAny P md ops Q ops.size (Array.replicate ops.size false) a w:=by
 simp only [mixB,Bool.and_eq_true,decide_eq_true_eq] at hB
 obtain ⟨⟨⟨h1,h2⟩,h3⟩,h4⟩:=hB
 have:=q8l (ts:=ts) h1 hQ hS hs _ a (ShutB.start _) h3 h4 h
 rw [h2] at this
 exact q3f _ _ _ _ this
def pickD (l:List Oper) (hs:List Nat):List Oper:=hs.map fun i=>l.getD i { dst:=none,op:=.move (.const undef),type:=0,pos:= "",after:=#[],guard:=none}
theorem qae {l:List Oper}:∀ (hs:List Nat) (listed:Array Bool),qwc md l.toArray x hs listed=true->pickL l.toArray hs=pickD l hs
 | [],_,_=>rfl
 | i :: r,listed,h=>by
  simp only [qwc,Bool.and_eq_true] at h
  have ih:=qae r _ h.2
  cases hi:l.toArray[i]? with
  | none=>rw [hi] at h; exact absurd h.1.2 (by simp)
  | some o =>
   have e:l[i]?=some o:=by simpa using hi
   simp only [pickL,pickD,List.filterMap_cons,hi,List.map_cons] at ih ⊢
   rw [ih,List.getD_eq_getElem?_getD,e]
   rfl
theorem qna {id:Nat} {a:Act} {w:World} {l:List Oper} (x:List Nat) (hs ts:List Nat) (S:World->Prop) (hm:P.follows .mixedOrders=true) (hB:mixB .any l.toArray x hs ts=true)
  (hQ:∀ c a d v w,Q (.panic c) (Act.put a d v) w->Q (.panic c) a w) (hS:S w.drew) (h:wpQuiet P l.toArray S (fun a'=>wpMix P l.toArray Q S x ts a' w.drew) (pickD l hs) a):(Code.region id l.toArray true).wp P Q a w:=by
 refine wp_region_any hm (qri hB hQ hS ?_)
 simp only [mixB,Bool.and_eq_true] at hB
 rw [qae hs _ hB.1.2]
 exact h
theorem qpp {o:Oper} {a:Act} {w:World} {next:Act->World->Prop} {n l0:Nat} (hd:∀ c,o.op≠.defer c) (h:o.wp P a w next Q):o.wpIn (Fence.wide.inRound l0) n P a w next Q:=by
 refine ⟨fun _ _=>trivial,?_⟩
 rw [show (Fence.wide.inRound l0).round=some l0 from rfl,Oper.semAt_some l0 a.eval o hd]
 unfold Oper.wp at h
 revert h
 cases (execOp a.eval o).run P w with
 | halt e w2=>cases e <;> intro h <;> first | exact h | exact h.elim
 | ok u w2 =>
  cases u <;> intro h <;> first | exact h | exact h.elim | skip
  ·exact ⟨fun hh=>(by cases hh),CallsIn.inRound l0 ((callsIn_wide.2 h).mono fun e w3 he=>by cases e <;> exact he)⟩
  ·exact ⟨fun hh=>(by cases hh),fun c cs _=>let ⟨v,w',r,s⟩:=h c cs; ⟨v,w',r,stepsIn_wide.2 s⟩⟩
theorem qex {o:Oper} {a:Act} {w:World} {next next':Act->World->Prop} {F:Fence} {n:Nat} (hm:∀ a w,next a w->next' a w) (h:o.wpIn F n P a w next Q):o.wpIn F n P a w next' Q:=by
 refine ⟨h.1,?_⟩
 have h2:=h.2
 revert h2
 cases (o.semAt F.round a.eval).run P w with
 | halt e w2=>cases e <;> intro h <;> first | exact h | exact h.elim
 | ok u w2 =>
  cases u <;> intro h <;> first | exact hm _ _ h | exact h.elim | skip
  all_goals
   first
    | exact ⟨h.1,RowsIn.mono h.2 fun v w3 he=>hm _ _ he⟩
    | exact ⟨h.1,CallsIn.mono h.2 fun e w3 he=>by cases e <;> first | exact hm _ _ he | exact he⟩
    | exact ⟨h.1,RoundIn.mono h.2 fun e w3 he=>by cases e <;> first | exact hm _ _ he | exact he⟩
theorem qvd {n l0:Nat} (hL:¬ LetsOut Q) (hd:∀ (j:Nat) (o:Oper) c,ops[j]?=some o->o.op≠.defer c):∀ (l:List Nat) (a:Act) (w:World),wpOps P ops Q l a w->wpOpsIn (Fence.wide.inRound l0) n P ops Q l a w
 | [],_,_,h=>h
 | i :: r,a,w,h=>by
  unfold wpOps at h
  unfold wpOpsIn
  cases ho:ops[i]? with
  | none=>rw [ho] at h; exact qvd hL hd r a w h
  | some o =>
   rw [ho] at h
   simp only at h ⊢
   split
   ·rename_i hw
    rw [if_pos hw] at h
    rcases h with h | h
    ·exact qex (fun a w hh=>qvd hL hd r a w hh) (qpp (hd i o · ho) h)
    ·exact absurd h.2 hL
   ·rename_i hw
    rw [if_neg hw] at h
    exact ⟨fun _ _=>trivial,qvd hL hd r _ w h⟩
def q2e (ops:Array Oper):Bool:=ops.all fun o=>match o.op with | .defer _=>false | _=>true
theorem qkg (h:q2e ops=true) (j:Nat) (o:Oper) (c:Call) (ho:ops[j]?=some o):o.op≠.defer c:=by
 intro heq
 have:=Array.all_eq_true_iff_forall_mem.1 h o (Array.mem_of_getElem? ho)
 simp [heq] at this
theorem qai {id n l0:Nat} {a:Act} {w:World} {l:List Oper} (x:List Nat) (hs ts:List Nat) (S:World->Prop) (hm:P.follows .mixedOrders=true) (hB:(mixB .any l.toArray x hs ts && q2e l.toArray)=true)
  (hL:¬ LetsOut Q) (hQ:∀ c a d v w,Q (.panic c) (Act.put a d v) w->Q (.panic c) a w) (hS:S w.drew) (h:wpQuiet P l.toArray S (fun a'=>wpMix P l.toArray Q S x ts a' w.drew) (pickD l hs) a):(Code.region id l.toArray true).wpIn (Fence.wide.inRound l0) n P Q a w:=by
 rw [Bool.and_eq_true] at hB
 have hB1:=hB.1
 simp only [mixB,Bool.and_eq_true] at hB1
 rw [<-qae hs _ hB1.1.2] at h
 refine wpIn_region_draw fun t=>qvd hL (fun j o c ho=>qkg hB.2 j o c ho) _ _ _ ?_
 simp only [Region.schedule,hm,Bool.true_or,if_true]
 exact wpAny_sound l.toArray.size t _ a _ (qri hB.1 hQ hS h)
end
end Go.Proofs.YtlnekijhbnlclaaGreatDoor
namespace Go.Proofs.YtlnekijhbnlclaaGreatDoor
open Go.RowKit
section
variable {P:Program} {ops:Array Oper} {Q:Exit->Act->World->Prop} {md:Region.Mode} {S:World->Prop} {x:List Nat}
theorem qui (hsel:Region.noSelect ops=true) (hQ:∀ c a d v w,Q (.panic c) (Act.put a d v) w->Q (.panic c) a w) {n:Nat} {w:World} (hS:S w) :
  ∀ (hs:List Nat) (listed:Array Bool) (a:Act),ShutB md ops listed->qwc md ops x hs listed=true ->
   wpQuiet P ops S (fun a'=>qjb P md ops Q S x n (que hs listed) a' w) (pickL ops hs) a->qjb P md ops Q S x (hs.length+n) listed a w
 | [],listed,a,_,_,h=>by
  rw [List.length_nil,Nat.zero_add]
  exact h
 | i :: r,listed,a,hcl,hB,h=>by
  simp only [qwc,Bool.and_eq_true] at hB
  obtain ⟨⟨⟨⟨hr,hf⟩,hx⟩,hh⟩,hB⟩:=hB
  cases hi:ops[i]? with
  | none=>rw [hi] at hh; cases hh
  | some o =>
   rw [hi] at hh
   have e:pickL ops (i :: r)=o :: pickL ops r:=by simp [pickL,hi]
   rw [e] at h
   unfold wpQuiet at h
   rw [show (i :: r).length+n=(r.length+n)+1 by simp; omega]
   have hg:∃ v,YieldsIf P ops S o v a/\wpQuiet P ops S (fun a'=>qjb P md ops Q S x n (que (i :: r) listed) a' w) (pickL ops r) (a.put o.dst v):=by
    cases hw:Region.wanted o (yielded ops a.tmps) with
    | true=>rw [hw,if_pos rfl] at h; exact qtm hw (by simpa using hh) h
    | false=>rw [hw,if_neg Bool.false_ne_true] at h; exact ⟨undef,.inr ⟨hw,rfl⟩,h⟩
   obtain ⟨v,hy,hk⟩:=hg
   exact q8m hi (Region.noSelect_spec hsel) (fun c a w=>hQ c a _ _ w) hx _ listed a w hcl (Region.free_spec hi hf) (by simpa using hr) hy hS (qui hsel hQ hS r _ _ (hcl.set (by simpa using hr)) hB hk)
theorem q5d {id:Nat} {a:Act} {w:World} {l:List Oper} (x:List Nat) (hs:List Nat) (n:Nat) (S:World->Prop) (hm:P.follows .mixedOrders=true)
  (hB:(Region.noSelect l.toArray && decide (hs.length+n=l.toArray.size) && qwc .any l.toArray x hs (Array.replicate l.toArray.size false))=true)
  (hQ:∀ c a d v w,Q (.panic c) (Act.put a d v) w->Q (.panic c) a w) (hS:S w.drew)
  (h:wpQuiet P l.toArray S (fun a'=>qjb P .any l.toArray Q S x n (que hs (Array.replicate l.toArray.size false)) a' w.drew) (pickD l hs) a):(Code.region id l.toArray true).wp P Q a w:=by
 simp only [Bool.and_eq_true,decide_eq_true_eq] at hB
 obtain ⟨⟨h1,h2⟩,h3⟩:=hB
 rw [<-qae hs _ h3] at h
 have:=qui h1 hQ hS hs _ a (ShutB.start _) h3 h
 rw [h2] at this
 exact wp_region_any hm (q3f _ _ _ _ this)
theorem qba {fuel:Nat} {listed:Array Bool} {a:Act} {w:World} (r:List Nat) (hr:(decide (Region.ready md ops listed=r) && !r.isEmpty)=true)
  (h:∀ i ∈ r,wpOp P ops Q i (fun a' w'=>(i ∈ x\/S w')/\qjb P md ops Q S x fuel (listed.setIfInBounds i true) a' w') a w):qjb P md ops Q S x (fuel+1) listed a w:=by
 simp only [Bool.and_eq_true,decide_eq_true_eq] at hr
 refine ⟨fun h0=>?_,fun i hi=>h i (by rw [<-hr.1]; exact hi)⟩
 have h1:=hr.2
 rw [<-hr.1,h0] at h1
 cases h1
theorem qma {fuel:Nat} {listed:Array Bool} {a:Act} {w:World} (hr:decide (Region.ready md ops listed=[])=true) (h:Q .normal a w):qjb P md ops Q S x fuel listed a w:=by
 have hr:=of_decide_eq_true hr
 cases fuel with
 | zero=>exact ⟨hr,h⟩
 | succ n=>exact ⟨fun _=>h,fun i hi=>by rw [hr] at hi; cases hi⟩
theorem qaa {fuel t:Nat} {listed:Array Bool} {o:Oper} {a:Act} {w:World} (ho:ops[t]?=some o)
  (h:∀ K:Act->World->Prop,Shut (∀ a' w',(t ∈ x\/S w')->qjb P md ops Q S x fuel (listed.setIfInBounds t true) a' w'->K a' w')->if Region.wanted o (yielded ops a.tmps)=true then Oper.wp P o a w K Q else K (a.put o.dst undef) w) :
  wpOp P ops Q t (fun a' w'=>(t ∈ x\/S w')/\qjb P md ops Q S x fuel (listed.setIfInBounds t true) a' w') a w :=
 wpOp_step ho fun K hK=>h K fun a' w' h1 h2=>hK a' w' ⟨h1,h2⟩
end
end Go.Proofs.YtlnekijhbnlclaaGreatDoor
namespace Go.Proofs
open Go.Shelf
def Tryz.lays170_ren:Go.Shelf.Ren:=⟨fun | 170=>172 | n=>n,fun | 70=>279 | 3=>3 | 0=>0 | 72=>282 | 37=>280 | 5=>5 | n=>n,fun | n=>n⟩
theorem Tryz.lays170:Go.Proofs.Lays.n170 Tryz.prog Tryz.lays170_ren:={
 mixed:=by kernel_rfl
 f170:=Tryz.func172.trans (congrArg some (by kernel_rfl))
 t0:=Tryz.underlying0
 a0:=Tryz.isAgg0
 z0:=Tryz.sizeOf0
 v0:=Tryz.zeroValue0
 t3:=Tryz.underlying3
 a3:=Tryz.isAgg3
 z3:=Tryz.sizeOf3
 v3:=Tryz.zeroValue3
 t37:=Tryz.underlying280
 a37:=Tryz.isAgg280
 z37:=Tryz.sizeOf280
 v37:=Tryz.zeroValue280
 t70:=Tryz.underlying279
 a70:=Tryz.isAgg279
 z70:=Tryz.sizeOf279
 v70:=Tryz.zeroValue279
 t72:=Tryz.underlying282
 a72:=Tryz.isAgg282
 z72:=Tryz.sizeOf282
 v72:=Tryz.zeroValue282 }
def Tryz.lays169_ren:Go.Shelf.Ren:=⟨fun | 169=>173 | n=>n,fun | 70=>279 | 9=>9 | 0=>0 | 72=>282 | 37=>280 | 127=>316 | 3=>3 | 5=>5 | n=>n,fun | n=>n⟩
theorem Tryz.lays169:Go.Proofs.Lays.n169 Tryz.prog Tryz.lays169_ren:={
 mixed:=by kernel_rfl
 f169:=Tryz.func173.trans (congrArg some (by kernel_rfl))
 t0:=Tryz.underlying0
 a0:=Tryz.isAgg0
 z0:=Tryz.sizeOf0
 v0:=Tryz.zeroValue0
 t3:=Tryz.underlying3
 a3:=Tryz.isAgg3
 z3:=Tryz.sizeOf3
 v3:=Tryz.zeroValue3
 t9:=Tryz.underlying9
 a9:=Tryz.isAgg9
 z9:=Tryz.sizeOf9
 v9:=Tryz.zeroValue9
 t37:=Tryz.underlying280
 a37:=Tryz.isAgg280
 z37:=Tryz.sizeOf280
 v37:=Tryz.zeroValue280
 t70:=Tryz.underlying279
 a70:=Tryz.isAgg279
 z70:=Tryz.sizeOf279
 v70:=Tryz.zeroValue279
 t72:=Tryz.underlying282
 a72:=Tryz.isAgg282
 z72:=Tryz.sizeOf282
 v72:=Tryz.zeroValue282
 t127:=Tryz.underlying316
 a127:=Tryz.isAgg316
 z127:=Tryz.sizeOf316
 v127:=Tryz.zeroValue316 }
theorem Tryz.Builder_Extra_169:Builder.Extra Tryz.prog Tryz.lays169_ren:={
 sizeBuilder:=by kernel_rfl
 liesBuilder:=by kernel_rfl
 t5:=Tryz.underlying5
 a5:=Tryz.isAgg5
 z5:=Tryz.sizeOf5
 v5:=Tryz.zeroValue5
 infoByte:=by kernel_rfl
 cellsByte:=by kernel_rfl
 sizeByte:=by kernel_rfl
 neB5:=by decide }
def Tryz.lays119_ren:Go.Shelf.Ren:=⟨fun | 119=>263 | n=>n,fun | 21=>21 | 4=>4 | n=>n,fun | n=>n⟩
theorem Tryz.lays119:Go.Proofs.Lays.n119 Tryz.prog Tryz.lays119_ren:={
 mixed:=by kernel_rfl
 f119:=Tryz.func263.trans (congrArg some (by kernel_rfl))
 t4:=Tryz.underlying4
 a4:=Tryz.isAgg4
 z4:=Tryz.sizeOf4
 v4:=Tryz.zeroValue4
 t21:=Tryz.underlying21
 a21:=Tryz.isAgg21
 z21:=Tryz.sizeOf21
 v21:=Tryz.zeroValue21 }
theorem Tryz.utf8_ValidRune (r:Int) (w:World) :
  Calls Tryz.prog 263 #[.int .i32 r] w fun e w'=>e=.returned (.bool (Lib.validRune r))/\w'=w:=Any.utf8_ValidRune Tryz.lays119 r w
def Tryz.lays137_ren:Go.Shelf.Ren:=⟨fun | 137=>262 | 217=>254 | 266=>260 | n=>n,fun | 9=>9 | 5=>5 | 3=>3 | n=>n,fun | n=>n⟩
theorem Tryz.lays137:Go.Proofs.Lays.n137 Tryz.prog Tryz.lays137_ren:={
 mixed:=by kernel_rfl
 f137:=Tryz.func262.trans (congrArg some (by kernel_rfl))
 f217:=Tryz.func254.trans (congrArg some (by kernel_rfl))
 f266:=Tryz.func260.trans (congrArg some (by kernel_rfl))
 t3:=Tryz.underlying3
 a3:=Tryz.isAgg3
 z3:=Tryz.sizeOf3
 v3:=Tryz.zeroValue3
 t5:=Tryz.underlying5
 a5:=Tryz.isAgg5
 z5:=Tryz.sizeOf5
 v5:=Tryz.zeroValue5
 t9:=Tryz.underlying9
 a9:=Tryz.isAgg9
 z9:=Tryz.sizeOf9
 v9:=Tryz.zeroValue9 }
open Go.RowKit in
theorem Tryz.strings_IndexByte (s:ByteArray) (c:Int) (w:World) :
  Calls Tryz.prog 262 #[.string s,.int .u8 c] w fun e w'=>e=.returned (.int .i64 (Lib.indexByte s.data.toList c.toNat.toUInt8))/\w'=w:=Any.strings_IndexByte Tryz.lays137 s c w
open Go.RowKit in
theorem Tryz.Builder_Len_f (B b:Nat) (bs:List Value) (w:World) (h:Lib.IsBuilderF 282 5 B b bs w) :
  Calls Tryz.prog 172 #[.pointer (some ⟨b,0,none⟩)] w fun e w'=>e=.returned (.int .i64 bs.length)/\w'=w:=Any.Builder_Len_f Tryz.lays170 B b bs w h
open Go.RowKit in
theorem Tryz.Builder_String_any_k (B b:Nat) (l:List UInt8) (w:World) (h:Lib.IsBuilderF 282 5 B b (Lib.byteCells l) w) (hBw:B<=w.heap.size) :
  Calls Tryz.prog 173 #[.pointer (some ⟨b,0,none⟩)] w fun e w'=>e=.returned (.string ⟨l.toArray⟩)/\(Lib.IsBuilderF 282 5 B b (Lib.byteCells l) w'/\Below B w w'/\Lib.OthersKept 5 (some b) w w'):=Any.Builder_String_any_k Tryz.lays169 Tryz.Builder_Extra_169 B b l w h hBw
def Tryz.lays146_ren:Go.Shelf.Ren:=⟨fun | 146=>174 | 221=>205 | 268=>223 | 138=>224 | 143=>225 | 195=>242 | 197=>243 | 218=>244 | 219=>245 | 260=>253 | 217=>254 | 225=>255 | 224=>256 | 267=>257 | 266=>260 | 314=>261 | n=>n,fun | 9=>9 | 31=>288 | 3=>3 | 4=>4 | 0=>0 | 105=>354 | 21=>21 | 5=>5 | 46=>297 | 119=>365 | 139=>368 | 138=>367 | 146=>369 | 51=>331 | n=>n,fun | 1=>2 | 3=>3 | 4=>4 | n=>n⟩
theorem Tryz.lays146:Go.Proofs.Lays.n146 Tryz.prog Tryz.lays146_ren:={
 mixed:=by kernel_rfl
 f138:=Tryz.func224.trans (congrArg some (by kernel_rfl))
 f143:=Tryz.func225.trans (congrArg some (by kernel_rfl))
 f146:=Tryz.func174.trans (congrArg some (by kernel_rfl))
 f195:=Tryz.func242.trans (congrArg some (by kernel_rfl))
 f197:=Tryz.func243.trans (congrArg some (by kernel_rfl))
 f217:=Tryz.func254.trans (congrArg some (by kernel_rfl))
 f218:=Tryz.func244.trans (congrArg some (by kernel_rfl))
 f219:=Tryz.func245.trans (congrArg some (by kernel_rfl))
 f221:=Tryz.func205.trans (congrArg some (by kernel_rfl))
 f224:=Tryz.func256.trans (congrArg some (by kernel_rfl))
 f225:=Tryz.func255.trans (congrArg some (by kernel_rfl))
 f260:=Tryz.func253.trans (congrArg some (by kernel_rfl))
 f266:=Tryz.func260.trans (congrArg some (by kernel_rfl))
 f267:=Tryz.func257.trans (congrArg some (by kernel_rfl))
 f268:=Tryz.func223.trans (congrArg some (by kernel_rfl))
 f314:=Tryz.func261.trans (congrArg some (by kernel_rfl))
 t0:=Tryz.underlying0
 a0:=Tryz.isAgg0
 z0:=Tryz.sizeOf0
 v0:=Tryz.zeroValue0
 t3:=Tryz.underlying3
 a3:=Tryz.isAgg3
 z3:=Tryz.sizeOf3
 v3:=Tryz.zeroValue3
 t4:=Tryz.underlying4
 a4:=Tryz.isAgg4
 z4:=Tryz.sizeOf4
 v4:=Tryz.zeroValue4
 t5:=Tryz.underlying5
 a5:=Tryz.isAgg5
 z5:=Tryz.sizeOf5
 v5:=Tryz.zeroValue5
 t9:=Tryz.underlying9
 a9:=Tryz.isAgg9
 z9:=Tryz.sizeOf9
 v9:=Tryz.zeroValue9
 t21:=Tryz.underlying21
 a21:=Tryz.isAgg21
 z21:=Tryz.sizeOf21
 v21:=Tryz.zeroValue21
 t31:=Tryz.underlying288
 a31:=Tryz.isAgg288
 z31:=Tryz.sizeOf288
 v31:=Tryz.zeroValue288
 t46:=Tryz.underlying297
 a46:=Tryz.isAgg297
 z46:=Tryz.sizeOf297
 v46:=Tryz.zeroValue297
 t51:=Tryz.underlying331
 a51:=Tryz.isAgg331
 z51:=Tryz.sizeOf331
 v51:=Tryz.zeroValue331
 t105:=Tryz.underlying354
 a105:=Tryz.isAgg354
 z105:=Tryz.sizeOf354
 v105:=Tryz.zeroValue354
 t119:=Tryz.underlying365
 a119:=Tryz.isAgg365
 z119:=Tryz.sizeOf365
 t138:=Tryz.underlying367
 a138:=Tryz.isAgg367
 z138:=Tryz.sizeOf367
 v138:=Tryz.zeroValue367
 t139:=Tryz.underlying368
 a139:=Tryz.isAgg368
 z139:=Tryz.sizeOf368
 v139:=Tryz.zeroValue368
 t146:=Tryz.underlying369
 a146:=Tryz.isAgg369
 z146:=Tryz.sizeOf369
 v146:=Tryz.zeroValue369
 g1:=by kernel_rfl
 g3:=by kernel_rfl
 g4:=by kernel_rfl }
open Go.RowKit Go.Lib in
theorem Tryz.strings_Split (s sep:ByteArray) (m:Int) (w:World) (hs:s.size < 4294967281) (hm:w.cell? ⟨2,0,none⟩=some (.int .i64 m)) (h1:1<=sep.size) :
  Calls Tryz.prog 174 #[.string s,.string sep] w fun e w' =>
   e=.returned (.slice (some ⟨w.heap.size,0,none⟩) (Lib.countB s sep+1) (Lib.countB s sep+1))/\w'=w.alloc (.cells ((Lib.splitB sep 0 (Lib.countB s sep) s).map Value.string).toArray 9):=Any.strings_Split Tryz.lays146 (by kernel_rfl) s sep m w hs hm h1
def Tryz.laysM146_ren:Go.Shelf.Ren:=⟨fun | 146=>174 | 221=>205 | 268=>223 | 138=>224 | 143=>225 | 195=>242 | 197=>243 | 218=>244 | 219=>245 | 260=>253 | 217=>254 | 225=>255 | 224=>256 | 267=>257 | 266=>260 | 314=>261 | n=>n,fun | 9=>9 | 31=>288 | 3=>3 | 4=>4 | 0=>0 | 105=>354 | 21=>21 | 5=>5 | 46=>297 | 119=>365 | 139=>368 | 138=>367 | 146=>369 | 51=>331 | n=>n,fun | 1=>2 | 3=>3 | 4=>4 | n=>n⟩
theorem Tryz.laysM146:Go.Proofs.LaysM.n146 Tryz.prog Tryz.laysM146_ren:={
 mixed:=by kernel_rfl
 f138:=Tryz.func224.trans (congrArg some (by kernel_rfl))
 f143:=Tryz.func225.trans (congrArg some (by kernel_rfl))
 f146:=Tryz.func174.trans (congrArg some (by kernel_rfl))
 f195:=Tryz.func242.trans (congrArg some (by kernel_rfl))
 f197:=Tryz.func243.trans (congrArg some (by kernel_rfl))
 f217:=Tryz.func254.trans (congrArg some (by kernel_rfl))
 f218:=Tryz.func244.trans (congrArg some (by kernel_rfl))
 f219:=Tryz.func245.trans (congrArg some (by kernel_rfl))
 f221:=Tryz.func205.trans (congrArg some (by kernel_rfl))
 f224:=Tryz.func256.trans (congrArg some (by kernel_rfl))
 f225:=Tryz.func255.trans (congrArg some (by kernel_rfl))
 f260:=Tryz.func253.trans (congrArg some (by kernel_rfl))
 f266:=Tryz.func260.trans (congrArg some (by kernel_rfl))
 f267:=Tryz.func257.trans (congrArg some (by kernel_rfl))
 f268:=Tryz.func223.trans (congrArg some (by kernel_rfl))
 f314:=Tryz.func261.trans (congrArg some (by kernel_rfl))
 t0:=Tryz.underlying0
 a0:=Tryz.isAgg0
 z0:=Tryz.sizeOf0
 v0:=Tryz.zeroValue0
 t3:=Tryz.underlying3
 a3:=Tryz.isAgg3
 z3:=Tryz.sizeOf3
 v3:=Tryz.zeroValue3
 t4:=Tryz.underlying4
 a4:=Tryz.isAgg4
 z4:=Tryz.sizeOf4
 v4:=Tryz.zeroValue4
 t5:=Tryz.underlying5
 a5:=Tryz.isAgg5
 z5:=Tryz.sizeOf5
 v5:=Tryz.zeroValue5
 t9:=Tryz.underlying9
 a9:=Tryz.isAgg9
 z9:=Tryz.sizeOf9
 v9:=Tryz.zeroValue9
 t21:=Tryz.underlying21
 a21:=Tryz.isAgg21
 z21:=Tryz.sizeOf21
 v21:=Tryz.zeroValue21
 t31:=Tryz.underlying288
 a31:=Tryz.isAgg288
 z31:=Tryz.sizeOf288
 v31:=Tryz.zeroValue288
 t46:=Tryz.underlying297
 a46:=Tryz.isAgg297
 z46:=Tryz.sizeOf297
 v46:=Tryz.zeroValue297
 t51:=Tryz.underlying331
 a51:=Tryz.isAgg331
 z51:=Tryz.sizeOf331
 v51:=Tryz.zeroValue331
 t105:=Tryz.underlying354
 a105:=Tryz.isAgg354
 z105:=Tryz.sizeOf354
 v105:=Tryz.zeroValue354
 t119:=Tryz.underlying365
 a119:=Tryz.isAgg365
 z119:=Tryz.sizeOf365
 t138:=Tryz.underlying367
 a138:=Tryz.isAgg367
 z138:=Tryz.sizeOf367
 v138:=Tryz.zeroValue367
 t139:=Tryz.underlying368
 a139:=Tryz.isAgg368
 z139:=Tryz.sizeOf368
 v139:=Tryz.zeroValue368
 t146:=Tryz.underlying369
 a146:=Tryz.isAgg369
 z146:=Tryz.sizeOf369
 v146:=Tryz.zeroValue369
 g1:=by kernel_rfl
 g3:=by kernel_rfl
 g4:=by kernel_rfl
 i0:=by kernel_rfl
 i3:=by kernel_rfl
 i4:=by kernel_rfl
 i5:=by kernel_rfl
 i9:=by kernel_rfl
 i21:=by kernel_rfl
 i31:=by kernel_rfl
 i46:=by kernel_rfl
 i51:=by kernel_rfl
 i105:=by kernel_rfl
 i138:=by kernel_rfl
 i139:=by kernel_rfl
 i146:=by kernel_rfl
 m1:=by kernel_rfl
 s1_3:=fun w h=>Go.Proofs.cell_of_shapedOpen_int (zero:=#[.int .i64 0]) (t:=3) h (of_decide_eq_true (by kernel_rfl)) (by kernel_rfl) rfl (by kernel_rfl) (by kernel_rfl) Tryz.underlying3
 m3:=by kernel_rfl
 m4:=by kernel_rfl }
def Tryz.lays151_ren:Go.Shelf.Ren:=⟨fun | 151=>248 | 152=>258 | 137=>262 | 119=>263 | 224=>256 | 225=>255 | 217=>254 | 266=>260 | n=>n,fun | 9=>9 | 21=>21 | 4=>4 | 3=>3 | 5=>5 | 0=>0 | 46=>297 | n=>n,fun | n=>n⟩
theorem Tryz.lays151:Go.Proofs.Lays.n151 Tryz.prog Tryz.lays151_ren:={
 mixed:=by kernel_rfl
 f119:=Tryz.func263.trans (congrArg some (by kernel_rfl))
 f137:=Tryz.func262.trans (congrArg some (by kernel_rfl))
 f151:=Tryz.func248.trans (congrArg some (by kernel_rfl))
 f152:=Tryz.func258.trans (congrArg some (by kernel_rfl))
 f217:=Tryz.func254.trans (congrArg some (by kernel_rfl))
 f224:=Tryz.func256.trans (congrArg some (by kernel_rfl))
 f225:=Tryz.func255.trans (congrArg some (by kernel_rfl))
 f266:=Tryz.func260.trans (congrArg some (by kernel_rfl))
 t0:=Tryz.underlying0
 a0:=Tryz.isAgg0
 z0:=Tryz.sizeOf0
 v0:=Tryz.zeroValue0
 t3:=Tryz.underlying3
 a3:=Tryz.isAgg3
 z3:=Tryz.sizeOf3
 v3:=Tryz.zeroValue3
 t4:=Tryz.underlying4
 a4:=Tryz.isAgg4
 z4:=Tryz.sizeOf4
 v4:=Tryz.zeroValue4
 t5:=Tryz.underlying5
 a5:=Tryz.isAgg5
 z5:=Tryz.sizeOf5
 v5:=Tryz.zeroValue5
 t9:=Tryz.underlying9
 a9:=Tryz.isAgg9
 z9:=Tryz.sizeOf9
 v9:=Tryz.zeroValue9
 t21:=Tryz.underlying21
 a21:=Tryz.isAgg21
 z21:=Tryz.sizeOf21
 v21:=Tryz.zeroValue21
 t46:=Tryz.underlying297
 a46:=Tryz.isAgg297
 z46:=Tryz.sizeOf297
 v46:=Tryz.zeroValue297 }
open Go.RowKit Go.Lib in
theorem Tryz.strings_ContainsRune_ascii (s:ByteArray) (r:Int) (w:World) (h0:0<=r) (h1:r < 128) :
  Calls Tryz.prog 248 #[.string s,.int .i32 r] w fun e w'=>e=.returned (.bool (decide (0<=Lib.indexByte s.data.toList r.toNat.toUInt8)))/\w'=w:=Any.strings_ContainsRune_ascii Tryz.lays151 s r w h0 h1
end Go.Proofs
namespace Go.Proofs.YtlnekijhbnlclaaGreatDoor
open Go.RowKit
theorem fit1 (n:Int) (w:World):Calls Tryz.prog 55 #[.int .i64 n] w fun e w'=>e=.returned (.bool (!fit n))/\w=w':=by
 by_cases h1:n < -1099511627776
 ·go_enter Tryz.func55,Tryz.ntmps55
  go_wp2
  go_ret
  exact ⟨by simp [fit]; omega,rfl⟩
 ·by_cases h2:1099511627776 < n
  ·go_enter Tryz.func55,Tryz.ntmps55
   go_wp2
   go_ret
   exact ⟨by simp [fit]; omega,rfl⟩
  ·go_enter Tryz.func55,Tryz.ntmps55
   go_wp2
   go_ret
   exact ⟨by simp [fit]; omega,rfl⟩
def qjr (zs:List Int) (w:World) (e:Ending) (w':World):Prop :=
 ∃ r:Int,e=.returned (.int .i64 r)/\-1<=r/\(zs.all fit=!decide (0<=r))/\w=w'
theorem q6v (zs:List Int) (v:Value) (B:Nat) (w:World) (h:Ints w B v zs) (hm:zs.length<=9223372036854775807) :
  Calls Tryz.prog 71 #[v,.func (.func 55) #[] #[]] w (qjr zs w):=by
 obtain ⟨A,c,rfl,hc,hr⟩:=h
 go_enter Tryz.func71,Tryz.ntmps71
 go_wp2
 go_loop [5,8] (fun _ i=>∃ k:Nat,k<=zs.length/\i=.int .i64 k/\(zs.take k).all fit=true) (fun _ i=>zs.length - (intOf i).toNat)
 case atStart=>exact ⟨0,by omega,rfl,by simp⟩
 case round =>
  obtain ⟨k,hk,rfl,hall⟩:=hrel
  have Hall:=Lib.hid hall; clear hall
  by_cases hlt:k < zs.length
  ·obtain ⟨ad,rfl,hb,hcell⟩:=hr.val hlt
   by_cases hf:fit zs[k]=true
   ·go_wp2_with (go_at_call 55; refine (fit1 _ _).mono ?_; rintro e w' ⟨rfl,rfl⟩)
    go_round
    case rel=>exact ⟨k+1,by omega,by go_num,by rw [qyu zs k hlt,Hall.out,hf]; rfl⟩
    case measure=>simp [intOf]; omega
   ·go_wp2_with (go_at_call 55; refine (fit1 _ _).mono ?_; rintro e w' ⟨rfl,rfl⟩)
    go_ret
    exact ⟨k,rfl,by omega,by rw [qrv zs k hlt (by simpa using hf)]; simp,rfl⟩
  ·go_wp2
   go_ret
   exact ⟨-1,rfl,by omega,by rw [List.take_of_length_le (by omega)] at Hall; rw [Hall.out]; rfl,rfl⟩
theorem q6u (zs:List Int) (v:Value) (B:Nat) (w:World) (h:Ints w B v zs) (hm:zs.length<=9223372036854775807) :
  Calls Tryz.prog 54 #[v,.func (.func 55) #[] #[]] w fun e w'=>e=.returned (.bool (!zs.all fit))/\w=w':=by
 go_enter Tryz.func54,Tryz.ntmps54
 go_wp2_with (go_at_call 71; refine (q6v zs v B w h hm).mono ?_; rintro e w' ⟨r,rfl,hr1,hr2,rfl⟩; have Hr:=Lib.hid hr2; clear hr2)
 go_ret
 exact ⟨by rw [Hr.out]; simp,rfl⟩
theorem qhc (zs:List Int) (v:Value) (B:Nat) (w:World) (h:Ints w B v zs) (hm:zs.length<=9223372036854775807) :
  Calls Tryz.prog 37 #[v] w fun e w'=>e=.returned (.bool (zs.all fit))/\w=w':=by
 go_enter Tryz.func37,Tryz.ntmps37
 go_wp2_with (go_at_call 54; refine (q6u zs v B w h hm).mono ?_; rintro e w' ⟨rfl,rfl⟩)
 go_ret
 exact ⟨by simp,rfl⟩
theorem qmc (n:Int) (t:TypeId) (w:World) :
  Calls Tryz.prog 37 #[.slice (some ⟨w.heap.size,0,none⟩) 1 1] (w.alloc (.cells #[.int .i64 n] t)) fun e w'=>e=.returned (.bool (fit n))/\w.alloc (.cells #[.int .i64 n] t)=w' :=
 (qhc [n] _ _ _ (Ints.built w [n] t) (by simp)).mono fun _ _ ⟨h1,h2⟩=>⟨by simpa using h1,h2⟩
theorem qll (a b:Int) (t:TypeId) (w:World) :
  Calls Tryz.prog 37 #[.slice (some ⟨w.heap.size,0,none⟩) 2 2] (w.alloc (.cells #[.int .i64 a,.int .i64 b] t)) fun e w'=>e=.returned (.bool (fit a && fit b))/\w.alloc (.cells #[.int .i64 a,.int .i64 b] t)=w' :=
 (qhc [a,b] _ _ _ (Ints.built w [a,b] t) (by simp)).mono fun _ _ ⟨h1,h2⟩=>⟨by simpa using h1,h2⟩
theorem qbw (out:Int) (zs:List Int) (v:Value) (B:Nat) (w:World) (h:Ints w B v zs) (hm:zs.length<=9223372036854775807) :
  Calls Tryz.prog 118 #[.int .i64 out,v] w fun e w'=>e=.returned (.tuple #[.int .i64 (told out zs).1,.int .i64 (told out zs).2])/\Below w.heap.size w w':=by
 cases ha:zs.all fit with
 | false =>
  have H:=Lib.hid (qct (out:=out) ha)
  have hf:=qhc zs v B w h hm
  rw [ha] at hf
  clear ha
  go_enter Tryz.func118,Tryz.ntmps118
  go_wp2_with (go_at_call 37; refine hf.mono ?_; rintro e w' ⟨rfl,rfl⟩)
  go_ret2
  exact ⟨by rw [H.out]; rfl,Below.refl _ _⟩
 | true =>
  have hf:=qhc zs v B w h hm
  rw [ha] at hf
  cases hb:fit out with
  | false =>
   have H:=Lib.hid (q1w (of:=zs) hb)
   have hg:=qmc out 3 w
   rw [hb] at hg
   clear ha hb
   go_enter Tryz.func118,Tryz.ntmps118
   go_wp2_with (first | (go_at_call 37; with_reducible refine hf.mono ?_; rintro e w' ⟨rfl,rfl⟩) | (go_at_call 37; with_reducible refine hg.mono ?_; rintro e w' ⟨rfl,rfl⟩))
   go_ret2
   exact ⟨by rw [H.out]; rfl,(Below.refl _ _).alloc (Nat.le_refl _) _⟩
  | true =>
   have H:=Lib.hid (qtt ha hb)
   have hg:=qmc out 3 w
   rw [hb] at hg
   clear ha hb
   go_enter Tryz.func118,Tryz.ntmps118
   go_wp2_with (first | (go_at_call 37; with_reducible refine hf.mono ?_; rintro e w' ⟨rfl,rfl⟩) | (go_at_call 37; with_reducible refine hg.mono ?_; rintro e w' ⟨rfl,rfl⟩))
   go_ret2
   exact ⟨by rw [H.out]; rfl,(Below.refl _ _).alloc (Nat.le_refl _) _⟩
theorem qzl (n l m:Int) (w:World) :
  Calls Tryz.prog 65 #[.int .i64 n,.int .i64 l,.int .i64 m] w fun e w'=>e=.returned (.int .i64 (q7b n l m))/\w=w':=by
 go_enter Tryz.func65,Tryz.ntmps65
 go_wp2
 all_goals
  go_ret
  exact ⟨congrArg (fun x=>Ending.returned (.int .i64 x)) (by unfold q7b; omega),rfl⟩
theorem qlp (n x:Int) (w:World) :
  Calls Tryz.prog 88 #[.int .i64 n,.int .i64 x] w fun e w'=>e=.returned (.tuple #[.int .i64 (partR n x).1,.int .i64 (partR n x).2])/\Below w.heap.size w w':=by
 by_cases h1:n < 0
 ·have H:=Lib.hid (show partR n x=(0,2) from if_pos (.inl h1))
  go_enter Tryz.func88,Tryz.ntmps88
  go_wp2_with fail
  go_ret2
  exact ⟨by rw [H.out]; rfl,Below.refl _ _⟩
 by_cases h2:100000 < n
 ·have H:=Lib.hid (show partR n x=(0,2) from if_pos (.inr h2))
  go_enter Tryz.func88,Tryz.ntmps88
  go_wp2_with fail
  go_ret2
  exact ⟨by rw [H.out]; rfl,Below.refl _ _⟩
 have hf:=qmc x 3 w
 have h12:¬ (n < 0\/100000 < n):=by omega
 cases h3:fit x with
 | false =>
  have H:=Lib.hid (show partR n x=(0,10) from (if_neg h12).trans (if_neg (by simp [h3])))
  rw [h3] at hf
  clear h3 h12
  go_enter Tryz.func88,Tryz.ntmps88
  go_wp2_with (go_at_call 37; with_reducible refine hf.mono ?_; rintro e w' ⟨rfl,rfl⟩)
  go_ret2
  exact ⟨by rw [H.out]; rfl,(Below.refl _ _).alloc (Nat.le_refl _) _⟩
 | true =>
  have H:=Lib.hid (show partR n x=told ((n * x).tdiv 10000) [] from (if_neg h12).trans (if_pos h3))
  rw [h3] at hf
  have hb:=(qpc x).1 h3
  have hp1:n * x<=100000 * 1099511627776:=by
   rcases Int.le_total 0 x with hx0 | hx0
   ·exact Int.mul_le_mul (by omega) hb.2 hx0 (by omega)
   ·exact Int.le_trans (Int.mul_nonpos_of_nonneg_of_nonpos (by omega) hx0) (by omega)
  have hp2:-(100000 * 1099511627776)<=n * x:=by
   rcases Int.le_total 0 x with hx0 | hx0
   ·exact Int.le_trans (by omega) (Int.mul_nonneg (by omega) hx0)
   ·have:n * (-x)<=100000 * 1099511627776:=Int.mul_le_mul (by omega) (by omega) (by omega) (by omega)
    rw [Int.mul_neg] at this; omega
  clear h3 h12 hb
  have ht:=fun y:Int=>qbw y [] (.slice none 0 0) 0 (w.alloc (.cells #[.int .i64 x] 3)) (Ints.nil _ _) (by simp)
  go_enter Tryz.func88,Tryz.ntmps88
  go_wp2_with (first | (go_at_call 37; with_reducible refine hf.mono ?_; rintro e w' ⟨rfl,rfl⟩) | (go_at_call 118; refine (ht _).mono ?_; rintro e w' ⟨rfl,hbel⟩))
  go_ret2
  exact ⟨by rw [H.out]; rfl,((Below.refl _ _).alloc (Nat.le_refl _) _).trans (hbel.mono (by simp))⟩
end Go.Proofs.YtlnekijhbnlclaaGreatDoor
namespace Go.Proofs.YtlnekijhbnlclaaGreatDoor
open Go.RowKit
structure Fr where
 node:Int
 part:Int
 depth:Int
 x:Int
 y:Int
 w:Int
 h:Int
 text:ByteArray
def Fr.val (f:Fr):Value:=.agg #[.int .i64 f.node,.int .i64 f.part,.int .i64 f.depth,.int .i64 f.x,.int .i64 f.y,.int .i64 f.w,.int .i64 f.h,.string f.text]
def FragAt (W:World) (P:Addr) (f:Fr):Prop :=
 W.cell? P=some (.int .i64 f.node)/\W.cell? ⟨P.block,P.off+1,none⟩=some (.int .i64 f.part)/\W.cell? ⟨P.block,P.off+2,none⟩=some (.int .i64 f.depth)/\W.cell? ⟨P.block,P.off+3,none⟩=some (.int .i64 f.x) /\
 W.cell? ⟨P.block,P.off+4,none⟩=some (.int .i64 f.y)/\W.cell? ⟨P.block,P.off+5,none⟩=some (.int .i64 f.w)/\W.cell? ⟨P.block,P.off+6,none⟩=some (.int .i64 f.h)/\W.cell? ⟨P.block,P.off+7,none⟩=some (.string f.text)
def Frags (W:World) (B:Nat) (v:Value) (fs:List Fr):Prop :=
 ∃ A c,v=.slice A fs.length c/\fs.length<=c/\(0 < fs.length->∃ ad,A=some ad/\ad.block < B/\∀ k (hk:k < fs.length),FragAt W (ad.add (k * 8)) fs[k])
theorem FragAt.below {W W':World} {P:Addr} {B:Nat} {f:Fr} (h:FragAt W P f) (hb:Below B W W') (ha:P.block < B):FragAt W' P f:=by
 have e0:W'.cell? P=W.cell? P:=hb.cell ha
 have e:∀ j,W'.cell? ⟨P.block,j,none⟩=W.cell? ⟨P.block,j,none⟩:=fun j=>hb.cell (p:=⟨P.block,j,none⟩) ha
 unfold FragAt at h ⊢
 simp only [e,e0]
 exact h
theorem Frags.below {W W':World} {B:Nat} {v:Value} {fs:List Fr} (h:Frags W B v fs) (hb:Below B W W'):Frags W' B v fs:=by
 obtain ⟨A,c,e,hc,hf⟩:=h
 refine ⟨A,c,e,hc,fun h0=>?_⟩
 obtain ⟨ad,e1,hk,hh⟩:=hf h0
 exact ⟨ad,e1,hk,fun k hk'=>(hh k hk').below hb (by rw [qac]; exact hk)⟩
theorem Frags.more {W:World} {B B':Nat} {v:Value} {fs:List Fr} (h:Frags W B v fs) (hB:B<=B'):Frags W B' v fs:=by
 obtain ⟨A,c,e,hc,hf⟩:=h
 refine ⟨A,c,e,hc,fun h0=>?_⟩
 obtain ⟨ad,e1,hk,hh⟩:=hf h0
 exact ⟨ad,e1,by omega,hh⟩
def cov (f:Fr) (x y:Int):Bool:=decide (f.x<=x) && decide (x < IntKind.i64.wrap (f.x+f.w)) && decide (f.y<=y) && decide (y < IntKind.i64.wrap (f.y+f.h))
def q2a (p:Nat->Bool):Nat->Int
 | 0=>-1
 | k+1=>if p k then (k:Int) else q2a p k
def frAt (fs:List Fr) (k:Nat):Fr:=fs[k]?.getD ⟨0,0,0,0,0,0,0,ByteArray.empty⟩
def hitP (fs:List Fr) (x y:Int) (k:Nat):Bool:=cov (frAt fs k) x y
theorem q9j {fs:List Fr} {k:Nat} (hk:k < fs.length):frAt fs k=fs[k]:=by simp [frAt,hk]
theorem qeg {fs:List Fr} {x y:Int} {k:Nat} (hk:k < fs.length):hitP fs x y k=cov fs[k] x y:=by
 unfold hitP
 rw [q9j hk]
theorem qcn {p:Nat->Bool}:∀ {n:Nat},(∀ i,i < n->p i=false)->q2a p n=-1
 | 0,_=>rfl
 | n+1,h=>by rw [q2a,h n (by omega),if_neg (by simp),qcn fun i hi=>h i (by omega)]
theorem qbj {p:Nat->Bool} {i:Nat} (hi:p i=true):∀ {n:Nat},i < n->(∀ j,i < j->j < n->p j=false)->q2a p n=i
 | 0,h,_=>absurd h (by omega)
 | n+1,h,hj=>by
  rw [q2a]
  by_cases e:i=n
  ·subst e
   rw [if_pos hi]
  ·rw [hj n (by omega) (by omega),if_neg (by simp),qbj hi (by omega) fun j h1 h2=>hj j h1 (by omega)]
end Go.Proofs.YtlnekijhbnlclaaGreatDoor
namespace Go.Proofs.YtlnekijhbnlclaaGreatDoor
open Go.RowKit
structure BW (B:Nat) (w0:World) where
 val:World
 ok:Below B w0 val
instance bwNonempty (B:Nat) (w0:World):Nonempty (BW B w0):=⟨⟨w0,Below.refl _ _⟩⟩
theorem qdn {P:Program} {B:Nat} {w0:World} {f:FuncId} {args:Array Value} {v:Value} (hB:B<=w0.heap.size) (hc:∀ W,Calls P f args W fun e w'=>e=.returned v/\Below W.heap.size W w') (W:BW B w0) :
  Calls P f args W.val fun e w''=>e=.returned v/\∃ W':BW B w0,w''=W'.val :=
 (hc W.val).mono fun _ w'' ⟨he,hb⟩=>⟨he,⟨w'',W.ok.trans (hb.mono (Nat.le_trans hB W.ok.size))⟩,rfl⟩
theorem qeb {P:Program} {id:Nat} {Q:Exit->Act->World->Prop} {a:Act} {w:World} {l:List Oper} (B:Nat) (hm:P.follows .mixedOrders=true) (hB:Region.lexB .any l.toArray=true)
  (h:wpQuiet P l.toArray (fun w'=>∃ W:BW B w,w'=W.val) (fun a'=>∀ w',(∃ W:BW B w,w'=W.val)->Q .normal a' w') l a):(Code.region id l.toArray true).wp P Q a w :=
 wp_region_quiet (C:=fun w'=>∃ W:BW B w,w'=W.val) hm hB ⟨⟨w.drew,(Below.refl _ _).drew⟩,rfl⟩ (by simpa using h)
end Go.Proofs.YtlnekijhbnlclaaGreatDoor
namespace Go.Proofs.YtlnekijhbnlclaaGreatDoor
def deepN (ns:List Nd) (a i:Nat):Bool:=decide ((ndAt ns a).depth < (ndAt ns i).depth)
theorem qcg (n a:Nat):(List.range n).drop a=List.range' a (n - a):=by
 rw [List.range_eq_range',List.drop_range']
 simp
theorem qyn {ns:List Nd} {a m:Nat} (hm:a+1+m<=ns.length) (h:∀ j,j < m->deepN ns a (a+1+j)=true) (hs:a+1+m < ns.length->deepN ns a (a+1+m)=false):qcb ns a=List.range' (a+1) m:=by
 unfold qcb
 rw [qcg,show ns.length - (a+1)=m+(ns.length - (a+1) - m) by omega,<-List.range'_append_1,List.takeWhile_append_of_pos]
 ·rcases Nat.lt_or_ge (a+1+m) ns.length with h1 | h1
  ·obtain ⟨k,hk⟩:∃ k,ns.length - (a+1) - m=k+1:=⟨ns.length - (a+1) - m - 1,by omega⟩
   have:=hs h1
   unfold deepN at this
   rw [hk,List.range'_succ,List.takeWhile_cons,this]
   simp
  ·rw [show ns.length - (a+1) - m=0 by omega]
   simp
 ·intro x hx
  obtain ⟨j,hj,rfl⟩:=List.mem_range'.1 hx
  have:=h j hj
  unfold deepN at this
  simpa using this
theorem qgm (ns:List Nd) (a:Nat) (ha:a < ns.length):∃ m,a+1+m<=ns.length/\(∀ j,j < m->deepN ns a (a+1+j)=true)/\(a+1+m < ns.length->deepN ns a (a+1+m)=false):=by
 have:∀ k,a+1+k<=ns.length->(∀ j,j < k->deepN ns a (a+1+j)=true)->∃ m,a+1+m<=ns.length/\(∀ j,j < m->deepN ns a (a+1+j)=true)/\(a+1+m < ns.length->deepN ns a (a+1+m)=false):=by
  intro k
  induction h:ns.length - k generalizing k with
  | zero=>intro hk hj; exact ⟨k,hk,hj,fun h'=>by omega⟩
  | succ d ih =>
   intro hk hj
   rcases Nat.lt_or_ge (a+1+k) ns.length with h1 | h1
   ·cases hd:deepN ns a (a+1+k) with
    | false=>exact ⟨k,hk,hj,fun _=>hd⟩
    | true =>
     refine ih (k+1) (by omega) (by omega) fun j hj'=>?_
     rcases Nat.lt_or_eq_of_le (Nat.le_of_lt_succ hj') with h2 | rfl
     ·exact hj j h2
     ·exact hd
   ·exact ⟨k,hk,hj,fun h'=>by omega⟩
 exact this 0 (by omega) (fun j hj=>by omega)
theorem q8v {ns:List Nd} {a x:Nat} (h:x ∈ qcb ns a):a < x/\x < ns.length:=by
 unfold qcb at h
 have:=(List.takeWhile_sublist _).subset h
 rw [qcg] at this
 obtain ⟨j,hj,rfl⟩:=List.mem_range'.1 this
 omega
theorem q1n {ns:List Nd} {a x:Nat} (h:x ∈ kidsN ns a):a < x/\x < ns.length:=q8v (List.mem_filter.1 h).1
theorem qpi (ns:List Nd) (a:Nat):(kidsN ns a).length<=ns.length:=by
 refine Nat.le_trans (List.length_filter_le _ _) ?_
 unfold qcb
 refine Nat.le_trans (List.takeWhile_sublist _).length_le ?_
 rw [qcg,List.length_range']
 omega
end Go.Proofs.YtlnekijhbnlclaaGreatDoor
namespace Go.Proofs.YtlnekijhbnlclaaGreatDoor
def Ascii (s:ByteArray):Prop:=∀ b ∈ s.data.toList,b.toNat < 128
def memb (l:List UInt8) (r:Int):Bool:=l.any fun b=>((b.toNat:Nat):Int) == r
theorem qpo {l:List UInt8} (h:∀ b ∈ l,b.toNat < 128) {r:Int} (hr:128<=r):memb l r=false:=by
 unfold memb
 rw [List.any_eq_false]
 intro b hb
 have:=h b hb
 simp
 omega
theorem q7r {n:Nat} (h:n < 256):(UInt8.ofNat n).toNat=n:=by
 rw [UInt8.toNat_ofNat',Nat.mod_eq_of_lt (by omega)]
theorem qgi (a:Array UInt8) (m:Nat) (hs:a.size=m+1) (x:Nat) (hx:a[m]?=some (UInt8.ofNat x)) (h1:128<=x) (h2:x < 256) :
  ∀ h:m < (⟨a⟩:ByteArray).size,128<=((⟨a⟩:ByteArray)[m]'h).toNat:=by
 intro h
 have e:(⟨a⟩:ByteArray)[m]'h=a[m]'(by omega):=rfl
 rw [Array.getElem?_eq_getElem (by omega)] at hx
 injection hx with hx
 rw [e,hx,q7r h2]
 exact h1
theorem q4t (r:Int) (hv:Utf8.valid r=true) (h:128<=r):∃ m,m<=3/\(Utf8.encode r).size=m+1/\∀ h:m < (Utf8.encode r).size,128<=((Utf8.encode r)[m]'h).toNat:=by
 have e:Utf8.encode r=if r.toNat < 0x800 then ⟨#[UInt8.ofNat (0xC0+r.toNat / 64),UInt8.ofNat (0x80+r.toNat % 64)]⟩
   else if r.toNat < 0x10000 then ⟨#[UInt8.ofNat (0xE0+r.toNat / 4096),UInt8.ofNat (0x80+r.toNat / 64 % 64),UInt8.ofNat (0x80+r.toNat % 64)]⟩
   else ⟨#[UInt8.ofNat (0xF0+r.toNat / 262144),UInt8.ofNat (0x80+r.toNat / 4096 % 64),UInt8.ofNat (0x80+r.toNat / 64 % 64),UInt8.ofNat (0x80+r.toNat % 64)]⟩:=by
  unfold Utf8.encode
  rw [hv]
  simp only [if_true]
  rw [if_neg (by omega)]
 rw [e]
 split
 ·exact ⟨1,by omega,rfl,qgi _ 1 rfl (0x80+r.toNat % 64) rfl (by omega) (by omega)⟩
 ·split
  ·exact ⟨2,by omega,rfl,qgi _ 2 rfl (0x80+r.toNat % 64) rfl (by omega) (by omega)⟩
  ·exact ⟨3,by omega,rfl,qgi _ 3 rfl (0x80+r.toNat % 64) rfl (by omega) (by omega)⟩
theorem q7s (l:List UInt8) (c:UInt8) (h:∀ b ∈ l,b≠c):Lib.indexByte l c=-1:=by
 induction l with
 | nil=>rfl
 | cons b l ih =>
  have hb:(b == c)=false:=by simpa using h b (by simp)
  simp [Lib.indexByte,hb,ih fun x hx=>h x (List.mem_cons_of_mem _ hx)]
theorem qws (l:List UInt8) (c:UInt8):(0<=Lib.indexByte l c)↔c ∈ l:=by
 induction l with
 | nil=>simp [Lib.indexByte]
 | cons b l ih =>
  by_cases hb:b=c
  ·subst hb; simp [Lib.indexByte]
  ·have hb':(b == c)=false:=by simpa using hb
   have hge:=Lib.indexByte_ge l c
   simp only [Lib.indexByte,hb',List.mem_cons]
   by_cases hm:c ∈ l
   ·have:=ih.2 hm
    have hne:(Lib.indexByte l c == -1)=false:=by simp; omega
    simp [hne,hm]; omega
   ·have h1:Lib.indexByte l c=-1:=by
     have:=(not_congr ih).2 hm; omega
    simp [h1,hm]; exact fun e=>hb e.symm
theorem qgx (s:ByteArray) (a b:Nat) (x:UInt8) (h:x ∈ (s.extract a b).data.toList):x ∈ s.data.toList:=by
 rw [ByteArray.data_extract,Array.toList_extract] at h
 exact List.mem_of_mem_drop (List.mem_of_mem_take h)
theorem q6i (s:ByteArray) (i:Nat) (h:i < s.size):s[i] ∈ s.data.toList:=by
 have:s[i]=s.data[i]'h:=rfl
 rw [this]
 simp
end Go.Proofs.YtlnekijhbnlclaaGreatDoor
