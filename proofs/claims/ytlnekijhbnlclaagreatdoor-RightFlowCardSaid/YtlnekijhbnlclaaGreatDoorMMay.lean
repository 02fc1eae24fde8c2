/-
  Laws: a map of the call's own from integers to pointers, by what it holds. No program.
-/
import Derived.Test.YtlnekijhbnlclaaGreatDoorTMay
import Derived.Test.YtlnekijhbnlclaaGreatDoorHit
import Derived.Test.YtlnekijhbnlclaaGreatDoorDocFacts
import Derived.Test.YtlnekijhbnlclaaGreatDoorFits
namespace Go.Proofs.YtlnekijhbnlclaaGreatDoor
open Go.RowKit Go.Shelf Go.Maps
def ptrO:Option Nat->Value
 | none=>.pointer none
 | some p=>ptrV p
def qqg (v:Value):Option (DU×List MemPlace):=match v with
 | .pointer none=>some (.lit (.int .i64 (-1)),[])
 | .pointer (some ⟨p,0,none⟩)=>some (.lit (.int .i64 p),[])
 | _=>none
def ptrN:Option Nat->Int
 | none=>-1
 | some p=>p
theorem qvu {v:Value} {x:Option Nat} {ps:List MemPlace} (h:qqg v=some (.lit (.int .i64 (ptrN x)),ps)):v=ptrO x:=by
 unfold qqg at h
 split at h
 ·cases x with
  | none=>rfl
  | some p =>
   simp only [ptrN,Option.some.injEq,Prod.mk.injEq,DataW.lit.injEq,Lit.int.injEq,true_and] at h
   exact absurd h.1 (by omega)
 ·rename_i p
  cases x with
  | none =>
   simp only [ptrN,Option.some.injEq,Prod.mk.injEq,DataW.lit.injEq,Lit.int.injEq,true_and] at h
   exact absurd h.1 (by omega)
  | some q =>
   simp only [ptrN,Option.some.injEq,Prod.mk.injEq,DataW.lit.injEq,Lit.int.injEq,true_and] at h
   obtain rfl:p=q:=by omega
   rfl
 ·cases h
def PtrMap (P:Program) (k:TypeId) (w:World) (b n:Nat) (f:Nat->Option Nat):Prop :=
 ∃ D:DU,w.ownsMap P k qqg b n D/\IsMap D/\∀ y:Nat,D.atKey (kyI y) (.lit (.int .i64 (-1)))=.lit (.int .i64 (ptrN (f y)))
section
variable {P:Program} {k:TypeId} {w w':World} {b n:Nat} {f:Nat->Option Nat}
theorem PtrMap.made (P:Program) (k:TypeId) (w:World):PtrMap P k (w.alloc (.map #[] 0)) w.heap.size 0 (fun _=>none) :=
 ⟨_,World.ownsMap_made w P k qqg,⟨_,rfl⟩,fun _=>rfl⟩
theorem PtrMap.lt (h:PtrMap P k w b n f):b < w.heap.size:=by
 obtain ⟨D,h,_⟩:=h
 exact h.lt
theorem PtrMap.kept {gs:List Nat} (h:PtrMap P k w b n f) (hk:Kept gs w w') (hb:b ∉ gs):PtrMap P k w' b n f:=by
 obtain ⟨D,h1,h2,h3⟩:=h
 have hl:=h1.lt
 obtain ⟨es,clock,he,F,hs,hD⟩:=h1
 exact ⟨D,⟨es,clock,(hk.block b hl hb).trans he,F,hs,hD⟩,h2,h3⟩
theorem PtrMap.alloc (h:PtrMap P k w b n f) (o:Obj):PtrMap P k (w.alloc o) b n f:=h.kept (gs:=[]) ((Kept.refl [] w).alloc o) (by simp)
theorem q6f {ops:Array Oper} {rest:List Oper} {o:Oper} {a:Act} {Q:Exit->Act->World->Prop}
  (hg:o.guard=none) (m x:Operand) (t:TypeId) (hop:o.op=Op.lookup t m x false)
  (e:TypeId) (K:Keyed P k) (ht:P.underlying t=some (.map k e)) (hz:(zeroValue e).run P w=.ok (.pointer none) w)
  (hm:a.eval m=.map (some b)) (h:PtrMap P k w b n f) (y:Nat) (hx:a.eval x=.int .i64 y) (hkey:keyOf P k (.int .i64 y)=some (kyI y))
  (hK:wpList P ops Q rest (a.put o.dst (ptrO (f y))) w):wpList P ops Q (o :: rest) a w:=by
 obtain ⟨D,h1,h2,h3⟩:=h
 refine wpList_plain hg fun K' hK'=>?_
 obtain ⟨v,ps,hrun,hv⟩:=h1.lookup K ht hz (zd:=.lit (.int .i64 (-1))) (zp:=[]) rfl hkey
 rw [h3 y] at hv
 obtain rfl:=qvu hv
 unfold Oper.wp
 simp [execOp,hop,hm,hx,hrun,Result.andThen]
 exact hK' _ _ hK
theorem q8k {ops:Array Oper} {rest:List Oper} {o:Oper} {a:Act} {Q:Exit->Act->World->Prop}
  (hg:o.guard=none) (m x v:Operand) (t:TypeId) (hop:o.op=Op.mapUpdate t m x v)
  (e:TypeId) (K:Keyed P k) (ht:P.underlying t=some (.map k e)) (hn:n < maxLen)
  (hm:a.eval m=.map (some b)) (h:PtrMap P k w b n f) (y p:Nat) (hx:a.eval x=.int .i64 y) (hv:a.eval v=.pointer (some ⟨p,0,none⟩)) (hkey:keyOf P k (.int .i64 y)=some (kyI y))
  (hK:∀ w',PtrMap P k w' b (n+1) (fun j=>if j=y then some p else f j)->Kept [b] w w'->wpList P ops Q rest (a.put o.dst undef) w'):wpList P ops Q (o :: rest) a w:=by
 obtain ⟨D,h1,h2,h3⟩:=h
 refine wpList_plain hg fun K' hK'=>?_
 obtain ⟨w',hrun,r1,r2⟩:=h1.update K ht hn hkey (val:=.pointer (some ⟨p,0,none⟩)) (d:=.lit (.int .i64 p)) (ps:=[]) rfl
 unfold Oper.wp
 simp [execOp,hop,hm,hx,hv,hrun,Result.andThen]
 refine hK' _ _ (hK w' ⟨_,r1,h2.put _ _,fun z=>?_⟩ (Kept.of_grown r2))
 by_cases e:z=y
 ·subst e
  refine (atKey_put_same h2 (by trivial) _ _).trans ?_
  simp [ptrN]
 ·refine (atKey_put_other (fun h=>e (by
   have h2:(Lit.int .i64 (z:Int))=.int .i64 (y:Int):=by first | exact h | exact h.symm
   injection h2 with _ h2
   omega)) _ _).trans ?_
  rw [h3 z]
  simp [e]
end
end Go.Proofs.YtlnekijhbnlclaaGreatDoor
namespace Go.Proofs.YtlnekijhbnlclaaGreatDoor
open Go.RowKit
def YT:Tys:=⟨93,83,42⟩
structure PiM where
 x:Pie
 p:Option Nat
def piC (m:PiM):List Value:=[.int .u8 m.x.kind,.int .i64 m.x.width,.int .i64 m.x.spot.width,.int .i64 m.x.spot.up,.int .i64 m.x.spot.down,.int .u8 m.x.spot.align,.int .i64 m.x.at_,.int .i64 m.x.top,.int .i64 m.x.left,.string m.x.text,ptrO m.p]
theorem qom (p:Option Nat):(ptrO p).oneCell'=true:=by cases p <;> rfl
theorem q0f (m:PiM):∀ v ∈ piC m,v.oneCell'=true:=by
 intro v hv
 unfold piC at hv
 simp only [List.mem_cons,List.not_mem_nil,or_false] at hv
 (repeat' (rcases hv with rfl | hv)) <;> first | rfl | exact qom _ | (subst hv; exact qom _)
def shPi:Shp PiM:=⟨193,11,piC,fun _=>rfl,q0f⟩
theorem q8d:(Tryz.prog.info? 193).map (·.size)=some 11:=by kernel_rfl
theorem qcf:shPi.Ok Tryz.prog 188 96:=by
 refine ⟨Tryz.underlying188,?_,by decide,by decide⟩
 have h:(Tryz.prog.info? 193).map (fun i=>(i.zero,i.size,i.bytes))=some (some (.agg #[.int .u8 0,.int .i64 0,.int .i64 0,.int .i64 0,.int .i64 0,.int .u8 0,.int .i64 0,.int .i64 0,.int .i64 0,.string ⟨#[]⟩,.pointer none]),11,96):=by kernel_rfl
 cases hi:Tryz.prog.info? 193 with
 | none=>rw [hi] at h; cases h
 | some i =>
  rw [hi] at h
  injection h with h
  injection h with h1 h2
  injection h2 with h2 h3
  exact ⟨i,_,hi,h1,h2,h3,rfl⟩
def bareM (l:List Pie):List PiM:=l.map fun x=>⟨x,none⟩
end Go.Proofs.YtlnekijhbnlclaaGreatDoor
namespace Go.Proofs.YtlnekijhbnlclaaGreatDoor
open Go.RowKit Go.Shelf
theorem BoxAt.typ {Y:Tys} {w:World} {base:Nat}:∀ {d:Nat} {b:BT} {p:Nat} {fp:List Nat},BoxAt Y w base d b p fp->∀ g ∈ fp,∃ cs t fr,w.heap[g]?=some (Obj.cells cs t fr)/\(t=Y.box\/t=Y.ptr\/t=Y.frag)
 | d+1,b,p,fp,⟨kv,tv,ps,fks,h1,h2,h3,h4,h5,h6,h7,h8,h9⟩,g,hg=>by
  have row:∀ {α:Type} {S:Shp α} {v:Value} {L:List α},S.Owns w base v L->g ∈ blkL v->∃ cs fr,w.heap[g]?=some (Obj.cells cs S.t fr):=by
   intro α S v L h hm
   rcases h.2 with ⟨rfl,_⟩ | ⟨k,cap,cur,rfl,_,hb,_⟩
   ·cases hm
   ·obtain rfl:g=k:=by
     have:=mem_blkL.1 hm
     simp only [Value.ownBlock,Option.some.injEq] at this
     exact this.symm
    exact ⟨_,_,hb⟩
  subst h7
  rcases List.mem_cons.1 hg with rfl | hg
  ·exact ⟨_,_,_,h1,.inl rfl⟩
  rcases List.mem_append.1 hg with hg | hg
  ·obtain ⟨cs,fr,h⟩:=row h2 hg
   exact ⟨cs,_,fr,h,.inr (.inl rfl)⟩
  rcases List.mem_append.1 hg with hg | hg
  ·obtain ⟨cs,fr,h⟩:=row h3 hg
   exact ⟨cs,_,fr,h,.inr (.inr rfl)⟩
  obtain ⟨f,hf,hg⟩:=List.mem_flatten.1 hg
  obtain ⟨i,hi,rfl⟩:=List.getElem_of_mem hf
  exact BoxAt.typ (h6 i (by omega) (ps[i]'(by omega)) fks[i] (List.getElem?_eq_getElem _) (List.getElem?_eq_getElem _)) g hg
structure Chg (base:Nat) (T:List TypeId) (w w':World):Prop where
 os:w'.os=w.os
 tape:w'.tape=w.tape
 output:w'.output=w.output
 size:w.heap.size<=w'.heap.size
 low:∀ k:Nat,k < w.heap.size->k < base->w'.heap[k]?=w.heap[k]?
 typ:∀ (k:Nat) (cs:Array Value) (t:TypeId) (fr:Nat×Nat),w.heap[k]?=some (Obj.cells cs t fr)->t ∉ T->w'.heap[k]?=w.heap[k]?
section
variable {base:Nat} {T:List TypeId} {w w' w'':World}
theorem Chg.refl (base:Nat) (T:List TypeId) (w:World):Chg base T w w:=⟨rfl,rfl,rfl,Nat.le_refl _,fun _ _ _=>rfl,fun _ _ _ _ _ _=>rfl⟩
theorem Chg.trans (h:Chg base T w w') (k:Chg base T w' w''):Chg base T w w'' :=
 ⟨k.os.trans h.os,k.tape.trans h.tape,k.output.trans h.output,Nat.le_trans h.size k.size,fun i hi hb=>(k.low i (Nat.lt_of_lt_of_le hi h.size) hb).trans (h.low i hi hb),
  fun i cs t fr hi h1=>(k.typ i cs t fr ((h.typ i cs t fr hi h1).trans hi) h1).trans (h.typ i cs t fr hi h1)⟩
theorem Chg.of_kept {gs:List Nat} (h:Kept gs w w') (hb:∀ g ∈ gs,base<=g) (ht:∀ g ∈ gs,∀ cs t fr,w.heap[g]?=some (Obj.cells cs t fr)->t ∈ T):Chg base T w w' :=
 ⟨h.os,h.tape,h.output,h.size,fun k hk hl=>h.block k hk fun hm=>by have:=hb k hm; omega,
  fun k cs t fr hk h1=>h.block k (Array.getElem?_eq_some_iff.1 hk).1 fun hm=>h1 (ht k hm cs t fr hk)⟩
theorem Chg.of_nil (h:Kept [] w w'):Chg base T w w':=Chg.of_kept h (by simp) (by simp)
theorem Chg.of_below {B:Nat} (h:Below B w w') (hB:B=w.heap.size):Chg base T w w':=Chg.of_nil (Kept.of_below (hB ▸ h))
theorem Chg.blk (h:Chg base T w w') {g:Nat} {t:TypeId} {cs:Array Value} (hg:Blk w g t cs) (h1:t ∉ T):Blk w' g t cs:=(h.typ g _ _ _ hg h1).trans hg
theorem Chg.owns (h:Chg base T w w') {α:Type} {S:Shp α} {b:Nat} {v:Value} {L:List α} (ho:S.Owns w b v L) (h1:S.t ∉ T):S.Owns w' b v L:=by
 obtain ⟨e,ho⟩:=ho
 refine ⟨e,?_⟩
 rcases ho with ho | ⟨k,cap,cur,e1,hk,hb,r⟩
 ·exact .inl ho
 ·exact .inr ⟨k,cap,cur,e1,hk,(h.typ k _ _ _ hb h1).trans hb,r⟩
theorem Chg.boxes (h:Chg base T w w') {b d:Nat} {bs:List BT} {ps:List Nat} {fks:List (List Nat)} (hx:BoxesAt YT w b d bs ps fks) (h1:YT.box ∉ T) (h2:YT.ptr ∉ T) (h3:YT.frag ∉ T):BoxesAt YT w' b d bs ps fks :=
 hx.keep h.size fun g hg=>by
  obtain ⟨f,hf,hg⟩:=List.mem_flatten.1 hg
  obtain ⟨i,hi,rfl⟩:=List.getElem_of_mem hf
  have e1:=hx.lenP
  have e2:=hx.lenF
  obtain ⟨cs,t,fr,h4,h5⟩:=(hx.box i (by omega) (ps[i]'(by omega)) fks[i] (List.getElem?_eq_getElem _) (List.getElem?_eq_getElem _)).typ g hg
  refine h.typ g cs t fr h4 ?_
  rcases h5 with rfl | rfl | rfl
  ·exact h1
  ·exact h2
  ·exact h3
theorem Chg.below (h:Chg base T w w') {B:Nat} (hB:B<=base) (hs:B<=w.heap.size):Below B w w':=⟨h.os,h.tape,h.output,h.size,fun k hk=>h.low k (by omega) (by omega)⟩
theorem qsb {α:Type} {S:Shp α} {b:Nat} {v:Value} {L:List α} (ho:S.Owns w b v L) {g:Nat} (hg:v.ownBlock=some g) {cs:Array Value} {t:TypeId} {fr:Nat×Nat} (hb:w.heap[g]?=some (Obj.cells cs t fr)):t=S.t:=by
 rcases ho.2 with ⟨rfl,_⟩ | ⟨k,cap,cur,rfl,_,h2,_⟩
 ·cases hg
 ·simp only [Value.ownBlock,Option.some.injEq] at hg
  subst hg
  rw [h2] at hb
  injection hb with hb
  injection hb with _ hb
  exact hb.symm
theorem qvb {g:Nat} {t t':TypeId} {cs cs':Array Value} {fr:Nat×Nat} (h:Blk w g t cs) (hb:w.heap[g]?=some (Obj.cells cs' t' fr)):t'=t:=by
 unfold Blk at h
 rw [h] at hb
 injection hb with hb
 injection hb with _ hb
 exact hb.symm
end
structure En where
 key:Nat
 p:Nat
 fp:List Nat
 b:BT
def updF {α:Type} (f:Nat->Option α) (k:Nat) (x:α):Nat->Option α:=fun j=>if j=k then some x else f j
theorem qbd {α:Type} {f:Nat->Option α} {k:Nat} {x:α} (h:f k=some x):updF f k x=f:=by
 funext j
 unfold updF
 split
 ·rename_i e; rw [e,h]
 ·rfl
theorem qjc (m:Bx) (k:Nat) (b:BT):getX (putX m k b)=updF (getX m) k b:=by
 funext j
 unfold getX putX updF
 rw [List.find?_cons]
 by_cases h:k=j
 ·subst h; simp
 ·have h1:(k == j)=false:=by simp [h]
  rw [h1,if_neg (fun e=>h e.symm)]
structure RB (ns:List Nd) (w:World) (base d mb n:Nat) (f:Nat->Option Nat) (LB:List En) (G:Nat->Option BT) (M:List PiM):Prop where
 boxes:BoxesAt YT w base d (LB.map En.b) (LB.map En.p) (LB.map En.fp)
 keys:(LB.map En.key).Nodup
 map:PtrMap Tryz.prog 3 w mb n f
 got:∀ k b,G k=some b->∃ e ∈ LB,e.key=k/\e.b=b/\f k=some e.p
 non:∀ k,G k=none->f k=none
 held:∀ x ∈ M,∀ b0,x.x.box=some b0->∃ e ∈ LB,e.key=x.x.at_/\x.p=some e.p/\∃ u v,e.b=b0.put u v
 bare:∀ x ∈ M,x.x.box=none->x.p=none
 txt:∀ e ∈ LB,(∃ b,G e.key=some b)\/(ndAt ns e.key).kind=0
section
variable {ns:List Nd} {w w':World} {base d mb n n':Nat} {f:Nat->Option Nat} {LB:List En} {G:Nat->Option BT} {M:List PiM}
theorem q9i {LB:List En} (h:(LB.map En.key).Nodup) {e e':En} (he:e ∈ LB) (he':e' ∈ LB) (hk:e.key=e'.key):e=e':=by
 obtain ⟨i,hi,rfl⟩:=List.getElem_of_mem he
 obtain ⟨j,hj,rfl⟩:=List.getElem_of_mem he'
 have h2:∀ a b (ha:a < LB.length) (hb:b < LB.length),a < b->LB[a].key≠LB[b].key:=fun a b ha hb hab=>by
  have:=List.pairwise_iff_getElem.1 h a b (by simpa using ha) (by simpa using hb) hab
  simpa using this
 rcases Nat.lt_trichotomy i j with hij | hij | hij
 ·exact absurd hk (h2 i j hi hj hij)
 ·subst hij; rfl
 ·exact absurd hk.symm (h2 j i hj hi hij)
theorem RB.box (h:RB ns w base d mb n f LB G M) {e:En} (he:e ∈ LB):BoxAt YT w base d e.b e.p e.fp:=by
 obtain ⟨i,hi,rfl⟩:=List.getElem_of_mem he
 have:=h.boxes.box i (by simpa using hi) LB[i].p LB[i].fp (by simp [hi]) (by simp [hi])
 simpa using this
theorem RB.nomap (h:RB ns w base d mb n f LB G M) {e:En} (he:e ∈ LB):mb ∉ e.fp:=fun hm=>by
 obtain ⟨cs,t,fr,h1,_⟩:=(h.box he).typ mb hm
 obtain ⟨D,⟨es,clock,h2,_⟩,_⟩:=h.map
 rw [h1] at h2
 cases h2
theorem RB.kept {gs:List Nat} (h:RB ns w base d mb n f LB G M) (hk:Kept gs w w') (hf:∀ e ∈ LB,∀ g ∈ e.fp,g ∉ gs) (hm:mb ∉ gs):RB ns w' base d mb n f LB G M :=
 ⟨h.boxes.kept hk fun g hg=>by
  obtain ⟨x,hx,hg⟩:=List.mem_flatten.1 hg
  obtain ⟨e,he,rfl⟩:=List.mem_map.1 hx
  exact hf e he g hg,h.keys,h.map.kept hk hm,h.got,h.non,h.held,h.bare,h.txt⟩
theorem RB.fresh_ (h:RB ns w base d mb n f LB G M) (hk:Kept [] w w'):RB ns w' base d mb n f LB G M:=h.kept hk (by simp) (by simp)
theorem RB.change (h:RB ns w base d mb n f LB G M) {e:En} (he:e ∈ LB) {b':BT} {fp':List Nat} (hk:Kept (mb :: e.fp) w w') (hb:BoxAt YT w' base d b' e.p fp') (hn:∀ g ∈ fp',g ∈ e.fp\/w.heap.size<=g)
  (hm:PtrMap Tryz.prog 3 w' mb n' (updF f e.key e.p)) (hh:∀ x ∈ M,∀ b0,x.x.box=some b0->x.x.at_=e.key->∃ u v,b'=b0.put u v) :
  ∃ LB',RB ns w' base d mb n' (updF f e.key e.p) LB' (updF G e.key b') M/\∃ e' ∈ LB',e'.key=e.key/\e'.p=e.p/\e'.b=b'/\e'.fp=fp':=by
 obtain ⟨i,hi,rfl⟩:=List.getElem_of_mem he
 have hke:(LB.map En.key)=((LB.set i ⟨LB[i].key,LB[i].p,fp',b'⟩).map En.key):=by
  refine List.ext_getElem (by simp) fun j h1 h2=>?_
  by_cases e:i=j
  ·subst e; simp
  ·simp [List.getElem_set_ne e]
 have hpe:(LB.map En.p)=((LB.set i ⟨LB[i].key,LB[i].p,fp',b'⟩).map En.p):=by
  refine List.ext_getElem (by simp) fun j h1 h2=>?_
  by_cases e:i=j
  ·subst e; simp
  ·simp [List.getElem_set_ne e]
 have hno:=h.nomap he
 have hset:BoxesAt YT w' base d ((LB.map En.b).set i b') (LB.map En.p) ((LB.map En.fp).set i fp'):=by
  have h1:∀ j (hj:j < LB.length),mb ∉ LB[j].fp:=fun j hj=>h.nomap (List.getElem_mem hj)
  have hk2:∀ g,g ∈ (LB.map En.fp).flatten->g ∉ LB[i].fp->w'.heap[g]?=w.heap[g]?:=fun g hg hgn=>by
   refine hk.block g (h.boxes.mem_lt g hg).2 ?_
   rw [List.mem_cons]
   rintro (rfl | hm)
   ·obtain ⟨x,hx,hg⟩:=List.mem_flatten.1 hg
    obtain ⟨e,he,rfl⟩:=List.mem_map.1 hx
    exact h.nomap he hg
   ·exact hgn hm
  refine BoxesAt.set_ (i:=i) (p:=LB[i].p) (f:=LB[i].fp) h.boxes (by simpa using hi) (by simp [hi]) (by simp [hi]) hk.size hk2 hb hn
 refine ⟨LB.set i ⟨LB[i].key,LB[i].p,fp',b'⟩,⟨?_,hke ▸ h.keys,hm,?_,?_,?_,h.bare,?_⟩,⟨LB[i].key,LB[i].p,fp',b'⟩,List.mem_of_getElem? (List.getElem?_set_self hi),rfl,rfl,rfl,rfl⟩
 ·rw [<-hpe,List.map_set,List.map_set]
  exact hset
 ·intro k b hgk
  unfold updF at hgk ⊢
  by_cases e1:k=LB[i].key
  ·rw [if_pos e1] at hgk
   cases hgk
   exact ⟨⟨LB[i].key,LB[i].p,fp',b'⟩,List.mem_of_getElem? (List.getElem?_set_self hi),e1.symm,rfl,by rw [if_pos e1]⟩
  ·rw [if_neg e1] at hgk
   obtain ⟨e2,he2,hk2,hb2,hf2⟩:=h.got k b hgk
   refine ⟨e2,?_,hk2,hb2,by rw [if_neg e1]; exact hf2⟩
   obtain ⟨j,hj,rfl⟩:=List.getElem_of_mem he2
   have hij:i≠j:=fun e=>e1 (by subst e; exact hk2.symm)
   exact List.mem_of_getElem? (by rw [List.getElem?_set_ne hij]; exact List.getElem?_eq_getElem hj)
 ·intro k hgk
  unfold updF at hgk ⊢
  by_cases e1:k=LB[i].key
  ·rw [if_pos e1] at hgk; cases hgk
  ·rw [if_neg e1] at hgk ⊢
   exact h.non k hgk
 ·intro x hx b0 hb0
  obtain ⟨e2,he2,hk2,hp2,u,v,hv⟩:=h.held x hx b0 hb0
  obtain ⟨j,hj,rfl⟩:=List.getElem_of_mem he2
  by_cases hij:i=j
  ·subst hij
   obtain ⟨u',v',h'⟩:=hh x hx b0 hb0 hk2.symm
   exact ⟨⟨LB[i].key,LB[i].p,fp',b'⟩,List.mem_of_getElem? (List.getElem?_set_self hi),hk2,hp2,u',v',h'⟩
  ·exact ⟨LB[j],List.mem_of_getElem? (by rw [List.getElem?_set_ne hij]; exact List.getElem?_eq_getElem hj),hk2,hp2,u,v,hv⟩
 ·intro e2 he2
  have:e2.key ∈ (LB.set i ⟨LB[i].key,LB[i].p,fp',b'⟩).map En.key:=List.mem_map.2 ⟨e2,he2,rfl⟩
  rw [<-hke] at this
  obtain ⟨e3,he3,hk3⟩:=List.mem_map.1 this
  rw [<-hk3]
  rcases h.txt e3 he3 with ⟨b,hb⟩ | h4
  ·left
   unfold updF
   split
   ·exact ⟨_,rfl⟩
   ·exact ⟨b,hb⟩
  ·exact .inr h4
theorem RB.new (h:RB ns w base d mb n f LB G M) {k g:Nat} {b':BT} (hg0:w.heap.size<=g) (_hb0:base<=w.heap.size) (hk:Kept [mb] w w') (hb:BoxAt YT w' base d b' g [g])
  (hm:PtrMap Tryz.prog 3 w' mb n' (updF f k g)) (hG:G k=none) (hx:(ndAt ns k).kind≠0) :
  ∃ LB',RB ns w' base d mb n' (updF f k g) LB' (updF G k b') M/\∃ e' ∈ LB',e'.key=k/\e'.p=g/\e'.b=b':=by
 have hkn:∀ e ∈ LB,e.key≠k:=fun e he hek=>by
  rcases h.txt e he with ⟨b,hb⟩ | h0
  ·rw [hek,hG] at hb; cases hb
  ·exact hx (hek ▸ h0)
 have hw:BoxesAt YT w' base d (LB.map En.b) (LB.map En.p) (LB.map En.fp):=h.boxes.kept hk fun q hq=>by
  obtain ⟨x,hx,hg⟩:=List.mem_flatten.1 hq
  obtain ⟨e,he,rfl⟩:=List.mem_map.1 hx
  rw [List.mem_singleton]
  rintro rfl
  exact h.nomap he hg
 refine ⟨LB ++ [⟨k,g,[g],b'⟩],⟨?_,?_,hm,?_,?_,?_,h.bare,?_⟩,⟨k,g,[g],b'⟩,by simp,rfl,rfl,rfl⟩
 ·rw [List.map_append,List.map_append,List.map_append]
  refine hw.snoc hb fun q hq=>?_
  rw [List.mem_singleton.1 hq]
  intro hm
  have:=(h.boxes.mem_lt g hm).2
  omega
 ·rw [List.map_append,List.nodup_append]
  refine ⟨h.keys,by simp,fun a ha b hb e=>?_⟩
  obtain ⟨e1,he1,rfl⟩:=List.mem_map.1 ha
  simp at hb
  exact hkn e1 he1 (e.trans hb)
 ·intro j b hgj
  unfold updF at hgj ⊢
  by_cases e1:j=k
  ·rw [if_pos e1] at hgj
   cases hgj
   exact ⟨⟨k,g,[g],b'⟩,by simp,e1.symm,rfl,by rw [if_pos e1]⟩
  ·rw [if_neg e1] at hgj
   obtain ⟨e2,he2,r⟩:=h.got j b hgj
   exact ⟨e2,List.mem_append_left _ he2,by rw [if_neg e1]; exact r⟩
 ·intro j hgj
  unfold updF at hgj ⊢
  by_cases e1:j=k
  ·rw [if_pos e1] at hgj; cases hgj
  ·rw [if_neg e1] at hgj ⊢
   exact h.non j hgj
 ·intro x hx1 b0 hb0
  obtain ⟨e2,he2,r⟩:=h.held x hx1 b0 hb0
  exact ⟨e2,List.mem_append_left _ he2,r⟩
 ·intro e2 he2
  rcases List.mem_append.1 he2 with he2 | he2
  ·rcases h.txt e2 he2 with ⟨b,hb⟩ | h4
   ·left
    unfold updF
    split
    ·exact ⟨_,rfl⟩
    ·exact ⟨b,hb⟩
   ·exact .inr h4
  ·rw [List.mem_singleton.1 he2]
   exact .inl ⟨b',by unfold updF; rw [if_pos rfl]⟩
end
end Go.Proofs.YtlnekijhbnlclaaGreatDoor
namespace Go.Proofs.YtlnekijhbnlclaaGreatDoor
open Go.RowKit Go.Shelf Go.Maps
set_option linter.unusedSimpArgs false
set_option linter.unusedVariables false
theorem qqj {next:Int}:∀ {l:List Nd} {met:List Int} {d:Int} {kd:Nat},qdb next l met d kd=true->∀ n ∈ l,fitsN n next=true
 | [],_,_,_,_=>by simp
 | n :: r,met,d,kd,h=>by
  rw [qhf] at h
  simp only [Bool.and_eq_true] at h
  intro m hm
  rcases List.mem_cons.1 hm with rfl | hm
  ·exact h.1.1.1.1.1
  ·exact qqj h.2 m hm
theorem qaw {n:Nd} {next:Int} (h:fitsN n next=true):n.kind=0\/n.kind=1:=by
 unfold fitsN at h
 split at h
 ·cases h
 ·split at h
  ·left; assumption
  ·simp only [Bool.and_eq_true,decide_eq_true_eq] at h
   exact .inr h.1.1
theorem qmj (n:Nd) (r:List Nd) (flex:List Int):q4a (n :: r) flex=(if ((decide (n.kind=0) && !stOk n.st) || (decide (n.kind=1) && decide (flex.getD n.depth.toNat 0 < 0)) || (q6b n && decide (6<=absI (flex.getD n.depth.toNat 0))))=true then false
  else q4a r (flex.set (n.depth.toNat+1) (if q6b n=true then -(absI (flex.getD n.depth.toNat 0)+1) else absI (flex.getD n.depth.toNat 0)))):=rfl
def z17:List Int:=List.replicate 17 0
def iL (l:List Int):List Value:=l.map (Value.int .i64)
theorem qjs (w:World) (L:Array Value):∃ W,W=w.alloc (.cells L 24)/\Blk W w.heap.size 24 L/\Below w.heap.size w W/\W.heap.size=w.heap.size+1 :=
 ⟨_,rfl,Blk.new w _ _,(Below.refl _ _).alloc (Nat.le_refl _) _,World.size_alloc _ _⟩
theorem Blk.setI {W:World} {g j:Nat} {t:TypeId} {fl:List Int} (h:Blk W g t (iL fl).toArray) (v:Int):Blk (W.setCell ⟨g,j,none⟩ (.int .i64 v)) g t (iL (fl.set j v)).toArray:=by
 have:=h.set_ j (.int .i64 v)
 unfold iL
 rw [List.map_set]
 simpa [iL] using this
theorem qrl {fl:List Int} {j:Nat} {v:Int} (h:∀ v ∈ fl,-6<=v/\v<=6) (hv:-6<=v/\v<=6):∀ u ∈ fl.set j v,-6<=u/\u<=6:=fun u hu=>by
 rcases List.mem_or_eq_of_mem_set hu with h1 | rfl
 ·exact h u h1
 ·exact hv
def FxR (ns:List Nd) (dv:Value) (next:Int) (g:Nat) (w:World) (i:Value) (wr:World):Prop :=
 ∃ (k:Nat) (fl:List Int),k<=ns.length/\i=.int .i64 k/\Below w.heap.size w wr/\Blk wr w.heap.size 24 #[dv,.int .i64 next]/\Blk wr g 71 (iL fl).toArray/\fl.length=17/\(∀ v ∈ fl,-6<=v/\v<=6) /\
  q4a ns z17=q4a (ns.drop k) fl
theorem qvg {n:Nd} {r:List Nd} {fl:List Int} {up:Int} (h:fl.getD n.depth.toNat 0=up) (hb:(n.kind=0/\stOk n.st=false)\/(n.kind=1/\up < 0)\/(q6b n=true/\6<=absI up)):q4a (n :: r) fl=false:=by
 rw [qmj,h]
 refine if_pos ?_
 simp only [Bool.or_eq_true,Bool.and_eq_true,decide_eq_true_eq,Bool.not_eq_true']
 rcases hb with hb | hb | hb
 ·exact .inl (.inl hb)
 ·exact .inl (.inr hb)
 ·exact .inr hb
theorem qzh {n:Nd} {r:List Nd} {fl:List Int} {up:Int} (h:fl.getD n.depth.toNat 0=up) (h1:n.kind=0->stOk n.st=true) (h2:n.kind=1->¬ up < 0) (h3:q6b n=true->¬ 6<=absI up) :
  q4a (n :: r) fl=q4a r (fl.set (n.depth.toNat+1) (if q6b n=true then -(absI up+1) else absI up)):=by
 rw [qmj,h]
 refine if_neg ?_
 simp only [Bool.or_eq_true,Bool.and_eq_true,decide_eq_true_eq,Bool.not_eq_true']
 rintro ((⟨a,b⟩ | ⟨a,b⟩) | ⟨a,b⟩)
 ·rw [h1 a] at b; cases b
 ·exact h2 a b
 ·exact h3 a b
theorem qvi {ns:List Nd} {dv:Value} {next:Int} {g k d:Nat} {w W:World} {fl:List Int} (hk:k < ns.length) (hb:Below w.heap.size w W) (gd:Blk W w.heap.size 24 #[dv,.int .i64 next]) (gf:Blk W g 71 (iL fl).toArray) (hg:w.heap.size < g)
  (hfl:fl.length=17) (hbd:∀ v ∈ fl,-6<=v/\v<=6) {v:Int} (hv:-6<=v/\v<=6) (hgo:q4a ns z17=q4a (ns.drop (k+1)) (fl.set (d+1) v)) :
  FxR ns dv next g w (.int .i64 ((k:Int)+1)) (W.setCell ⟨g,d+1,none⟩ (.int .i64 v)) :=
 ⟨k+1,_,hk,rfl,hb.trans (((Kept.refl [g] W).setCell (p:=⟨g,d+1,none⟩) (by simp) _).to_below hb.size (by simp; omega)),gd.far (by show w.heap.size≠g; omega) _,gf.setI v,by rw [List.length_set,hfl],qrl hbd hv,hgo⟩
theorem qrh {W:World} {g j:Nat} {t:TypeId} {fl:List Int} (h:Blk W g t (iL fl).toArray) (hj:j < fl.length):W.cell? ⟨g,j,none⟩=some (.int .i64 (fl.getD j 0)):=by
 refine (h.cell j).trans ?_
 rw [List.getElem?_toArray]
 unfold iL
 rw [List.getElem?_map,List.getD_eq_getElem?_getD,List.getElem?_eq_getElem hj]
 rfl
set_option maxRecDepth 100000 in
set_option maxHeartbeats 8000000 in
theorem qel (ns:List Nd) (dv:Value) (next:Int) (B:Nat) (w:World) (h:DocIn w B dv ns) (hB:B<=w.heap.size) (hw:∀ n ∈ ns,(ndC n).all wfC=true) (ht9:∀ n ∈ ns,n.text.size<=140737488355328) :
  Calls Tryz.prog 33 #[docA dv next] w fun e w'=>e=.returned (.bool (qgb ns next))/\Below w.heap.size w w':=by
 have hI:=h
 obtain ⟨A,c,hv,hc,hr⟩:=h
 subst hv
 clear hr
 unfold docA
 obtain ⟨w1,hw1,g1,hb1,z1⟩:=qjs w #[.slice A ns.length c,.int .i64 next]
 have hs:=qlq ns (.slice A ns.length c) next B w1 (hI.below (hb1.mono hB)) (by omega) hw ht9
 unfold docA at hs
 have HI:=Lib.hid hI
 have HZ:=Lib.hid z1
 have HW:=Lib.hid hw1
 have HN:=Lib.hid (show qgb ns next=(q9a ns next && q4a ns z17) from rfl)
 obtain ⟨S,hS⟩:∃ S,q9a ns next=S:=⟨_,rfl⟩
 rw [hS] at hs
 have HS:=Lib.hid hS
 have c0:w1.cell? ⟨w.heap.size,0,none⟩=some (.slice A ns.length c):=g1.cell 0
 have c1:w1.cell? ⟨w.heap.size,1,none⟩=some (.int .i64 next):=g1.cell 1
 clear z1 hw1 hS hI hw ht9
 go_enter Tryz.func33,Tryz.ntmps33
 go_upto_region 1 with fail
 change Code.wp _ _ _ _ (w.alloc (.cells #[.slice A ns.length c,.int .i64 next] 24))
 rw [<-HW.out]
 go_wp2_with fail
 refine hs.mono ?_
 rintro e w2 ⟨rfl,hb2⟩
 have hB2:Below w.heap.size w w2:=hb1.trans (hb2.mono hb1.size)
 have g2:=g1.below hb2 g1.lt
 clear hb2 g1 c0 c1 hs hb1
 cases S with
 | false =>
  have HN:=Lib.hid (HN.out.trans (by rw [HS.out]; rfl:_=false))
  go_wp2_with fail
  go_ret
  exact ⟨by rw [HN.out]; rfl,hB2⟩
 | true =>
  have HN:=Lib.hid (HN.out.trans (by rw [HS.out]; rfl:_=q4a ns z17))
  have hsh:qdb next ns [] (-1) 0=true:=by
   have:=HS.out
   unfold q9a at this
   simp only [Bool.and_eq_true] at this
   exact this.1.1.2
  have hl:ns.length<=300:=by
   have:=HS.out
   unfold q9a at this
   simp only [Bool.and_eq_true,decide_eq_true_eq] at this
   omega
  have hft:=qqj hsh
  have HFT:=Lib.hid hft
  clear hft hsh
  go_upto_region 4 with fail
  change Code.wp _ _ _ _ (w2.alloc (.cells (iL z17).toArray 71))
  have g3:=Blk.new w2 71 (iL z17).toArray
  have hb3:Below w.heap.size w (w2.alloc (.cells (iL z17).toArray 71)):=hB2.alloc hB2.size _
  have gd3:Blk (w2.alloc (.cells (iL z17).toArray 71)) w.heap.size 24 #[.slice A ns.length c,.int .i64 next]:=g2.below ((Below.refl _ _).alloc (Nat.le_refl _) _) g2.lt
  have hlt2:w.heap.size < w2.heap.size:=g2.lt
  generalize (w2.alloc (.cells (iL z17).toArray 71))=w3 at *
  clear g2 hB2
  generalize w2.heap.size=g at *
  have c0:w3.cell? ⟨w.heap.size,0,none⟩=some (.slice A ns.length c):=gd3.cell 0
  go_wp2_with fail
  clear c0
  go_loopw [14] (FxR ns (.slice A ns.length c) next g w) (fun i _=>ns.length - (intOf i).toNat)
  case atStart=>exact ⟨0,z17,Nat.zero_le _,rfl,hb3,gd3,g3,rfl,fun v hv=>by rw [(List.mem_replicate.1 hv).2]; omega,rfl⟩
  case round =>
   obtain ⟨k,fl,hk,rfl,hbr,gd,gf,hfl,hbd,hgo⟩:=hrel
   have HG:=Lib.hid hgo
   clear hgo hb3 gd3 g3
   by_cases hlt:k < ns.length
   ·obtain ⟨b,o,rfl,hb,hcell⟩:=Shp.In.at_ (S:=shNd) HI.out (by decide) (by omega)
    have hrg:wr.rangeAt b (o+k * 51) (ndC (ns[k])):=fun j v hv=>by
     have hj:j < 51:=(List.getElem?_eq_some_iff.1 hv).1
     have:=hcell k hlt j hj
     rw [Nat.add_assoc]
     exact ((hbr.cell (p:=⟨b,o+(k * 51+j),none⟩) (by show b < _; omega)).trans this).trans hv
    have HR:=Lib.hid hrg
    have HF:=Lib.hid (HFT.out _ (List.getElem_mem hlt))
    have HT:=Lib.hid (show ns.drop k=ns[k] :: ns.drop (k+1) from List.drop_eq_getElem_cons hlt)
    generalize ns[k]=n at *
    clear hrg hcell
    have hz:(k:Int) < (ns.length:Int):=by omega
    have HB:=Lib.hid hbd
    have HD:=Lib.hid (And.intro gd gf)
    have hgs:w.heap.size < wr.heap.size/\g < wr.heap.size:=⟨gd.lt,gf.lt⟩
    have HBR:=Lib.hid hbr
    clear hbr gd gf hbd
    go_upto_region 7 with (first | (refine wpList_load_mid rfl 35 _ rfl b (o+k * 51) rfl (ndC n) _ HR.out Tryz.underlying35 rfl qza ?_) | (refine qxa rfl 35 _ _ rfl wr.heap.size 35 (ndC nd0) (ndC n) rfl (Blk.new wr _ _) rfl rfl qza (qec _) ?_; intro w4 r3 r4 r5))
    have kw:Kept [] wr w4:=((Kept.refl [] wr).alloc _).fresh r4 (by simp)
    have gd4:=HD.out.1.kept kw (by simp)
    have gf4:=HD.out.2.kept kw (by simp)
    have hb4:Below w.heap.size w w4:=HBR.out.trans (kw.to_below HBR.out.size (by simp))
    have HW4:=Lib.hid (And.intro hb4 gd4)
    clear kw r4 r5 HBR HD hb4 gd4
    generalize wr.heap.size=p at *
    obtain ⟨key,depth,kind,st,text⟩:=n
    obtain ⟨q0,q1,q2⟩:=qbk HF.out
    have hkd:=qaw HF.out
    simp only at q0 q1 hkd
    obtain ⟨d,rfl⟩:=Int.eq_ofNat_of_zero_le q0
    have hd:d < 16:=by omega
    have hdi:(d:Int) < 17:=by omega
    obtain ⟨up,hup⟩:∃ up,fl.getD d 0=up:=⟨_,rfl⟩
    have hmem:up ∈ fl:=by
     rw [<-hup,List.getD_eq_getElem?_getD,List.getElem?_eq_getElem (by omega)]
     exact List.getElem_mem _
    obtain ⟨u0,u1⟩:=HB.out up hmem
    have cu:w4.cell? ⟨g,d,none⟩=some (.int .i64 up):=by
     refine (gf4.cell d).trans ?_
     rw [List.getElem?_toArray]
     unfold iL
     rw [List.getElem?_map,<-hup,List.getD_eq_getElem?_getD,List.getElem?_eq_getElem (by omega)]
     rfl
    have c0:w4.cell? ⟨p,1,none⟩=some (.int .i64 d):=r3.cell 1
    clear q0 q1 q2 hmem
    have HU:=Lib.hid hup
    clear hup
    go_upto_region 9 with fail
    clear c0 cu
    have c0:w4.cell? ⟨p,2,none⟩=some (.int .u8 kind):=r3.cell 2
    have c1:w4.cell? ⟨p,3,none⟩=some (.int .u8 st.display):=r3.cell 3
    have hst:∀ j v,(stC st)[j]?=some v->(ndC ⟨key,d,kind,st,text⟩)[3+j]?=some v:=nd_st ⟨key,d,kind,st,text⟩
    have HSt:=Lib.hid hst
    clear hst
    have h1:=fun W ts t=>q0c (P:=Tryz.prog) W ts t up (-up)
    have hm0:0<=max up (-up):=by omega
    have hm1:max up (-up)<=6:=by omega
    have HM:=Lib.hid (show absI up=max up (-up) from rfl)
    rcases hkd with rfl | rfl
    ·have hsm:=q0n st w4
     by_cases e1:st.display=2
     ·have e1i:(st.display:Int)=2:=by omega
      have hown:q6b ⟨key,d,0,st,text⟩=true:=by unfold q6b; simp [e1]
      have HO:=Lib.hid hown
      clear hown
      go_wp2_with (refine qxg (by rfl) 33 _ rfl p 3 35 (ndC ⟨key,d,0,st,text⟩) (stC st) _ rfl r3 HSt.out Tryz.underlying33 rfl qoa ?_)
      refine hsm.mono ?_
      rintro e w5 ⟨rfl,hb5⟩
      have HB5:=Lib.hid (HW4.out.1.trans (hb5.mono HW4.out.1.size))
      have HD5:=Lib.hid (HW4.out.2.below hb5 HW4.out.2.lt)
      have gf5:=gf4.below hb5 gf4.lt
      have r5:=r3.below hb5 r3.lt
      have d0:w5.cell? ⟨p,2,none⟩=some (.int .u8 0):=r5.cell 2
      have d2:w5.cell? ⟨p,1,none⟩=some (.int .i64 d):=r5.cell 1
      have hd1:(d:Int)+1 < 17:=by omega
      have d3:=qrh gf5 (show d+1 < fl.length by omega)
      obtain ⟨u',hu'⟩:∃ u',fl.getD (d+1) 0=u':=⟨_,rfl⟩
      rw [hu'] at d3
      have d4:=gf5.frozen
      clear hu' hb5 c0 c1 hsm gf4 r3
      obtain ⟨q,hq⟩:∃ q,stOk st=q:=⟨_,rfl⟩
      rw [hq]
      have HQ:=Lib.hid hq
      clear hq
      cases q with
      | false =>
       have HN:=Lib.hid (show qgb ns next=false by rw [HN.out,HG.out,HT.out]; exact qvg HU.out (.inl ⟨rfl,HQ.out⟩))
       go_wp2_with fail
       go_ret
       exact ⟨by rw [HN.out]; rfl,HB5.out⟩
      | true =>
       by_cases e3:6<=max up (-up)
       ·have HN:=Lib.hid (show qgb ns next=false by rw [HN.out,HG.out,HT.out]; exact qvg HU.out (.inr (.inr ⟨HO.out,e3⟩)))
        go_wp2_with fail
        go_ret
        exact ⟨by rw [HN.out]; rfl,HB5.out⟩
       ·have HGo:=Lib.hid (show q4a ns z17=q4a (ns.drop (k+1)) ((fl.set (d+1) (max up (-up)+1)).set (d+1) (-(max up (-up)+1))) by
         rw [HG.out,HT.out,qzh (n:=⟨key,d,0,st,text⟩) HU.out (fun _=>HQ.out) (fun h=>by cases h) (fun _=>e3),HO.out,List.set_set]
         rfl)
        go_upto_region 15 with fail
        have gf6:=gf5.setI (j:=d+1) (max up (-up)+1)
        have gd6:=HD5.out.far (p:=⟨g,d+1,none⟩) (by show w.heap.size≠g; omega) (.int .i64 (max up (-up)+1))
        have hb6:Below w.heap.size w (w5.setCell ⟨g,d+1,none⟩ (.int .i64 (max up (-up)+1))):=HB5.out.trans (((Kept.refl [g] w5).setCell (p:=⟨g,d+1,none⟩) (by simp) _).to_below HB5.out.size (by simp; omega))
        have r6:=r5.far (p:=⟨g,d+1,none⟩) (by show p≠g; omega) (.int .i64 (max up (-up)+1))
        generalize w5.setCell ⟨g,d+1,none⟩ (.int .i64 (max up (-up)+1))=w6 at *
        have m0:w6.cell? ⟨p,1,none⟩=some (.int .i64 d):=r6.cell 1
        have m1:=gf6.cell (d+1)
        have m1:w6.cell? ⟨g,d+1,none⟩=some (.int .i64 (max up (-up)+1)):=by
         refine m1.trans ?_
         rw [List.getElem?_toArray]
         unfold iL
         rw [List.getElem?_map,List.getElem?_set_self (by omega)]
         rfl
        have m2:=gf6.frozen
        have HB6:=Lib.hid hb6
        have HG6:=Lib.hid (And.intro gd6 gf6)
        have hp6:=r6.lt
        have hg6:=gf6.lt
        clear d0 d2 d3 d4 hb6 gd6 gf6 r6 r5 gf5
        have m0':∀ V:BW w6.heap.size w6,V.val.cell? ⟨p,1,none⟩=some (.int .i64 d):=fun V=>(V.ok.cell (p:=⟨p,1,none⟩) (by show p < _; omega)).trans m0
        have m1':∀ V:BW w6.heap.size w6,V.val.cell? ⟨g,d+1,none⟩=some (.int .i64 (max up (-up)+1)):=fun V=>(V.ok.cell (p:=⟨g,d+1,none⟩) (by show g < _; omega)).trans m1
        have m3:w6.drew.cell? ⟨g,d+1,none⟩=some (.int .i64 (max up (-up)+1)):=m1
        have m4:∀ i,w6.drew.frozen? ⟨g,i,none⟩=false:=m2
        refine qna [10] [0,1,2,3,4,5,6,7,8,9] [10] (fun w'=>∃ V:BW (w6.heap.size) w6,w'=V.val) (by kernel_rfl) (by kernel_rfl) (fun c a d v w h=>by cases d <;> exact h) ⟨⟨w6.drew,(Below.refl _ _).drew⟩,rfl⟩ ?_
        simp only [pickD,List.map_cons,List.map_nil,List.getD_cons_zero,List.getD_cons_succ]
        repeat (go_big_quiet_step (fail))
        refine wpQuiet_nil ?_
        refine qca rfl fun K hK=>?_
        go_simp
        refine hK.out _ _ (.inl (by decide)) ?_
        clear hK K
        refine qla ?_
        go_wp2_with fail
        exact ⟨qvi hlt HB6.out.drew HG6.out.1 HG6.out.2 hlt2 (by rw [List.length_set,hfl]) (qrl HB.out (by omega)) (by omega) HGo.out,by simp [intOf]; omega⟩
     ·have e1i:¬ (st.display:Int)=2:=by omega
      have e1b:((st.display:Int) == 2)=false:=beq_false_of_ne e1i
      have hown:q6b ⟨key,d,0,st,text⟩=false:=by unfold q6b; simp [e1]
      have HO:=Lib.hid hown
      clear hown
      go_wp2_with (refine qxg (by rfl) 33 _ rfl p 3 35 (ndC ⟨key,d,0,st,text⟩) (stC st) _ rfl r3 HSt.out Tryz.underlying33 rfl qoa ?_)
      refine hsm.mono ?_
      rintro e w5 ⟨rfl,hb5⟩
      have HB5:=Lib.hid (HW4.out.1.trans (hb5.mono HW4.out.1.size))
      have HD5:=Lib.hid (HW4.out.2.below hb5 HW4.out.2.lt)
      have gf5:=gf4.below hb5 gf4.lt
      have r5:=r3.below hb5 r3.lt
      have d0:w5.cell? ⟨p,2,none⟩=some (.int .u8 0):=r5.cell 2
      have d2:w5.cell? ⟨p,1,none⟩=some (.int .i64 d):=r5.cell 1
      have hd1:(d:Int)+1 < 17:=by omega
      have d3:=qrh gf5 (show d+1 < fl.length by omega)
      obtain ⟨u',hu'⟩:∃ u',fl.getD (d+1) 0=u':=⟨_,rfl⟩
      rw [hu'] at d3
      have d4:=gf5.frozen
      clear hu' hb5 c0 c1 hsm gf4 r3
      obtain ⟨q,hq⟩:∃ q,stOk st=q:=⟨_,rfl⟩
      rw [hq]
      have HQ:=Lib.hid hq
      clear hq
      cases q with
      | false =>
       have HN:=Lib.hid (show qgb ns next=false by rw [HN.out,HG.out,HT.out]; exact qvg HU.out (.inl ⟨rfl,HQ.out⟩))
       go_wp2_with fail
       go_ret
       exact ⟨by rw [HN.out]; rfl,HB5.out⟩
      | true =>
       have HGo:=Lib.hid (show q4a ns z17=q4a (ns.drop (k+1)) (fl.set (d+1) (max up (-up))) by
        rw [HG.out,HT.out,qzh (n:=⟨key,d,0,st,text⟩) HU.out (fun _=>HQ.out) (fun h=>by cases h) (fun h=>by rw [HO.out] at h; cases h),HO.out]
        rfl)
       go_wp2_with fail
       exact ⟨qvi hlt HB5.out HD5.out gf5 hlt2 hfl HB.out (by omega) HGo.out,by simp [intOf]; omega⟩
    ·have hown:q6b ⟨key,d,1,st,text⟩=false:=by unfold q6b; simp
     have HO:=Lib.hid hown
     clear hown
     by_cases e2:up < 0
     ·have HN:=Lib.hid (show qgb ns next=false by rw [HN.out,HG.out,HT.out]; exact qvg HU.out (.inr (.inl ⟨rfl,e2⟩)))
      go_wp2_with fail
      go_ret
      exact ⟨by rw [HN.out]; rfl,HW4.out.1⟩
     ·have HGo:=Lib.hid (show q4a ns z17=q4a (ns.drop (k+1)) (fl.set (d+1) (max up (-up))) by
       rw [HG.out,HT.out,qzh HU.out (fun h=>by cases h) (fun _=>e2) (fun h=>by rw [HO.out] at h; cases h),HO.out]
       rfl)
      have c2:w4.cell? ⟨p,1,none⟩=some (.int .i64 d):=r3.cell 1
      have hd1:(d:Int)+1 < 17:=by omega
      have c3:=qrh gf4 (show d+1 < fl.length by omega)
      obtain ⟨u',hu'⟩:∃ u',fl.getD (d+1) 0=u':=⟨_,rfl⟩
      rw [hu'] at c3
      clear hu'
      have c4:=gf4.frozen
      go_wp2_with fail
      exact ⟨qvi hlt HW4.out.1 HW4.out.2 gf4 hlt2 hfl HB.out (by omega) HGo.out,by simp [intOf]; omega⟩
   ·obtain rfl:k=ns.length:=by omega
    have HN:=Lib.hid (show qgb ns next=true by rw [HN.out,HG.out,List.drop_length]; rfl)
    clear gf gd hbd hfl
    go_wp2_with fail
    go_ret
    exact ⟨by rw [HN.out]; rfl,hbr⟩
end Go.Proofs.YtlnekijhbnlclaaGreatDoor
