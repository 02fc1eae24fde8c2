/-
  Words for memory and small lemmas, over any program: a slice that reads as a list, a block known whole, append onto a row of the call's own (after the kit's extra-words and extra-small pages).
-/
import Derived.WalkKit
import Derived.WalkSpells
import Derived.WalkLawsBesides
import Derived.Below
import Derived.Laws.OwnMore
import Derived.Laws.MakeOwn
import Derived.Laws.Rows
import Derived.Laws.Entries
import Derived.Deep.AppendLies
import Derived.Deep.Draws
import Derived.Deep.OwnRows
import Derived.Deep.QuietTactic
import Derived.Deep.RegionHeld3
import Derived.Deep.LoopGhost
import Derived.Deep.DeepCutAuto
import Derived.Deep.DeepFit
import Derived.BigQuiet
import Derived.Maps.AppendAt
import Derived.RegionTactic
import Derived.OwnWalk
import Derived.LaidEqlPtr
import Derived.ChangeSame
import Derived.Lib.Hide
import Derived.Test.YtlnekijhbnlclaaGreatDoorRows
import Derived.ProofKit
import Derived.SizedLaws
import Derived.Carry
import Derived.Lay
import Derived.LaidOnce
import Derived.SevenTiedAt
import Derived.ShapedOpen
import Derived.Test.YtlnekijhbnlclaaGreatDoorProg
import Derived.RowKit
import Derived.Deep.MidRow
namespace Go.Proofs.YtlnekijhbnlclaaGreatDoor
theorem zA {α : Type} (l : List α) (i : Nat) (a : α) : l.toArray.setIfInBounds i a = (l.set i a).toArray := List.setIfInBounds_toArray ..
theorem zB {α : Type} (x a : α) (l : List α) : (x :: l).set 0 a = a :: l := rfl
theorem zC {α : Type} (x a : α) (l : List α) (i : Nat) : (x :: l).set (i + 1) a = x :: l.set i a := rfl
open Go.RowKit Go.WideShapes Go.ChangeShapes
theorem qac (a:Addr) (n:Nat):(a.add n).block=a.block:=by unfold Addr.add; split <;> rfl
theorem qfo (a:Addr) (i j:Nat):(a.add i).add j=a.add (i+j):=by
 unfold Addr.add
 by_cases hi:i=0 <;> by_cases hj:j=0 <;> simp [hi,hj,Nat.add_assoc]
def Reads (w:World) (B size:Nat) (A:Option Addr) (n:Nat) (xs:List Value):Prop :=
 xs.length=n * size/\(0 < n->∃ ad,A=some ad/\ad.block < B/\∀ j u,xs[j]?=some u->w.cell? (ad.add j)=some u)
section
variable {w w':World} {B B' size n:Nat} {A:Option Addr} {xs:List Value}
theorem Reads.none_:Reads w B size A 0 []:=⟨by simp,fun h=>absurd h (by omega)⟩
theorem Reads.at_ {k:Nat} (h:Reads w B 1 A n xs) (hk:k < n):∃ ad u,A=some ad/\ad.block < B/\xs[k]?=some u/\w.cell? (ad.add k)=some u:=by
 obtain ⟨ad,e,hb,hc⟩:=h.2 (by omega)
 have hl:k < xs.length:=by have:=h.1; omega
 exact ⟨ad,xs[k],e,hb,List.getElem?_eq_getElem hl,hc k _ (List.getElem?_eq_getElem hl)⟩
theorem Reads.keep (h:Reads w B size A n xs) (hk:∀ p:Addr,p.block < B->w'.cell? p=w.cell? p):Reads w' B size A n xs :=
 ⟨h.1,fun hn=>by
  obtain ⟨ad,e,hb,hc⟩:=h.2 hn
  exact ⟨ad,e,hb,fun j u hu=>(hk _ (by rw [qac]; exact hb)).trans (hc j u hu)⟩⟩
theorem Reads.more (h:Reads w B size A n xs) (hB:B<=B'):Reads w B' size A n xs :=
 ⟨h.1,fun hn=>by
  obtain ⟨ad,e,hb,hc⟩:=h.2 hn
  exact ⟨ad,e,by omega,hc⟩⟩
theorem Reads.below (h:Reads w B size A n xs) (hb:Below B w w'):Reads w' B size A n xs:=h.keep fun _ hp=>hb.cell hp
theorem Reads.drew (h:Reads w B size A n xs):Reads w.drew B size A n xs:=h
theorem Reads.drewN (h:Reads w B size A n xs) (k:Nat):Reads (w.drewN k) B size A n xs:=h
theorem Reads.alloc (h:Reads w B size A n xs) (hB:B<=w.heap.size) (o:Obj):Reads (w.alloc o) B size A n xs:=h.keep fun p hp=>World.cell?_alloc_lt w o p (by omega)
theorem Reads.setCell (h:Reads w B size A n xs) {p:Addr} (hB:B<=p.block) (u:Value):Reads (w.setCell p u) B size A n xs :=
 h.keep fun q hq=>World.cell?_setCell_other w p q u (fun e=>by subst e; omega)
theorem Reads.grown (h:Reads w B size A n xs) {row:Option Nat} (hg:w.grownBy w' row) (hB:B<=w.heap.size) (hr:∀ g,row=some g->B<=g):Reads w' B size A n xs :=
 h.keep fun p hp=>World.cell?_of_block (hg.block p.block (by omega) (fun e=>by have:=hr _ e.symm; omega))
theorem Reads.cut (h:Reads w B size A n xs) {k cap:Nat} (hk:k<=n) (hc:n<=cap) :
  Reads w B size (if cap=k then A else A.map (·.add (k * size))) (n - k) (xs.drop (k * size)):=by
 refine ⟨by rw [List.length_drop,h.1,Nat.sub_mul],fun hn=>?_⟩
 obtain ⟨ad,rfl,hb,hcell⟩:=h.2 (by omega)
 rw [if_neg (by omega)]
 refine ⟨ad.add (k * size),rfl,by rw [qac]; exact hb,fun j u hu=>?_⟩
 rw [qfo]
 exact hcell _ u (by rw [<-hu,List.getElem?_drop])
theorem Reads.of_own {base:Nat} {e:TypeId} {c:Nat} (h:w.ownsRow base e size (.slice A n c) n xs):Reads w w.heap.size size A n xs:=by
 refine ⟨h.1,fun hn=>?_⟩
 obtain ⟨g,cap,hv,_,hlt⟩:=h.form hn
 have hA:A=some ⟨g,0,none⟩:=by injection hv
 subst hA
 exact ⟨_,rfl,hlt,h.cells (g:=g) rfl⟩
end
def Blk (w:World) (g:Nat) (t:TypeId) (cs:Array Value):Prop:=w.heap[g]?=some (.cells cs t (0,0))
section
variable {w w':World} {g:Nat} {t:TypeId} {cs:Array Value}
theorem Blk.lt (h:Blk w g t cs):g < w.heap.size:=by
 rcases Nat.lt_or_ge g w.heap.size with hlt | hge
 ·exact hlt
 ·unfold Blk at h; rw [Array.getElem?_eq_none hge] at h; cases h
theorem Blk.cell (h:Blk w g t cs) (i:Nat):w.cell? ⟨g,i,none⟩=cs[i]?:=cell_of_row w g i cs t (0,0) h
theorem Blk.frozen (h:Blk w g t cs) (i:Nat):w.frozen? ⟨g,i,none⟩=false:=by
 unfold Blk at h
 simp [World.frozen?,h]
theorem Blk.new (w:World) (t:TypeId) (cs:Array Value):Blk (w.alloc (.cells cs t)) w.heap.size t cs:=heap_alloc_new w _
theorem Blk.drew (h:Blk w g t cs):Blk w.drew g t cs:=h
theorem Blk.drewN (h:Blk w g t cs) (n:Nat):Blk (w.drewN n) g t cs:=h
theorem Blk.alloc (h:Blk w g t cs) (o:Obj):Blk (w.alloc o) g t cs:=(Below.heap_alloc w o g h.lt).trans h
theorem Blk.set_ (h:Blk w g t cs) (i:Nat) (u:Value):Blk (w.setCell ⟨g,i,none⟩ u) g t (cs.setIfInBounds i u):=by
 unfold Blk at h ⊢
 simp [World.setCell,Array.getElem?_modify,h]
theorem Blk.far (h:Blk w g t cs) {p:Addr} (hp:g≠p.block) (u:Value):Blk (w.setCell p u) g t cs:=(Below.heap_setCell w p u g hp).trans h
theorem Blk.below {B:Nat} (h:Blk w g t cs) (hb:Below B w w') (hg:g < B):Blk w' g t cs:=(hb.block g hg).trans h
theorem Blk.grown {row:Option Nat} (h:Blk w g t cs) (hb:w.grownBy w' row) (hg:some g≠row):Blk w' g t cs:=(hb.block g h.lt hg).trans h
theorem Blk.ne_ {g':Nat} {t':TypeId} {cs':Array Value} (h:Blk w g t cs) (h':Blk w g' t' cs') (hne:t≠t'):g≠g':=by
 rintro rfl
 unfold Blk at h h'
 rw [h] at h'
 injection h' with h'
 injection h' with _ ht
 exact hne ht
theorem qqh {base:Nat} {e:TypeId} {size n:Nat} {v:Value} {xs:List Value} (h:w.ownsRow base e size v n xs) (hg:Blk w g t cs) (hne:e≠t):v.ownBlock≠some g:=by
 rcases h.2 with ⟨rfl,_⟩ | ⟨g',cap,cur,rfl,_,hh,_⟩
 ·simp [Value.ownBlock]
 ·intro he
  have:g'=g:=by simpa [Value.ownBlock] using he
  subst this
  exact Blk.ne_ (t:=e) hh hg hne rfl
end
section
variable {P:Program} (w:World)
theorem qss (base:Nat) (t ty e:TypeId) (i:TypeInfo) (size:Nat) (ht:P.underlying t=some (.slice e)) (hi:P.info? e=some i)
  (v:Value) (n:Nat) (xs:List Value) (hown:w.ownsRow base e size v n xs) (c:Nat):(Builtin.append_ #[t,t] ty #[v,.slice none 0 c]).run P w=.ok v w:=by
 rcases hown.2 with ⟨rfl,rfl⟩ | ⟨g,cap,cur,rfl,_,_,hnc,_⟩
 ·simp [Builtin.append_,run_underlying ht,sizeOf,typeInfo,hi,Builtin.lenOf,Builtin.firstCells]
 ·simp [Builtin.append_,run_underlying ht,sizeOf,typeInfo,hi,Builtin.lenOf,Builtin.firstCells,hnc,storeCells]
theorem q5k (base:Nat) (t ty e:TypeId) (i:TypeInfo) (z:Value) (size bytes:Nat) (ht:P.underlying t=some (.slice e)) (hi:P.info? e=some i) (hz:i.zero=some z)
  (hsize:i.size=size) (hby:i.bytes=bytes) (hzs:z.cells.size=size) (hsz:0 < size)
  (v:Value) (n:Nat) (xs:List Value) (hown:w.ownsRow base e size v n xs)
  (B:Nat) (A:Option Addr) (m c:Nat) (news:List Value) (hr:Reads w B size A m news) (h1:∀ u ∈ news,u.oneCell'=true)
  (h63:n+m<=maxLen) (hbytes:(n+m) * bytes<=140737488355328) (hbase:base<=w.heap.size) :
  ∃ v' w',(Builtin.append_ #[t,t] ty #[v,.slice A m c]).run P w=.ok v' w'/\w'.ownsRow base e size v' (n+m) (xs ++ news)/\w.grownBy w' v.ownBlock /\
   (v'.ownBlock=v.ownBlock\/v'.ownBlock=some w.heap.size):=by
 rcases A with _ | ad
 ·have hm:m=0:=by
   rcases Nat.eq_zero_or_pos m with h0 | h0
   ·exact h0
   ·obtain ⟨ad,h,_⟩:=hr.2 h0
    cases h
  subst hm
  have hn:news=[]:=List.eq_nil_of_length_eq_zero (by simpa using hr.1)
  subst hn
  exact ⟨v,w,qss w base t ty e i size ht hi v n xs hown c,by simpa using hown,World.grownBy.refl w _,.inl rfl⟩
 ·have hcells:∀ j u,news[j]?=some u->w.cell? (ad.add j)=some u:=by
   intro j u hu
   rcases Nat.eq_zero_or_pos m with h0 | h0
   ·subst h0
    have hn:news=[]:=List.eq_nil_of_length_eq_zero (by simpa using hr.1)
    subst hn
    simp at hu
   ·obtain ⟨ad',h,_,hc⟩:=hr.2 h0
    injection h with h
    subst h
    exact hc j u hu
  obtain ⟨v',w',hrun,h2,h3,_,h5⟩:=run_append_own_at (P:=P) w base t ty e i z size bytes ht hi hz hsize hby hzs hsz v n xs hown ad m c news hr.1 hcells h1 h63 hbytes hbase
  exact ⟨v',w',hrun,h2,h3,h5⟩
theorem qhk {o:Oper} {a:Act} {K:Act->World->Prop} {Q:Exit->Act->World->Prop} (s x:Operand) (t:TypeId)
  (ho:o.op=.call { callee:=.builtin .append,args:=#[s,x],argTypes:=#[t,t] })
  (base:Nat) (e:TypeId) (i:TypeInfo) (z:Value) (size bytes:Nat) (ht:P.underlying t=some (.slice e)) (hi:P.info? e=some i) (hz:i.zero=some z)
  (hsize:i.size=size) (hby:i.bytes=bytes) (hzs:z.cells.size=size) (hsz:0 < size)
  (v:Value) (n:Nat) (xs:List Value) (hs:a.eval s=v) (hown:w.ownsRow base e size v n xs)
  (B:Nat) (A:Option Addr) (m c:Nat) (news:List Value) (hx:a.eval x=.slice A m c) (hr:Reads w B size A m news) (h1:∀ u ∈ news,u.oneCell'=true)
  (h63:n+m<=maxLen) (hbytes:(n+m) * bytes<=140737488355328) (hbase:base<=w.heap.size)
  (h:∀ v' w',w'.ownsRow base e size v' (n+m) (xs ++ news)->w.grownBy w' v.ownBlock->(v'.ownBlock=v.ownBlock\/v'.ownBlock=some w.heap.size)->K (a.put o.dst v') w'):o.wp P a w K Q:=by
 obtain ⟨v',w',hrun,h2,h3,h4⟩:=q5k (P:=P) w base t o.type e i z size bytes ht hi hz hsize hby hzs hsz v n xs hown B A m c news hr h1 h63 hbytes hbase
 unfold Oper.wp execOp
 simp only [ho,resolve,invoke,builtin,Sem.run_bind,Sem.run_pure,Result.andThen_ok,List.map_toArray,List.map_cons,List.map_nil,hs,hx,hrun]
 exact h v' w' h2 h3 h4
theorem qig {ops:Array Oper} {rest:List Oper} {o:Oper} {a:Act} {Q:Exit->Act->World->Prop} (hgd:o.guard=none) (s x:Operand) (t:TypeId)
  (ho:o.op=.call { callee:=.builtin .append,args:=#[s,x],argTypes:=#[t,t] })
  (base:Nat) (e:TypeId) (i:TypeInfo) (z:Value) (size bytes:Nat) (ht:P.underlying t=some (.slice e)) (hi:P.info? e=some i) (hz:i.zero=some z)
  (hsize:i.size=size) (hby:i.bytes=bytes) (hzs:z.cells.size=size) (hsz:0 < size)
  (v:Value) (n:Nat) (xs:List Value) (hs:a.eval s=v) (hown:w.ownsRow base e size v n xs)
  (B:Nat) (A:Option Addr) (m c:Nat) (news:List Value) (hx:a.eval x=.slice A m c) (hr:Reads w B size A m news) (h1:∀ u ∈ news,u.oneCell'=true)
  (h63:n+m<=maxLen) (hbytes:(n+m) * bytes<=140737488355328) (hbase:base<=w.heap.size)
  (h:∀ v' w',w'.ownsRow base e size v' (n+m) (xs ++ news)->w.grownBy w' v.ownBlock->(v'.ownBlock=v.ownBlock\/v'.ownBlock=some w.heap.size)->wpList P ops Q rest (a.put o.dst v') w'):wpList P ops Q (o :: rest) a w :=
 wpList_plain hgd fun _ hK=>qhk w s x t ho base e i z size bytes ht hi hz hsize hby hzs hsz v n xs hs hown B A m c news hx hr h1 h63 hbytes hbase fun v' w' h2 h3 h4=>hK _ _ (h v' w' h2 h3 h4)
theorem qnf {ops:Array Oper} {o:Oper} {a:Act} {K:Act->World->Prop} {Q:Exit->Act->World->Prop} {E:Prop} (hgd:o.guard=none) (s x:Operand) (t:TypeId)
  (ho:o.op=.call { callee:=.builtin .append,args:=#[s,x],argTypes:=#[t,t] })
  (base:Nat) (e:TypeId) (i:TypeInfo) (z:Value) (size bytes:Nat) (ht:P.underlying t=some (.slice e)) (hi:P.info? e=some i) (hz:i.zero=some z)
  (hsize:i.size=size) (hby:i.bytes=bytes) (hzs:z.cells.size=size) (hsz:0 < size)
  (v:Value) (n:Nat) (xs:List Value) (hs:a.eval s=v) (hown:w.ownsRow base e size v n xs)
  (B:Nat) (A:Option Addr) (m c:Nat) (news:List Value) (hx:a.eval x=.slice A m c) (hr:Reads w B size A m news) (h1:∀ u ∈ news,u.oneCell'=true)
  (h63:n+m<=maxLen) (hbytes:(n+m) * bytes<=140737488355328) (hbase:base<=w.heap.size)
  (h:∀ v' w',w'.ownsRow base e size v' (n+m) (xs ++ news)->w.grownBy w' v.ownBlock->(v'.ownBlock=v.ownBlock\/v'.ownBlock=some w.heap.size)->K (a.put o.dst v') w') :
  if Region.wanted o (yielded ops a.tmps)=true then Oper.wp P o a w K Q else E:=by
 have hw:Region.wanted o (yielded ops a.tmps)=true:=by simp [Region.wanted,hgd]
 rw [if_pos hw]
 exact qhk w s x t ho base e i z size bytes ht hi hz hsize hby hzs hsz v n xs hs hown B A m c news hx hr h1 h63 hbytes hbase h
end
theorem q5u {P:Program} {f:FuncId} {args:Array Value} {w:World} {a n:Nat} {v:Value}
  (h:Calls P f args (w.drewN (a+n)) fun e w'=>e=.returned v/\w'=w.drewN (a+n)) :
  Calls P f args (w.drewN (a+n)) fun e w''=>e=.returned v/\∃ m,w''=w.drewN (a+m) :=
 h.mono fun _ _ ⟨he,hm⟩=>⟨he,n,hm⟩
theorem qqc {fn:Func} {t u v x:Tmp} (h:fn.results=#[.tmp t,.tmp u,.tmp v,.tmp x]) (tmps:Array Value) (P:Program) (w:World) :
  (results fn tmps).run P w=.ok (.tuple #[tmps.getD t undef,tmps.getD u undef,tmps.getD v undef,tmps.getD x undef]) w:=by simp [results,h]
theorem qzc {B:Nat} {a w:World} (h:Below B a w) (n:Nat):Below B a (w.drewN n):=⟨h.os,h.tape,h.output,h.size,h.block⟩
theorem q9r {a w:World} {g:Nat} (h:a.grownBy w (some g)) {p:Addr} (hp:p.block=g\/a.heap.size<=p.block) (u:Value):a.grownBy (w.setCell p u) (some g) :=
 ⟨h.os,h.tape,h.output,by simpa [World.setCell] using h.size,fun i hi hne=>(Below.heap_setCell w p u i (by
  rintro rfl
  rcases hp with hp | hp
  ·exact hne (by rw [hp])
  ·omega)).trans (h.block i hi hne)⟩
section
variable {H:Type} {enc:TypeId×Value->H} {P:Program}
end
end Go.Proofs.YtlnekijhbnlclaaGreatDoor
namespace Go.Proofs.YtlnekijhbnlclaaGreatDoor
open Go.RowKit
def ptrV (p:Nat):Value:=.pointer (some ⟨p,0,none⟩)
structure Kept (gs:List Nat) (w w':World):Prop where
 os:w'.os=w.os
 tape:w'.tape=w.tape
 output:w'.output=w.output
 size:w.heap.size<=w'.heap.size
 block:∀ b,b < w.heap.size->b ∉ gs->w'.heap[b]?=w.heap[b]?
theorem Kept.refl (gs:List Nat) (w:World):Kept gs w w:=⟨rfl,rfl,rfl,Nat.le_refl _,fun _ _ _=>rfl⟩
theorem Kept.of_below {gs:List Nat} {w w':World} (h:Below w.heap.size w w'):Kept gs w w':=⟨h.os,h.tape,h.output,h.size,fun b hb _=>h.block b hb⟩
theorem Kept.trans {gs:List Nat} {a b c:World} (h:Kept gs a b) (k:Kept gs b c):Kept gs a c :=
 ⟨k.os.trans h.os,k.tape.trans h.tape,k.output.trans h.output,Nat.le_trans h.size k.size,fun i hi hn=>(k.block i (Nat.lt_of_lt_of_le hi h.size) hn).trans (h.block i hi hn)⟩
theorem Kept.drewN {gs:List Nat} {a b:World} (h:Kept gs a b) (n:Nat):Kept gs a (b.drewN n):=⟨h.os,h.tape,h.output,h.size,h.block⟩
theorem Kept.drew {gs:List Nat} {a b:World} (h:Kept gs a b):Kept gs a b.drew:=h.drewN 1
theorem Kept.setCell {gs:List Nat} {a b:World} (h:Kept gs a b) {p:Addr} (hp:p.block ∈ gs) (u:Value):Kept gs a (b.setCell p u) :=
 ⟨h.os,h.tape,h.output,by simpa [World.setCell] using h.size,fun i hi hn=>(Below.heap_setCell b p u i (fun e=>hn (e ▸ hp))).trans (h.block i hi hn)⟩
theorem Kept.alloc {gs:List Nat} {a b:World} (h:Kept gs a b) (o:Obj):Kept gs a (b.alloc o) :=
 h.trans (Kept.of_below ((Below.refl _ _).alloc (Nat.le_refl _) o))
theorem Kept.to_below {gs:List Nat} {w w':World} {B:Nat} (h:Kept gs w w') (hB:B<=w.heap.size) (hg:∀ g ∈ gs,B<=g):Below B w w' :=
 ⟨h.os,h.tape,h.output,h.size,fun b hb=>h.block b (by omega) (fun hm=>by have:=hg b hm; omega)⟩
theorem Kept.more {gs hs:List Nat} {a b:World} (h:Kept gs a b) (hm:∀ g ∈ gs,g ∈ hs):Kept hs a b:=⟨h.os,h.tape,h.output,h.size,fun k hk hn=>h.block k hk fun hg=>hn (hm k hg)⟩
theorem Blk.kept {gs:List Nat} {w w':World} {g:Nat} {t:TypeId} {cs:Array Value} (h:Blk w g t cs) (hk:Kept gs w w') (hg:g ∉ gs):Blk w' g t cs:=(hk.block g h.lt hg).trans h
theorem Kept.grown {gs:List Nat} {a b c:World} {row:Option Nat} (h:Kept gs a b) (hg:b.grownBy c row) (hr:∀ g,row=some g->g ∈ gs\/a.heap.size<=g):Kept gs a c :=
 ⟨hg.os.trans h.os,hg.tape.trans h.tape,hg.output.trans h.output,Nat.le_trans h.size hg.size,fun i hi hn=>(hg.block i (Nat.lt_of_lt_of_le hi h.size) (fun e=>by
  rcases hr i e.symm with h1 | h1
  ·exact hn h1
  ·omega)).trans (h.block i hi hn)⟩
structure Shp (α:Type) where
 t:TypeId
 k:Nat
 enc:α->List Value
 len:∀ x,(enc x).length=k
 one:∀ x,∀ u ∈ enc x,u.oneCell'=true
section
variable {α:Type} (S:Shp α)
def Shp.row (L:List α):List Value:=L.flatMap S.enc
theorem Shp.row_cons (x:α) (L:List α):S.row (x :: L)=S.enc x ++ S.row L:=by simp [Shp.row]
theorem Shp.row_append (L M:List α):S.row (L ++ M)=S.row L ++ S.row M:=by simp [Shp.row]
theorem Shp.row_one (x:α):S.row [x]=S.enc x:=by simp [Shp.row]
theorem Shp.row_len:∀ L:List α,(S.row L).length=L.length * S.k
 | []=>by simp [Shp.row]
 | x :: L=>by rw [S.row_cons,List.length_append,Shp.row_len L,S.len,List.length_cons,Nat.add_mul,Nat.one_mul,Nat.add_comm]
theorem Shp.row_at:∀ {L:List α} {i:Nat} (hi:i < L.length) (j:Nat),j < S.k->(S.row L)[i * S.k+j]?=(S.enc L[i])[j]?
 | x :: L,0,_,j,hj=>by
  rw [S.row_cons,List.getElem?_append_left (by rw [S.len]; omega)]
  simp
 | x :: L,i+1,hi,j,hj=>by
  have h:=Shp.row_at (L:=L) (i:=i) (by simpa using hi) j hj
  rw [S.row_cons,List.getElem?_append_right (by rw [S.len,Nat.add_mul]; omega),S.len,show (i+1) * S.k+j - S.k=i * S.k+j by rw [Nat.add_mul]; omega,h]
  simp
theorem Shp.row_oneCell (L:List α):∀ u ∈ S.row L,u.oneCell'=true:=by
 intro u hu
 obtain ⟨x,_,hx⟩:=List.mem_flatMap.1 hu
 exact S.one x u hx
theorem Shp.row_set:∀ {L:List α} {i:Nat} (_:i < L.length) (x:α) (j:Nat),j < S.k->∀ u,(S.enc x)=(S.enc L[i]).set j u->(S.row L).set (i * S.k+j) u=S.row (L.set i x)
 | y :: L,0,_,x,j,hj,u,h=>by
  have h':S.enc x=(S.enc y).set j u:=h
  rw [S.row_cons,zB,S.row_cons,h',List.set_append_left _ _ (by rw [S.len]; omega),Nat.zero_mul,Nat.zero_add]
 | y :: L,i+1,hi,x,j,hj,u,h=>by
  have ih:=Shp.row_set (L:=L) (i:=i) (by simpa using hi) x j hj u (by simpa using h)
  rw [S.row_cons,zC,S.row_cons,List.set_append_right _ _ (by rw [S.len,Nat.add_mul]; omega),S.len,show (i+1) * S.k+j - S.k=i * S.k+j by rw [Nat.add_mul]; omega,ih]
def Shp.Owns (w:World) (base:Nat) (v:Value) (L:List α):Prop:=w.ownsRow base S.t S.k v L.length (S.row L)
def Shp.In (w:World) (B:Nat) (v:Value) (L:List α):Prop:=∃ A c,v=.slice A L.length c/\L.length<=c/\Reads w B S.k A L.length (S.row L)
variable {S} {w w':World} {base B:Nat} {v:Value} {L:List α}
theorem Shp.Owns.nil (w:World) (base:Nat):S.Owns w base (.slice none 0 0) []:=World.ownsRow_nil _ _ _ _
theorem Shp.Owns.lt (h:S.Owns w base v L):∀ k,v.ownBlock=some k->base<=k/\k < w.heap.size:=World.ownsRow.lt h
theorem Shp.Owns.alloc (h:S.Owns w base v L) (o:Obj):S.Owns (w.alloc o) base v L:=World.ownsRow.alloc h o
theorem Shp.Owns.drewN (h:S.Owns w base v L) (n:Nat):S.Owns (w.drewN n) base v L:=h
theorem Shp.Owns.base_le {base':Nat} (h:S.Owns w base v L) (hb:base'<=base):S.Owns w base' v L:=by
 obtain ⟨h1,h2⟩:=h
 refine ⟨h1,?_⟩
 rcases h2 with h2 | ⟨g,cap,cur,e,hg,r⟩
 ·exact .inl h2
 ·exact .inr ⟨g,cap,cur,e,by omega,r⟩
theorem Shp.Owns.keep (h:S.Owns w base v L) (_hs:w.heap.size<=w'.heap.size) (hk:∀ g,v.ownBlock=some g->w'.heap[g]?=w.heap[g]?):S.Owns w' base v L:=by
 obtain ⟨h1,h2⟩:=h
 refine ⟨h1,?_⟩
 rcases h2 with h2 | ⟨g,cap,cur,e,hg,hb,r⟩
 ·exact .inl h2
 ·exact .inr ⟨g,cap,cur,e,hg,(hk g (by rw [e]; rfl)).trans hb,r⟩
theorem Shp.Owns.kept {gs:List Nat} (h:S.Owns w base v L) (hk:Kept gs w w') (hn:∀ g,v.ownBlock=some g->g ∉ gs):S.Owns w' base v L :=
 h.keep hk.size fun g hg=>hk.block g (h.lt g hg).2 (hn g hg)
theorem Shp.Owns.below (h:S.Owns w base v L) (hb:Below w.heap.size w w'):S.Owns w' base v L :=
 h.keep hb.size fun g hg=>hb.block g (h.lt g hg).2
theorem Shp.Owns.in_ (h:S.Owns w base v L):S.In w w.heap.size v L:=by
 rcases h.2 with ⟨rfl,h0⟩ | ⟨g,cap,cur,rfl,hg,hb,hc,_,hs,ht⟩
 ·exact ⟨none,0,by rw [h0],by omega,by rw [List.eq_nil_of_length_eq_zero h0]; exact ⟨by simp [Shp.row],fun hn=>absurd hn (by simp)⟩⟩
 ·exact ⟨_,_,rfl,hc,Reads.of_own h⟩
theorem Shp.In.more {B':Nat} (h:S.In w B v L) (hB:B<=B'):S.In w B' v L:=by
 obtain ⟨A,c,e,hc,hr⟩:=h
 exact ⟨A,c,e,hc,hr.more hB⟩
theorem Shp.In.below (h:S.In w B v L) (hb:Below B w w'):S.In w' B v L:=by
 obtain ⟨A,c,e,hc,hr⟩:=h
 exact ⟨A,c,e,hc,hr.below hb⟩
theorem Shp.In.drewN (h:S.In w B v L) (n:Nat):S.In (w.drewN n) B v L:=h
theorem Shp.In.nil (w:World) (B:Nat) (c:Nat) (A:Option Addr):S.In w B (.slice A 0 c) []:=⟨A,c,rfl,by simp,by simp [Shp.row],fun h=>absurd h (by simp)⟩
theorem Shp.In.built (S:Shp α) (w:World) (L:List α) (t:TypeId) (hB:w.heap.size < B):S.In (w.alloc (.cells (S.row L).toArray t)) B (.slice (some ⟨w.heap.size,0,none⟩) L.length L.length) L:=by
 refine ⟨_,_,rfl,Nat.le_refl _,S.row_len L,fun _=>⟨_,rfl,hB,fun j u hu=>?_⟩⟩
 have e:(⟨w.heap.size,0,none⟩:Addr).add j=⟨w.heap.size,j,none⟩:=by unfold Addr.add; split <;> simp_all
 rw [e,(Blk.new w t (S.row L).toArray).cell]
 simpa using hu
theorem Shp.Owns.built (S:Shp α) (w:World) (base:Nat) (hb:base<=w.heap.size) (L:List α) (hm:L.length<=maxLen):S.Owns (w.alloc (.cells (S.row L).toArray S.t)) base (.slice (some ⟨w.heap.size,0,none⟩) L.length L.length) L:=by
 refine ⟨S.row_len L,.inr ⟨w.heap.size,L.length,(S.row L).toArray,rfl,hb,heap_alloc_new w _,Nat.le_refl _,hm,by simp [S.row_len],?_⟩⟩
 rw [List.take_of_length_le (by simp [S.row_len])]
theorem Shp.In.cell {A:Option Addr} {c n:Nat} (h:S.In w B (.slice A n c) L) {i:Nat} (hi:i < L.length):∃ ad,A=some ad/\ad.block < B/\∀ j,j < S.k->w.cell? (ad.add (i * S.k+j))=(S.enc L[i])[j]?:=by
 obtain ⟨A',c',e,hc,hl,hr⟩:=h
 injection e with e1 e2 e3
 subst e1
 obtain ⟨ad,e,hb,hh⟩:=hr (by omega)
 refine ⟨ad,e,hb,fun j hj=>?_⟩
 have hlt:j < (S.enc L[i]).length:=by rw [S.len]; exact hj
 rw [List.getElem?_eq_getElem hlt]
 exact hh _ _ (by rw [S.row_at hi j hj,List.getElem?_eq_getElem hlt])
end
structure Shp.Ok {α:Type} (S:Shp α) (P:Program) (ts:TypeId) (bytes:Nat):Prop where
 under:P.underlying ts=some (.slice S.t)
 info:∃ i z,P.info? S.t=some i/\i.zero=some z/\i.size=S.k/\i.bytes=bytes/\z.cells.size=S.k
 pos:0 < S.k
 small:bytes<=10000
section
variable {α:Type} {S:Shp α} {P:Program} {ts:TypeId} {bytes:Nat}
theorem qhn (hS:S.Ok P ts bytes) {ops:Array Oper} {rest:List Oper} {o:Oper} {a:Act} {Q:Exit->Act->World->Prop} {w:World} (hgd:o.guard=none) (s y:Operand)
  (ho:o.op=.call { callee:=.builtin .append,args:=#[s,y],argTypes:=#[ts,ts] })
  {base:Nat} {v:Value} {L:List α} (hs:a.eval s=v) (hown:S.Owns w base v L) {B:Nat} {u:Value} {M:List α} (hy:a.eval y=u) (hu:S.In w B u M)
  (h47:L.length+M.length<=1000000000) (hbase:base<=w.heap.size)
  (h:∀ v' w',S.Owns w' base v' (L ++ M)->w.grownBy w' v.ownBlock->wpList P ops Q rest (a.put o.dst v') w'):wpList P ops Q (o :: rest) a w:=by
 obtain ⟨i0,z,hi0,hz0,hz1,hz2,hz3⟩:=hS.info
 obtain ⟨A,c,rfl,hc,hr⟩:=hu
 have h5:=hS.small
 have hbb:(L.length+M.length) * bytes<=1000000000 * 10000:=Nat.mul_le_mul h47 h5
 refine qig w hgd s y _ ho base S.t i0 z S.k bytes hS.under hi0 hz0 hz1 hz2 hz3 hS.pos v _ _ hs hown B A _ c (S.row M) hy hr (S.row_oneCell M) (by simp only [maxLen]; omega) (by omega) hbase ?_
 intro v' w' h1 h2 _
 exact h v' w' (by unfold Shp.Owns; rw [List.length_append,S.row_append]; exact h1) h2
theorem Below.grown_own {base:Nat} {w w':World} {v:Value} (hg:w.grownBy w' v.ownBlock) (hbase:base<=w.heap.size) (h:∀ k,v.ownBlock=some k->base<=k):Below base w w' :=
 (Below.refl base w).grown hg hbase h
end
end Go.Proofs.YtlnekijhbnlclaaGreatDoor
namespace Go.Proofs.YtlnekijhbnlclaaGreatDoor
open Go.ChangeShapes Go.WideShapes Go.ChangeAt Go.RowKit
theorem Tryz.own:ownKnob Tryz.prog.godebug=none:=by kernel_rfl
theorem Tryz.laidOut:laidOutB Tryz.prog=true:=by kernel_rfl
theorem qkx {H:Type} {enc:TypeId×Value->H} {W W':World} (hb:Below W.heap.size W W'):∀ {ts:List TypeId} {vs:List Value} {ds:List (DataW H)} {ps:List MemPlace},
  (∀ t ∈ ts,Tryz.prog.readableRec t=true/\t < Tryz.prog.types.size) ->
  DataW.TrodAll enc Tryz.prog W 0 (fun _=>true) true ts vs ds ps->(∀ x ∈ ps,x.block < W.heap.size) ->
  DataW.TrodAll enc Tryz.prog W' 0 (fun b=>decide (b < W.heap.size)) true ts vs ds ps:=by
 intro ts
 induction ts with
 | nil =>
  intro vs ds ps _ h _
  obtain ⟨rfl,rfl,rfl⟩:=trodAll_nil h
  exact trodAll_mk0
 | cons t ts ih =>
  intro vs ds ps hr h hlt
  obtain ⟨v,vs',d,ds',p,q,rfl,rfl,rfl,h1,h2⟩:=trodAll_cons h
  have hrt:=hr t (by simp)
  exact ⟨p,q,Below.trod Tryz.laidOut hrt.1 hrt.2 h1 hb (fun x hx=>hlt x (List.mem_append.2 (Or.inl hx))),
   ih (fun t' ht'=>hr t' (List.mem_cons_of_mem _ ht')) h2 (fun x hx=>hlt x (List.mem_append.2 (Or.inr hx))),rfl⟩
def qmi (f:FuncId) (args:Array Value) (W:World):Prop :=
 Calls Tryz.prog f args W fun e W'=>e=.returned (.bool true)/\Below W.heap.size W W'
set_option maxRecDepth 100000 in
theorem qgt {f:FuncId} {fn:Func} {s:ChangeSpec} {conds:List PathCond} {laid:List (String×DataW Unit)} (os:Os) (started:os.Started) (H:Type) (enc:TypeId×Value->H)
  (noInit:Tryz.checked.prog.inits.idxOf? f=none) (hfn:Tryz.checked.prog.funcs[f]?=some fn)
  (hvars:s.vars=[]) (hspec:∀ ds:List (DataW H),ds.length=fn.params.toList.length->(s.fn H ds).results=[.lit (.bool true)]/\(s.fn H ds).args=ds/\(s.fn H ds).vars=[])
  (hret:fn.resultTypes=#[4])
  (hread:∀ t ∈ fn.params.toList,Tryz.prog.readableRec t=true/\t < Tryz.prog.types.size)
  (witness:∃ (w:World) (tape:Tape) (i:Input),w.os=os/\(w.forCall tape i).Shaped Tryz.checked.prog/\i.vars=[]/\Input.okWide Tryz.checked.prog (w.forCall tape i) .any w.heap.size f i /\
   ((s.pre enc Tryz.checked.prog fn conds false (w.forCall tape i).memory i.args/\laidMetH Tryz.checked.prog laid (w.forCall tape i).memory)/\sizedMet enc Tryz.checked.prog fn (OpenSpec.ofChange s) false (w.forCall tape i).memory i.args) /\
   Assume.holds {} Tryz.checked.prog (lone (Frame.enter Tryz.checked.prog f i.args .normal) [] (w.forCall tape i)))
  (contract:∀ (W:World) (base:Nat) (args:Array Value) (ds:List (DataW H)) (p:List MemPlace),
   (∀ (j:Nat) t v,fn.params[j]?=some t->args[j]?=some v->Value.okWide Tryz.prog W .any base t v) ->
   DataW.TrodAll enc Tryz.prog W 0 (fun _=>true) true fn.params.toList args.toList ds p ->
   (DataW.weightsEach Tryz.prog fn.params.toList ds).all (·<=reachBytes)=true ->
   (∀ x ∈ p,x.block < W.heap.size)->W.ShapedOpen Tryz.prog->laidMetH Tryz.prog laid W->qmi f args W) :
  ReturnsInHanded {} Tryz.checked os f .any (fun w args=>(s.pre enc Tryz.checked.prog fn conds false w args/\laidMetH Tryz.checked.prog laid w)/\sizedMet enc Tryz.checked.prog fn (OpenSpec.ofChange s) false w args)
   (s.post enc Tryz.checked.prog fn false true false false):=by
 refine returnsInHanded_of_calls Tryz.own started noInit witness ?_
 intro w tape i _ hsh _ hok hpre _
 obtain ⟨_,_,_,fn',hfn',_,_,_,_,hval⟩:=hok
 have e:fn'=fn:=Option.some.inj (hfn'.symm.trans hfn)
 subst e
 obtain ⟨⟨⟨ds,gs,before,hw,_⟩,hx⟩,hz⟩:=hpre
 have hW:=DataW.Whole.of_heap (w':=w.forCall tape i) (by rfl) hw
 have hsz:=hz.weights hw
 have hl:laidMetH Tryz.prog laid (w.forCall tape i):=hx.of_heap (by rfl)
 clear hw hz hx
 suffices h:Calls Tryz.prog f i.args (w.forCall tape i) fun e W'=>∃ v,e=.returned v/\s.post enc Tryz.checked.prog fn' false true false false (w.forCall tape i) i.args v W' by
  refine h.mono fun e W' ⟨v,he,hp⟩=>?_
  subst he
  exact ChangeSpec.post_blind hp
 have hW':=hW
 obtain ⟨p,q,hA,hV,rfl,_,_⟩:=hW
 rw [hvars] at hV
 obtain ⟨rfl,rfl⟩:=trodVars_none hV
 have hlt:∀ x ∈ p,x.block < (w.forCall tape i).heap.size:=fun x hx=>hW'.lt x (List.mem_append.2 (Or.inl hx))
 have hlen:∀ {ts:List TypeId} {vs:List Value} {ds:List (DataW H)} {ps:List MemPlace},DataW.TrodAll enc Tryz.prog (w.forCall tape i) 0 (fun _=>true) true ts vs ds ps->ds.length=ts.length:=by
  intro ts
  induction ts with
  | nil=>intro vs ds ps h; obtain ⟨rfl,rfl,rfl⟩:=trodAll_nil h; rfl
  | cons t ts ih=>intro vs ds ps h; obtain ⟨v,vs',d,ds',p,q,rfl,rfl,rfl,h1,h2⟩:=trodAll_cons h; simp [ih h2]
 obtain ⟨hs1,hs2,hs3⟩:=hspec ds (hlen hA)
 have hvt:(OpenSpec.ofChange s).bare.plain.varTypes Tryz.checked.prog=[]:=by
  show s.plain.varTypes _=[]
  simp [DataSpec.varTypes,ChangeSpec.plain,hvars]
 rw [hvt,List.append_nil,List.append_nil] at hsz
 refine (contract (w.forCall tape i) w.heap.size i.args ds p hval hA hsz hlt hsh hl).mono fun e W' ⟨he,hb⟩=>?_
 subst he
 refine ⟨_,rfl,ds,[],p ++ [],[],p,[],hW',?_,?_,?_,hb.frame _,fun h=>by cases h⟩
 ·rw [List.append_nil,hs1,hret]
  exact trodAll_mk1 (shut_bool Tryz.underlying4 _)
 ·rw [List.append_nil,hs2]
  exact qkx hb hread hA hlt
 ·rw [List.append_nil,hs3,hvars]
  rfl
end Go.Proofs.YtlnekijhbnlclaaGreatDoor
namespace Go.Proofs.YtlnekijhbnlclaaGreatDoor
open Go.RowKit
def Quiet (w w':World):Prop:=∃ n,w'=w.drewN n
theorem Quiet.refl (w:World):Quiet w w:=⟨0,rfl⟩
theorem Quiet.drewN {w w':World} (h:Quiet w w') (n:Nat):Quiet w (w'.drewN n):=by
 obtain ⟨m,rfl⟩:=h
 exact ⟨m+n,by rw [World.drewN_drewN]⟩
theorem Quiet.trans {a b c:World} (h:Quiet a b) (k:Quiet b c):Quiet a c:=by
 obtain ⟨m,rfl⟩:=k
 exact h.drewN m
theorem Quiet.below {w w':World} (h:Quiet w w') (B:Nat):Below B w w':=by
 obtain ⟨m,rfl⟩:=h
 exact qzc (Below.refl _ _) m
def Ints (w:World) (B:Nat) (v:Value) (zs:List Int):Prop :=
 ∃ A c,v=.slice A zs.length c/\zs.length<=c/\Reads w B 1 A zs.length (zs.map (Value.int .i64))
theorem Ints.nil (w:World) (B:Nat):Ints w B (.slice none 0 0) []:=⟨none,0,rfl,Nat.le_refl _,Reads.none_⟩
theorem Ints.below {w w':World} {B:Nat} {v:Value} {zs:List Int} (h:Ints w B v zs) (hb:Below B w w'):Ints w' B v zs:=by
 obtain ⟨A,c,rfl,h1,h2⟩:=h
 exact ⟨A,c,rfl,h1,h2.below hb⟩
theorem Ints.more {w:World} {B B':Nat} {v:Value} {zs:List Int} (h:Ints w B v zs) (hB:B<=B'):Ints w B' v zs:=by
 obtain ⟨A,c,rfl,h1,h2⟩:=h
 exact ⟨A,c,rfl,h1,h2.more hB⟩
theorem Reads.val {w:World} {B:Nat} {A:Option Addr} {zs:List Int} (h:Reads w B 1 A zs.length (zs.map (Value.int .i64))) {k:Nat} (hk:k < zs.length) :
  ∃ ad,A=some ad/\ad.block < B/\w.cell? (ad.add k)=some (.int .i64 zs[k]):=by
 obtain ⟨ad,u,h1,h2,h3,h4⟩:=h.at_ hk
 rw [List.getElem?_eq_getElem (by simpa using hk)] at h3
 simp at h3
 subst h3
 exact ⟨ad,h1,h2,h4⟩
theorem Ints.built (w:World) (zs:List Int) (t:TypeId):Ints (w.alloc (.cells (zs.map (Value.int .i64)).toArray t)) (w.heap.size+1) (.slice (some ⟨w.heap.size,0,none⟩) zs.length zs.length) zs:=by
 refine ⟨_,_,rfl,Nat.le_refl _,by simp,fun hn=>⟨_,rfl,by simp,fun j u hu=>?_⟩⟩
 have e:(⟨w.heap.size,0,none⟩:Addr).add j=⟨w.heap.size,j,none⟩:=by unfold Addr.add; split <;> simp_all
 rw [e,(Blk.new w t (zs.map (Value.int .i64)).toArray).cell j]
 simpa using hu
def Owns (w:World) (base:Nat) (v:Value) (zs:List Int):Prop:=w.ownsRow base 3 1 v zs.length (zs.map (Value.int .i64))
theorem Owns.nil (w:World) (base:Nat):Owns w base (.slice none 0 0) []:=World.ownsRow_nil _ _ _ _
theorem Owns.ints {w:World} {base:Nat} {v:Value} {zs:List Int} (h:Owns w base v zs):Ints w w.heap.size v zs:=by
 have h':=h
 obtain ⟨h1,h2⟩:=h
 rcases h2 with ⟨rfl,h0⟩ | ⟨g,cap,cur,rfl,_,_,hc,_,_,_⟩
 ·obtain rfl:=List.eq_nil_of_length_eq_zero h0
  exact Ints.nil _ _
 ·exact ⟨_,_,rfl,hc,Reads.of_own h'⟩
theorem Owns.alloc {w:World} {base:Nat} {v:Value} {zs:List Int} (h:Owns w base v zs) (o:Obj):Owns (w.alloc o) base v zs:=World.ownsRow.alloc h o
theorem Owns.lt {w:World} {base:Nat} {v:Value} {zs:List Int} (h:Owns w base v zs):∀ k,v.ownBlock=some k->base<=k/\k < w.heap.size:=World.ownsRow.lt h
theorem Owns.drewN {w:World} {base:Nat} {v:Value} {zs:List Int} (h:Owns w base v zs) (n:Nat):Owns (w.drewN n) base v zs:=h
theorem Owns.quiet {w w':World} {base:Nat} {v:Value} {zs:List Int} (h:Owns w base v zs) (hq:Quiet w w'):Owns w' base v zs:=by
 obtain ⟨n,rfl⟩:=hq
 exact h
theorem Owns.below {w w':World} {base:Nat} {v:Value} {zs:List Int} (h:Owns w base v zs) (hb:Below w.heap.size w w'):Owns w' base v zs:=by
 refine World.ownsRow.kept (row:=none) h ⟨hb.os,hb.tape,hb.output,hb.size,fun k hk _=>hb.block k hk⟩ ?_
 cases hv:v.ownBlock with
 | none=>exact .inl rfl
 | some g=>exact .inr (by simp)
theorem Owns.base_le {w:World} {base base':Nat} {v:Value} {zs:List Int} (h:Owns w base v zs) (hb:base'<=base):Owns w base' v zs:=by
 obtain ⟨h1,h2⟩:=h
 refine ⟨h1,?_⟩
 rcases h2 with h2 | ⟨g,cap,cur,e,hg,r⟩
 ·exact .inl h2
 ·exact .inr ⟨g,cap,cur,e,by omega,r⟩
theorem Owns.form {w:World} {base:Nat} {v:Value} {zs:List Int} (h:Owns w base v zs):∃ A c,v=.slice A zs.length c:=by
 obtain ⟨A,c,h1,_⟩:=h.ints
 exact ⟨A,c,h1⟩
theorem Tryz.infoInt:(Tryz.prog.info? 3).map (fun i=>(i.zero,i.size,i.bytes))=some (some (.int .i64 0),1,8):=by kernel_rfl
theorem qym (zs:List Int):∀ u ∈ zs.map (Value.int .i64),u.oneCell'=true:=by
 intro u hu
 simp at hu
 obtain ⟨_,_,rfl⟩:=hu
 rfl
theorem q8r {w w':World} {base:Nat} {v:Value} {row:Option Nat} (hrow:row=v.ownBlock) (hg:w.grownBy w' row) (hbase:base<=w.heap.size) (hlt:∀ k,v.ownBlock=some k->base<=k):Below base w w' :=
 ⟨hg.os,hg.tape,hg.output,hg.size,fun k hk=>hg.block k (by omega) (fun e=>by have:=hlt k (by rw [<-hrow,e]); omega)⟩
theorem quv {ops:Array Oper} {rest:List Oper} {o:Oper} {a:Act} {Q:Exit->Act->World->Prop} (w:World) (hgd:o.guard=none) (s x:Operand)
  (ho:o.op=.call { callee:=.builtin .append,args:=#[s,x],argTypes:=#[47,47] })
  (base:Nat) (v:Value) (zs:List Int) (hs:a.eval s=v) (hown:Owns w base v zs)
  (B:Nat) (u:Value) (xs:List Int) (hx:a.eval x=u) (hu:Ints w B u xs)
  (h47:zs.length+xs.length<=17592186044416) (hbase:base<=w.heap.size)
  (h:∀ v' w',Owns w' base v' (zs ++ xs)->Below base w w'->wpList Tryz.prog ops Q rest (a.put o.dst v') w'):wpList Tryz.prog ops Q (o :: rest) a w:=by
 obtain ⟨i0,hi0,hz0,hz1,hz2⟩:=info_parts Tryz.infoInt
 obtain ⟨A,c,rfl,hc,hr⟩:=hu
 refine qig w hgd s x _ ho base 3 i0 _ 1 8 Tryz.underlying47 hi0 hz0 hz1 hz2 rfl (by omega) v _ _ hs hown B A _ c _ hx hr (qym xs) (by simp only [maxLen]; omega) (by omega) hbase ?_
 intro v' w' h1 h2 _
 exact h v' w' (by simpa [Owns] using h1) (q8r rfl h2 hbase fun k hk=>(hown.lt k hk).1)
theorem qnx {ops:Array Oper} {rest:List Oper} {o:Oper} {a:Act} {Q:Exit->Act->World->Prop} (w:World) (n:Int) (hgd:o.guard=none) (s x:Operand)
  (ho:o.op=.call { callee:=.builtin .append,args:=#[s,x],argTypes:=#[47,47] })
  (base:Nat) (v:Value) (zs:List Int) (hs:a.eval s=v) (hown:Owns w base v zs)
  (hx:a.eval x=.slice (some ⟨w.heap.size,0,none⟩) 1 1)
  (h47:zs.length < 17592186044416) (hbase:base<=w.heap.size)
  (h:∀ v' w',Owns w' base v' (zs ++ [n])->Below base w w'->wpList Tryz.prog ops Q rest (a.put o.dst v') w'):wpList Tryz.prog ops Q (o :: rest) a (w.alloc (.cells #[.int .i64 n] 3)) :=
 quv _ hgd s x ho base v zs hs (hown.alloc _) _ _ [n] hx (Ints.built w [n] _) (by simp; omega) (by simp; omega)
  fun v' w' h1 h2=>h v' w' h1 (((Below.refl base w).alloc hbase _).trans h2)
end Go.Proofs.YtlnekijhbnlclaaGreatDoor
namespace Go.Proofs.YtlnekijhbnlclaaGreatDoor
def fit (n:Int):Bool:=decide (-1099511627776<=n) && decide (n<=1099511627776)
theorem qpc (n:Int):fit n=true↔-1099511627776<=n/\n<=1099511627776:=by simp [fit]
def told (out:Int) (of:List Int):Int×Int:=if of.all fit=true/\fit out=true then (out,0) else (0,10)
theorem qtt {out:Int} {of:List Int} (h:of.all fit=true) (h':fit out=true):told out of=(out,0):=if_pos ⟨h,h'⟩
theorem qct {out:Int} {of:List Int} (h:of.all fit=false):told out of=(0,10):=if_neg (by simp [h])
theorem q1w {out:Int} {of:List Int} (h:fit out=false):told out of=(0,10):=if_neg (by simp [h])
def partR (n of:Int):Int×Int:=if n < 0\/100000 < n then (0,2) else if fit of=true then told ((n * of).tdiv 10000) [] else (0,10)
def q7b (n least most:Int):Int:=max least (min most n)
theorem qyu (zs:List Int) (k:Nat) (hk:k < zs.length):(zs.take (k+1)).all fit=((zs.take k).all fit && fit zs[k]):=by
 rw [List.take_succ_eq_append_getElem hk,List.all_append]; simp
theorem qrv (zs:List Int) (k:Nat) (hk:k < zs.length) (h:fit zs[k]=false):zs.all fit=false:=by
 rw [<-Bool.not_eq_true]; intro ha
 have:=List.all_eq_true.1 ha zs[k] (List.getElem_mem hk)
 simp [h] at this
end Go.Proofs.YtlnekijhbnlclaaGreatDoor
namespace Go.Proofs.YtlnekijhbnlclaaGreatDoor
abbrev w64 (n:Int):Int:=Go.RowKit.wrap64 n
abbrev Ln:=Nat×Int
structure St where
 display:Nat
 whole:Bool
 width:Ln
 minW:Ln
 maxW:Ln
 height:Ln
 minH:Ln
 maxH:Ln
 mT:Ln
 mR:Ln
 mB:Ln
 mL:Ln
 pT:Int
 pR:Int
 pB:Int
 pL:Int
 bT:Int
 bR:Int
 bB:Int
 bL:Int
 offX:Int
 offY:Int
 font:Int
 ws:Nat
 lines:Nat
 valign:Nat
 dir:Nat
 justify:Nat
 wrap:Bool
 align:Nat
 gap:Int
 lineGap:Int
 grow:Int
 shrink:Int
 basis:Ln
 order:Int
deriving DecidableEq
def st0:St:=⟨0,false,(0,0),(0,0),(0,0),(0,0),(0,0),(0,0),(0,0),(0,0),(0,0),(0,0),0,0,0,0,0,0,0,0,0,0,0,0,0,0,0,0,false,0,0,0,0,0,(0,0),0⟩
structure Nd where
 key:Int
 depth:Int
 kind:Nat
 st:St
 text:ByteArray
def nd0:Nd:=⟨0,0,0,st0,ByteArray.empty⟩
def ndAt (ns:List Nd) (i:Nat):Nd:=ns.getD i nd0
def qga (n least most:Int):Bool:=decide (least<=n) && decide (n<=most)
def qqa (l:Ln) (least:Int):Bool:=if l.1=0 then decide (l.2=0) else if l.1=1 then qga l.2 least 274877906944 else decide (l.1=2) && qga l.2 0 100000
def tallR (l:Ln):Bool:=!decide (l.1=2) && qqa l 0
def sideR (m:Ln) (p b:Int):Bool:=qqa m (-274877906944) && qga p 0 274877906944 && qga b 0 274877906944
def stOk (s:St):Bool :=
 (decide (s.display<=2) && decide (s.ws<=2) && decide (s.valign<=2)) &&
 (decide (s.dir<=3) && decide (s.lines<=2) && decide (s.justify<=4)) &&
 (decide (s.align<=2) || decide (s.align=5)) &&
 (qqa s.width 0 && qqa s.minW 0 && qqa s.maxW 0 && qqa s.basis 0) &&
 (tallR s.height && tallR s.minH && tallR s.maxH) &&
 (sideR s.mT s.pT s.bT && sideR s.mR s.pR s.bR && sideR s.mB s.pB s.bB && sideR s.mL s.pL s.bL) &&
 (qga s.gap 0 274877906944 && qga s.lineGap 0 274877906944 && qga s.offX (-274877906944) 274877906944 && qga s.offY (-274877906944) 274877906944) &&
 (qga s.font 0 1000 && qga s.order (-1000) 1000) &&
 (qga s.grow 0 1000 && qga s.shrink 0 1000)
def qfc (s:St):Int:=s.pL+s.bL+s.pR+s.bR
def upR (s:St):Int:=s.pT+s.bT+s.pB+s.bB
def qha (s:St):Int×Int×Int:=if stOk s=true then (qfc s,upR s,0) else (0,0,60)
def qsa (l:Ln) (of:Int):Int×Bool×Int :=
 if l.1=1 then (if fit l.2=true then (l.2,true,0) else (0,false,10))
 else if l.1=2 then ((partR l.2 of).1,decide ((partR l.2 of).2=0),(partR l.2 of).2)
 else (0,false,0)
def contR (s:St) (l:Ln) (of edges:Int):Int×Bool×Int :=
 let r:=qsa l of
 if (r.2.1 && s.whole)=true then (max 0 (w64 (r.1 - edges)),r.2) else r
def qyc (s:St) (low high:Ln) (of edges:Int):Int×Int×Int :=
 let a:=contR s low of edges
 if a.2.2≠0 then (0,0,a.2.2) else
 let b:=contR s high of edges
 if b.2.2≠0 then (0,0,b.2.2) else (a.1,if b.2.1=true then b.1 else 1099511627776,0)
def qdd (s:St) (of:Int):Int×Bool×Int:=if stOk s=true then contR s s.width of (qfc s) else (0,false,60)
def qed (s:St) (of:Int):Int×Int×Int:=if stOk s=true then qyc s s.minW s.maxW of (qfc s) else (0,0,60)
def qtb (s:St):Int×Bool×Int:=if stOk s=true then contR s s.height 0 (upR s) else (0,false,60)
def qfb (s:St):Int×Int×Int:=if stOk s=true then qyc s s.minH s.maxH 0 (upR s) else (0,0,60)
def fontR (s:St) (around:Int):Int:=if s.font=0 then around else s.font
def fitsN (n:Nd) (next:Int):Bool :=
 if n.key < 1\/next<=n.key\/n.depth < 0\/16<=n.depth then false
 else if n.kind=0 then decide (n.text.size=0)
 else decide (n.kind=1) && decide (n.st=st0) && decide (n.text.size<=200)
def qdb (next:Int):List Nd->List Int->Int->Nat->Bool
 | [],_,_,_=>true
 | n :: r,met,deep,kind =>
  fitsN n next && !met.contains n.key && !decide (deep+1 < n.depth) && !(decide (deep < n.depth) && decide (kind=1)) && (decide (n.depth=0) == decide (deep < 0)) && qdb next r (n.key :: met) n.depth n.kind
def qzb (ns:List Nd):Nat:=(ns.map fun n=>n.text.size).sum
def q9a (ns:List Nd) (next:Int):Bool :=
 decide (1<=ns.length) && decide (ns.length<=300) && decide (next<=1073741825) && qdb next ns [] (-1) 0 && decide ((ndAt ns 0).kind=0) && decide (qzb ns<=1500)
def q6b (n:Nd):Bool:=decide (n.kind=0) && decide (n.st.display=2)
def absI (n:Int):Int:=max n (-n)
def q4a:List Nd->List Int->Bool
 | [],_=>true
 | n :: r,flex =>
  let up:=flex.getD n.depth.toNat 0
  if ((decide (n.kind=0) && !stOk n.st) || (decide (n.kind=1) && decide (up < 0)) || (q6b n && decide (6<=absI up)))=true then false
  else q4a r (flex.set (n.depth.toNat+1) (if q6b n=true then -(absI up+1) else absI up))
def qgb (ns:List Nd) (next:Int):Bool:=q9a ns next && q4a ns (List.replicate 17 0)
def qcb (ns:List Nd) (at_:Nat):List Nat:=((List.range ns.length).drop (at_+1)).takeWhile fun i=>decide ((ndAt ns at_).depth < (ndAt ns i).depth)
def kidsN (ns:List Nd) (at_:Nat):List Nat:=(qcb ns at_).filter fun i=>decide ((ndAt ns i).depth - 1=(ndAt ns at_).depth)
end Go.Proofs.YtlnekijhbnlclaaGreatDoor
namespace Go.Proofs.YtlnekijhbnlclaaGreatDoor
structure Fg where
 node:Int
 part:Int
 depth:Int
 x:Int
 y:Int
 w:Int
 h:Int
 text:ByteArray
inductive BT where
 | mk (at_:Nat) (w h x y:Int) (kids:List BT) (text:List Fg)
def BT.at_:BT->Nat | .mk a _ _ _ _ _ _=>a
def BT.w:BT->Int | .mk _ a _ _ _ _ _=>a
def BT.h:BT->Int | .mk _ _ a _ _ _ _=>a
def BT.x:BT->Int | .mk _ _ _ a _ _ _=>a
def BT.y:BT->Int | .mk _ _ _ _ a _ _=>a
def BT.kids:BT->List BT | .mk _ _ _ _ _ a _=>a
def BT.text:BT->List Fg | .mk _ _ _ _ _ _ a=>a
def BT.put (b:BT) (x y:Int):BT:=.mk b.at_ b.w b.h x y b.kids b.text
def BT.told (b:BT) (t:List Fg):BT:=.mk b.at_ b.w b.h b.x b.y b.kids t
end Go.Proofs.YtlnekijhbnlclaaGreatDoor
namespace Go.Proofs.YtlnekijhbnlclaaGreatDoor
open Go.RowKit
def stC (s:St):List Value:=[.int .u8 s.display,.bool s.whole,.int .u8 s.width.1,.int .i64 s.width.2,.int .u8 s.minW.1,.int .i64 s.minW.2,.int .u8 s.maxW.1,.int .i64 s.maxW.2,
 .int .u8 s.height.1,.int .i64 s.height.2,.int .u8 s.minH.1,.int .i64 s.minH.2,.int .u8 s.maxH.1,.int .i64 s.maxH.2,
 .int .u8 s.mT.1,.int .i64 s.mT.2,.int .u8 s.mR.1,.int .i64 s.mR.2,.int .u8 s.mB.1,.int .i64 s.mB.2,.int .u8 s.mL.1,.int .i64 s.mL.2,
 .int .i64 s.pT,.int .i64 s.pR,.int .i64 s.pB,.int .i64 s.pL,.int .i64 s.bT,.int .i64 s.bR,.int .i64 s.bB,.int .i64 s.bL,
 .int .i64 s.offX,.int .i64 s.offY,.int .i64 s.font,.int .u8 s.ws,.int .u8 s.lines,.int .u8 s.valign,.int .u8 s.dir,.int .u8 s.justify,.bool s.wrap,.int .u8 s.align,
 .int .i64 s.gap,.int .i64 s.lineGap,.int .i64 s.grow,.int .i64 s.shrink,.int .u8 s.basis.1,.int .i64 s.basis.2,.int .i64 s.order]
def ndC (n:Nd):List Value:=[.int .i64 n.key,.int .i64 n.depth,.int .u8 n.kind] ++ (stC n.st ++ [.string n.text])
def ndV (n:Nd):Value:=.agg (ndC n).toArray
theorem qve (s:St):∀ v ∈ stC s,v.oneCell'=true:=by
 intro v hv
 unfold stC at hv
 simp only [List.mem_cons,List.not_mem_nil,or_false] at hv
 (repeat' (rcases hv with rfl | hv)) <;> first | rfl | (subst hv; rfl)
theorem qec (n:Nd):∀ v ∈ ndC n,v.oneCell'=true:=by
 intro v hv
 unfold ndC at hv
 rw [List.mem_append,List.mem_append] at hv
 rcases hv with hv | hv | hv
 ·simp only [List.mem_cons,List.not_mem_nil,or_false] at hv
  (repeat' (rcases hv with rfl | hv)) <;> first | rfl | (subst hv; rfl)
 ·exact qve _ v hv
 ·rw [List.mem_singleton.1 hv]; rfl
def shNd:Shp Nd:=⟨35,51,ndC,fun _=>rfl,qec⟩
theorem qza:(Tryz.prog.info? 35).map (·.size)=some 51:=by kernel_rfl
theorem qoa:(Tryz.prog.info? 33).map (·.size)=some 47:=by kernel_rfl
def DocIn (w:World) (B:Nat) (v:Value) (ns:List Nd):Prop:=shNd.In w B v ns
theorem DocIn.below {w w':World} {B:Nat} {v:Value} {ns:List Nd} (h:DocIn w B v ns) (hb:Below B w w'):DocIn w' B v ns:=Shp.In.below h hb
theorem Shp.In.at_ {α:Type} {S:Shp α} {w:World} {B n c:Nat} {A:Option Addr} {L:List α} (h:S.In w B (.slice A n c) L) (hk:0 < S.k) (h0:0 < L.length) :
  ∃ b o,A=some ⟨b,o,none⟩/\b < B/\∀ i (hi:i < L.length) j,j < S.k->w.cell? ⟨b,o+(i * S.k+j),none⟩=(S.enc L[i])[j]?:=by
 obtain ⟨ad,rfl,hb,hc⟩:=h.cell h0
 have hs:ad.spot=none:=by
  have h2:=hc 0 hk
  have hlt:0 < (S.enc L[0]).length:=by rw [S.len]; exact hk
  rw [List.getElem?_eq_getElem hlt] at h2
  have:=World.cell?_spot h2
  simpa [Addr.add] using this
 obtain ⟨b,o,spot⟩:=ad
 simp at hs
 subst hs
 refine ⟨b,o,rfl,hb,fun i hi j hj=>?_⟩
 obtain ⟨ad',e,_,hc'⟩:=h.cell hi
 injection e with e
 subst e
 rw [<-hc' j hj]
 congr 1
 unfold Addr.add
 split <;> simp_all
end Go.Proofs.YtlnekijhbnlclaaGreatDoor
namespace Go.Proofs.YtlnekijhbnlclaaGreatDoor
structure Ak where
 is:Bool
 width:Int
 least:Int
 most:Int
 left:Int
 right:Int
 autoL:Bool
 autoR:Bool
 edges:Int
def ak0:Ak:=⟨false,0,0,0,0,0,false,false,0⟩
def ofR (s:St) (of:Int):Ak×Int :=
 let ed:=qha s
 let w:=qdd s of
 let lm:=qed s of
 let l:=qsa s.mL of
 let r:=qsa s.mR of
 if ed.2.2≠0 then (ak0,ed.2.2) else if w.2.2≠0 then (ak0,w.2.2) else if lm.2.2≠0 then (ak0,lm.2.2) else if l.2.2≠0 then (ak0,l.2.2) else if r.2.2≠0 then (ak0,r.2.2)
 else (⟨w.2.1,w.1,lm.1,lm.2.1,l.1,r.1,!l.2.1,!r.2.1,ed.1⟩,0)
def qyb (of:Int) (a:Ak):Int :=
 if of < 0\/a.least < 0\/a.most < 0\/a.edges < 0\/(a.is=true/\a.width < 0) then 2
 else if ¬ ([of,a.least,a.most,a.left,a.right,a.edges].all fit=true)\/(a.is=true/\¬ (fit a.width=true)) then 10 else 0
def q9f (of:Int) (a:Ak):Int :=
 q7b (if a.is=true then a.width else max 0 (of - (if a.autoL=true then 0 else a.left) - (if a.autoR=true then 0 else a.right) - a.edges)) a.least a.most
def qad (of:Int) (a:Ak):Int:=of - (if a.autoL=true then 0 else a.left) - a.edges - q9f of a - (if a.autoR=true then 0 else a.right)
def q7f (of:Int) (a:Ak):Int :=
 if 0<=qad of a/\a.autoL=true then (if a.autoR=true then (qad of a).tdiv 2 else qad of a) else (if a.autoL=true then 0 else a.left)
def qdg (of:Int) (a:Ak):Int :=
 if 0<=qad of a/\a.autoL=true then (if a.autoR=true then qad of a - (qad of a).tdiv 2 else 0)+(if a.autoR=true then 0 else a.right)
 else (if a.autoR=true then 0 else a.right)+qad of a
def qia (of:Int) (a:Ak):Int×Int×Int×Int :=
 if qyb of a≠0 then (0,0,0,qyb of a)
 else if [q7f of a,q9f of a,qdg of a].all fit=true then (q7f of a,q9f of a,qdg of a,0) else (0,0,0,10)
def fitR (narrow wide room:Int):Int:=min (max narrow room) wide
abbrev Mg:=Int×Int
def oneM (n:Int):Mg:=(max n 0,min n 0)
def withM (m x:Mg):Mg:=(max m.1 x.1,min m.2 x.2)
def valM (m:Mg):Int:=w64 (m.1+m.2)
def mayM (m:Mg):Bool:=decide (0<=m.1) && decide (m.1<=1099511627776) && decide (m.2<=0) && decide (-1099511627776<=m.2)
def oddM (m:Mg):Bool:=decide (m.1 < 0) || decide (0 < m.2)
structure Kd where
 top:Mg
 bottom:Mg
 height:Int
 through:Bool
def badK (k:Kd):Bool:=decide (k.height < 0) || (k.through && decide (0 < k.height)) || oddM k.top || oddM k.bottom
def fitK (k:Kd):Bool:=fit k.height && mayM k.top && mayM k.bottom
def qlb (l:List Kd):Int:=if 2048 < l.length then 2 else if l.any badK=true then 2 else if l.all fitK=true then 0 else 10
structure Pl where
 at_:List Int
 height:Int
 top:Mg
 bottom:Mg
 through:Bool
 y:Int
 waits:Mg
 outside:Bool
def putK (p:Pl) (k:Kd):Pl :=
 let waits:=withM p.waits k.top
 if (k.through && p.outside)=true then { p with at_:=p.at_ ++ [p.y],waits:=withM waits k.bottom }
 else if k.through=true then { p with at_:=p.at_ ++ [w64 (p.y+valM waits)],waits:=withM waits k.bottom }
 else
  let y:=if p.outside=true then p.y else w64 (p.y+valM waits)
  { p with at_:=p.at_ ++ [y],top:=if p.outside=true then waits else p.top,outside:=false,y:=w64 (y+k.height),waits:=k.bottom }
def endK (p:Pl) (below:Bool):Pl :=
 if p.outside=true then { p with top:=p.waits,through:=below }
 else if below=true then { p with bottom:=p.waits,height:=max 0 p.y }
 else { p with y:=w64 (p.y+valM p.waits),height:=max 0 (w64 (p.y+valM p.waits)) }
def pile0 (above:Bool):Pl:=⟨[],0,(0,0),(0,0),false,0,(0,0),above⟩
def qne (l:List Kd) (above below:Bool):Pl:=endK (l.foldl putK (pile0 above)) below
def q0a (l:List Kd) (above below:Bool):Pl×Int :=
 if qlb l≠0 then (pile0 false,qlb l)
 else if ((qne l above below).at_.all fit && fit (qne l above below).height)=true then (qne l above below,0) else (pile0 false,10)
abbrev Im:=Nat×Int
def isK (l:List Im) (kind at_:Nat):Bool:=match l[at_]? with
 | some x=>decide (x.1=kind)
 | none=>false
def passK (l:List Im) (kind at_:Nat):Nat:=at_+((l.drop at_).takeWhile fun x=>decide (x.1=kind)).length
def pass1 (l:List Im) (kind at_:Nat):Nat:=if isK l kind at_=true then at_+1 else at_
def qva (l:List Im) (at_:Nat):Nat:=if isK l 3 at_=true then at_+1 else passK l 0 at_
def sumW (l:List Im) (a b:Nat):Int:=((l.drop a).take (b - a)).foldl (fun n x=>w64 (n+x.2)) 0
def qmb (l:List Im) (width:Int) (from_:Nat):Nat->Nat->Int->Nat->Nat×Int
 | 0,tO,wd,_=>(tO,wd)
 | f+1,tO,wd,at_ =>
  let e:=qva l at_
  if e=at_ then (tO,wd)
  else if tO=from_\/sumW l from_ e<=width then qmb l width from_ f e (sumW l from_ e) (passK l 1 e)
  else (tO,wd)
def qdc (l:List Im) (width:Int):Nat->Nat->List (Nat×Nat×Int)
 | 0,_=>[]
 | f+1,at_ =>
  let a:=passK l 1 at_
  let x:=qmb l width a (l.length+1 - a) a 0 a
  if a < x.1 then (a,x) :: qdc l width f (pass1 l 2 (passK l 1 x.1))
  else if isK l 2 x.1=true then (a,x) :: qdc l width f (pass1 l 2 x.1)
  else []
def eachR (l:List Im) (width:Int):List (Nat×Nat×Int):=qdc l width (l.length+1) 0
def fillL (l:List Im) (width:Int):List (Nat×Nat×Int)×Int :=
 if 2048 < l.length\/width < 0 then ([],2)
 else if l.any (fun x=>decide (3 < x.1))=true then ([],2)
 else if ¬ (fit width=true/\l.all (fun x=>fit x.2)=true) then ([],10)
 else if (eachR l width).all (fun x=>fit x.2.2)=true then (eachR l width,0) else ([],10)
def qmq (l:List (Nat×Nat×Int)):Int:=l.foldl (fun n x=>max n x.2.2) 0
structure Sp where
 width:Int
 up:Int
 down:Int
 align:Nat
def qub (l:List Sp) (up:Int):Int:=l.foldl (fun n s=>if s.align=0 then max n s.up else n) up
def qnd (l:List Sp) (down:Int):Int:=l.foldl (fun n s=>if s.align=0 then max n s.down else n) down
def lineH (l:List Sp) (up down:Int):Int:=l.foldl (fun n s=>if s.align=0 then n else max n (w64 (s.up+s.down))) (w64 (qub l up+qnd l down))
def leadR (free:Int) (lines:Nat):Int:=if lines=1 then max 0 free else if lines=2 then (max 0 free).tdiv 2 else 0
def spotY (h b:Int) (s:Sp):Int:=if s.align=0 then w64 (b - s.up) else if s.align=1 then 0 else w64 (w64 (h - s.up) - s.down)
def posGo (h b:Int):List Sp->Int->List (Int×Int)
 | [],_=>[]
 | s :: r,at_=>(at_,spotY h b s) :: posGo h b r (w64 (at_+s.width))
def allW (l:List Sp):Int:=l.foldl (fun n s=>w64 (n+s.width)) 0
def fitS (s:Sp):Bool:=fit s.width && fit s.up && fit s.down
def q3b (l:List Sp) (up down width:Int) (lines:Nat):List (Int×Int)×Int×Int×Int :=
 if 2048 < l.length\/2 < lines then ([],0,0,2)
 else if l.any (fun s=>decide (2 < s.align))=true then ([],0,0,2)
 else if ¬ (fit up=true/\fit down=true/\fit width=true/\l.all fitS=true) then ([],0,0,10)
 else
  let h:=lineH l up down
  let b:=qub l up
  let ps:=posGo h b l (leadR (w64 (width - allW l)) lines)
  if (fit h && fit b && ps.all fun p=>fit p.1 && fit p.2)=true then (ps,h,b,0) else ([],0,0,10)
end Go.Proofs.YtlnekijhbnlclaaGreatDoor
