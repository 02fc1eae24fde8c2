/-
  Plain: characters' shares, as the program's rows say them and as the reference says them.
-/
import Derived.Test.YtlnekijhbnlclaaGreatDoorRunePlain
import Derived.Test.YtlnekijhbnlclaaGreatDoorFlowPlain
import Derived.Deep.RegionHeld3
import Derived.Deep.QuietTactic
import Derived.BigQuiet
import Derived.WalkKit
import Derived.Lib.SplitLaws
namespace Go.Proofs.YtlnekijhbnlclaaGreatDoor
def thin:List UInt8:=[10,32,33,39,40,41,44,46,58,59,91,93,102,105,106,108,116,124]
def wide:List UInt8:=[37,64,77,87,109,119]
def q5c (k:Nat) (r:Int):Bool :=
 match k with
 | 0=>decide (768<=r) && decide (r<=879)
 | 1=>decide (0<=r) && memb thin r
 | 2=>decide (-2147483648<=r) && decide (r<=31)
 | 3=>decide (0<=r) && memb wide r
 | 4=>decide (65<=r) && decide (r<=90)
 | 5=>decide (32<=r) && decide (r<=4351)
 | 6=>decide (4352<=r) && decide (r<=2147483647)
 | _=>false
def qch (k:Nat):Int:=match k with | 0=>0 | 1=>16 | 2=>0 | 3=>48 | 4=>40 | 5=>32 | 6=>64 | _=>0
def qkd (r:Int):Nat->Nat->Int
 | 0,_=>0
 | n+1,k=>if q5c k r=true then qch k else qkd r n (k+1)
def share (r:Int):Int:=qkd r 7 0
theorem qzd (r:Int) (n k:Nat) (h:q5c k r=true):qkd r (n+1) k=qch k:=if_pos h
theorem q4d (r:Int) (n k:Nat) (h:q5c k r=false):qkd r (n+1) k=qkd r n (k+1):=if_neg (by simp [h])
theorem qsm (r:Int):0<=share r/\share r<=64:=by
 have:∀ n k,0<=qkd r n k/\qkd r n k<=64:=by
  intro n
  induction n with
  | zero=>intro k; exact ⟨Int.le_refl _,by show (0:Int)<=64; decide⟩
  | succ n ih =>
   intro k
   unfold qkd
   split
   ·unfold qch; split <;> omega
   ·exact ih _
 exact this 7 0
def qka (n font:Int):Int×Int:=if font < 1\/1000 < font then (0,2) else if 1099511627776 < n * font then (0,10) else (n * font,0)
end Go.Proofs.YtlnekijhbnlclaaGreatDoor
namespace Go.Proofs.YtlnekijhbnlclaaGreatDoor
def qlc (s:ByteArray):Nat->Nat->List Int
 | 0,_=>[]
 | f+1,pos=>if pos < s.size then ((Utf8.decode s pos).1:Int) :: qlc s f (pos+(Utf8.decode s pos).2) else []
def codes (s:ByteArray):List Int:=qlc s s.size 0
theorem qlg (s:ByteArray) (pos:Nat):1<=(Utf8.decode s pos).2:=by
 simp only [Utf8.decode]
 repeat' split
 all_goals simp
theorem qeq (s:ByteArray):∀ (f pos:Nat),s.size - pos<=f->qlc s f pos=qlc s (s.size - pos) pos:=by
 have key:∀ (f g pos:Nat),s.size - pos<=f->s.size - pos<=g->qlc s f pos=qlc s g pos:=by
  intro f
  induction f with
  | zero =>
   intro g pos h1 _
   have hp:¬ pos < s.size:=by omega
   cases g with
   | zero=>rfl
   | succ g=>simp [qlc,hp]
  | succ f ih =>
   intro g pos h1 h2
   by_cases hp:pos < s.size
   ·cases g with
    | zero=>omega
    | succ g =>
     simp only [qlc,hp,if_true]
     have:=qlg s pos
     rw [ih g _ (by omega) (by omega)]
   ·cases g with
    | zero=>simp [qlc,hp]
    | succ g=>simp [qlc,hp]
 exact fun f pos h=>key f _ pos h (Nat.le_refl _)
def q9c (s:ByteArray) (pos:Nat):List Int:=qlc s (s.size - pos) pos
theorem qfm (s:ByteArray) (pos:Nat) (h:pos < s.size):q9c s pos=((Utf8.decode s pos).1:Int) :: q9c s (pos+(Utf8.decode s pos).2):=by
 unfold q9c
 obtain ⟨f,hf⟩:∃ f,s.size - pos=f+1:=⟨s.size - pos - 1,by omega⟩
 rw [hf,qlc,if_pos h,qeq s f _ (by have:=qlg s pos; omega)]
theorem q7h (s:ByteArray) (pos:Nat) (h:¬ pos < s.size):q9c s pos=[]:=by
 unfold q9c
 rw [show s.size - pos=0 by omega]
 rfl
theorem qvj (s:ByteArray):codes s=q9c s 0:=rfl
theorem q3w (s:ByteArray):∀ (n pos:Nat),s.size - pos<=n->(q9c s pos).length<=s.size - pos:=by
 intro n
 induction n with
 | zero=>intro pos h; rw [q7h s pos (by omega)]; simp
 | succ n ih =>
  intro pos h
  by_cases hp:pos < s.size
  ·have:=qlg s pos
   rw [qfm s pos hp,List.length_cons]
   have:=ih (pos+(Utf8.decode s pos).2) (by omega)
   omega
  ·rw [q7h s pos hp]; simp
def qoc (l:List Int):Int:=(l.map share).sum
theorem q8h (a:Int) (l:List Int):qoc (a :: l)=share a+qoc l:=by simp [qoc]
theorem qfj (l:List Int):0<=qoc l/\qoc l<=64 * l.length:=by
 induction l with
 | nil=>simp [qoc]
 | cons a l ih =>
  rw [q8h,List.length_cons]
  have:=qsm a
  omega
def q1b (s:ByteArray) (font:Int):Int×Int:=qka (qoc (codes s)) font
end Go.Proofs.YtlnekijhbnlclaaGreatDoor
namespace Go.Proofs.YtlnekijhbnlclaaGreatDoor
open Go.RowKit
structure Tys where
 box:TypeId
 ptr:TypeId
 frag:TypeId
def shPt (t:TypeId):Shp Nat:=⟨t,1,fun p=>[ptrV p],fun _=>rfl,fun _ u hu=>by rw [List.mem_singleton.1 hu]; rfl⟩
def fgC (f:Fg):List Value:=[.int .i64 f.node,.int .i64 f.part,.int .i64 f.depth,.int .i64 f.x,.int .i64 f.y,.int .i64 f.w,.int .i64 f.h,.string f.text]
def shFg (t:TypeId):Shp Fg:=⟨t,8,fgC,fun _=>rfl,fun f u hu=>by
 unfold fgC at hu
 simp only [List.mem_cons,List.not_mem_nil,or_false] at hu
 (repeat' (rcases hu with rfl | hu)) <;> first | rfl | (subst hu; rfl)⟩
def btC (b:BT) (kv tv:Value):List Value:=[.int .i64 b.at_,.int .i64 b.w,.int .i64 b.h,.int .i64 b.x,.int .i64 b.y,kv,tv]
def blkL (v:Value):List Nat:=v.ownBlock.toList
theorem mem_blkL {v:Value} {g:Nat}:g ∈ blkL v↔v.ownBlock=some g:=by simp [blkL]
section
variable (Y:Tys)
def BoxAt (w:World) (base:Nat):Nat->BT->Nat->List Nat->Prop
 | 0,_,_,_=>False
 | d+1,b,p,fp=>∃ (kv tv:Value) (ps:List Nat) (fks:List (List Nat)),Blk w p Y.box (btC b kv tv).toArray/\(shPt Y.ptr).Owns w base kv ps/\(shFg Y.frag).Owns w base tv b.text /\
   ps.length=b.kids.length/\fks.length=b.kids.length/\(∀ i (hi:i < b.kids.length) p' f',ps[i]?=some p'->fks[i]?=some f'->BoxAt w base d b.kids[i] p' f') /\
   fp=p :: (blkL kv ++ (blkL tv ++ fks.flatten))/\fp.Nodup/\base<=p
structure BoxesAt (w:World) (base d:Nat) (bs:List BT) (ps:List Nat) (fks:List (List Nat)):Prop where
 lenP:ps.length=bs.length
 lenF:fks.length=bs.length
 box:∀ i (hi:i < bs.length) p f,ps[i]?=some p->fks[i]?=some f->BoxAt Y w base d bs[i] p f
 nodup:fks.flatten.Nodup
variable {Y} {w w':World} {base:Nat}
theorem BoxAt.mem_lt:∀ {d:Nat} {b:BT} {p:Nat} {fp:List Nat},BoxAt Y w base d b p fp->∀ g ∈ fp,base<=g/\g < w.heap.size
 | d+1,b,p,fp,⟨kv,tv,ps,fks,h1,h2,h3,h4,h5,h6,h7,h8,h9⟩,g,hg=>by
  subst h7
  rcases List.mem_cons.1 hg with rfl | hg
  ·exact ⟨h9,h1.lt⟩
  rcases List.mem_append.1 hg with hg | hg
  ·exact h2.lt g (mem_blkL.1 hg)
  rcases List.mem_append.1 hg with hg | hg
  ·exact h3.lt g (mem_blkL.1 hg)
  obtain ⟨f,hf,hg⟩:=List.mem_flatten.1 hg
  obtain ⟨i,hi,rfl⟩:=List.getElem_of_mem hf
  exact BoxAt.mem_lt (h6 i (by omega) (ps[i]'(by omega)) fks[i] (List.getElem?_eq_getElem _) (List.getElem?_eq_getElem _)) g hg
theorem BoxAt.root {d:Nat} {b:BT} {p:Nat} {fp:List Nat} (h:BoxAt Y w base d b p fp):p ∈ fp/\base<=p/\p < w.heap.size:=by
 have hm:p ∈ fp:=by
  cases d with
  | zero=>exact h.elim
  | succ d =>
   obtain ⟨kv,tv,ps,fks,h1,h2,h3,h4,h5,h6,h7,h8,h9⟩:=h
   rw [h7]; simp
 exact ⟨hm,h.mem_lt p hm⟩
theorem BoxAt.nodup {d:Nat} {b:BT} {p:Nat} {fp:List Nat} (h:BoxAt Y w base d b p fp):fp.Nodup:=by
 cases d with
 | zero=>exact h.elim
 | succ d =>
  obtain ⟨kv,tv,ps,fks,h1,h2,h3,h4,h5,h6,h7,h8,h9⟩:=h
  exact h8
theorem BoxAt.keep (hs:w.heap.size<=w'.heap.size):∀ {d:Nat} {b:BT} {p:Nat} {fp:List Nat},BoxAt Y w base d b p fp->(∀ g ∈ fp,w'.heap[g]?=w.heap[g]?)->BoxAt Y w' base d b p fp
 | d+1,b,p,fp,⟨kv,tv,ps,fks,h1,h2,h3,h4,h5,h6,h7,h8,h9⟩,hk=>by
  subst h7
  refine ⟨kv,tv,ps,fks,(hk p (by simp)).trans h1,h2.keep hs fun g hg=>hk g ?_,h3.keep hs fun g hg=>hk g ?_,h4,h5,fun i hi p' f' hp hf=>?_,rfl,h8,h9⟩
  ·simp [mem_blkL.2 hg]
  ·simp [mem_blkL.2 hg]
  ·refine BoxAt.keep hs (h6 i hi p' f' hp hf) fun g hg=>hk g ?_
   have:f' ∈ fks:=List.mem_of_getElem? hf
   simp only [List.mem_cons,List.mem_append,List.mem_flatten]
   exact .inr (.inr (.inr ⟨f',this,hg⟩))
theorem BoxAt.kept {gs:List Nat} {d:Nat} {b:BT} {p:Nat} {fp:List Nat} (h:BoxAt Y w base d b p fp) (hk:Kept gs w w') (hn:∀ g ∈ fp,g ∉ gs):BoxAt Y w' base d b p fp :=
 h.keep hk.size fun g hg=>hk.block g (h.mem_lt g hg).2 (hn g hg)
theorem BoxAt.below {d:Nat} {b:BT} {p:Nat} {fp:List Nat} (h:BoxAt Y w base d b p fp) (hb:Below w.heap.size w w'):BoxAt Y w' base d b p fp :=
 h.keep hb.size fun g hg=>hb.block g (h.mem_lt g hg).2
theorem BoxAt.base_le {base':Nat} (hb:base'<=base):∀ {d:Nat} {b:BT} {p:Nat} {fp:List Nat},BoxAt Y w base d b p fp->BoxAt Y w base' d b p fp
 | d+1,b,p,fp,⟨kv,tv,ps,fks,h1,h2,h3,h4,h5,h6,h7,h8,h9⟩ =>
  ⟨kv,tv,ps,fks,h1,h2.base_le hb,h3.base_le hb,h4,h5,fun i hi p' f' hp hf=>BoxAt.base_le hb (h6 i hi p' f' hp hf),h7,h8,by omega⟩
theorem BoxAt.deeper {d':Nat}:∀ {d:Nat} {b:BT} {p:Nat} {fp:List Nat},BoxAt Y w base d b p fp->d<=d'->BoxAt Y w base d' b p fp
 | d+1,b,p,fp,⟨kv,tv,ps,fks,h1,h2,h3,h4,h5,h6,h7,h8,h9⟩,hd=>by
  obtain ⟨e,rfl⟩:∃ e,d'=e+1:=⟨d' - 1,by omega⟩
  exact ⟨kv,tv,ps,fks,h1,h2,h3,h4,h5,fun i hi p' f' hp hf=>BoxAt.deeper (h6 i hi p' f' hp hf) (by omega),h7,h8,h9⟩
theorem BoxAt.own {d:Nat} {b:BT} {p:Nat} {fp:List Nat} (h:BoxAt Y w base d b p fp):∃ kv tv,Blk w p Y.box (btC b kv tv).toArray/\(∃ ps,(shPt Y.ptr).Owns w base kv ps/\ps.length=b.kids.length)/\(shFg Y.frag).Owns w base tv b.text/\p ∉ blkL kv/\p ∉ blkL tv:=by
 cases d with
 | zero=>exact h.elim
 | succ d =>
  obtain ⟨kv,tv,ps,fks,h1,h2,h3,h4,h5,h6,h7,h8,h9⟩:=h
  subst h7
  rw [List.nodup_cons] at h8
  exact ⟨kv,tv,h1,⟨ps,h2,h4⟩,h3,fun h=>h8.1 (List.mem_append_left _ h),fun h=>h8.1 (List.mem_append_right _ (List.mem_append_left _ h))⟩
theorem BoxAt.put {d:Nat} {b:BT} {p:Nat} {fp:List Nat} (h:BoxAt Y w base d b p fp) (hk:Kept [p] w w') {x y:Int} (hp:∀ kv tv,Blk w p Y.box (btC b kv tv).toArray->Blk w' p Y.box (btC (b.put x y) kv tv).toArray):BoxAt Y w' base d (b.put x y) p fp:=by
 cases d with
 | zero=>exact h.elim
 | succ d =>
  obtain ⟨kv,tv,ps,fks,h1,h2,h3,h4,h5,h6,h7,h8,h9⟩:=h
  have hfp:=h7
  subst h7
  rw [List.nodup_cons] at h8
  have hn:∀ g,g ∈ blkL kv ++ (blkL tv ++ fks.flatten)->g ∉ [p]:=fun g hg e=>h8.1 (by rwa [List.mem_singleton.1 e] at hg)
  refine ⟨kv,tv,ps,fks,hp _ _ h1,h2.kept hk fun g hg=>hn g ?_,h3.kept hk fun g hg=>hn g ?_,h4,h5,fun i hi p' f' hp hf=>(h6 i hi p' f' hp hf).kept hk fun g hg=>hn g ?_,rfl,List.nodup_cons.2 h8,h9⟩
  ·simp [mem_blkL.2 hg]
  ·simp [mem_blkL.2 hg]
  ·have:f' ∈ fks:=List.mem_of_getElem? hf
   simp only [List.mem_append,List.mem_flatten]
   exact .inr (.inr ⟨f',this,hg⟩)
theorem BoxesAt.nil (d:Nat):BoxesAt Y w base d [] [] []:=⟨rfl,rfl,fun i hi=>absurd hi (by simp),by simp⟩
theorem BoxesAt.mem_lt {d:Nat} {bs:List BT} {ps:List Nat} {fks:List (List Nat)} (h:BoxesAt Y w base d bs ps fks):∀ g ∈ fks.flatten,base<=g/\g < w.heap.size:=by
 intro g hg
 obtain ⟨f,hf,hg⟩:=List.mem_flatten.1 hg
 obtain ⟨i,hi,rfl⟩:=List.getElem_of_mem hf
 have h1:=h.lenP
 have h2:=h.lenF
 exact (h.box i (by omega) (ps[i]'(by omega)) fks[i] (List.getElem?_eq_getElem _) (List.getElem?_eq_getElem _)).mem_lt g hg
theorem BoxesAt.keep {d:Nat} {bs:List BT} {ps:List Nat} {fks:List (List Nat)} (h:BoxesAt Y w base d bs ps fks) (hs:w.heap.size<=w'.heap.size) (hk:∀ g ∈ fks.flatten,w'.heap[g]?=w.heap[g]?):BoxesAt Y w' base d bs ps fks :=
 ⟨h.lenP,h.lenF,fun i hi p f hp hf=>(h.box i hi p f hp hf).keep hs fun g hg=>hk g (List.mem_flatten.2 ⟨f,List.mem_of_getElem? hf,hg⟩),h.nodup⟩
theorem BoxesAt.below {d:Nat} {bs:List BT} {ps:List Nat} {fks:List (List Nat)} (h:BoxesAt Y w base d bs ps fks) (hb:Below w.heap.size w w'):BoxesAt Y w' base d bs ps fks :=
 h.keep hb.size fun g hg=>hb.block g (h.mem_lt g hg).2
theorem BoxesAt.kept {gs:List Nat} {d:Nat} {bs:List BT} {ps:List Nat} {fks:List (List Nat)} (h:BoxesAt Y w base d bs ps fks) (hk:Kept gs w w') (hn:∀ g ∈ fks.flatten,g ∉ gs):BoxesAt Y w' base d bs ps fks :=
 h.keep hk.size fun g hg=>hk.block g (h.mem_lt g hg).2 (hn g hg)
theorem BoxesAt.snoc {d:Nat} {bs:List BT} {ps:List Nat} {fks:List (List Nat)} (h:BoxesAt Y w base d bs ps fks) {b:BT} {p:Nat} {fp:List Nat} (hb:BoxAt Y w base d b p fp) (hn:∀ g ∈ fp,g ∉ fks.flatten):BoxesAt Y w base d (bs ++ [b]) (ps ++ [p]) (fks ++ [fp]):=by
 have h1:=h.lenP
 have h2:=h.lenF
 refine ⟨by simp [h1],by simp [h2],fun i hi p' f' hp hf=>?_,?_⟩
 ·rcases Nat.lt_or_ge i bs.length with hl | hl
  ·rw [List.getElem?_append_left (by omega)] at hp hf
   rw [List.getElem_append_left hl]
   exact h.box i hl p' f' hp hf
  ·have hi':i=bs.length:=by simp at hi; omega
   subst hi'
   rw [List.getElem?_append_right (by omega),h1,Nat.sub_self] at hp
   rw [List.getElem?_append_right (by omega),h2,Nat.sub_self] at hf
   simp at hp hf
   subst hp hf
   simpa using hb
 ·rw [List.flatten_append,List.flatten_cons,List.flatten_nil,List.append_nil,List.nodup_append]
  exact ⟨h.nodup,hb.nodup,fun a ha b' hb' e=>hn b' hb' (e ▸ ha)⟩
end
end Go.Proofs.YtlnekijhbnlclaaGreatDoor
namespace Go.Proofs.YtlnekijhbnlclaaGreatDoor
open Go.RowKit
def fitF (f:Fr):Bool:=[f.x,f.y,f.w,f.h].all fit
def big (f:Fr):Bool:=decide (0 < f.w/\0 < f.h)
def mn (sel:Fr->Int):List Fr->Int
 | []=>0
 | f :: L=>L.foldl (fun a g=>min a (sel g)) (sel f)
def mx (sel:Fr->Int):List Fr->Int
 | []=>0
 | f :: L=>L.foldl (fun a g=>max a (sel g)) (sel f)
theorem qng (sel:Fr->Int) (L:List Fr) (f:Fr):mn sel (L ++ [f])=if L=[] then sel f else min (mn sel L) (sel f):=by
 cases L with
 | nil=>rfl
 | cons g L=>simp [mn,List.foldl_append]
theorem qsg (sel:Fr->Int) (L:List Fr) (f:Fr):mx sel (L ++ [f])=if L=[] then sel f else max (mx sel L) (sel f):=by
 cases L with
 | nil=>rfl
 | cons g L=>simp [mx,List.foldl_append]
def gr (fs:List Fr) (k:Nat):List Fr:=(fs.take k).filter big
theorem qyw {fs:List Fr} {k:Nat} (hk:k < fs.length) (h:big fs[k]=true):gr fs (k+1)=gr fs k ++ [fs[k]]:=by
 unfold gr
 rw [List.take_succ_eq_append_getElem hk,List.filter_append]
 simp [h]
theorem qto {fs:List Fr} {k:Nat} (hk:k < fs.length) (h:big fs[k]=false):gr fs (k+1)=gr fs k:=by
 unfold gr
 rw [List.take_succ_eq_append_getElem hk,List.filter_append]
 simp [h]
def rt (f:Fr):Int:=f.x+f.w
def bt (f:Fr):Int:=f.y+f.h
def fillR (fs:List Fr):Int×Int×Int×Int :=
 if fs.all fitF then (mn Fr.x (gr fs fs.length),mn Fr.y (gr fs fs.length),mx rt (gr fs fs.length) - mn Fr.x (gr fs fs.length),mx bt (gr fs fs.length) - mn Fr.y (gr fs fs.length)) else (0,0,0,0)
theorem qdf {f:Fr} (h:fitF f=true):(-1099511627776<=f.x/\f.x<=1099511627776)/\(-1099511627776<=f.y/\f.y<=1099511627776)/\(-1099511627776<=f.w/\f.w<=1099511627776)/\(-1099511627776<=f.h/\f.h<=1099511627776):=by
 unfold fitF at h
 simp only [List.all_cons,List.all_nil,Bool.and_true,Bool.and_eq_true,qpc] at h
 exact h
theorem mn_bd {sel:Fr->Int} {a b:Int} (ha:a<=0) (hb:0<=b):∀ {L:List Fr},(∀ f ∈ L,a<=sel f/\sel f<=b)->a<=mn sel L/\mn sel L<=b:=by
 intro L h
 rcases List.eq_nil_or_concat L with rfl | ⟨L',f,rfl⟩
 ·exact ⟨ha,hb⟩
 ·have hf:=h f (by simp)
  have ih:=mn_bd ha hb (L:=L') fun g hg=>h g (by simp [hg])
  rw [List.concat_eq_append,qng]
  split <;> omega
termination_by L=>L.length
theorem mx_bd {sel:Fr->Int} {a b:Int} (ha:a<=0) (hb:0<=b):∀ {L:List Fr},(∀ f ∈ L,a<=sel f/\sel f<=b)->a<=mx sel L/\mx sel L<=b:=by
 intro L h
 rcases List.eq_nil_or_concat L with rfl | ⟨L',f,rfl⟩
 ·exact ⟨ha,hb⟩
 ·have hf:=h f (by simp)
  have ih:=mx_bd ha hb (L:=L') fun g hg=>h g (by simp [hg])
  rw [List.concat_eq_append,qsg]
  split <;> omega
termination_by L=>L.length
theorem qfq {fs:List Fr} {k:Nat} (h:(fs.take k).all fitF=true):∀ f ∈ gr fs k,fitF f=true:=fun f hf=>List.all_eq_true.1 h f (List.mem_filter.1 hf).1
theorem gr_bd {fs:List Fr} {k:Nat} (h:(fs.take k).all fitF=true) :
  (-1099511627776<=mn Fr.x (gr fs k)/\mn Fr.x (gr fs k)<=1099511627776)/\(-1099511627776<=mn Fr.y (gr fs k)/\mn Fr.y (gr fs k)<=1099511627776)/\(-2199023255552<=mx rt (gr fs k)/\mx rt (gr fs k)<=2199023255552)/\(-2199023255552<=mx bt (gr fs k)/\mx bt (gr fs k)<=2199023255552):=by
 have hf:=qfq h
 refine ⟨mn_bd (by omega) (by omega) fun f m=>(qdf (hf f m)).1,mn_bd (by omega) (by omega) fun f m=>(qdf (hf f m)).2.1,mx_bd (by omega) (by omega) fun f m=>?_,mx_bd (by omega) (by omega) fun f m=>?_⟩
 ·have:=qdf (hf f m); unfold rt; omega
 ·have:=qdf (hf f m); unfold bt; omega
def nonE:List Fr->Bool
 | []=>false
 | _ :: _=>true
theorem q6o (L:List Fr) (f:Fr):nonE (L ++ [f])=true:=by cases L <;> rfl
def FiA (fs:List Fr) (w0:World) (x y r b some_ i:Value) (wr:World):Prop :=
 ∃ k:Nat,k<=fs.length/\i=.int .i64 k/\(fs.take k).all fitF=true/\x=.int .i64 (mn Fr.x (gr fs k))/\y=.int .i64 (mn Fr.y (gr fs k))/\r=.int .i64 (mx rt (gr fs k))/\b=.int .i64 (mx bt (gr fs k)) /\
  some_=.bool (nonE (gr fs k))/\Below w0.heap.size w0 wr
set_option maxRecDepth 100000 in
set_option maxHeartbeats 4000000 in
theorem q3g (fs:List Fr) (v:Value) (B:Nat) (w:World) (h:Frags w B v fs) (hB:B<=w.heap.size) (hm:fs.length<=2100) :
  Calls Tryz.prog 26 #[v] w fun e w'=>e=.returned (.tuple #[.int .i64 (fillR fs).1,.int .i64 (fillR fs).2.1,.int .i64 (fillR fs).2.2.1,.int .i64 (fillR fs).2.2.2])/\Below w.heap.size w w':=by
 obtain ⟨A,c,rfl,hc,hf⟩:=h
 go_enter Tryz.func26,Tryz.ntmps26
 go_wp2_with fail
 go_loopw [2,3,6,7,8,13] (FiA fs w) (fun _ _ _ _ _ i _=>fs.length - (intOf i).toNat)
 case atStart=>exact ⟨0,by omega,rfl,rfl,rfl,rfl,rfl,rfl,rfl,Below.refl _ _⟩
 case round =>
  obtain ⟨k,hk,rfl,hall,rfl,rfl,rfl,rfl,rfl,hbr⟩:=hrel
  have hbs:=hbr.size
  have HA:=Lib.hid hall
  obtain ⟨⟨bx1,bx2⟩,⟨by1,by2⟩,⟨br1,br2⟩,⟨bb1,bb2⟩⟩:=gr_bd hall
  clear hall
  by_cases hlt:k < fs.length
  ·obtain ⟨ad,rfl,hbk,hat⟩:=hf (by omega)
   obtain ⟨k0,k1,k2,k3,k4,k5,k6,k7⟩:=(hat k hlt).below hbr (by rw [qac]; omega)
   clear hat hf
   have hGb:=qyw hlt
   have hGs:=qto hlt
   have HT:fitF fs[k]=true->(fs.take (k+1)).all fitF=true:=fun h=>by rw [List.take_succ_eq_append_getElem hlt,List.all_append,HA.out]; simp [h]
   have HF:fitF fs[k]=false->fillR fs=(0,0,0,0):=fun h=>by
    unfold fillR
    rw [if_neg]
    intro ha
    have:=List.all_eq_true.1 ha _ (List.getElem_mem hlt)
    rw [h] at this
    cases this
   generalize fs[k]=f at *
   have hfit:=fun W=>qhc [f.x,f.y,f.w,f.h] _ _ _ (Ints.built W [f.x,f.y,f.w,f.h] 3) (by simp)
   change ∀ W,Calls _ _ _ _ fun e w'=>e=.returned (.bool (fitF f))/\_ at hfit
   have hbd:=fun h=>qdf (f:=f) h
   have hbig:big f=decide (0 < f.w/\0 < f.h):=rfl
   have hrt:rt f=f.x+f.w:=rfl
   have hbt:bt f=f.y+f.h:=rfl
   have hfx:Fr.x f=f.x:=rfl
   obtain ⟨n,p,d,fx,fy,fw,fh,s⟩:=f
   simp only at hfit hbd hbig hrt hbt k0 k1 k2 k3 k4 k5 k6 k7
   clear hfx
   have hbA:Below wr.heap.size wr ((wr.alloc (.cells #[.int .i64 n,.int .i64 p,.int .i64 d,.int .i64 fx,.int .i64 fy,.int .i64 fw,.int .i64 fh,.string s] 42)).alloc (.cells #[.int .i64 fx,.int .i64 fy,.int .i64 fw,.int .i64 fh] 3)):=((Below.refl _ _).alloc (Nat.le_refl _) _).alloc (by simp) _
   have c3:((wr.alloc (.cells #[.int .i64 n,.int .i64 p,.int .i64 d,.int .i64 fx,.int .i64 fy,.int .i64 fw,.int .i64 fh,.string s] 42)).alloc (.cells #[.int .i64 fx,.int .i64 fy,.int .i64 fw,.int .i64 fh] 3)).cell? ⟨wr.heap.size,3,none⟩=some (.int .i64 fx):=by simp [go_sem]
   have c4:((wr.alloc (.cells #[.int .i64 n,.int .i64 p,.int .i64 d,.int .i64 fx,.int .i64 fy,.int .i64 fw,.int .i64 fh,.string s] 42)).alloc (.cells #[.int .i64 fx,.int .i64 fy,.int .i64 fw,.int .i64 fh] 3)).cell? ⟨wr.heap.size,4,none⟩=some (.int .i64 fy):=by simp [go_sem]
   have c5:((wr.alloc (.cells #[.int .i64 n,.int .i64 p,.int .i64 d,.int .i64 fx,.int .i64 fy,.int .i64 fw,.int .i64 fh,.string s] 42)).alloc (.cells #[.int .i64 fx,.int .i64 fy,.int .i64 fw,.int .i64 fh] 3)).cell? ⟨wr.heap.size,5,none⟩=some (.int .i64 fw):=by simp [go_sem]
   have c6:((wr.alloc (.cells #[.int .i64 n,.int .i64 p,.int .i64 d,.int .i64 fx,.int .i64 fy,.int .i64 fw,.int .i64 fh,.string s] 42)).alloc (.cells #[.int .i64 fx,.int .i64 fy,.int .i64 fw,.int .i64 fh] 3)).cell? ⟨wr.heap.size,6,none⟩=some (.int .i64 fh):=by simp [go_sem]
   have hf1:=hfit (wr.alloc (.cells #[.int .i64 n,.int .i64 p,.int .i64 d,.int .i64 fx,.int .i64 fy,.int .i64 fw,.int .i64 fh,.string s] 42))
   simp only [List.length_cons,List.length_nil,Nat.zero_add,Nat.reduceAdd,List.map_cons,List.map_nil,World.size_alloc] at hf1
   clear hfit
   cases hft:fitF ⟨n,p,d,fx,fy,fw,fh,s⟩ with
   | false =>
    rw [hft] at hf1
    have HR:=Lib.hid (HF hft)
    clear HT HF hbd hGb hGs hft c3 c4 c5 c6
    go_wp2_with fail
    refine hf1.mono ?_
    rintro e w5 ⟨rfl,rfl⟩
    go_wp2_with fail
    refine bodyPost_ret (qqc rfl _ _ _) rfl ?_
    exact ⟨by rw [HR.out]; rfl,hbr.trans (hbA.mono hbs)⟩
   | true =>
    rw [hft] at hf1
    have HT':=Lib.hid (HT hft)
    obtain ⟨⟨f1,f2⟩,⟨f3,f4⟩,⟨f5,f6⟩,⟨f7,f8⟩⟩:=hbd hft
    clear HT HF hbd hft
    cases hbg:big ⟨n,p,d,fx,fy,fw,fh,s⟩ with
    | false =>
     have HG:=Lib.hid (hGs hbg)
     rw [hbg] at hbig
     have h2:fw<=0\/(¬ fw<=0/\fh<=0):=by
      have:=of_decide_eq_false hbig.symm
      omega
     clear hGb hGs hbg hbig
     generalize gr fs k=G at *
     rcases h2 with g1 | ⟨g1,g2⟩
     all_goals
      go_wp2_with fail
      refine hf1.mono ?_
      rintro e w5 ⟨rfl,rfl⟩
      go_wp2_with fail
      go_roundw
      case rel=>exact ⟨k+1,hlt,by go_num,HT'.out,by rw [HG.out],by rw [HG.out],by rw [HG.out],by rw [HG.out],by rw [HG.out],hbr.trans (hbA.mono hbs)⟩
      case measure=>simp [intOf] <;> omega
    | true =>
     have HG:=Lib.hid (hGb hbg)
     rw [hbg] at hbig
     obtain ⟨g1,g2⟩:=of_decide_eq_true hbig.symm
     clear hGb hGs hbg hbig
     have HNE:=Lib.hid (q6o (gr fs k) ⟨n,p,d,fx,fy,fw,fh,s⟩)
     have HM1:=Lib.hid (qng Fr.x (gr fs k) ⟨n,p,d,fx,fy,fw,fh,s⟩)
     have HM2:=Lib.hid (qng Fr.y (gr fs k) ⟨n,p,d,fx,fy,fw,fh,s⟩)
     have HM3:=Lib.hid (qsg rt (gr fs k) ⟨n,p,d,fx,fy,fw,fh,s⟩)
     have HM4:=Lib.hid (qsg bt (gr fs k) ⟨n,p,d,fx,fy,fw,fh,s⟩)
     rw [hrt] at HM3
     rw [hbt] at HM4
     simp only at HM1 HM2
     clear hrt hbt
     generalize gr fs k=G at *
     obtain ⟨r0,hr0⟩:∃ r0,fx+fw=r0:=⟨_,rfl⟩
     obtain ⟨b0,hb0⟩:∃ b0,fy+fh=b0:=⟨_,rfl⟩
     have hw1:IntKind.i64.wrap (fx+fw)=r0:=by rw [hr0,IntKind.wrap_i64]; omega
     have hw2:IntKind.i64.wrap (fy+fh)=b0:=by rw [hb0,IntKind.wrap_i64]; omega
     rw [hr0] at HM3
     rw [hb0] at HM4
     clear hr0 hb0
     cases G with
     | nil =>
      rw [if_pos rfl] at HM1 HM2 HM3 HM4
      have hne:nonE []=false:=rfl
      generalize mn Fr.x []=mx0 at *
      generalize mn Fr.y []=my0 at *
      generalize mx rt []=mr0 at *
      generalize mx bt []=mb0 at *
      rw [hne]
      go_wp2_with fail
      refine hf1.mono ?_
      rintro e w5 ⟨rfl,rfl⟩
      go_wp2_with fail
      generalize (wr.alloc (.cells #[.int .i64 n,.int .i64 p,.int .i64 d,.int .i64 fx,.int .i64 fy,.int .i64 fw,.int .i64 fh,.string s] 42)).alloc (.cells #[.int .i64 fx,.int .i64 fy,.int .i64 fw,.int .i64 fh] 3)=W1 at *
      clear k0 k1 k2 k3 k4 k5 k6 k7 hf1
      go_quiet (fail)
      go_wp2_with fail
      go_quiet (fail)
      go_wp2_with fail
      go_quiet (fail)
      go_wp2_with fail
      go_roundw
      case rel=>exact ⟨k+1,hlt,by go_num,HT'.out,by rw [HG.out,HM1.out],by rw [HG.out,HM2.out],by rw [HG.out,HM3.out],by rw [HG.out,HM4.out],by rw [HG.out,HNE.out],hbr.trans ((qzc hbA _).mono hbs)⟩
      case measure=>simp [intOf] <;> omega
     | cons g0 G0 =>
      rw [if_neg (by simp)] at HM1 HM2 HM3 HM4
      have hne:nonE (g0 :: G0)=true:=rfl
      generalize g0 :: G0=G at *
      generalize mn Fr.x G=mx0 at *
      generalize mn Fr.y G=my0 at *
      generalize mx rt G=mr0 at *
      generalize mx bt G=mb0 at *
      rw [hne]
      go_wp2_with fail
      refine hf1.mono ?_
      rintro e w5 ⟨rfl,rfl⟩
      go_wp2_with fail
      generalize (wr.alloc (.cells #[.int .i64 n,.int .i64 p,.int .i64 d,.int .i64 fx,.int .i64 fy,.int .i64 fw,.int .i64 fh,.string s] 42)).alloc (.cells #[.int .i64 fx,.int .i64 fy,.int .i64 fw,.int .i64 fh] 3)=W1 at *
      clear k0 k1 k2 k3 k4 k5 k6 k7 hf1
      go_quiet (fail)
      go_wp2_with fail
      go_quiet (fail)
      go_wp2_with fail
      go_roundw
      case rel=>exact ⟨k+1,hlt,by go_num,HT'.out,by rw [HG.out,HM1.out],by rw [HG.out,HM2.out],by rw [HG.out,HM3.out],by rw [HG.out,HM4.out],by rw [HG.out,HNE.out],hbr.trans ((qzc hbA _).mono hbs)⟩
      case measure=>simp [intOf] <;> omega
  ·obtain rfl:k=fs.length:=by omega
   have hall':fs.all fitF=true:=by have:=HA.out; rwa [List.take_of_length_le (Nat.le_refl _)] at this
   have HR:=Lib.hid (show fillR fs=(mn Fr.x (gr fs fs.length),mn Fr.y (gr fs fs.length),mx rt (gr fs fs.length) - mn Fr.x (gr fs fs.length),mx bt (gr fs fs.length) - mn Fr.y (gr fs fs.length)) from if_pos hall')
   clear hall'
   go_wp2_with fail
   refine bodyPost_ret (qqc rfl _ _ _) rfl ?_
   exact ⟨by rw [HR.out]; rfl,hbr⟩
end Go.Proofs.YtlnekijhbnlclaaGreatDoor
namespace Go.Proofs.YtlnekijhbnlclaaGreatDoor
open Go.ChangeShapes Go.WideShapes Go.ChangeAt Go.RowKit
theorem Tryz.cellsInt:Tryz.prog.cellsOf 3=1:=by kernel_rfl
theorem Tryz.bytesInt:Tryz.prog.bytesOf 3=8:=by kernel_rfl
end Go.Proofs.YtlnekijhbnlclaaGreatDoor
namespace Go.Proofs.YtlnekijhbnlclaaGreatDoor
def qxc (id:Nat):Code->Option Code
 | .block i c=>if i=id then some c else qxc id c
 | .seq a b=>match qxc id a with
  | some c=>some c
  | none=>qxc id b
 | .cond _ a b=>match qxc id a with
  | some c=>some c
  | none=>qxc id b
 | .loop c=>qxc id c
 | .scope c=>qxc id c
 | .rangeFunc _ _ a b=>match qxc id a with
  | some c=>some c
  | none=>qxc id b
 | _=>none
def inBlock (f:Func) (id:Nat):Code:=((f.body.bind (qxc id)).getD .skip)
end Go.Proofs.YtlnekijhbnlclaaGreatDoor
namespace Go.Proofs.YtlnekijhbnlclaaGreatDoor
section
variable {P:Program} {Q:Exit->Act->World->Prop}
theorem qbq {id k l0:Nat} {a:Act} {w:World} {l:List Oper} (x:List Nat) (hs:List Nat) (n:Nat) (S:World->Prop) (hm:P.follows .mixedOrders=true)
  (hB:(Region.noSelect l.toArray && decide (hs.length+n=l.toArray.size) && qwc .any l.toArray x hs (Array.replicate l.toArray.size false) && q2e l.toArray)=true)
  (hL:¬ LetsOut Q) (hQ:∀ c a d v w,Q (.panic c) (Act.put a d v) w->Q (.panic c) a w) (hS:S w.drew)
  (h:wpQuiet P l.toArray S (fun a'=>qjb P .any l.toArray Q S x n (que hs (Array.replicate l.toArray.size false)) a' w.drew) (pickD l hs) a):(Code.region id l.toArray true).wpIn (Fence.wide.inRound l0) k P Q a w:=by
 simp only [Bool.and_eq_true,decide_eq_true_eq] at hB
 obtain ⟨⟨⟨h1,h2⟩,h3⟩,h4⟩:=hB
 rw [<-qae hs _ h3] at h
 have:=qui h1 hQ hS hs _ a (ShutB.start _) h3 h
 rw [h2] at this
 refine wpIn_region_draw fun t=>qvd hL (fun j o c ho=>qkg h4 j o c ho) _ _ _ ?_
 simp only [Region.schedule,hm,Bool.true_or,if_true]
 exact wpAny_sound l.toArray.size t _ a _ (q3f _ _ _ _ this)
end
end Go.Proofs.YtlnekijhbnlclaaGreatDoor
namespace Go.Proofs.YtlnekijhbnlclaaGreatDoor
def lnTo (ok:Nat->Nat->Bool):Nat->List (Nat×Nat)×Nat
 | 0=>([],0)
 | i+1=>if decide ((lnTo ok i).2 < i) && !ok (lnTo ok i).2 i then ((lnTo ok i).1 ++ [((lnTo ok i).2,i)],i) else lnTo ok i
def qbf (ok:Nat->Nat->Bool) (n:Nat):List (Nat×Nat):=if n=0 then [] else (lnTo ok n).1 ++ [((lnTo ok n).2,n)]
theorem qxm {ok:Nat->Nat->Bool} {i from_:Nat} {out:List (Nat×Nat)} (h:lnTo ok i=(out,from_)) (h1:from_ < i) (h2:ok from_ i=false):lnTo ok (i+1)=(out ++ [(from_,i)],i):=by
 rw [lnTo,h]
 simp [h1,h2]
theorem q5n {ok:Nat->Nat->Bool} {i from_:Nat} {out:List (Nat×Nat)} (h:lnTo ok i=(out,from_)) (h2:i<=from_\/ok from_ i=true):lnTo ok (i+1)=(out,from_):=by
 rw [lnTo,h]
 rcases h2 with h2 | h2
 ·simp [show ¬ from_ < i by omega]
 ·simp [h2]
theorem qkk (ok:Nat->Nat->Bool):lnTo ok 1=([],0):=by simp [lnTo]
theorem q8g {ok:Nat->Nat->Bool} {n from_:Nat} {out:List (Nat×Nat)} (hn:0 < n) (h:lnTo ok n=(out,from_)):qbf ok n=out ++ [(from_,n)]:=by
 unfold qbf
 rw [if_neg (by omega),h]
theorem q4l (ok:Nat->Nat->Bool):∀ i,(lnTo ok i).1.length<=i - 1
 | 0=>by simp [lnTo]
 | i+1=>by
  have:=q4l ok i
  rw [lnTo]
  split
  ·rename_i h
   simp at h
   simp
   have:0 < i:=by omega
   omega
  ·omega
end Go.Proofs.YtlnekijhbnlclaaGreatDoor
namespace Go.Proofs.YtlnekijhbnlclaaGreatDoor
abbrev Pc:=Nat×List UInt8
def isB (c:UInt8):Bool:=c == 32 || c == 10
def lastK (L:List Pc) (k:Nat):Bool:=match L.getLast? with
 | some p=>p.1 == k
 | none=>false
def qde (L:List Pc) (c:UInt8):List Pc:=match L.getLast? with
 | some p=>L.dropLast ++ [(p.1,p.2 ++ [c])]
 | none=>L
def stepN (L:List Pc) (c:UInt8):List Pc :=
 if isB c then (if lastK L 1 then L else L ++ [(1,[32])]) else if lastK L 0 then qde L c else L ++ [(0,[c])]
def stepK (L:List Pc) (c:UInt8):List Pc :=
 if c == 10 then L ++ [(2,[])] else if lastK L 0 then qde L c else L ++ [(0,[c])]
def nrm:Bool->List UInt8->List UInt8
 | _,[]=>[]
 | b,c :: l=>if isB c then (if b then nrm true l else 32 :: nrm true l) else c :: nrm false l
def lastB (b:Bool) (l:List UInt8):Bool:=match l.getLast? with
 | some c=>isB c
 | none=>b
def cutN (l:List UInt8):List Pc:=l.foldl stepN []
def cutK (l:List UInt8):List Pc:=l.foldl stepK []
def cutS (l:List UInt8):List Pc:=if l=[] then [] else [(0,nrm false l)]
def cutR (ws:Int) (l:List UInt8):List Pc:=if ws=0 then cutN l else if ws=1 then cutS l else if ws=2 then cutK l else []
theorem qbc (L:List Pc) (p:Pc) (k:Nat):lastK (L ++ [p]) k=(p.1 == k):=by simp [lastK]
theorem q9e (L:List Pc) (p:Pc) (c:UInt8):qde (L ++ [p]) c=L ++ [(p.1,p.2 ++ [c])]:=by simp [qde]
theorem q4g:∀ (l:List UInt8) (b:Bool) (c:UInt8),nrm b (l ++ [c])=nrm b l ++ (if isB c then (if lastB b l then [] else [32]) else [c])
 | [],b,c=>by
  by_cases h:isB c=true <;> cases b <;> simp [nrm,lastB,h]
 | d :: l,b,c=>by
  have e:∀ b',lastB b' (d :: l)=lastB (isB d) l:=fun b'=>by
   cases l with
   | nil=>simp [lastB]
   | cons x l=>simp [lastB,List.getLast?_cons]
  rw [List.cons_append,nrm,nrm,q4g l true,q4g l false,e]
  by_cases h:isB d=true
  ·rw [if_pos h,if_pos h,h]
   cases b <;> simp
  ·have h':isB d=false:=by simpa using h
   rw [if_neg h,if_neg h,h']
   simp
theorem q3i {α:Type} (f:α->UInt8->α) (a:α) (l:List UInt8) (c:UInt8):(l ++ [c]).foldl f a=f (l.foldl f a) c:=by simp
theorem qdj (l:List UInt8) (c:UInt8):cutN (l ++ [c])=stepN (cutN l) c:=q3i _ _ _ _
theorem qln (l:List UInt8) (c:UInt8):cutK (l ++ [c])=stepK (cutK l) c:=q3i _ _ _ _
theorem qgn {l:List UInt8} {k:Nat} (h:k < l.length):cutN (l.take (k+1))=stepN (cutN (l.take k)) l[k]:=by rw [List.take_succ_eq_append_getElem h,qdj]
theorem q2p {l:List UInt8} {k:Nat} (h0:0 < k) (h:k<=l.length) (b:Bool):lastB b (l.take k)=isB (l[k - 1]'(by omega)):=by
 obtain ⟨j,rfl⟩:∃ j,k=j+1:=⟨k - 1,by omega⟩
 rw [List.take_succ_eq_append_getElem (by omega)]
 unfold lastB
 rw [List.getLast?_append]
 simp
theorem qcm {l:List UInt8} {k:Nat} (h:k < l.length):nrm false (l.take (k+1))=nrm false (l.take k) ++ (if isB l[k] then (if lastB false (l.take k) then [] else [32]) else [l[k]]):=by
 rw [List.take_succ_eq_append_getElem h,q4g]
theorem q5h {L:List Pc} {c:UInt8} (h:isB c=true) (h1:lastK L 1=false):stepN L c=L ++ [(1,[32])]:=by simp [stepN,h,h1]
theorem q5j {L:List Pc} {c:UInt8} (h:isB c=true) (h1:lastK L 1=true):stepN L c=L:=by simp [stepN,h,h1]
theorem qjk {L:List Pc} {c:UInt8} (h:isB c=false) (h1:lastK L 0=true):stepN L c=qde L c:=by simp [stepN,h,h1]
theorem qii {L:List Pc} {c:UInt8} (h:isB c=false) (h1:lastK L 0=false):stepN L c=L ++ [(0,[c])]:=by simp [stepN,h,h1]
theorem qie {L:List Pc} {c:UInt8} (h:(c == 10)=true):stepK L c=L ++ [(2,[])]:=by simp [stepK,h]
theorem qmf {L:List Pc} {c:UInt8} (h:(c == 10)=false) (h1:lastK L 0=true):stepK L c=qde L c:=by
 unfold stepK
 rw [if_neg (by simp [h]),if_pos h1]
theorem qte {L:List Pc} {c:UInt8} (h:(c == 10)=false) (h1:lastK L 0=false):stepK L c=L ++ [(0,[c])]:=by
 unfold stepK
 rw [if_neg (by simp [h]),if_neg (by simp [h1])]
def okB (l:List UInt8) (f k:Nat):Bool:=isB (l.getD f 0) == isB (l.getD k 0)
def sub (l:List UInt8) (x:Nat×Nat):List UInt8:=(l.drop x.1).take (x.2 - x.1)
def pcN (l:List UInt8) (x:Nat×Nat):Pc:=if isB (l.getD x.1 0) then (1,[32]) else (0,sub l x)
def txS (l:List UInt8) (x:Nat×Nat):List UInt8:=if isB (l.getD x.1 0) then [32] else sub l x
def rowsR (l:List UInt8):List (Nat×Nat):=qbf (okB l) l.length
theorem qqm {l:List UInt8} {f k:Nat} (hf:f<=k) (h:k < l.length):sub l (f,k+1)=sub l (f,k) ++ [l[k]]:=by
 unfold sub
 simp only
 rw [show k+1 - f=(k - f)+1 by omega,List.take_succ_eq_append_getElem (by simp; omega)]
 simp [show f+(k - f)=k by omega]
theorem qbi {l:List UInt8} {k:Nat} (h:k < l.length):sub l (k,k+1)=[l[k]]:=by
 rw [qqm (Nat.le_refl _) h]
 simp [sub]
theorem quh (l:List UInt8):∀ (k:Nat) (pre:List (Nat×Nat)) (f:Nat),0 < k->k<=l.length->lnTo (okB l) k=(pre,f) ->
  cutN (l.take k)=pre.map (pcN l) ++ [pcN l (f,k)]/\nrm false (l.take k)=pre.flatMap (txS l) ++ txS l (f,k)/\f < k/\isB (l.getD f 0)=isB (l.getD (k - 1) 0)
 | 0,_,_,h,_,_=>absurd h (by omega)
 | k+1,pre,f,_,hk,h=>by
  have hlt:k < l.length:=by omega
  have hg:l.getD k 0=l[k]:=by simp [List.getD,hlt]
  rcases Nat.eq_zero_or_pos k with rfl | h0
  ·rw [qkk] at h
   obtain ⟨rfl,rfl⟩:=Prod.mk.inj h
   rw [qgn hlt,qcm hlt]
   unfold pcN txS
   simp only [hg,qbi hlt]
   cases hb:isB l[0] with
   | true=>exact ⟨by rw [q5h hb rfl]; rfl,by simp [lastB,nrm],by omega,by simp⟩
   | false=>exact ⟨by rw [qii hb rfl]; rfl,by simp [nrm],by omega,by simp⟩
  ·obtain ⟨pre',f',hp⟩:∃ pre' f',lnTo (okB l) k=(pre',f'):=⟨_,_,rfl⟩
   obtain ⟨i1,i2,i3,i4⟩:=quh l k pre' f' h0 (by omega) hp
   have hlb:lastB false (l.take k)=isB (l.getD f' 0):=by
    rw [q2p h0 (by omega),i4]
    simp [List.getD,show k - 1 < l.length by omega]
   rw [qgn hlt,qcm hlt,hlb,i1,i2]
   cases hok:okB l f' k with
   | true =>
    rw [q5n hp (.inr hok)] at h
    obtain ⟨rfl,rfl⟩:=Prod.mk.inj h
    have hsame:isB (l.getD f' 0)=isB l[k]:=by rw [<-hg]; simpa [okB] using hok
    unfold pcN txS
    simp only [qqm (show f'<=k by omega) hlt,hsame]
    cases hb:isB l[k] with
    | true=>exact ⟨by rw [if_pos rfl,if_pos rfl,q5j hb (by rw [qbc]; rfl)],by simp,by omega,by rw [Nat.add_sub_cancel,hg]; exact hb.symm⟩
    | false =>
     refine ⟨by rw [if_neg (by decide),if_neg (by decide),qjk hb (by rw [qbc]; rfl),q9e],by simp,by omega,?_⟩
     rw [Nat.add_sub_cancel,hg]
     exact hb.symm
   | false =>
    rw [qxm hp i3 hok] at h
    obtain ⟨rfl,rfl⟩:=Prod.mk.inj h
    have hdiff:isB (l.getD f' 0)=!isB l[k]:=by
     have:(isB (l.getD f' 0) == isB (l.getD k 0))=false:=hok
     rw [hg] at this
     cases h1:isB (l.getD f' 0) <;> cases h2:isB l[k] <;> simp_all
    have hp2:pcN l (k,k+1)=if isB l[k] then (1,[32]) else (0,[l[k]]):=by unfold pcN; simp only [hg,qbi hlt]
    have ht2:txS l (k,k+1)=if isB l[k] then [32] else [l[k]]:=by unfold txS; simp only [hg,qbi hlt]
    have hp1:(pcN l (f',k)).1=if isB l[k] then 0 else 1:=by
     unfold pcN
     simp only [hdiff]
     cases isB l[k] <;> rfl
    rw [hp2,ht2,hdiff]
    cases hb:isB l[k] with
    | true=>exact ⟨by rw [q5h hb (by rw [qbc,hp1,hb]; rfl)]; simp,by simp,by omega,by simp⟩
    | false=>exact ⟨by rw [qii hb (by rw [qbc,hp1,hb]; rfl)]; simp,by simp,by omega,by simp⟩
theorem qor (l:List UInt8):cutN l=(rowsR l).map (pcN l):=by
 rcases Nat.eq_zero_or_pos l.length with h | h
 ·have:l=[]:=List.eq_nil_of_length_eq_zero h
  subst this
  rfl
 ·obtain ⟨pre,f,hp⟩:∃ pre f,lnTo (okB l) l.length=(pre,f):=⟨_,_,rfl⟩
  have:=(quh l l.length pre f h (Nat.le_refl _) hp).1
  rw [List.take_of_length_le (Nat.le_refl _)] at this
  unfold rowsR
  rw [q8g h hp,this]
  simp
theorem q3t (l:List UInt8):nrm false l=(rowsR l).flatMap (txS l):=by
 rcases Nat.eq_zero_or_pos l.length with h | h
 ·have:l=[]:=List.eq_nil_of_length_eq_zero h
  subst this
  rfl
 ·obtain ⟨pre,f,hp⟩:∃ pre f,lnTo (okB l) l.length=(pre,f):=⟨_,_,rfl⟩
  have:=(quh l l.length pre f h (Nat.le_refl _) hp).2.1
  rw [List.take_of_length_le (Nat.le_refl _)] at this
  unfold rowsR
  rw [q8g h hp,this]
  simp
def q0b (first:Bool) (line:List UInt8):List Pc:=(if first then [] else [(2,[])]) ++ (if line=[] then [] else [(0,line)])
def qhb:List (List UInt8)->List Pc
 | []=>[]
 | a :: ls=>q0b true a ++ ls.flatMap (q0b false)
theorem q2n (ls:List (List UInt8)) (a:List UInt8):qhb (ls ++ [a])=qhb ls ++ q0b (decide (ls.length=0)) a:=by
 cases ls with
 | nil=>simp [qhb]
 | cons b ls=>simp [qhb]
theorem qoq {L M:List Pc} (h:lastK L 0=false) (c:UInt8):stepK (L ++ M) c=L ++ stepK M c:=by
 rcases List.eq_nil_or_concat M with rfl | ⟨M,p,rfl⟩
 ·rw [List.append_nil]
  by_cases hc:(c == 10)=true
  ·rw [qie hc,qie hc]; rfl
  ·rw [qte (by simpa using hc) h,qte (by simpa using hc) rfl]; rfl
 ·rw [List.concat_eq_append,<-List.append_assoc]
  by_cases hc:(c == 10)=true
  ·rw [qie hc,qie hc]; simp
  ·have hc':(c == 10)=false:=by simpa using hc
   cases hl:(p.1 == 0) with
   | true=>rw [qmf hc' (by rw [qbc]; exact hl),qmf hc' (by rw [qbc]; exact hl),q9e,q9e]; simp
   | false=>rw [qte hc' (by rw [qbc]; exact hl),qte hc' (by rw [qbc]; exact hl)]; simp
theorem qwj {L:List Pc} (h:lastK L 0=false):∀ (l:List UInt8) (M:List Pc),l.foldl stepK (L ++ M)=L ++ l.foldl stepK M
 | [],_=>rfl
 | c :: l,M=>by
  rw [List.foldl_cons,List.foldl_cons,qoq h,qwj h l]
theorem q9h:∀ (l:List UInt8),10 ∉ l->cutK l=if l=[] then [] else [(0,l)]:=by
 intro l
 rcases List.eq_nil_or_concat l with rfl | ⟨l,c,rfl⟩
 ·intro _; rfl
 ·rw [List.concat_eq_append]
  intro h
  have h1:10 ∉ l:=fun e=>h (by simp [e])
  have h2:(c == 10)=false:=by
   have:c≠10:=fun e=>h (by simp [e])
   simpa using this
  have ih:=q9h l h1
  rw [qln,ih,if_neg (show ¬ l ++ [c]=[] by simp)]
  by_cases e:l=[]
  ·rw [if_pos e,qte h2 rfl,e]; rfl
  ·rw [if_neg e,qmf h2 rfl]; rfl
termination_by l=>l.length
theorem q6r (a r:List UInt8) (h:10 ∉ a):cutK (a ++ 10 :: r)=q0b true a ++ (2,[]) :: cutK r:=by
 unfold cutK
 rw [List.foldl_append,List.foldl_cons]
 have h1:a.foldl stepK []=q0b true a:=by
  have:=q9h a h
  unfold cutK at this
  rw [this]
  rfl
 rw [h1,qie rfl,<-List.append_nil (_ ++ [(2,[])]),qwj (by rw [qbc]; rfl)]
 simp
end Go.Proofs.YtlnekijhbnlclaaGreatDoor
namespace Go.Proofs.YtlnekijhbnlclaaGreatDoor
def must (e:Int):Option Unit:=if e=0 then some () else none
structure Fm where
 ak:Ak
 top:Int
 bottom:Int
 up:Int
def Fm.outer (f:Fm):Int:=w64 (w64 (f.ak.left+f.ak.edges)+f.ak.right)
def Fm.high (f:Fm):Int:=w64 (w64 (f.top+f.up)+f.bottom)
def Fm.room (f:Fm) (w:Int):Int:=max 0 (w64 (w - f.outer))
section
variable (ns:List Nd)
def stAt (i:Nat):St:=(ndAt ns i).st
def q3a (at_:Nat) (w:Int):Option Fm:=do
 let s:=stAt ns at_
 must (ofR s w).2
 must (qsa s.mT w).2.2
 must (qsa s.mB w).2.2
 must (qha s).2.2
 some ⟨(ofR s w).1,(qsa s.mT w).1,(qsa s.mB w).1,(qha s).2.1⟩
def qkc (at_:Nat) (n:Int):Option Int:=do
 must (qfb (stAt ns at_)).2.2
 some (q7b n (qfb (stAt ns at_)).1 (qfb (stAt ns at_)).2.1)
def qgc (at_:Nat) (by_:Int):Option (Option Int) :=
 if by_≠-1 then some (some by_) else do
  must (qtb (stAt ns at_)).2.2
  if (qtb (stAt ns at_)).2.1=true then (qkc ns at_ (qtb (stAt ns at_)).1).map some else some none
def qnb (at_:Nat) (comes by_:Int):Option Int:=do
 match <-qgc ns at_ by_ with
 | some n=>some n
 | none=>qkc ns at_ comes
def qfa (i:Nat):Bool:=decide ((ndAt ns i).kind=1) || decide ((ndAt ns i).st.display=1)
def q6a:Nat->List Nat->List (List Nat×Bool)
 | 0,_=>[]
 | _+1,[]=>[]
 | f+1,k :: l=>if qfa ns k=true then (k :: l.takeWhile (qfa ns),true) :: q6a f (l.dropWhile (qfa ns)) else ([k],false) :: q6a f l
def q2b (at_:Nat):List (List Nat×Bool):=q6a ns ((kidsN ns at_).length) (kidsN ns at_)
structure Pie where
 kind:Nat
 width:Int
 spot:Sp
 at_:Nat
 top:Int
 left:Int
 text:ByteArray
 box:Option BT
def cutL (at_ ws:Nat) (font:Int):Option (List Pie):=do
 must (qka 60 font).2
 must (qka 20 font).2
 (Go.Proofs.YtlnekijhbnlclaaGreatDoor.cutR ws (ndAt ns at_).text.data.toList).mapM fun x=>do
  let t:ByteArray:=⟨x.2.toArray⟩
  must (q1b t font).2
  some ⟨x.1,(q1b t font).1,⟨(q1b t font).1,(qka 60 font).1,(qka 20 font).1,0⟩,at_,0,0,t,none⟩
def bareL (l:Ln):Ln:=if l.1=2 then (0,0) else l
def bareS (s:St):St:={ s with width:=bareL s.width,minW:=bareL s.minW,maxW:=bareL s.maxW,mL:=bareL s.mL,mR:=bareL s.mR }
def ownL (content:Nat->Int->Bool->Option Int) (at_:Nat) (font:Int) (narrow:Bool):Option Int:=do
 let s:=bareS (stAt ns at_)
 must (ofR s 0).2
 let a:=(ofR s 0).1
 let n <-if a.is=true then some a.width else content at_ (fontR s font) narrow
 some (w64 (w64 (w64 (a.left+a.edges)+a.right)+q7b n a.least a.most))
def q5e:Nat->Nat->Int->Bool->Option Int
 | 0,_,_,_=>none
 | f+1,at_,font,narrow =>
  let s:=stAt ns at_
  if s.display=2 then do
   let x <-(kidsN ns at_).foldlM (fun (x:Int×Int) k=>do
    let w <-ownL ns (q5e f) k font narrow
    some (max x.1 w,w64 (x.2+w))) (0,w64 (s.gap * max 0 (((kidsN ns at_).length:Int) - 1)))
   some (if ((decide (s.dir=0) || decide (s.dir=1)) && (!narrow || !s.wrap))=true then max 0 x.2 else x.1)
  else
   (q2b ns at_).foldlM (fun n g =>
    if g.2=true then do
     let items <-g.1.mapM fun k=>if (ndAt ns k).kind=0 then (ownL ns (q5e f) k font narrow).map fun w=>[((3:Nat),w)] else (cutL ns k s.ws font).map fun l=>l.map fun x=>(x.kind,x.width)
     let r:=fillL items.flatten (if narrow=true then 0 else 1099511627776)
     must r.2
     some (max n (qmq r.1))
    else do
     let w <-ownL ns (q5e f) (g.1.headD 0) font narrow
     some (max n w)) 0
def qdo (at_:Nat) (font w:Int) (f:Fm):Option Int:=do
 let n <-if f.ak.is=true then some f.ak.width else do
  let own:=fontR (stAt ns at_) font
  let a <-q5e ns (ns.length+1) at_ own true
  let b <-q5e ns (ns.length+1) at_ own false
  some (fitR a b (f.room w))
 some (q7b n f.ak.least f.ak.most)
structure Tl where
 top:Mg
 bottom:Mg
 through:Bool
def tl0:Tl:=⟨(0,0),(0,0),false⟩
abbrev Lay:=Nat->Int->Int->Int->Bool->Option (BT×Tl)
def qke (lay:Lay) (at_:Nat) (font w:Int):Option Pie:=do
 let f <-q3a ns at_ w
 let n <-qdo ns at_ font w f
 let b <-lay at_ font n (-1) true
 some ⟨3,w64 (f.outer+n),⟨w64 (f.outer+n),w64 (f.high+b.1.h),0,(stAt ns at_).valign⟩,at_,f.top,f.ak.left,ByteArray.empty,some b.1⟩
abbrev Bx:=List (Nat×BT)
def getX (m:Bx) (k:Nat):Option BT:=(m.find? fun x=>x.1 == k).map (·.2)
def putX (m:Bx) (k:Nat) (b:BT):Bx:=(k,b) :: m
def qsc (t:List Fg) (w:Int) (s:ByteArray):List Fg:=match t.getLast? with
 | none=>t
 | some f=>t.dropLast ++ [{ f with w:=w64 (f.w+w),text:=f.text ++ s }]
def q9b (y tall:Int) (m:Bx×Int) (x:Pie×Int×Int):Bx×Int:=match x.1.box with
 | some b=>(putX m.1 x.1.at_ (b.put (w64 (x.2.1+x.1.left)) (w64 (w64 (y+x.2.2)+x.1.top))),m.2)
 | none =>
  let b:=(getX m.1 x.1.at_).getD (.mk x.1.at_ 0 0 0 0 [] [])
  let t:=if m.2=x.1.at_ then b.text else b.text ++ [⟨(ndAt ns x.1.at_).key,(b.text.length:Int)+1,(ndAt ns x.1.at_).depth,x.2.1,w64 (y+x.2.2),0,tall,ByteArray.empty⟩]
  (putX m.1 x.1.at_ (b.told (qsc t x.1.width x.1.text)),x.1.at_)
def rowU (up down w:Int) (lines:Nat) (pieces:List Pie) (m:Bx×Int) (row:Nat×Nat×Int):Option (Bx×Int):=do
 let l:=(pieces.drop row.1).take (row.2.1 - row.1)
 let p:=q3b (l.map Pie.spot) up down w lines
 must p.2.2.2
 some (((l.zip p.1).foldl (q9b ns m.2 (w64 (up+down))) (m.1,-1)).1,w64 (m.2+p.2.1))
def runL (lay:Lay) (l:List Nat) (at_:Nat) (font w:Int):Option (List BT×Int×Bool):=do
 let s:=stAt ns at_
 let more <-l.mapM fun k=>if (ndAt ns k).kind=0 then (qke ns lay k font w).map fun x=>[x] else cutL ns k s.ws font
 let pieces:=more.flatten
 let r:=fillL (pieces.map fun x=>(x.kind,x.width)) w
 must r.2
 must (qka 60 font).2
 must (qka 20 font).2
 let x <-r.1.foldlM (rowU ns (qka 60 font).1 (qka 20 font).1 w s.lines pieces) ([],0)
 some (l.filterMap (getX x.1),x.2,!r.1.isEmpty)
def openL (at_:Nat) (apart:Bool):Bool×Bool :=
 let s:=stAt ns at_
 (decide (w64 (s.pT+s.bT)=0) && !apart,decide (w64 (s.pB+s.bB)=0) && !apart && !(qtb s).2.1 && decide ((qfb s).1=0) && decide ((qfb s).2.1=1099511627776))
def q1a (lay:Lay) (at_:Nat) (font w:Int) (m:List (Kd×List BT)) (g:List Nat×Bool):Option (List (Kd×List BT)) :=
 if g.2=true then do
  let r <-runL ns lay g.1 at_ font w
  some (if r.2.2=true then m ++ [(⟨(0,0),(0,0),r.2.1,false⟩,r.1)] else m)
 else do
  let k:=g.1.headD 0
  let f <-q3a ns k w
  must (qia w f.ak).2.2.2
  let b <-lay k font (qia w f.ak).2.1 (-1) false
  some (m ++ [(⟨withM (oneM f.top) b.2.top,withM (oneM f.bottom) b.2.bottom,w64 (f.up+b.1.h),b.2.through⟩,[b.1.put (qia w f.ak).1 b.1.y])])
def downB (by_:Int) (b:BT):BT:=.mk b.at_ b.w b.h b.x (w64 (b.y+by_)) b.kids (b.text.map fun f=>{ f with y:=w64 (f.y+by_) })
def flowL (lay:Lay) (at_:Nat) (font w by_:Int) (apart:Bool):Option (BT×Tl):=do
 let m <-(q2b ns at_).foldlM (q1a ns lay at_ font w) []
 let o:=openL ns at_ apart
 let x:=q0a (m.map (·.1)) o.1 o.2
 must x.2
 let kids:=(m.zip x.1.at_).flatMap fun g=>g.1.2.map (downB g.2)
 let h <-qnb ns at_ x.1.height by_
 some (.mk at_ w h 0 0 kids [],⟨x.1.top,x.1.bottom,x.1.through⟩)
def allL:Nat->BT->Int->Int->List Fg
 | 0,_,_,_=>[]
 | f+1,b,x,y =>
  let n:=ndAt ns b.at_
  if n.kind=1 then b.text.map fun t=>{ t with x:=w64 (t.x+x),y:=w64 (t.y+y) }
  else
   let e:=qha n.st
   let x:=w64 (w64 (x+b.x)+n.st.offX)
   let y:=w64 (w64 (y+b.y)+n.st.offY)
   ⟨n.key,0,n.depth,x,y,w64 (e.1+b.w),w64 (e.2.1+b.h),ByteArray.empty⟩ :: b.kids.flatMap fun k=>allL f k (w64 (x+w64 (n.st.pL+n.st.bL))) (w64 (y+w64 (n.st.pT+n.st.bT)))
def layOf (flex:Lay->Lay):Nat->Lay
 | 0=>fun _ _ _ _ _=>none
 | f+1=>fun at_ font w by_ apart =>
  let font:=fontR (stAt ns at_) font
  if (stAt ns at_).display=2 then flex (layOf flex f) at_ font w by_ apart else flowL ns (layOf flex f) at_ font w by_ apart
def qrb (flex:Lay->Lay) (w:Int):Option (List Fg):=do
 let f <-q3a ns 0 w
 must (qia w f.ak).2.2.2
 let b <-layOf ns flex (ns.length+1) 0 16 (qia w f.ak).2.1 (-1) true
 let l:=allL ns (ns.length+1) (b.1.put (qia w f.ak).1 f.top) 0 0
 if l.all (fun x=>fit x.x && fit x.y && fit x.w && fit x.h)=true then some l else none
def qob (flex:List Nd->Lay->Lay) (next w:Int):List Fg×Int :=
 if qgb ns next=false then ([],50)
 else if w < 0\/2147483648 < w then ([],2)
 else match qrb ns (flex ns) w with
 | some l=>(l,0)
 | none=>([],10)
end
def twoN:List Nd:=[⟨1,0,0,st0,ByteArray.empty⟩,⟨2,1,1,st0,⟨#[97,98,32,97,98]⟩⟩]
end Go.Proofs.YtlnekijhbnlclaaGreatDoor
namespace Go.Proofs.YtlnekijhbnlclaaGreatDoor
section
variable (ns:List Nd) (l:List Nat)
def grpTo (a:Nat):Nat:=if qfa ns (l.getD a 0)=true then a+1+((l.drop (a+1)).takeWhile (qfa ns)).length else a+1
def grpGo:Nat->Nat->List (Nat×Nat×Bool)
 | 0,_=>[]
 | f+1,a=>if a < l.length then (a,grpTo ns l a,qfa ns (l.getD a 0)) :: grpGo f (grpTo ns l a) else []
def grpL:List (Nat×Nat×Bool):=grpGo ns l l.length 0
def grpOf (x:Nat×Nat×Bool):List Nat×Bool:=((l.drop x.1).take (x.2.1 - x.1),x.2.2)
end
variable {ns:List Nd} {l:List Nat}
theorem q2j {α:Type} (p:α->Bool):∀ l:List α,l.take (l.takeWhile p).length=l.takeWhile p
 | []=>rfl
 | x :: l=>by
  rw [List.takeWhile_cons]
  split
  ·rw [List.length_cons,List.take_succ_cons,q2j p l]
  ·rfl
theorem qmn {α:Type} (p:α->Bool):∀ l:List α,l.drop (l.takeWhile p).length=l.dropWhile p
 | []=>rfl
 | x :: l=>by
  rw [List.takeWhile_cons,List.dropWhile_cons]
  split
  ·rw [List.length_cons,List.drop_succ_cons,qmn p l]
  ·rfl
theorem qrk {α:Type} (p:α->Bool):∀ l:List α,(l.takeWhile p).length<=l.length
 | []=>Nat.le_refl _
 | x :: l=>by
  rw [List.takeWhile_cons]
  split
  ·simpa using qrk p l
  ·simp
theorem qap (a:Nat):a < grpTo ns l a:=by unfold grpTo; split <;> omega
theorem qwu {a:Nat} (h:a < l.length):grpTo ns l a<=l.length:=by
 unfold grpTo
 split
 ·have:=qrk (qfa ns) (l.drop (a+1))
  rw [List.length_drop] at this
  omega
 ·omega
theorem qul (f k:Nat) (r:List Nat):q6a ns (f+1) (k :: r)=if qfa ns k=true then (k :: r.takeWhile (qfa ns),true) :: q6a ns f (r.dropWhile (qfa ns)) else ([k],false) :: q6a ns f r:=rfl
theorem qnk:∀ (f a:Nat),(grpGo ns l f a).map (grpOf l)=q6a ns f (l.drop a)
 | 0,a=>rfl
 | f+1,a=>by
  unfold grpGo
  rcases Nat.lt_or_ge a l.length with h | h
  ·rw [if_pos h,List.map_cons,qnk f,List.drop_eq_getElem_cons h]
   have hg:l.getD a 0=l[a]:=by rw [List.getD_eq_getElem?_getD,List.getElem?_eq_getElem h]; rfl
   rw [qul]
   unfold grpOf grpTo
   dsimp only
   rw [hg,List.drop_eq_getElem_cons h]
   cases hi:qfa ns l[a] with
   | true =>
    rw [if_pos rfl,if_pos rfl,show a+1+((l.drop (a+1)).takeWhile (qfa ns)).length - a=((l.drop (a+1)).takeWhile (qfa ns)).length+1 by omega,List.take_succ_cons,q2j]
    have hd:l.drop (a+1+((l.drop (a+1)).takeWhile (qfa ns)).length)=(l.drop (a+1)).dropWhile (qfa ns):=by
     rw [<-qmn,List.drop_drop]
    rw [hd]
   | false =>
    rw [if_neg (by decide),if_neg (by decide),show a+1 - a=1 by omega]
    rfl
  ·rw [if_neg (by omega),List.drop_eq_nil_of_le h]
   rfl
theorem grpL_same:(grpL ns l).map (grpOf l)=q6a ns l.length l:=by
 have:=qnk (ns:=ns) (l:=l) l.length 0
 simpa [grpL] using this
theorem q2k:∀ (f a:Nat) (x:Nat×Nat×Bool),x ∈ grpGo ns l f a->x.1 < x.2.1/\x.2.1<=l.length/\x.2.2=qfa ns (l.getD x.1 0)
 | 0,_,_,h=>by cases h
 | f+1,a,x,h=>by
  unfold grpGo at h
  split at h
  ·rename_i hl
   rcases List.mem_cons.1 h with rfl | h
   ·exact ⟨qap a,qwu hl,rfl⟩
   ·exact q2k f _ x h
  ·cases h
theorem qwv {x:Nat×Nat×Bool} (h:x ∈ grpL ns l):x.1 < x.2.1/\x.2.1<=l.length/\x.2.2=qfa ns (l.getD x.1 0):=q2k _ _ x h
theorem qbn {α:Type} (p:α->Bool):∀ (l:List α),∀ x ∈ l.takeWhile p,p x=true
 | x :: l,y,h=>by
  rw [List.takeWhile_cons] at h
  split at h
  ·rename_i hp
   rcases List.mem_cons.1 h with rfl | h
   ·exact hp
   ·exact qbn p l y h
  ·cases h
theorem qkf:∀ (f:Nat) (l:List Nat) (g:List Nat×Bool),g ∈ q6a ns f l->(∀ k ∈ g.1,k ∈ l)/\(g.2=true->∀ k ∈ g.1,qfa ns k=true)/\(g.2=false->∃ k,g.1=[k]/\qfa ns k=false)
 | 0,_,_,h=>by cases h
 | f+1,[],_,h=>by cases h
 | f+1,k :: l,g,h=>by
  rw [qul] at h
  split at h
  ·rename_i hk
   rcases List.mem_cons.1 h with rfl | h
   ·refine ⟨fun j hj=>?_,fun _ j hj=>?_,fun h=>by cases h⟩
    ·rcases List.mem_cons.1 hj with rfl | hj
     ·exact List.mem_cons_self
     ·exact List.mem_cons_of_mem _ ((List.takeWhile_sublist _).subset hj)
    ·rcases List.mem_cons.1 hj with rfl | hj
     ·exact hk
     ·exact qbn _ _ _ hj
   ·obtain ⟨h1,h2,h3⟩:=qkf f _ g h
    exact ⟨fun j hj=>List.mem_cons_of_mem _ ((List.dropWhile_sublist _).subset (h1 j hj)),h2,h3⟩
  ·rename_i hk
   rcases List.mem_cons.1 h with rfl | h
   ·exact ⟨fun j hj=>by rw [List.mem_singleton.1 hj]; exact List.mem_cons_self,fun h=>(by cases h),fun _=>⟨k,rfl,by simpa using hk⟩⟩
   ·obtain ⟨h1,h2,h3⟩:=qkf f _ g h
    exact ⟨fun j hj=>List.mem_cons_of_mem _ (h1 j hj),h2,h3⟩
theorem qnn {a t:Nat} (h1:a+1<=t) (h2:t<=l.length) (hi:qfa ns (l.getD a 0)=true) (hp:∀ j,a+1<=j->j < t->qfa ns (l.getD j 0)=true) (hn:t < l.length->qfa ns (l.getD t 0)=false):grpTo ns l a=t:=by
 unfold grpTo
 rw [if_pos hi]
 have key:∀ (n b:Nat),b+n=t->(∀ j,b<=j->j < t->qfa ns (l.getD j 0)=true)->((l.drop b).takeWhile (qfa ns)).length=n:=by
  intro n
  induction n with
  | zero =>
   intro b hb _
   rw [Nat.add_zero] at hb
   subst hb
   rcases Nat.lt_or_ge b l.length with h | h
   ·have hg:l.getD b 0=l[b]:=by rw [List.getD_eq_getElem?_getD,List.getElem?_eq_getElem h]; rfl
    have:=hn h
    rw [hg] at this
    rw [List.drop_eq_getElem_cons h,List.takeWhile_cons,this]
    rfl
   ·rw [List.drop_eq_nil_of_le h]; rfl
  | succ n ih =>
   intro b hb hq
   have h:b < l.length:=by omega
   have hg:l.getD b 0=l[b]:=by rw [List.getD_eq_getElem?_getD,List.getElem?_eq_getElem h]; rfl
   have:=hq b (Nat.le_refl _) (by omega)
   rw [hg] at this
   rw [List.drop_eq_getElem_cons h,List.takeWhile_cons,this,if_pos rfl,List.length_cons,ih (b+1) (by omega) fun j h1 h2=>hq j (by omega) h2]
 rw [key (t - (a+1)) (a+1) (by omega) hp]
 omega
end Go.Proofs.YtlnekijhbnlclaaGreatDoor
namespace Go.Proofs.YtlnekijhbnlclaaGreatDoor
section
variable {α β:Type}
theorem q1e (f:α->Option β) (x:α) (l:List α):(x :: l).mapM f=(f x).bind fun b=>(l.mapM f).bind fun a=>some (b :: a):=by
 rw [List.mapM_cons]; rfl
theorem q0i (f:α->Option β):∀ (l m:List α),(l ++ m).mapM f=(l.mapM f).bind fun a=>(m.mapM f).bind fun b=>some (a ++ b)
 | [],m=>by
  rw [List.nil_append,List.mapM_nil]
  cases m.mapM f <;> rfl
 | x :: l,m=>by
  rw [List.cons_append,q1e,q1e,q0i f l m]
  cases f x with
  | none=>rfl
  | some b =>
   cases l.mapM f with
   | none=>rfl
   | some a=>cases m.mapM f <;> rfl
theorem qus (f:α->Option β) (l:List α) (x:α):(l ++ [x]).mapM f=(l.mapM f).bind fun a=>(f x).bind fun b=>some (a ++ [b]):=by
 rw [q0i,q1e,List.mapM_nil]
 cases l.mapM f <;> first | rfl | (cases f x <;> rfl)
theorem quq (f:α->Option β) {l m:List α} (h:l.mapM f=none):(l ++ m).mapM f=none:=by rw [q0i,h]; rfl
theorem qeh (f:α->Option β) {l:List α} {k:Nat} (h:(l.take k).mapM f=none):l.mapM f=none:=by
 rw [<-List.take_append_drop k l]; exact quq f h
theorem qml (f:α->Option β) {l:List α} {k:Nat} (hk:k < l.length):(l.take (k+1)).mapM f=((l.take k).mapM f).bind fun a=>(f l[k]).bind fun b=>some (a ++ [b]):=by
 rw [List.take_succ_eq_append_getElem hk,qus]
theorem qkh (f:α->Option β):∀ {l:List α} {a:List β},l.mapM f=some a->a.length=l.length
 | [],a,h=>by rw [List.mapM_nil] at h; cases h; rfl
 | x :: l,a,h=>by
  rw [q1e] at h
  cases hx:f x with
  | none=>rw [hx] at h; cases h
  | some b =>
   rw [hx] at h
   cases hl:l.mapM f with
   | none=>rw [hl] at h; cases h
   | some c =>
    rw [hl] at h
    cases h
    simp [qkh f hl]
variable {γ:Type}
theorem qxh (f:γ->α->Option γ) (b:γ) (l:List α) (x:α):(l ++ [x]).foldlM f b=(l.foldlM f b).bind fun c=>f c x:=by
 rw [List.foldlM_append]
 show (l.foldlM f b).bind _=_
 congr 1
 funext c
 rw [List.foldlM_cons]
 cases f c x <;> rfl
theorem q3e (f:γ->α->Option γ) {b:γ} {l m:List α} (h:l.foldlM f b=none):(l ++ m).foldlM f b=none:=by
 rw [List.foldlM_append,h]; rfl
theorem qlx (f:γ->α->Option γ) {b:γ} {l:List α} {k:Nat} (h:(l.take k).foldlM f b=none):l.foldlM f b=none:=by
 rw [<-List.take_append_drop k l]; exact q3e f h
theorem qop (f:γ->α->Option γ) {b:γ} {l:List α} {k:Nat} (hk:k < l.length):(l.take (k+1)).foldlM f b=((l.take k).foldlM f b).bind fun c=>f c l[k]:=by
 rw [List.take_succ_eq_append_getElem hk,qxh]
end
end Go.Proofs.YtlnekijhbnlclaaGreatDoor
namespace Go.Proofs.YtlnekijhbnlclaaGreatDoor
structure NodeOk (n:Nd) (next:Int):Prop where
 key:1<=n.key/\n.key < next
 depth:0<=n.depth/\n.depth < 16
 kind:n.kind=0\/n.kind=1
 box:n.kind=0->n.text.size=0
 text:n.kind=1->n.st=st0/\n.text.size<=200
theorem q4s {n:Nd} {next:Int} (h:fitsN n next=true):NodeOk n next:=by
 unfold fitsN at h
 split at h
 ·cases h
 ·rename_i h1
  split at h
  ·rename_i h2
   have h3:n.text.size=0:=of_decide_eq_true h
   exact ⟨⟨by omega,by omega⟩,⟨by omega,by omega⟩,.inl h2,fun _=>h3,fun e=>by omega⟩
  ·rename_i h2
   simp only [Bool.and_eq_true,decide_eq_true_eq] at h
   exact ⟨⟨by omega,by omega⟩,⟨by omega,by omega⟩,.inr h.1.1,fun e=>absurd e h2,fun _=>⟨h.1.2,h.2⟩⟩
theorem qdi {next:Int} {n:Nd} {r:List Nd} {met:List Int} {d:Int} {k:Nat} (h:qdb next (n :: r) met d k=true):fitsN n next=true/\n.key ∉ met/\qdb next r (n.key :: met) n.depth n.kind=true:=by
 rw [qdb] at h
 simp only [Bool.and_eq_true,Bool.not_eq_true'] at h
 exact ⟨h.1.1.1.1.1,by simpa using h.1.1.1.1.2,h.2⟩
theorem q8n {next:Int} (x:Nd):∀ (ns:List Nd) (met:List Int) (d:Int) (k:Nat),qdb next ns met d k=true->x ∈ ns->NodeOk x next/\x.key ∉ met:=by
 intro ns
 induction ns with
 | nil=>intro _ _ _ _ hx; cases hx
 | cons n r ih =>
  intro met d k h hx
  obtain ⟨h1,h2,h3⟩:=qdi h
  rcases List.mem_cons.1 hx with rfl | hx
  ·exact ⟨q4s h1,h2⟩
  ·obtain ⟨a,b⟩:=ih _ _ _ h3 hx
   exact ⟨a,fun hm=>b (List.mem_cons_of_mem _ hm)⟩
theorem qcu {next:Int}:∀ (ns:List Nd) (met:List Int) (d:Int) (k:Nat),qdb next ns met d k=true->(ns.map Nd.key).Nodup:=by
 intro ns
 induction ns with
 | nil=>intro _ _ _ _; simp
 | cons n r ih =>
  intro met d k h
  obtain ⟨h1,h2,h3⟩:=qdi h
  rw [List.map_cons,List.nodup_cons]
  refine ⟨fun hm=>?_,ih _ _ _ h3⟩
  obtain ⟨x,hx,e⟩:=List.mem_map.1 hm
  exact (q8n x _ _ _ _ h3 hx).2 (by rw [e]; exact List.mem_cons_self)
theorem qhq (x:Nd) (hk:x.kind=0):∀ (ns:List Nd) (fl:List Int),q4a ns fl=true->x ∈ ns->stOk x.st=true:=by
 intro ns
 induction ns with
 | nil=>intro _ _ hx; cases hx
 | cons n r ih =>
  intro fl h hx
  rw [q4a] at h
  split at h
  ·cases h
  ·rename_i h1
   rcases List.mem_cons.1 hx with rfl | hx
   ·cases hs:stOk x.st with
    | true=>rfl
    | false=>exact absurd (by simp [hk,hs]) h1
   ·exact ih _ h hx
theorem qkn:stOk st0=true:=by decide
structure DocOk (ns:List Nd) (next:Int):Prop where
 some_:1<=ns.length
 few:ns.length<=300
 nextLe:next<=1073741825
 node:∀ n ∈ ns,NodeOk n next
 keys:(ns.map Nd.key).Nodup
 root:(ndAt ns 0).kind=0
 bytes:qzb ns<=1500
 style:∀ n ∈ ns,stOk n.st=true
theorem q9k {ns:List Nd} {next:Int} (h:qgb ns next=true):DocOk ns next:=by
 simp only [qgb,q9a,Bool.and_eq_true,decide_eq_true_eq] at h
 obtain ⟨⟨⟨⟨⟨⟨h1,h2⟩,h3⟩,h4⟩,h5⟩,h6⟩,h7⟩:=h
 have hn:=fun n hn=>(q8n n _ _ _ _ h4 hn).1
 refine ⟨h1,h2,h3,hn,qcu _ _ _ _ h4,h5,h6,fun n hm=>?_⟩
 rcases (hn n hm).kind with e | e
 ·exact qhq n e _ _ h7 hm
 ·rw [((hn n hm).text e).1]; exact qkn
section
variable {ns:List Nd} {next:Int} (H:DocOk ns next)
include H
theorem DocOk.at_ {i:Nat} (hi:i < ns.length):NodeOk (ndAt ns i) next:=by
 unfold ndAt
 rw [List.getD_eq_getElem?_getD,List.getElem?_eq_getElem hi]
 exact H.node _ (List.getElem_mem hi)
theorem DocOk.st_at (i:Nat):stOk (ndAt ns i).st=true:=by
 unfold ndAt
 rw [List.getD_eq_getElem?_getD]
 rcases Nat.lt_or_ge i ns.length with h | h
 ·rw [List.getElem?_eq_getElem h]
  exact H.style _ (List.getElem_mem h)
 ·rw [List.getElem?_eq_none h]
  exact qkn
end
end Go.Proofs.YtlnekijhbnlclaaGreatDoor
