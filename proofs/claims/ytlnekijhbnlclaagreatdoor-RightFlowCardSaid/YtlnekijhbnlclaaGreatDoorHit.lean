/-
  An argument that is a slice of fragments: what a walk is told of it.
-/
import Derived.Test.YtlnekijhbnlclaaGreatDoorRunePlain
import Derived.Test.YtlnekijhbnlclaaGreatDoorDocFacts
import Derived.Deep.Slices
import Derived.Shelf.Bodies
import Derived.Shelf.Strings.BuilderK
import Derived.Test.YtlnekijhbnlclaaGreatDoorProg
import Derived.DeepKeys
import Derived.Test.YtlnekijhbnlclaaGreatDoorFlowPlain
import Derived.RangeFuncBox
import Derived.RangeFuncLeaves
import Derived.RangeFuncNested
import Derived.Shelf.Abstract
import Derived.WalkKit
import Derived.OwnWalkIn
import Derived.TacticsInMore
import Derived.LoopNIn
import Derived.LoopIn
namespace Go.Proofs.YtlnekijhbnlclaaGreatDoor
open Go.ChangeShapes Go.WideShapes Go.ChangeAt Go.RowKit
theorem Tryz.cellsFrag:Tryz.prog.cellsOf 42=8:=by kernel_rfl
theorem q9n {α:Type} {p:Nat->α->Prop}:∀ {n:Nat},(∀ i,i < n->∃ x,p i x)->∃ L:List α,L.length=n/\∀ i (h:i < L.length),p i L[i]
 | 0,_=>⟨[],rfl,fun i h=>absurd h (by simp)⟩
 | n+1,h=>by
  obtain ⟨L,hl,hp⟩:=q9n (n:=n) fun i hi=>h i (by omega)
  obtain ⟨x,hx⟩:=h n (by omega)
  refine ⟨L ++ [x],by simp [hl],fun i hi=>?_⟩
  rcases Nat.lt_or_ge i L.length with h1 | h1
  ·rw [List.getElem_append_left h1]
   exact hp i h1
  ·have:i=n:=by simp at hi; omega
   subst this
   rw [List.getElem_append_right h1]
   simpa using hx
set_option maxRecDepth 100000 in
theorem q5s {H:Type} {enc:TypeId×Value->H} {W:World} {base n:Nat} {sp:Nat->Bool} {held:Bool} {P:Addr} {cs:List Value} {x:DataW H×List MemPlace}
  (h1:W.cells? base P 8=some cs) (h2:DataW.trod enc Tryz.prog W base sp held n 42 cs=some x):∃ f:Fr,FragAt W P f:=by
 obtain ⟨hb,hl,hc⟩:=World.cells?_some h1
 obtain ⟨xs,m,rfl,_,_,hxl,hf⟩:=DataW.trod_struct Tryz.underlying42 h2
 match cs,hl with
 | [c0,c1,c2,c3,c4,c5,c6,c7],_ =>
  match xs,hxl with
  | [y0,y1,y2,y3,y4,y5,y6,y7],_ =>
   have g0:=hf 0 _ rfl
   have g1:=hf 1 _ rfl
   have g2:=hf 2 _ rfl
   have g3:=hf 3 _ rfl
   have g4:=hf 4 _ rfl
   have g5:=hf 5 _ rfl
   have g6:=hf 6 _ rfl
   have g7:=hf 7 _ rfl
   have hcs:Tryz.prog.cellsOf 9=1:=by kernel_rfl
   simp [Tryz.cellsInt,hcs] at g0 g1 g2 g3 g4 g5 g6 g7
   obtain ⟨n0,e0,_,_⟩:=DataW.trod_int Tryz.underlying3 g0
   obtain ⟨n1,e1,_,_⟩:=DataW.trod_int Tryz.underlying3 g1
   obtain ⟨n2,e2,_,_⟩:=DataW.trod_int Tryz.underlying3 g2
   obtain ⟨n3,e3,_,_⟩:=DataW.trod_int Tryz.underlying3 g3
   obtain ⟨n4,e4,_,_⟩:=DataW.trod_int Tryz.underlying3 g4
   obtain ⟨n5,e5,_,_⟩:=DataW.trod_int Tryz.underlying3 g5
   obtain ⟨n6,e6,_,_⟩:=DataW.trod_int Tryz.underlying3 g6
   obtain ⟨s,e7,_,_⟩:=DataW.trod_string Tryz.underlying9 g7
   simp at e0 e1 e2 e3 e4 e5 e6 e7
   subst e0 e1 e2 e3 e4 e5 e6 e7
   exact ⟨⟨n0,n1,n2,n3,n4,n5,n6,s⟩,hc 0 (by omega),hc 1 (by omega),hc 2 (by omega),hc 3 (by omega),hc 4 (by omega),hc 5 (by omega),hc 6 (by omega),hc 7 (by omega)⟩
set_option maxRecDepth 100000 in
theorem qxu {H:Type} {enc:TypeId×Value->H} {W:World} {base:Nat} {v:Value} {d:DataW H} {p:List MemPlace}
  (hv:Value.okWide Tryz.prog W .any base 36 v) (ht:DataW.Trod enc Tryz.prog W 0 (fun _=>true) true 36 v d p) (hlt:∀ x ∈ p,x.block < W.heap.size) :
  ∃ fs,Frags W W.heap.size v fs:=by
 obtain ⟨a0,len,cap,rfl⟩:=okWide_slice Tryz.underlying36 hv
 obtain ⟨fuel,hf⟩:=ht
 rcases Go.Deep.open_slice Tryz.underlying36 hf with ⟨hcs,hx⟩ | ⟨a,len',cap',m,n,D,Pl,hcs,hb,hl,hm,hmm,hx,hi⟩
 ·simp [Value.cells] at hcs
  obtain ⟨rfl,rfl,rfl⟩:=hcs
  exact ⟨[],none,0,rfl,Nat.le_refl _,fun h=>absurd h (by simp)⟩
 ·simp [Value.cells] at hcs
  obtain ⟨rfl,rfl,rfl⟩:=hcs
  simp only [Prod.mk.injEq] at hx
  obtain ⟨rfl,rfl⟩:=hx
  simp only [if_true] at hmm
  rw [Tryz.cellsFrag] at hi hlt
  obtain ⟨fs,hfl,hfs⟩:=q9n (p:=fun i f=>FragAt W (a.add (i * 8)) f) (n:=len) fun i h=>by
   obtain ⟨cs,h1,h2⟩:=hi i (by omega)
   exact q5s h1 h2
  subst hfl
  refine ⟨fs,some a,cap,rfl,hl,fun h0=>⟨a,rfl,?_,hfs⟩⟩
  have hs:a.spot=none:=by
   have:=(hfs 0 h0).1
   have:=World.cell?_spot this
   simpa [Addr.add] using this
  obtain ⟨b,off,spot⟩:=a
  simp at hs
  subst hs
  exact hlt (.cell b off) (List.mem_append_left _ (MemPlace.mem_row.2 ⟨0,by omega,by simp⟩))
end Go.Proofs.YtlnekijhbnlclaaGreatDoor
namespace Go.Proofs.YtlnekijhbnlclaaGreatDoor
open Go.RowKit
set_option maxRecDepth 100000 in
theorem qlo (s:ByteArray) (r:Int) (w:World) (h:128<=r) (hne:r≠65533) (hv:Lib.validRune r=false) :
  Calls Tryz.prog 258 #[.string s,.int .i32 r] w fun e w'=>e=.returned (.int .i64 (-1))/\w=w':=by
 have hr:=Tryz.utf8_ValidRune r w
 rw [hv] at hr
 have h1:(r == 65533)=false:=by simp [hne]
 clear hv hne
 go_enter Tryz.func258,Tryz.ntmps258
 go_wp2_with fail
 refine hr.mono ?_
 rintro e w' ⟨rfl,rfl⟩
 go_wp2_with fail
 go_ret
 exact ⟨rfl,rfl⟩
theorem qlw (r:Int) (h:Lib.validRune r=true) (h0:0<=r):Utf8.valid r=true:=by
 simp [Lib.validRune] at h
 simp [Utf8.valid]
 omega
theorem qrq (s:ByteArray) (hs:Ascii s) (x:UInt8) (hx:128<=x.toNat) (a b:Nat) (w:World) :
  Calls Tryz.prog 262 #[.string (s.extract a b),.int .u8 ((x.toNat:Nat):Int)] w fun e w'=>e=.returned (.int .i64 (-1))/\w'=w:=by
 refine (Tryz.strings_IndexByte (s.extract a b) ((x.toNat:Nat):Int) w).mono fun e w' ⟨he,hw⟩=>⟨?_,hw⟩
 rw [he,q7s]
 intro y hy
 have h1:=hs y (qgx s a b y hy)
 have h2:((x.toNat:Int).toNat.toUInt8)=x:=by simp
 rw [h2]
 intro e
 subst e
 omega
set_option maxRecDepth 100000 in
theorem qnq (s:ByteArray) (r:Int) (w:World) (h:128<=r) (hne:r≠65533) (hv:Lib.validRune r=true) (h4:4<=s.size) (hs:s.size < 1000) (ha:Ascii s) :
  Calls Tryz.prog 258 #[.string s,.int .i32 r] w fun e w'=>e=.returned (.int .i64 (-1))/\Quiet w w':=by
 have hr:=Tryz.utf8_ValidRune r w
 obtain ⟨m,hm3,hm,hlast⟩:=q4t r (qlw r hv (by omega)) h
 rw [hv] at hr
 have h1:(r == 65533)=false:=by simp [hne]
 have HL:=Lib.hid hlast; clear hlast
 clear hv hne
 go_enter Tryz.func258,Tryz.ntmps258
 go_wp2_with fail
 refine hr.mono ?_
 rintro e w' ⟨rfl,rfl⟩
 go_wp2_with fail
 go_step3
 go_wp2_with fail
 have hms:m < s.size:=by omega
 have hmr:m < (Utf8.encode r).size:=by omega
 have hne:((s[m].toNat:Int) != ((Utf8.encode r)[m].toNat:Int))=true:=by
  have h1:=ha s[m] (q6i s m hms)
  have h2:=HL.out hmr
  simp
  omega
 refine wp_loop_rounds 1 ?_
 rw [rounds_succ]
 go_wp2_with fail
 go_step3
 go_wp2_with fail
 have i1:(m:Int) < (s.size:Int):=by omega
 have i2:(m:Int) < ((Utf8.encode r).size:Int):=by omega
 have hcall:=qrq s ha (Utf8.encode r)[m] (HL.out hmr) (m+1) s.size
 have HM:=Lib.hid hm; clear hm
 go_quiet (fail)
 go_wp2_with fail
 go_quiet ((go_at_call 262; exact q5u (hcall _)))
 go_wp2_with fail
 simp only [Exit.noGoto_ret,Exit.inBlock,Exit.then]
 go_ret
 exact ⟨rfl,(Quiet.refl _).drewN _⟩
theorem qnj (w:World) (s:ByteArray) (k:Nat):Below w.heap.size w (w.iter s k) :=
 ⟨rfl,rfl,rfl,by simp [World.iter],fun i hi=>by
  show (w.heap.push _)[i]?=_
  rw [Array.getElem?_push,if_neg (by omega)]⟩
set_option maxRecDepth 100000 in
theorem qxo (s:ByteArray) (w:World) (hs:s.size < 1000) (ha:Ascii s) :
  Calls Tryz.prog 258 #[.string s,.int .i32 65533] w fun e w'=>e=.returned (.int .i64 (-1))/\Below w.heap.size w w':=by
 go_enter Tryz.func258,Tryz.ntmps258
 go_wp2_with fail
 have hsz:(w.iter s 0).heap.size=w.heap.size+1:=by simp [World.iter]
 go_loopw [5,6] (fun _ _ wr=>∃ k:Nat,k<=s.size/\wr=w.iter s k) (fun _ _ wr=>s.size - wr.iterPos w.heap.size)
 case atStart=>exact ⟨0,by omega,rfl⟩
 case round =>
  obtain ⟨k,hk,rfl⟩:=hrel
  by_cases hlt:k < s.size
  ·have h1:=ha s[k] (q6i s k hlt)
   have hx:=fun ty=>run_next_ascii (P:=Tryz.prog) w s k ty hlt h1
   have hne:((s[k].toNat:Int) == 65533)=false:=by simp; omega
   clear h1
   go_wp2_with fail
   go_roundw
   case rel=>exact ⟨k+1,by omega,rfl⟩
   case measure=>simp; omega
  ·have hx:=fun ty=>run_next_end (P:=Tryz.prog) w s k ty hlt
   go_wp2_with fail
   go_ret
   exact ⟨rfl,qnj w s k⟩
set_option maxRecDepth 100000 in
theorem qfw (s:ByteArray) (r:Int) (w:World) (h0:0<=r) (h4:4<=s.size) (hs:s.size < 1000) (ha:Ascii s) :
  Calls Tryz.prog 248 #[.string s,.int .i32 r] w fun e w'=>e=.returned (.bool (memb s.data.toList r))/\Below w.heap.size w w':=by
 by_cases h:r < 128
 ·refine (Tryz.strings_ContainsRune_ascii s r w h0 h).mono fun e w' ⟨he,hw⟩=>⟨?_,by rw [hw]; exact Below.refl _ _⟩
  rw [he]
  congr 2
  rw [Bool.eq_iff_iff,decide_eq_true_iff,qws]
  simp only [memb,List.any_eq_true,beq_iff_eq]
  constructor
  ·intro hm
   exact ⟨_,hm,by simp; omega⟩
  ·rintro ⟨b,hb,rfl⟩
   simpa using hb
 ·rw [qpo ha (by omega)]
  have hi:Calls Tryz.prog 258 #[.string s,.int .i32 r] w fun e w'=>e=.returned (.int .i64 (-1))/\Below w.heap.size w w':=by
   by_cases he:r=65533
   ·subst he
    exact qxo s w hs ha
   ·cases hv:Lib.validRune r with
    | false=>exact (qlo s r w (by omega) he hv).mono fun e w' ⟨h1,h2⟩=>⟨h1,by rw [<-h2]; exact Below.refl _ _⟩
    | true=>exact (qnq s r w (by omega) he hv h4 hs ha).mono fun e w' ⟨h1,h2⟩=>⟨h1,h2.below _⟩
  go_enter Tryz.func248,Tryz.ntmps248
  go_wp2_with fail
  refine hi.mono ?_
  rintro e w1 ⟨rfl,hb⟩
  go_wp2_with fail
  go_ret
  exact ⟨rfl,hb⟩
end Go.Proofs.YtlnekijhbnlclaaGreatDoor
namespace Go.Proofs.YtlnekijhbnlclaaGreatDoor
open Go.RowKit
def smF (f:Fr):Prop:=(-274877906944<=f.x/\f.x<=274877906944)/\(-274877906944<=f.y/\f.y<=274877906944)/\(0<=f.w/\f.w<=274877906944)/\(0<=f.h/\f.h<=274877906944)
theorem qak {f:Fr} (h:smF f):IntKind.i64.wrap (f.x+f.w)=f.x+f.w/\IntKind.i64.wrap (f.y+f.h)=f.y+f.h:=by
 unfold smF at h
 constructor <;> rw [IntKind.wrap_i64] <;> omega
theorem qrj {f:Fr} (h:smF f) (x y:Int):cov f x y=true↔f.x<=x/\x < f.x+f.w/\f.y<=y/\y < f.y+f.h:=by
 obtain ⟨e1,e2⟩:=qak h
 unfold cov
 rw [e1,e2]
 simp [and_assoc]
theorem qgv {f:Fr} (h:smF f):fitF f=true:=by
 unfold smF at h
 unfold fitF
 simp only [List.all_cons,List.all_nil,Bool.and_true,Bool.and_eq_true,qpc]
 omega
theorem qvl (p:Nat->Bool):∀ n,(q2a p n=-1/\∀ i,i < n->p i=false)\/∃ i:Nat,i < n/\q2a p n=(i:Int)/\p i=true/\∀ j,i < j->j < n->p j=false
 | 0=>.inl ⟨rfl,fun i h=>absurd h (by omega)⟩
 | n+1=>by
  cases h:p n with
  | true=>exact .inr ⟨n,by omega,by rw [q2a,if_pos h],h,fun j h1 h2=>absurd h1 (by omega)⟩
  | false =>
   rcases qvl p n with ⟨e,h1⟩ | ⟨i,hi,e,hp,hj⟩
   ·refine .inl ⟨by rw [q2a,if_neg (by simp [h]),e],fun i hi=>?_⟩
    by_cases e2:i=n
    ·subst e2; exact h
    ·exact h1 i (by omega)
   ·refine .inr ⟨i,by omega,by rw [q2a,if_neg (by simp [h]),e],hp,fun j h1 h2=>?_⟩
    by_cases e2:j=n
    ·subst e2; exact h
    ·exact hj j h1 (by omega)
theorem mn_le {sel:Fr->Int}:∀ {L:List Fr} {f:Fr},f ∈ L->mn sel L<=sel f:=by
 intro L f hf
 rcases List.eq_nil_or_concat L with rfl | ⟨L',g,rfl⟩
 ·cases hf
 ·rw [List.concat_eq_append] at hf ⊢
  rw [qng]
  rcases List.mem_append.1 hf with h | h
  ·have ih:=mn_le (sel:=sel) h
   have hn:L'≠[]:=by rintro rfl; cases h
   rw [if_neg hn]
   omega
  ·rw [List.mem_singleton.1 h]
   split <;> omega
termination_by L=>L.length
decreasing_by simp_all
theorem le_mx {sel:Fr->Int}:∀ {L:List Fr} {f:Fr},f ∈ L->sel f<=mx sel L:=by
 intro L f hf
 rcases List.eq_nil_or_concat L with rfl | ⟨L',g,rfl⟩
 ·cases hf
 ·rw [List.concat_eq_append] at hf ⊢
  rw [qsg]
  rcases List.mem_append.1 hf with h | h
  ·have ih:=le_mx (sel:=sel) h
   have hn:L'≠[]:=by rintro rfl; cases h
   rw [if_neg hn]
   omega
  ·rw [List.mem_singleton.1 h]
   split <;> omega
termination_by L=>L.length
decreasing_by simp_all
theorem gr_mem {fs:List Fr} {f:Fr}:f ∈ gr fs fs.length↔f ∈ fs/\(0 < f.w/\0 < f.h):=by
 unfold gr big
 rw [List.take_length,List.mem_filter]
 simp
structure FillF (fs:List Fr) (a b c d:Int):Prop where
 ab:(-274877906944<=a/\a<=274877906944)/\(-274877906944<=b/\b<=274877906944)
 cd:(0<=c/\c<=1099511627776)/\(0<=d/\d<=1099511627776)
 in_:∀ f ∈ fs,0 < f.w->0 < f.h->a<=f.x/\b<=f.y/\f.x+f.w<=a+c/\f.y+f.h<=b+d
theorem qes {fs:List Fr} (h:∀ f ∈ fs,smF f):FillF fs (fillR fs).1 (fillR fs).2.1 (fillR fs).2.2.1 (fillR fs).2.2.2:=by
 have hall:fs.all fitF=true:=List.all_eq_true.2 fun f hf=>qgv (h f hf)
 have e:fillR fs=(mn Fr.x (gr fs fs.length),mn Fr.y (gr fs fs.length),mx rt (gr fs fs.length) - mn Fr.x (gr fs fs.length),mx bt (gr fs fs.length) - mn Fr.y (gr fs fs.length)):=by
  unfold fillR
  rw [if_pos hall]
 rw [e]
 have hs:∀ f ∈ gr fs fs.length,smF f/\0 < f.w/\0 < f.h:=fun f hf=>⟨h f (gr_mem.1 hf).1,(gr_mem.1 hf).2⟩
 have hx:-274877906944<=mn Fr.x (gr fs fs.length)/\mn Fr.x (gr fs fs.length)<=274877906944:=mn_bd (by omega) (by omega) fun f hf=>(hs f hf).1.1
 have hy:-274877906944<=mn Fr.y (gr fs fs.length)/\mn Fr.y (gr fs fs.length)<=274877906944:=mn_bd (by omega) (by omega) fun f hf=>(hs f hf).1.2.1
 have hr:-274877906944<=mx rt (gr fs fs.length)/\mx rt (gr fs fs.length)<=549755813888:=mx_bd (by omega) (by omega) fun f hf=>by
  have:=(hs f hf).1
  unfold smF at this
  unfold rt
  omega
 have hb:-274877906944<=mx bt (gr fs fs.length)/\mx bt (gr fs fs.length)<=549755813888:=mx_bd (by omega) (by omega) fun f hf=>by
  have:=(hs f hf).1
  unfold smF at this
  unfold bt
  omega
 have hin:∀ f ∈ gr fs fs.length,mn Fr.x (gr fs fs.length)<=f.x/\mn Fr.y (gr fs fs.length)<=f.y/\f.x+f.w<=mx rt (gr fs fs.length)/\f.y+f.h<=mx bt (gr fs fs.length):=fun f hf=>⟨mn_le hf,mn_le hf,le_mx (sel:=rt) hf,le_mx (sel:=bt) hf⟩
 have hcd:mn Fr.x (gr fs fs.length)<=mx rt (gr fs fs.length)/\mn Fr.y (gr fs fs.length)<=mx bt (gr fs fs.length):=by
  rcases hg:gr fs fs.length with _ | ⟨f,L⟩
  ·exact ⟨Int.le_refl _,Int.le_refl _⟩
  ·have hf:f ∈ gr fs fs.length:=by rw [hg]; exact List.mem_cons_self
   rw [<-hg]
   have h1:=hin f hf
   have h2:=(hs f hf).2
   omega
 generalize mn Fr.x (gr fs fs.length)=a at *
 generalize mn Fr.y (gr fs fs.length)=b at *
 generalize mx rt (gr fs fs.length)=c at *
 generalize mx bt (gr fs fs.length)=d at *
 refine ⟨⟨hx,hy⟩,by dsimp only; omega,fun f hf h1 h2=>?_⟩
 have:=hin f (gr_mem.2 ⟨hf,h1,h2⟩)
 dsimp only
 omega
structure HitF (fs:List Fr) (x y at_ a b c d:Int):Prop where
 low:-1<=at_
 high:at_ < (fs.length:Int)
 is:∀ k (hk:k < fs.length),(k:Int)=at_->cov fs[k] x y=true
 past:∀ k (hk:k < fs.length),at_ < (k:Int)->cov fs[k] x y=false
 in_:0<=at_->a<=x/\x < a+c/\b<=y/\y < b+d
theorem qqw {fs:List Fr} (h:∀ f ∈ fs,smF f) {x y a b c d:Int} (hf:FillF fs a b c d):HitF fs x y (q2a (hitP fs x y) fs.length) a b c d:=by
 rcases qvl (hitP fs x y) fs.length with ⟨e,hn⟩ | ⟨i,hi,e,hp,hj⟩
 ·rw [e]
  exact ⟨by omega,by omega,fun k hk h1=>absurd h1 (by omega),fun k hk _=>by rw [<-qeg hk]; exact hn k hk,fun h0=>absurd h0 (by omega)⟩
 ·rw [e]
  refine ⟨by omega,by omega,fun k hk h1=>?_,fun k hk h1=>by rw [<-qeg hk]; exact hj k (by omega) hk,fun _=>?_⟩
  ·obtain rfl:k=i:=by omega
   rw [<-qeg hk]
   exact hp
  ·rw [qeg hi] at hp
   have hm:=h _ (List.getElem_mem hi)
   obtain ⟨h1,h2,h3,h4⟩:=(qrj hm x y).1 hp
   have:=hf.in_ _ (List.getElem_mem hi) (by omega) (by omega)
   omega
end Go.Proofs.YtlnekijhbnlclaaGreatDoor
namespace Go.Proofs.YtlnekijhbnlclaaGreatDoor
open Go.RowKit Go.Shelf
def Tryz.lays166_ren:Go.Shelf.Ren:=⟨fun | 166=>171 | 240=>204 | 276=>222 | n=>n,fun | 0=>0 | 3=>3 | 4=>4 | 9=>9 | 20=>20 | 37=>280 | 70=>279 | 72=>282 | 75=>284 | 164=>336 | 80=>287 | 5=>5 | n=>n,fun | n=>n⟩
theorem Tryz.lays166:Go.Proofs.Lays.n166 Tryz.prog Tryz.lays166_ren:={
 mixed:=by kernel_rfl
 f166:=Tryz.func171.trans (congrArg some (by kernel_rfl))
 f240:=Tryz.func204.trans (congrArg some (by kernel_rfl))
 f276:=Tryz.func222.trans (congrArg some (by kernel_rfl))
 t0:=Tryz.underlying0
 a0:=Tryz.isAgg0
 z0:=Tryz.sizeOf0
 v0:=Tryz.zeroValue0
 t3:=Tryz.underlying3
 a3:=Tryz.isAgg3
 z3:=Tryz.sizeOf3
 v3:=Tryz.zeroValue3
 t4:=Tryz.underlying4
 a4:=Tryz.isAgg4
 z4:=Tryz.sizeOf4
 v4:=Tryz.zeroValue4
 t9:=Tryz.underlying9
 a9:=Tryz.isAgg9
 z9:=Tryz.sizeOf9
 v9:=Tryz.zeroValue9
 t20:=Tryz.underlying20
 a20:=Tryz.isAgg20
 z20:=Tryz.sizeOf20
 v20:=Tryz.zeroValue20
 t37:=Tryz.underlying280
 a37:=Tryz.isAgg280
 z37:=Tryz.sizeOf280
 v37:=Tryz.zeroValue280
 t70:=Tryz.underlying279
 a70:=Tryz.isAgg279
 z70:=Tryz.sizeOf279
 v70:=Tryz.zeroValue279
 t72:=Tryz.underlying282
 a72:=Tryz.isAgg282
 z72:=Tryz.sizeOf282
 v72:=Tryz.zeroValue282
 t75:=Tryz.underlying284
 a75:=Tryz.isAgg284
 z75:=Tryz.sizeOf284
 v75:=Tryz.zeroValue284
 t164:=Tryz.underlying336
 a164:=Tryz.isAgg336
 z164:=Tryz.sizeOf336
 v164:=Tryz.zeroValue336 }
theorem Tryz.Builder_Extra_166:Builder.Extra Tryz.prog Tryz.lays166_ren:={
 sizeBuilder:=by kernel_rfl
 liesBuilder:=by kernel_rfl
 t5:=Tryz.underlying5
 a5:=Tryz.isAgg5
 z5:=Tryz.sizeOf5
 v5:=Tryz.zeroValue5
 infoByte:=by kernel_rfl
 cellsByte:=by kernel_rfl
 sizeByte:=by kernel_rfl
 neB5:=by decide }
theorem Tryz.Builder_WriteString_k (B b:Nat) (bs:List Value) (s:ByteArray) (w:World) (h:Lib.IsBuilderF 282 5 B b bs w) (hlen:bs.length+s.size<=140737488355328) (hBw:B<=w.heap.size) :
  Calls Tryz.prog 171 #[.pointer (some ⟨b,0,none⟩),.string s] w fun e w'=>e=.returned (.tuple #[.int .i64 s.size,.nilIface])/\Lib.BuilderAtF 282 5 B b (.pointer (some ⟨b,0,none⟩)) (bs ++ Lib.byteCells s.data.toList) w'/\Below B w w'/\Lib.OthersKept 5 (some b) w w' :=
 Any.Builder_WriteString_k Tryz.lays166 Tryz.Builder_Extra_166 B b bs s w h hlen hBw
end Go.Proofs.YtlnekijhbnlclaaGreatDoor
namespace Go.Proofs.YtlnekijhbnlclaaGreatDoor
open Go.RowKit
def shpF (P:Program) (sh:TypeId->Option (List TypeId)):List Field->Nat->Option (List TypeId)
 | [],_=>some []
 | f :: fs,o=>match sh f.type with
  | none=>none
  | some l=>if f.offset=o/\P.cellsOf f.type=l.length then (shpF P sh fs (o+l.length)).map (l ++ ·) else none
def shp (P:Program):Nat->TypeId->Option (List TypeId)
 | 0,_=>none
 | d+1,t=>match P.underlying t with
  | some .bool | some (.int _) | some .string=>some [t]
  | some (.array n e)=>match shp P d e with
   | none=>none
   | some l=>if P.cellsOf e=l.length/\P.cellsOf t=n * l.length then some (List.replicate n l).flatten else none
  | some (.struct fs)=>match shpF P (shp P d) fs.toList 0 with
   | none=>none
   | some l=>if fs.all (·.name != "_")=true/\P.cellsOf t=l.length then some l else none
  | _=>none
def Lits (P:Program):List TypeId->List Value->List Lit->Prop
 | [],[],[]=>True
 | t :: ts,c :: cs,l :: ls=>P.keyLits 1 t [c]=some [l]/\Lits P ts cs ls
 | _,_,_=>False
theorem Lits.len {P:Program}:∀ {ts:List TypeId} {cs:List Value} {ls:List Lit},Lits P ts cs ls->cs.length=ts.length/\ls.length=ts.length
 | [],[],[],_=>⟨rfl,rfl⟩
 | _ :: _,_ :: _,_ :: _,⟨_,h⟩=>by simp [(Lits.len h).1,(Lits.len h).2]
 | [],_ :: _,_,h=>h.elim
 | [],[],_ :: _,h=>h.elim
 | _ :: _,[],_,h=>h.elim
 | _ :: _,_ :: _,[],h=>h.elim
theorem Lits.split {P:Program}:∀ (a:List TypeId) {b:List TypeId} {cs:List Value} {ls:List Lit},Lits P (a ++ b) cs ls->∃ c1 c2 l1 l2,cs=c1 ++ c2/\ls=l1 ++ l2/\Lits P a c1 l1/\Lits P b c2 l2
 | [],b,cs,ls,h=>⟨[],cs,[],ls,rfl,rfl,trivial,h⟩
 | t :: a,b,c :: cs,l :: ls,⟨h0,h⟩=>by
  obtain ⟨c1,c2,l1,l2,rfl,rfl,h1,h2⟩:=Lits.split a h
  exact ⟨c :: c1,c2,l :: l1,l2,rfl,rfl,⟨h0,h1⟩,h2⟩
 | _ :: _,_,[],_,h=>h.elim
 | _ :: _,_,_ :: _,[],h=>h.elim
theorem qtq {P:Program} {t:TypeId} (h:(match P.underlying t with | some .bool | some (.int _) | some .string=>true | _=>false)=true) (d:Nat) (c:Value):P.keyLits (d+1) t [c]=P.keyLits 1 t [c]:=by
 unfold Program.keyLits
 split at h
 ·rename_i hu; simp only [hu]; cases c <;> rfl
 ·rename_i hu; simp only [hu]; cases c <;> rfl
 ·rename_i hu; simp only [hu]; cases c <;> rfl
 ·cases h
theorem qnm {P:Program} {d:Nat} (ih:∀ t l,shp P d t=some l->∀ cs ls,Lits P l cs ls->P.keyLits d t cs=some ls) (all:List Value):∀ (fs:List Field) (o:Nat) (l:List TypeId) (cs:List Value) (ls:List Lit),shpF P (shp P d) fs o=some l->Lits P l cs ls->all.drop o=cs ->
  ∃ parts,fs.mapM (fun f=>P.keyLits d f.type ((all.drop f.offset).take (P.cellsOf f.type)))=some parts/\parts.flatten=ls
 | [],o,l,cs,ls,h,hl,_=>by
  simp only [shpF] at h
  injection h with h
  subst h
  match cs,ls,hl with
  | [],[],_=>exact ⟨[],rfl,rfl⟩
 | f :: fs,o,l,cs,ls,h,hl,hd=>by
  rw [shpF] at h
  split at h
  ·cases h
  ·rename_i l1 h1
   split at h
   ·rename_i hc
    cases h2:shpF P (shp P d) fs (o+l1.length) with
    | none=>rw [h2] at h; cases h
    | some l2 =>
     rw [h2] at h
     injection h with h
     subst h
     obtain ⟨c1,c2,s1,s2,rfl,rfl,a1,a2⟩:=Lits.split l1 hl
     have hlen:=(Lits.len a1).1
     have hd2:all.drop (o+l1.length)=c2:=by
      rw [<-List.drop_drop,hd,List.drop_append_of_le_length (by omega),List.drop_of_length_le (by omega)]; rfl
     obtain ⟨parts,p1,p2⟩:=qnm ih all fs (o+l1.length) l2 c2 s2 h2 a2 hd2
     refine ⟨s1 :: parts,?_,by simp [p2]⟩
     have e1:(all.drop f.offset).take (P.cellsOf f.type)=c1:=by
      rw [hc.1,hc.2,hd,List.take_append_of_le_length (by omega),List.take_of_length_le (by omega)]
     rw [List.mapM_cons,e1,ih f.type l1 h1 c1 s1 a1,p1]; rfl
   ·cases h
theorem qzn {P:Program} {d:Nat} {e:TypeId} {l:List TypeId} (ih:∀ cs ls,Lits P l cs ls->P.keyLits d e cs=some ls) (all:List Value):∀ (n j:Nat) (cs:List Value) (ls:List Lit),Lits P (List.replicate n l).flatten cs ls->all.drop (j * l.length)=cs ->
  ∃ parts,(List.range' j n).mapM (fun i=>P.keyLits d e ((all.drop (i * l.length)).take l.length))=some parts/\parts.flatten=ls
 | 0,j,cs,ls,hl,_=>by
  match cs,ls,hl with
  | [],[],_=>exact ⟨[],rfl,rfl⟩
 | n+1,j,cs,ls,hl,hd=>by
  rw [List.replicate_succ,List.flatten_cons] at hl
  obtain ⟨c1,c2,s1,s2,rfl,rfl,a1,a2⟩:=Lits.split l hl
  have hlen:=(Lits.len a1).1
  have hd2:all.drop ((j+1) * l.length)=c2:=by
   rw [Nat.add_mul,Nat.one_mul,<-List.drop_drop,hd,List.drop_append_of_le_length (by omega),List.drop_of_length_le (by omega)]; rfl
  obtain ⟨parts,p1,p2⟩:=qzn ih all n (j+1) c2 s2 a2 hd2
  refine ⟨s1 :: parts,?_,by simp [p2]⟩
  have e1:(all.drop (j * l.length)).take l.length=c1:=by
   rw [hd,List.take_append_of_le_length (by omega),List.take_of_length_le (by omega)]
  rw [List.range'_succ,List.mapM_cons,e1,ih c1 s1 a1,p1]; rfl
theorem qre {P:Program}:∀ (d:Nat) (t:TypeId) (l:List TypeId),shp P d t=some l->∀ cs ls,Lits P l cs ls->P.keyLits d t cs=some ls
 | 0,_,_,h,_,_,_=>by cases h
 | d+1,t,l,h,cs,ls,hl=>by
  have one:(match P.underlying t with | some .bool | some (.int _) | some .string=>true | _=>false)=true->l=[t]->P.keyLits (d+1) t cs=some ls:=by
   intro hp e
   subst e
   obtain ⟨c,rfl⟩:=List.length_eq_one_iff.1 (Lits.len hl).1
   obtain ⟨x,rfl⟩:=List.length_eq_one_iff.1 (Lits.len hl).2
   rw [qtq hp]
   exact hl.1
  rw [shp] at h
  split at h
  ·rename_i hu
   injection h with h
   exact one (by rw [hu]) h.symm
  ·rename_i hu
   injection h with h
   exact one (by rw [hu]) h.symm
  ·rename_i hu
   injection h with h
   exact one (by rw [hu]) h.symm
  ·rename_i n e hu
   split at h
   ·cases h
   ·rename_i l1 h1
    split at h
    ·rename_i hc
     injection h with h
     subst h
     have hlen:=(Lits.len hl).1
     obtain ⟨parts,p1,p2⟩:=qzn (fun cs ls=>qre d e l1 h1 cs ls) cs n 0 cs ls hl (by simp)
     unfold Program.keyLits
     simp only [hu]
     rw [if_pos (by rw [hlen,hc.2]; simp),hc.1,List.range_eq_range',p1,<-p2]; rfl
    ·cases h
  ·rename_i fs hu
   split at h
   ·cases h
   ·rename_i l1 h1
    split at h
    ·rename_i hc
     injection h with h
     subst h
     have hlen:=(Lits.len hl).1
     obtain ⟨parts,p1,p2⟩:=qnm (fun t l h cs ls=>qre d t l h cs ls) cs fs.toList 0 l1 cs ls h1 hl (by simp)
     unfold Program.keyLits
     simp only [hu]
     rw [if_pos ⟨by rw [hlen,hc.2],hc.1⟩,p1,<-p2]; rfl
    ·cases h
  ·cases h
theorem Lits.cons {P:Program} {t:TypeId} {ts:List TypeId} {c:Value} {cs:List Value} {l:Lit} {ls:List Lit} (h0:P.keyLits 1 t [c]=some [l]) (h:Lits P ts cs ls):Lits P (t :: ts) (c :: cs) (l :: ls):=⟨h0,h⟩
def litOf:Value->Lit
 | .int k n=>.int k n
 | .bool b=>.bool b
 | .string s=>.string s.data.toList
 | _=>.bool false
def wfC:Value->Bool
 | .int k n=>(Lit.int k n).wf
 | .bool _=>true
 | .string s=>decide (s.size<=maxLen)
 | _=>false
theorem q5g:∀ {l m:List Value},l.all wfC=true->m.all wfC=true->l.map litOf=m.map litOf->l=m
 | [],[],_,_,_=>rfl
 | [],_ :: _,_,_,h=>by cases h
 | _ :: _,[],_,_,h=>by cases h
 | a :: l,b :: m,h1,h2,h=>by
  simp only [List.all_cons,Bool.and_eq_true] at h1 h2
  simp only [List.map_cons,List.cons.injEq] at h
  have hab:a=b:=by
   have ha:=h1.1
   have hb:=h2.1
   have hh:=h.1
   cases a <;> cases b <;> simp [wfC] at ha hb <;> simp [litOf] at hh <;> first | (obtain ⟨rfl,rfl⟩:=hh; rfl) | (subst hh; rfl) | (exact congrArg Value.string (ByteArray.ext hh))
  rw [hab,q5g h1.2 h2.2 h.2]
end Go.Proofs.YtlnekijhbnlclaaGreatDoor
namespace Go.Proofs.YtlnekijhbnlclaaGreatDoor
open Go.RowKit
def stSh:List TypeId:=[5,4,5,3,5,3,5,3,5,3,5,3,5,3,5,3,5,3,5,3,5,3,3,3,3,3,3,3,3,3,3,3,3,5,5,5,5,5,4,5,3,3,3,3,5,3,3]
theorem qsj:shp Tryz.prog 10 33=some stSh:=by kernel_rfl
def fgSh:List TypeId:=[3,3,3,3,3,3,3,9]
theorem q5m:shp Tryz.prog 10 42=some fgSh:=by kernel_rfl
theorem qab {n:Int} (h:wfC (.int .u8 n)=true):(Tryz.prog).keyLits 1 5 [.int .u8 n]=some [litOf (.int .u8 n)]:=by
 have h':(Lit.int .u8 n).wf=true:=h
 simp [Program.keyLits,Tryz.underlying5,h',litOf]
theorem qpa {n:Int} (h:wfC (.int .i64 n)=true):(Tryz.prog).keyLits 1 3 [.int .i64 n]=some [litOf (.int .i64 n)]:=by
 have h':(Lit.int .i64 n).wf=true:=h
 simp [Program.keyLits,Tryz.underlying3,h',litOf]
theorem q0k (b:Bool):(Tryz.prog).keyLits 1 4 [.bool b]=some [litOf (.bool b)]:=by
 simp [Program.keyLits,Tryz.underlying4,litOf]
theorem qoo {s:ByteArray} (h:wfC (.string s)=true):(Tryz.prog).keyLits 1 9 [.string s]=some [litOf (.string s)]:=by
 have h':s.size<=maxLen:=of_decide_eq_true h
 simp [Program.keyLits,Tryz.underlying9,h',litOf]
set_option maxRecDepth 100000 in
theorem q1l {s:St} (h:(stC s).all wfC=true):Lits Tryz.prog stSh (stC s) ((stC s).map litOf):=by
 simp only [stC,List.all_cons,List.all_nil,Bool.and_true,Bool.and_eq_true] at h
 obtain ⟨h0,h1,h2,h3,h4,h5,h6,h7,h8,h9,h10,h11,h12,h13,h14,h15,h16,h17,h18,h19,h20,h21,h22,h23,h24,h25,h26,h27,h28,h29,h30,h31,h32,h33,h34,h35,h36,h37,h38,h39,h40,h41,h42,h43,h44,h45,h46⟩:=h
 unfold stSh
 refine Lits.cons (qab h0) ?_
 refine Lits.cons (q0k _) ?_
 refine Lits.cons (qab h2) ?_
 refine Lits.cons (qpa h3) ?_
 refine Lits.cons (qab h4) ?_
 refine Lits.cons (qpa h5) ?_
 refine Lits.cons (qab h6) ?_
 refine Lits.cons (qpa h7) ?_
 refine Lits.cons (qab h8) ?_
 refine Lits.cons (qpa h9) ?_
 refine Lits.cons (qab h10) ?_
 refine Lits.cons (qpa h11) ?_
 refine Lits.cons (qab h12) ?_
 refine Lits.cons (qpa h13) ?_
 refine Lits.cons (qab h14) ?_
 refine Lits.cons (qpa h15) ?_
 refine Lits.cons (qab h16) ?_
 refine Lits.cons (qpa h17) ?_
 refine Lits.cons (qab h18) ?_
 refine Lits.cons (qpa h19) ?_
 refine Lits.cons (qab h20) ?_
 refine Lits.cons (qpa h21) ?_
 refine Lits.cons (qpa h22) ?_
 refine Lits.cons (qpa h23) ?_
 refine Lits.cons (qpa h24) ?_
 refine Lits.cons (qpa h25) ?_
 refine Lits.cons (qpa h26) ?_
 refine Lits.cons (qpa h27) ?_
 refine Lits.cons (qpa h28) ?_
 refine Lits.cons (qpa h29) ?_
 refine Lits.cons (qpa h30) ?_
 refine Lits.cons (qpa h31) ?_
 refine Lits.cons (qpa h32) ?_
 refine Lits.cons (qab h33) ?_
 refine Lits.cons (qab h34) ?_
 refine Lits.cons (qab h35) ?_
 refine Lits.cons (qab h36) ?_
 refine Lits.cons (qab h37) ?_
 refine Lits.cons (q0k _) ?_
 refine Lits.cons (qab h39) ?_
 refine Lits.cons (qpa h40) ?_
 refine Lits.cons (qpa h41) ?_
 refine Lits.cons (qpa h42) ?_
 refine Lits.cons (qpa h43) ?_
 refine Lits.cons (qab h44) ?_
 refine Lits.cons (qpa h45) ?_
 refine Lits.cons (qpa h46) ?_
 trivial
theorem quj (s:St):(Value.agg (stC s).toArray).formed Tryz.prog 33=true:=by
 have h:Tryz.prog.cellsOf 33=47:=by kernel_rfl
 have h2:(stC s).length=47:=rfl
 simp [Value.formed,Tryz.underlying33,h,h2]
theorem qkq {s t:St} (h:stC s=stC t):s=t:=by
 obtain ⟨a0,a1,⟨a2,a3⟩,⟨a4,a5⟩,⟨a6,a7⟩,⟨a8,a9⟩,⟨a10,a11⟩,⟨a12,a13⟩,⟨a14,a15⟩,⟨a16,a17⟩,⟨a18,a19⟩,⟨a20,a21⟩,a22,a23,a24,a25,a26,a27,a28,a29,a30,a31,a32,a33,a34,a35,a36,a37,a38,a39,a40,a41,a42,a43,⟨a44,a45⟩,a46⟩:=s
 obtain ⟨b0,b1,⟨b2,b3⟩,⟨b4,b5⟩,⟨b6,b7⟩,⟨b8,b9⟩,⟨b10,b11⟩,⟨b12,b13⟩,⟨b14,b15⟩,⟨b16,b17⟩,⟨b18,b19⟩,⟨b20,b21⟩,b22,b23,b24,b25,b26,b27,b28,b29,b30,b31,b32,b33,b34,b35,b36,b37,b38,b39,b40,b41,b42,b43,⟨b44,b45⟩,b46⟩:=t
 simp only [stC,List.cons.injEq,Value.int.injEq,Value.bool.injEq,true_and,and_true,Int.ofNat_inj] at h
 simp only [h]
set_option maxRecDepth 100000 in
theorem qqp {s t:St} (hs:(stC s).all wfC=true) (ht:(stC t).all wfC=true) (w:World) :
  (Op.equal 33 (.agg (stC s).toArray) (.agg (stC t).toArray)).run Tryz.prog w=.ok (decide (s=t)) w:=by
 have h1:=qre 10 _ _ qsj _ _ (q1l hs)
 have h2:=qre 10 _ _ qsj _ _ (q1l ht)
 obtain ⟨r,hr,hi⟩:=run_equalIn_deep (P:=Tryz.prog) 9990 10 33 (by kernel_rfl) w 10 10 _ _ _ _ (quj s) (quj t) h1 h2
 refine hr.trans ?_
 congr 1
 by_cases e:s=t
 ·rw [decide_eq_true e,hi,e]
 ·rw [decide_eq_false e]
  cases r with
  | false=>rfl
  | true=>exact absurd (qkq (q5g hs ht (hi.1 rfl))) e
end Go.Proofs.YtlnekijhbnlclaaGreatDoor
namespace Go.Proofs.YtlnekijhbnlclaaGreatDoor
open Go.RowKit
deriving instance DecidableEq for Fg
theorem q5i {f:Fg} (h:(fgC f).all wfC=true):Lits Tryz.prog fgSh (fgC f) ((fgC f).map litOf):=by
 simp only [fgC,List.all_cons,List.all_nil,Bool.and_true,Bool.and_eq_true] at h
 obtain ⟨h0,h1,h2,h3,h4,h5,h6,h7⟩:=h
 unfold fgSh
 refine Lits.cons (qpa h0) ?_
 refine Lits.cons (qpa h1) ?_
 refine Lits.cons (qpa h2) ?_
 refine Lits.cons (qpa h3) ?_
 refine Lits.cons (qpa h4) ?_
 refine Lits.cons (qpa h5) ?_
 refine Lits.cons (qpa h6) ?_
 refine Lits.cons (qoo h7) ?_
 trivial
theorem qmm (f:Fg):(Value.agg (fgC f).toArray).formed Tryz.prog 42=true:=by
 have h:Tryz.prog.cellsOf 42=8:=by kernel_rfl
 have h2:(fgC f).length=8:=rfl
 simp [Value.formed,Tryz.underlying42,h,h2]
theorem qdq {f g:Fg} (h:fgC f=fgC g):f=g:=by
 obtain ⟨f1,f2,f3,f4,f5,f6,f7,ft⟩:=f
 obtain ⟨g1,g2,g3,g4,g5,g6,g7,gt⟩:=g
 simp only [fgC,List.cons.injEq,Value.int.injEq,Value.string.injEq,and_true,true_and] at h
 simp only [Fg.mk.injEq]
 exact h
set_option maxRecDepth 100000 in
theorem qhu {f g:Fg} (hf:(fgC f).all wfC=true) (hg:(fgC g).all wfC=true) (w:World) :
  (Op.equal 42 (.agg (fgC f).toArray) (.agg (fgC g).toArray)).run Tryz.prog w=.ok (decide (f=g)) w:=by
 have h1:=qre 10 _ _ q5m _ _ (q5i hf)
 have h2:=qre 10 _ _ q5m _ _ (q5i hg)
 obtain ⟨r,hr,hi⟩:=run_equalIn_deep (P:=Tryz.prog) 9990 10 42 (by kernel_rfl) w 10 10 _ _ _ _ (qmm f) (qmm g) h1 h2
 refine hr.trans ?_
 congr 1
 by_cases e:f=g
 ·rw [decide_eq_true e,hi,e]
 ·rw [decide_eq_false e]
  cases r with
  | false=>rfl
  | true=>exact absurd (qdq (q5g hf hg (hi.1 rfl))) e
def qib (i:Int):List Fg->List Fg->Int
 | [],[]=>-1
 | [],_ :: _=>i
 | _ :: _,[]=>i
 | a :: l,b :: m=>if a=b then qib (i+1) l m else i
def qgd (r:List Fg×Int) (fr:List Fg):Int×Int:=if r.2≠0 then (0,r.2) else (qib 0 r.1 fr,0)
end Go.Proofs.YtlnekijhbnlclaaGreatDoor
namespace Go.Proofs.YtlnekijhbnlclaaGreatDoor
open Go.RowKit
theorem nodup_flat {fks:List (List Nat)}:fks.flatten.Nodup↔(∀ f ∈ fks,f.Nodup)/\∀ i j (hi:i < fks.length) (hj:j < fks.length),i < j->∀ g ∈ fks[i],g ∉ fks[j]:=by
 unfold List.Nodup
 rw [List.pairwise_flatten,List.pairwise_iff_getElem]
 refine and_congr Iff.rfl ⟨fun h i j hi hj hij g hg hm=>h i j hi hj hij g hg g hm rfl,fun h i j hi hj hij x hx y hy e=>h i j hi hj hij x hx (e ▸ hy)⟩
theorem qvf {fks:List (List Nat)} (h:fks.flatten.Nodup) {i j:Nat} {f f':List Nat} (hij:i≠j) (hi:fks[i]?=some f) (hj:fks[j]?=some f'):∀ g ∈ f,g ∉ f':=by
 obtain ⟨h1,rfl⟩:=List.getElem?_eq_some_iff.1 hi
 obtain ⟨h2,rfl⟩:=List.getElem?_eq_some_iff.1 hj
 rcases Nat.lt_or_ge i j with h3 | h3
 ·exact (nodup_flat.1 h).2 i j h1 h2 h3
 ·intro g hg hm
  exact (nodup_flat.1 h).2 j i h2 h1 (by omega) g hm hg
theorem qfd {fks:List (List Nat)} {i:Nat} {f:List Nat} (hi:fks[i]?=some f) {g:Nat} (hg:g ∈ f):g ∈ fks.flatten:=List.mem_flatten.2 ⟨f,List.mem_of_getElem? hi,hg⟩
section
variable {Y:Tys} {w w':World} {base d:Nat}
theorem BoxesAt.set_ {bs:List BT} {ps:List Nat} {fks:List (List Nat)} {i p:Nat} {f f':List Nat} {b':BT} (h:BoxesAt Y w base d bs ps fks) (hi:i < bs.length) (hp:ps[i]?=some p) (hf:fks[i]?=some f)
  (hs:w.heap.size<=w'.heap.size) (hk:∀ g,g ∈ fks.flatten->g ∉ f->w'.heap[g]?=w.heap[g]?) (hb:BoxAt Y w' base d b' p f') (hn:∀ g ∈ f',g ∈ f\/w.heap.size<=g):BoxesAt Y w' base d (bs.set i b') ps (fks.set i f'):=by
 have h1:=h.lenP
 have h2:=h.lenF
 have hlt:=h.mem_lt
 refine ⟨by simp [h1],by simp [h2],fun j hj q fq hq hfq=>?_,?_⟩
 ·rw [List.length_set] at hj
  by_cases e:i=j
  ·subst e
   rw [List.getElem?_set_self (by omega)] at hfq
   cases hfq
   rw [hp] at hq
   cases hq
   simpa using hb
  ·rw [List.getElem?_set_ne e] at hfq
   rw [List.getElem_set_ne e]
   exact (h.box j hj q fq hq hfq).keep hs fun g hg=>hk g (qfd hfq hg) fun hm=>qvf h.nodup e hf hfq g hm hg
 ·rw [nodup_flat]
  refine ⟨fun x hx=>?_,fun a b ha hb' hab g hg hm=>?_⟩
  ·obtain ⟨j,hj,rfl⟩:=List.getElem_of_mem hx
   by_cases e:i=j
   ·subst e; simpa using hb.nodup
   ·rw [List.getElem_set_ne e]
    exact (nodup_flat.1 h.nodup).1 _ (List.getElem_mem _)
  ·rw [List.length_set] at ha hb'
   by_cases e1:i=a
   ·subst e1
    have e2:i≠b:=by omega
    rw [List.getElem_set_ne e2] at hm
    simp only [List.getElem_set_self] at hg
    rcases hn g hg with h3 | h3
    ·exact qvf h.nodup e2 hf (List.getElem?_eq_getElem hb') g h3 hm
    ·have:=(hlt g (qfd (List.getElem?_eq_getElem hb') hm)).2
     omega
   ·rw [List.getElem_set_ne e1] at hg
    by_cases e2:i=b
    ·subst e2
     simp only [List.getElem_set_self] at hm
     rcases hn g hm with h3 | h3
     ·exact qvf h.nodup (fun e=>e1 e.symm) (List.getElem?_eq_getElem ha) hf g hg h3
     ·have:=(hlt g (qfd (List.getElem?_eq_getElem ha) hg)).2
      omega
    ·rw [List.getElem_set_ne e2] at hm
     exact (nodup_flat.1 h.nodup).2 a b ha hb' hab g hg hm
theorem BoxesAt.set {bs:List BT} {ps:List Nat} {fks:List (List Nat)} {i p:Nat} {f f':List Nat} {b':BT} (h:BoxesAt Y w base d bs ps fks) (hi:i < bs.length) (hp:ps[i]?=some p) (hf:fks[i]?=some f)
  (hk:Kept f w w') (hb:BoxAt Y w' base d b' p f') (hn:∀ g ∈ f',g ∈ f\/w.heap.size<=g):BoxesAt Y w' base d (bs.set i b') ps (fks.set i f') :=
 h.set_ hi hp hf hk.size (fun g hg hgn=>hk.block g (h.mem_lt g hg).2 hgn) hb hn
theorem BoxAt.mk_ {b:BT} {g:Nat} {kv tv:Value} {ps:List Nat} {fks:List (List Nat)} (h1:Blk w g Y.box (btC b kv tv).toArray) (h2:(shPt Y.ptr).Owns w base kv ps) (h3:(shFg Y.frag).Owns w base tv b.text)
  (h4:BoxesAt Y w base d b.kids ps fks) (hn:(g :: (blkL kv ++ (blkL tv ++ fks.flatten))).Nodup) (hb:base<=g):BoxAt Y w base (d+1) b g (g :: (blkL kv ++ (blkL tv ++ fks.flatten))) :=
 ⟨kv,tv,ps,fks,h1,h2,h3,h4.lenP,h4.lenF,h4.box,rfl,hn,hb⟩
theorem BoxAt.retext {b:BT} {p:Nat} {fp:List Nat} (h:BoxAt Y w base d b p fp):∃ kv tv,Blk w p Y.box (btC b kv tv).toArray/\(shFg Y.frag).Owns w base tv b.text/\p ∉ blkL tv/\(∀ g ∈ blkL tv,g ∈ fp) /\
  (∀ w' t',Kept (blkL tv) w w'->(shFg Y.frag).Owns w' base tv t'->BoxAt Y w' base d (b.told t') p fp) /\
  ∀ w' tv' t',Kept (p :: blkL tv) w w'->Blk w' p Y.box (btC (b.told t') kv tv').toArray->(shFg Y.frag).Owns w' base tv' t'->(∀ g ∈ blkL tv',g ∈ blkL tv\/w.heap.size<=g) ->
   ∃ fp',BoxAt Y w' base d (b.told t') p fp'/\∀ g ∈ fp',g ∈ fp\/w.heap.size<=g:=by
 cases d with
 | zero=>exact h.elim
 | succ d =>
  have hlt:=h.mem_lt
  obtain ⟨kv,tv,ps,fks,h1,h2,h3,h4,h5,h6,h7,h8,h9⟩:=h
  subst h7
  have h8':=h8
  rw [List.nodup_cons,List.nodup_append,List.nodup_append] at h8
  obtain ⟨hp,⟨hkn,⟨htn,hfn,htf⟩,hkt⟩⟩:=h8
  have hpt:p ∉ blkL tv:=fun hm=>hp (List.mem_append_right _ (List.mem_append_left _ hm))
  have hpk:p ∉ blkL kv:=fun hm=>hp (List.mem_append_left _ hm)
  have hkT:∀ g ∈ blkL kv,g ∉ blkL tv:=fun g hg hm=>hkt g hg g (List.mem_append_left _ hm) rfl
  have hfT:∀ g ∈ fks.flatten,g ∉ blkL tv:=fun g hg hm=>htf g hm g hg rfl
  have hfp:p ∉ fks.flatten:=fun hm=>hp (List.mem_append_right _ (List.mem_append_right _ hm))
  refine ⟨kv,tv,h1,h3,hpt,fun g hg=>List.mem_cons_of_mem _ (List.mem_append_right _ (List.mem_append_left _ hg)),fun w' t' hk ho=>?_,fun w' tv' t' hk hb ho hg=>?_⟩
  ·refine ⟨kv,tv,ps,fks,h1.kept hk hpt,h2.kept hk fun g hg=>hkT g (mem_blkL.2 hg),ho,h4,h5,fun i hi p' f' hp' hf'=>(h6 i hi p' f' hp' hf').kept hk fun g hg=>hfT g (qfd hf' hg),rfl,h8',h9⟩
  ·have hkl:∀ g ∈ blkL kv,g < w.heap.size:=fun g hg=>(h2.lt g (mem_blkL.1 hg)).2
   have hfl:∀ g ∈ fks.flatten,g < w.heap.size:=fun g hm=>(hlt g (List.mem_cons_of_mem _ (List.mem_append_right _ (List.mem_append_right _ hm)))).2
   have hpl:p < w.heap.size:=h1.lt
   have hnd:(blkL tv').Nodup:=by unfold blkL; cases tv'.ownBlock <;> simp
   refine ⟨p :: (blkL kv ++ (blkL tv' ++ fks.flatten)),⟨kv,tv',ps,fks,hb,h2.kept hk fun g hm=>?_,ho,h4,h5,fun i hi p' f' hp' hf'=>(h6 i hi p' f' hp' hf').kept hk fun g hm=>?_,rfl,?_,h9⟩,?_⟩
   ·have hm':=mem_blkL.2 hm
    rw [List.mem_cons]
    exact fun e=>e.elim (fun e=>hpk (e ▸ hm')) (hkT g hm')
   ·have hm':=qfd hf' hm
    rw [List.mem_cons]
    exact fun e=>e.elim (fun e=>hfp (e ▸ hm')) (hfT g hm')
   ·rw [List.nodup_cons,List.nodup_append,List.nodup_append]
    refine ⟨fun hm=>?_,hkn,⟨hnd,hfn,fun a ha b' hb' e=>?_⟩,fun a ha b' hb' e=>?_⟩
    ·rcases List.mem_append.1 hm with hm | hm
     ·exact hpk hm
     ·rcases List.mem_append.1 hm with hm | hm
      ·rcases hg p hm with e | e
       ·exact hpt e
       ·omega
      ·exact hfp hm
    ·subst e
     rcases hg a ha with e | e
     ·exact hfT a hb' e
     ·have:=hfl a hb'; omega
    ·subst e
     rcases List.mem_append.1 hb' with hb' | hb'
     ·rcases hg a hb' with e | e
      ·exact hkT a ha e
      ·have:=hkl a ha; omega
     ·exact hkt a ha a (List.mem_append_right _ hb') rfl
   ·intro g hm
    rcases List.mem_cons.1 hm with rfl | hm
    ·exact .inl List.mem_cons_self
    rcases List.mem_append.1 hm with hm | hm
    ·exact .inl (List.mem_cons_of_mem _ (List.mem_append_left _ hm))
    rcases List.mem_append.1 hm with hm | hm
    ·exact (hg g hm).imp_left fun h=>List.mem_cons_of_mem _ (List.mem_append_right _ (List.mem_append_left _ h))
    ·exact .inl (List.mem_cons_of_mem _ (List.mem_append_right _ (List.mem_append_right _ hm)))
end
end Go.Proofs.YtlnekijhbnlclaaGreatDoor
namespace Go.Proofs.YtlnekijhbnlclaaGreatDoor
open Go.RowKit Go.Shelf
attribute [local go_sem] Oper.semAt_some
set_option maxRecDepth 100000 in
set_option maxHeartbeats 2000000 in
theorem hit1 (f:Fr) (x y:Int) (bx bY:Nat) (w:World) (hx:w.cell? ⟨bx,0,none⟩=some (.int .i64 x)) (hy:w.cell? ⟨bY,0,none⟩=some (.int .i64 y)) (b1:bx < w.heap.size) (b2:bY < w.heap.size) :
  Calls Tryz.prog 39 #[f.val,.pointer (some ⟨bx,0,none⟩),.pointer (some ⟨bY,0,none⟩)] w fun e w'=>e=.returned (.bool (cov f x y))/\∃ o,w'=w.alloc o:=by
 obtain ⟨n,p,d,fx,fy,fw,fh,s⟩:=f
 have HC:=Lib.hid (show cov ⟨n,p,d,fx,fy,fw,fh,s⟩ x y=(decide (fx<=x) && decide (x < IntKind.i64.wrap (fx+fw)) && decide (fy<=y) && decide (y < IntKind.i64.wrap (fy+fh))) from rfl)
 show Calls Tryz.prog 39 #[.agg #[.int .i64 n,.int .i64 p,.int .i64 d,.int .i64 fx,.int .i64 fy,.int .i64 fw,.int .i64 fh,.string s],.pointer (some ⟨bx,0,none⟩),.pointer (some ⟨bY,0,none⟩)] w _
 obtain ⟨r,hr⟩:∃ r,IntKind.i64.wrap (fx+fw)=r:=⟨_,rfl⟩
 obtain ⟨b,hb⟩:∃ b,IntKind.i64.wrap (fy+fh)=b:=⟨_,rfl⟩
 have hr':wrap64 (fx+fw)=r:=by rw [<-hr,IntKind.wrap_i64]; unfold wrap64; rfl
 have hb':wrap64 (fy+fh)=b:=by rw [<-hb,IntKind.wrap_i64]; unfold wrap64; rfl
 rw [hr,hb] at HC
 have hx':=(((Below.refl w.heap.size w).alloc (Nat.le_refl _) (.cells #[.int .i64 n,.int .i64 p,.int .i64 d,.int .i64 fx,.int .i64 fy,.int .i64 fw,.int .i64 fh,.string s] 42)).cell (p:=⟨bx,0,none⟩) b1).trans hx
 have hy':=(((Below.refl w.heap.size w).alloc (Nat.le_refl _) (.cells #[.int .i64 n,.int .i64 p,.int .i64 d,.int .i64 fx,.int .i64 fy,.int .i64 fw,.int .i64 fh,.string s] 42)).cell (p:=⟨bY,0,none⟩) b2).trans hy
 have c3:(w.alloc (.cells #[.int .i64 n,.int .i64 p,.int .i64 d,.int .i64 fx,.int .i64 fy,.int .i64 fw,.int .i64 fh,.string s] 42)).cell? ⟨w.heap.size,3,none⟩=some (.int .i64 fx):=by simp [go_sem]
 have c4:(w.alloc (.cells #[.int .i64 n,.int .i64 p,.int .i64 d,.int .i64 fx,.int .i64 fy,.int .i64 fw,.int .i64 fh,.string s] 42)).cell? ⟨w.heap.size,4,none⟩=some (.int .i64 fy):=by simp [go_sem]
 have c5:(w.alloc (.cells #[.int .i64 n,.int .i64 p,.int .i64 d,.int .i64 fx,.int .i64 fy,.int .i64 fw,.int .i64 fh,.string s] 42)).cell? ⟨w.heap.size,5,none⟩=some (.int .i64 fw):=by simp [go_sem]
 have c6:(w.alloc (.cells #[.int .i64 n,.int .i64 p,.int .i64 d,.int .i64 fx,.int .i64 fy,.int .i64 fw,.int .i64 fh,.string s] 42)).cell? ⟨w.heap.size,6,none⟩=some (.int .i64 fh):=by simp [go_sem]
 have h5:¬ fx<=x\/(fx<=x/\¬ x < r)\/(fx<=x/\x < r/\¬ fy<=y)\/(fx<=x/\x < r/\fy<=y/\¬ y < b)\/(fx<=x/\x < r/\fy<=y/\y < b):=by omega
 clear hx hy
 rcases h5 with g1 | ⟨g1,g2⟩ | ⟨g1,g2,g3⟩ | ⟨g1,g2,g3,g4⟩ | ⟨g1,g2,g3,g4⟩
 all_goals
  go_enter Tryz.func39,Tryz.ntmps39
  go_wp2_with fail
  go_ret
  exact ⟨by rw [HC.out]; simp [*] <;> (intros; omega),_,rfl⟩
def qqb (n m:Nat):List Nat:=(List.range (n - m)).map fun j=>n - 1 - j
theorem qwk (n:Nat):qqb n n=[]:=by simp [qqb]
theorem qku (n m:Nat):(qqb n m).length=n - m:=by simp [qqb]
theorem q9m {n m:Nat} (h:m < n):qqb n m=qqb n (m+1) ++ [m]:=by
 unfold qqb
 rw [show n - m=n - (m+1)+1 by omega,List.range_succ,List.map_append]
 simp
 omega
theorem downTo_mem {n m i:Nat}:i ∈ qqb n m↔m<=i/\i < n:=by
 unfold qqb
 simp only [List.mem_map,List.mem_range]
 exact ⟨fun ⟨j,h1,h2⟩=>by omega,fun h=>⟨n - 1 - i,by omega,by omega⟩⟩
def BkI (fs:List Fr) (J:List Nat->World->Prop) (n₀:Nat) (W:World) (i:Value) (wr:World):Prop :=
 ∃ m:Nat,m<=fs.length/\i=.int .i64 ((m:Int) - 1)/\J (qqb fs.length m) wr/\Below n₀ W wr
set_option maxRecDepth 100000 in
set_option maxHeartbeats 4000000 in
theorem q1o (n:Nat) (hn:1<=n) (l b n₀:Nat) (v:Value) (fs:List Fr) (J Jx:List Nat->World->Prop) (hm:fs.length<=2100)
  (hY:∀ pre x W,J pre W->pre.length < fs.length->YieldAt Fence.wide (n - 1) Tryz.prog l #[.int .i64 (x:Nat),(frAt fs x).val] W fun e W' =>
   (e=.returned (.bool true)/\J (pre ++ [x]) W'/\Below n₀ W W')\/(e=.returned (.bool false)/\Jx (pre ++ [x]) W'))
  (W:World) (hBx:W.cell? ⟨b,0,none⟩=some v) (hb:b < n₀) (hF:Frags W n₀ v fs) (h0:J [] W) :
  CallsIn Fence.wide n Tryz.prog 72 #[.func (.yield l) #[] #[],.pointer (some ⟨b,0,none⟩)] W fun e W'=>(∃ v,e=.returned v) /\
   ((∃ ys,ys=qqb fs.length 0/\J ys W')\/(∃ pre,(∃ m,m<=fs.length/\pre=qqb fs.length m)/\Jx pre W')):=by
 refine callsIn_of_wp Tryz.func72 rfl trivial ?_ rfl
 simp only [Tryz.ntmps72,List.size_toArray,List.length_cons,List.length_nil,Nat.reduceAdd,Nat.reduceSub,Array.replicate_succ,Array.replicate_zero,List.push_toArray,List.append_toArray,List.nil_append,List.cons_append]
 obtain ⟨A,c,rfl,hc,hf⟩:=hF
 gi_wp2
 gi_loopw [3] (BkI fs J n₀ W) (fun i _=>(intOf i+1).toNat)
 case atStart=>exact ⟨fs.length,Nat.le_refl _,by go_num,by rw [qwk]; exact h0,Below.refl _ _⟩
 case round =>
  obtain ⟨m,hmn,rfl,hJ,hbr⟩:=hrel
  have hbx:=(hbr.cell (p:=⟨b,0,none⟩) hb).trans hBx
  cases m with
  | zero =>
   have hz:((0:Nat):Int) - 1=-1:=by omega
   rw [hz]
   gi_wp2
   go_end0
   exact ⟨⟨_,rfl⟩,.inl ⟨_,rfl,hJ⟩⟩
  | succ m =>
   rw [show ((m+1:Nat):Int) - 1=(m:Int) by omega]
   obtain ⟨ad,rfl,hbk,hat⟩:=hf (by omega)
   obtain ⟨k0,k1,k2,k3,k4,k5,k6,k7⟩:=(hat m (by omega)).below hbr (by rw [qac]; exact hbk)
   have hD:=q9m (n:=fs.length) (m:=m) (by omega)
   obtain ⟨fn,tmps,assign,body,hy,hR⟩:=hY (qqb fs.length (m+1)) m wr hJ (by rw [qku]; omega)
   rw [<-hD] at hR
   dsimp only [Fr.val] at hy
   rw [q9j (show m < fs.length by omega)] at hy
   have hmc:(m:Int) < (fs.length:Int):=by omega
   clear hat
   generalize fs[m]'(show m < fs.length by omega)=f at *
   obtain ⟨n1,p1,d1,fx,fy,fw,fh,s⟩:=f
   have HD:=Lib.hid hD; clear hD
   gi_wp2
   refine hR.mono ?_
   rintro e W3 (⟨rfl,hJ3,hk3⟩ | ⟨rfl,hJx3⟩)
   ·gi_wp2
    go_roundw
    case rel=>exact ⟨m,by omega,by go_num,hJ3,hbr.trans hk3⟩
    case measure=>simp [intOf] <;> omega
   ·gi_wp2
    refine bodyPost_ret (results_none rfl _ _ _) rfl ?_
    exact ⟨⟨_,rfl⟩,.inr ⟨_,⟨m,by omega,rfl⟩,hJx3⟩⟩
set_option maxHeartbeats 4000000 in
theorem q8w (n:Nat) (A:Option Addr) (len cap:Nat) (w:World) :
  CallsIn Fence.wide n Tryz.prog 56 #[.slice A len cap] w fun e w'=>e=.returned (.func (.func 72) #[] #[.pointer (some ⟨w.heap.size,0,none⟩)]) /\
   w'=w.alloc (.cells #[.slice A len cap] 36):=by
 refine callsIn_of_wp Tryz.func56 rfl trivial ?_ rfl
 simp only [Tryz.ntmps56,List.size_toArray,List.length_cons,List.length_nil,Nat.reduceAdd,Nat.reduceSub,Array.replicate_succ,Array.replicate_zero,List.push_toArray,List.append_toArray,List.nil_append,List.cons_append]
 gi_wp2
 go_ret
 exact ⟨rfl,rfl⟩
theorem qjo (n:Nat) (hn:1<=n) (b n₀:Nat) (v:Value) (fs:List Fr) (hm:fs.length<=2100) (w:World) (hn₀:n₀<=w.heap.size) (hb:b < n₀) (hBx:w.cell? ⟨b,0,none⟩=some v) (hF:Frags w n₀ v fs) :
  SeqStopsK Fence.wide n Tryz.prog 72 #[.pointer (some ⟨b,0,none⟩)] (fun x:Nat=>#[.int .i64 (x:Nat),(frAt fs x).val]) (Below n₀) (fun ys=>ys=qqb fs.length 0) (fun pre=>∃ m,m<=fs.length/\pre=qqb fs.length m) fs.length w:=fun l J Jx W hW _ _ hY h0 =>
 q1o n hn l b n₀ v fs J Jx hm hY W ((hW.cell (p:=⟨b,0,none⟩) (by show b < _; omega)).trans hBx) hb (hF.below (hW.mono hn₀)) h0
end Go.Proofs.YtlnekijhbnlclaaGreatDoor
