/-
  Laws: a region that draws its order, behind whose reads a function value is called that may be a round of a range over a function: first the reads, in whatever order; then two operations. No program.
-/
import Derived.Test.YtlnekijhbnlclaaGreatDoorRunePlain
import Derived.OrdersIn
import Derived.Test.YtlnekijhbnlclaaGreatDoorBlocksPlain
import Derived.Test.YtlnekijhbnlclaaGreatDoorHit
import Derived.Test.YtlnekijhbnlclaaGreatDoorDocFacts
import Derived.Laws.EntriesVeiled
namespace Go.Proofs.YtlnekijhbnlclaaGreatDoor
open Go.RowKit
section
variable {P:Program} {ops opsH:Array Oper} {Q Q':Exit->Act->World->Prop} {md:Region.Mode} {n k:Nat}
theorem q0q {o:Oper} {a:Act} {w:World} {next:Act->World->Prop} (hL:¬ LetsOut Q') (hp:∀ c a w,Q' (.panic c) a w->Q (.panic c) a w) (h:o.wp P a w next Q'):o.wpIn Fence.wide n P a w next Q:=by
 refine ⟨fun _ _=>trivial,?_⟩
 rw [show Fence.wide.round=none from rfl,Oper.semAt_none]
 unfold Oper.wp at h
 revert h
 cases (execOp a.eval o).run P w with
 | halt e w2=>cases e <;> intro h <;> first | exact hp _ _ _ h | exact h | exact h.elim
 | ok u w2 =>
  cases u <;> intro h <;> first | exact h | exact h.elim | skip
  ·exact ⟨fun hh=>(by cases hh),(callsIn_wide.2 h).mono fun e w3 he=>by
    cases e with
    | returned v=>exact he
    | panicked c=>exact hp _ _ _ he
    | outgrown=>exact absurd he hL⟩
  ·exact ⟨fun hh=>(by cases hh),fun c cs _=>let ⟨v,w',r,s⟩:=h c cs; ⟨v,w',r,stepsIn_wide.2 s⟩⟩
theorem qff {A:Array Bool} {i:Nat} (h:i < A.size):A.getD i true=A.getD i false:=by simp [h]
theorem qlm (h1:∀ i,i < k->∃ o,ops[i]?=some o/\opsH[i]?=some o/\o.guard=none/\∀ e ∈ o.after,Region.binds md e=true->e.on < i) {H listed:Array Bool} (hH:H.size=k) (hl:k<=listed.size)
  (hag:∀ i,i < k->H.getD i false=listed.getD i false) (hn:¬ ∀ i,i < k->listed.getD i false=true):∃ i,i < k/\i ∈ Region.ready md opsH H/\i ∈ Region.ready md ops listed:=by
 have key:∀ m,m<=k->(∀ i,i < m->listed.getD i false=true)\/∃ i,i < m/\listed.getD i false=false/\∀ j,j < i->listed.getD j false=true:=by
  intro m
  induction m with
  | zero=>intro _; exact .inl fun i hi=>absurd hi (by omega)
  | succ m ih =>
   intro hm
   rcases ih (by omega) with h | ⟨i,h2,h3⟩
   ·cases hb:listed.getD m false with
    | true =>
     refine .inl fun i hi=>?_
     rcases Nat.lt_or_eq_of_le (Nat.le_of_lt_succ hi) with h4 | rfl
     ·exact h i h4
     ·exact hb
    | false=>exact .inr ⟨m,by omega,hb,h⟩
   ·exact .inr ⟨i,by omega,h3⟩
 rcases key k (Nat.le_refl _) with h | ⟨i,hi,hf,hj⟩
 ·exact absurd h hn
 ·obtain ⟨o,o1,o2,o3,o4⟩:=h1 i hi
  refine ⟨i,hi,mem_ready.2 ⟨?_,o,o2,fun e he hb=>?_⟩,mem_ready.2 ⟨?_,o,o1,fun e he hb=>hj _ (o4 e he hb)⟩⟩
  ·rw [qff (by omega),hag i hi,hf]
  ·have h5:=o4 e he hb
   rw [hag _ (by omega)]
   exact hj _ h5
  ·rw [qff (by omega),hf]
theorem q2o (h1:∀ i,i < k->∃ o,ops[i]?=some o/\opsH[i]?=some o/\o.guard=none/\∀ e ∈ o.after,Region.binds md e=true->e.on < i) (h2:opsH.size=k)
  (h3:∀ j,k<=j->∀ oj,ops[j]?=some oj->∀ i,i < k->qhd md ops ops.size j i=true) (hk:k<=ops.size)
  (hL:¬ LetsOut Q') (hp:∀ c a w,Q' (.panic c) a w->Q (.panic c) a w)
  (hT:∀ (f:Nat) (listed:Array Bool) (a:Act) (w:World),listed.size=ops.size->(∀ i,i < k->listed.getD i false=true)->(∀ j,k<=j->listed.getD j false=false)->Q' .normal a w->wpAnyIn Fence.wide n P md ops Q (f+(ops.size - k)) listed a w) :
  ∀ (fuel:Nat) (H listed:Array Bool) (a:Act) (w:World),H.size=k->listed.size=ops.size->(∀ i,i < k->H.getD i false=listed.getD i false)->(∀ j,k<=j->listed.getD j false=false)->ShutB md ops listed ->
   wpAny P md opsH Q' fuel H a w->wpAnyIn Fence.wide n P md ops Q (fuel+(ops.size - k)) listed a w:=by
 intro fuel
 induction fuel with
 | zero =>
  intro H listed a w hH hl hag htl hsh h
  obtain ⟨hr,hq⟩:=h
  by_cases hfull:∀ i,i < k->listed.getD i false=true
  ·exact hT 0 listed a w hl hfull htl hq
  ·obtain ⟨i,_,hi,_⟩:=qlm h1 hH (by omega) hag hfull
   rw [hr] at hi
   cases hi
 | succ fuel ih =>
  intro H listed a w hH hl hag htl hsh h
  obtain ⟨hnil,hall⟩:=h
  by_cases hfull:∀ i,i < k->listed.getD i false=true
  ·refine hT (fuel+1) listed a w hl hfull htl (hnil ?_)
   refine List.eq_nil_iff_forall_not_mem.2 fun j hj=>?_
   obtain ⟨g1,o,g2,_⟩:=mem_ready.1 hj
   have hjk:j < k:=by rw [<-h2]; exact (Array.getElem?_eq_some_iff.1 g2).1
   rw [qff (by omega),hag j hjk,hfull j hjk] at g1
   cases g1
  ·obtain ⟨i0,_,_,hi0⟩:=qlm h1 hH (by omega) hag hfull
   rw [show fuel+1+(ops.size - k)=(fuel+(ops.size - k))+1 by omega]
   refine ⟨fun h0=>(by rw [h0] at hi0; cases hi0),fun i hi=>?_⟩
   obtain ⟨g1,oi,g2,g3⟩:=mem_ready.1 hi
   rcases Nat.lt_or_ge i k with hik | hik
   ·obtain ⟨o,o1,o2,o3,o4⟩:=h1 i hik
    have hiH:i ∈ Region.ready md opsH H:=mem_ready.2 ⟨by
     rw [qff (by omega),hag i hik,<-qff (by omega)]
     exact g1,o,o2,fun e he hb=>by
     have h5:=o4 e he hb
     rw [hag _ (by omega)]
     rw [g2] at o1
     cases o1
     exact g3 e he hb⟩
    have hop:=hall i hiH
    unfold wpOp at hop
    rw [o2] at hop
    have hw:Region.wanted o (yielded opsH a.tmps)=true:=by simp [Region.wanted,o3]
    have hw':Region.wanted o (yielded ops a.tmps)=true:=by simp [Region.wanted,o3]
    simp only [hw,if_true] at hop
    replace hop:=hop.resolve_right fun h=>hL h.2
    unfold wpOpIn
    rw [o1]
    simp only [hw',if_true]
    refine Oper.wpIn_mono (fun a' w' hK=>ih (H.setIfInBounds i true) (listed.setIfInBounds i true) a' w' (by simpa using hH) (by simpa using hl) (fun j hj=>?_) (fun j hj=>?_) (hsh.set hi) hK) (q0q hL hp hop)
    ·by_cases e:i=j
     ·subst e; simp [hH,hik,hl,show i < ops.size by omega]
     ·rw [getD_set_ne _ e,getD_set_ne _ e,hag j hj]
    ·rw [getD_set_ne _ (by omega)]
     exact htl j hj
   ·exact absurd (fun q hq=>hsh.reach ops.size i q g2 g3 (h3 i hik oi g2 q hq)) hfull
def fullA (k:Nat):Array Bool:=(List.replicate k true ++ [false,false]).toArray
def qrf (l:List Oper) (k:Nat) (hs:List Nat):Bool :=
 decide (l.length=k+2) && mixB .any (l.take k).toArray [] hs [] && hs.all (fun i=>decide (i < k)) &&
 (List.range k).all (fun i=>match l[i]? with
  | some o=>o.guard.isNone && o.after.all fun e=>!Region.binds .any e || decide (e.on < i)
  | none=>false) &&
 (List.range (k+2)).all (fun j=>decide (j < k) || (List.range k).all fun i=>qhd .any l.toArray l.toArray.size j i) &&
 decide (Region.ready .any l.toArray (fullA k)=[k]) && decide (Region.ready .any l.toArray ((fullA k).setIfInBounds k true)=[k+1]) &&
 decide (Region.ready .any l.toArray (((fullA k).setIfInBounds k true).setIfInBounds (k+1) true)=[])
theorem q5r {k:Nat} {A:Array Bool} (hs:A.size=k+2) (h1:∀ i,i < k->A.getD i false=true) (h2:∀ j,k<=j->A.getD j false=false):A=fullA k:=by
 refine Array.ext (by rw [hs]; simp [fullA]) fun i hi hi2=>?_
 have e:A.getD i false=A[i]:=by simp [hi]
 rw [<-e]
 have e2:(fullA k)[i]'hi2=(List.replicate k true ++ [false,false])[i]'(by simpa [fullA] using hi2):=rfl
 rw [e2]
 rcases Nat.lt_or_ge i k with h | h
 ·rw [h1 i h,List.getElem_append_left (by simpa using h)]
  simp
 ·rw [h2 i h,List.getElem_append_right (by simpa using h)]
  have hz:i - k=0\/i - k=1:=by omega
  rcases hz with e | e <;> simp [e]
theorem qsk {l:List Oper} {k:Nat}:∀ (hs:List Nat),(∀ i ∈ hs,i < k)->pickD (l.take k) hs=pickD l hs
 | [],_=>rfl
 | i :: r,h=>by
  unfold pickD
  rw [List.map_cons,List.map_cons]
  congr 1
  ·rw [List.getD_eq_getElem?_getD,List.getD_eq_getElem?_getD,List.getElem?_take_of_lt (h i List.mem_cons_self)]
  ·exact qsk r fun j hj=>h j (List.mem_cons_of_mem _ hj)
theorem qds {id k:Nat} {l:List Oper} (hs:List Nat) (S:World->Prop) (hm:P.follows .mixedOrders=true) (hB:qrf l k hs=true) {a:Act} {w:World} (hS:S w.drew)
  (h:wpQuiet P (l.take k).toArray S (fun a'=>wpOpIn Fence.wide n P l.toArray Q k (fun a w=>wpOpIn Fence.wide n P l.toArray Q (k+1) (fun a w=>Q .normal a w) a w) a' w.drew) (pickD l hs) a) :
  (Code.region id l.toArray true).wpIn Fence.wide n P Q a w:=by
 simp only [qrf,Bool.and_eq_true,decide_eq_true_eq,List.all_eq_true] at hB
 obtain ⟨⟨⟨⟨⟨⟨⟨b1,b2⟩,b3⟩,b4⟩,b5⟩,b6⟩,b7⟩,b8⟩:=hB
 refine wpIn_region_any hm ?_
 have hsz:l.toArray.size=k+2:=by simpa using b1
 have hshz:(l.take k).toArray.size=k:=by simp; omega
 obtain ⟨T,hT⟩:∃ T:Exit->Act->World->Prop,T=fun e a w=>match e with
  | .normal=>wpOpIn Fence.wide n P l.toArray Q k (fun a w=>wpOpIn Fence.wide n P l.toArray Q (k+1) (fun a w=>Q .normal a w) a w) a w
  | _=>False:=⟨_,rfl⟩
 have hmix:wpAny P .any (l.take k).toArray T (l.take k).toArray.size (Array.replicate (l.take k).toArray.size false) a w.drew:=by
  refine qri (S:=S) (x:=[]) (hs:=hs) (ts:=[]) b2 (fun c a d v w h=>by rw [hT] at h; exact h.elim) hS ?_
  have b2':=b2
  simp only [mixB,Bool.and_eq_true] at b2'
  rw [qae hs _ b2'.1.2,qsk hs b3]
  rw [hT]
  exact h
 rw [hshz] at hmix
 have hgo:=q2o (P:=P) (ops:=l.toArray) (opsH:=(l.take k).toArray) (Q:=Q) (Q':=T) (md:=.any) (n:=n) (k:=k)
  (fun i hi=>by
   have h1:=b4 i (List.mem_range.2 hi)
   cases ho:l[i]? with
   | none=>rw [ho] at h1; cases h1
   | some o =>
    rw [ho] at h1
    simp only [Bool.and_eq_true,Option.isNone_iff_eq_none] at h1
    refine ⟨o,by simpa using ho,by simpa [List.getElem?_take_of_lt hi] using ho,h1.1,fun e he hb=>?_⟩
    have h2:=Array.all_eq_true_iff_forall_mem.1 h1.2 e he
    simp only [hb,Bool.not_true,Bool.false_or,decide_eq_true_eq] at h2
    exact h2) hshz
  (fun j hj oj ho i hi=>by
   have hjl:j < k+2:=by rw [<-hsz]; exact (Array.getElem?_eq_some_iff.1 ho).1
   have h1:=b5 j (List.mem_range.2 hjl)
   rw [decide_eq_false (show ¬ j < k by omega),Bool.false_or,List.all_eq_true] at h1
   exact h1 i (List.mem_range.2 hi)) (by omega)
  (by rintro ⟨_,_,hh⟩; rw [hT] at hh; exact hh) (fun c a w hh=>by rw [hT] at hh; exact hh.elim)
  (fun f listed a w e1 e2 e3 hq=>by
   obtain rfl:=q5r (e1.trans hsz) e2 e3
   rw [hsz,show f+(k+2 - k)=f+1+1 by omega]
   rw [hT] at hq
   refine ⟨fun h0=>(by rw [b6] at h0; cases h0),fun i hi=>?_⟩
   rw [b6,List.mem_singleton] at hi
   subst hi
   refine wpOpIn_mono (fun a' w' h2=>?_) hq
   refine ⟨fun h0=>(by rw [b7] at h0; cases h0),fun i hi=>?_⟩
   rw [b7,List.mem_singleton] at hi
   subst hi
   refine wpOpIn_mono (fun a'' w'' h3=>?_) h2
   cases f with
   | zero=>exact ⟨b8,h3⟩
   | succ f=>exact ⟨fun _=>h3,fun i hi=>(by rw [b8] at hi; cases hi)⟩)
  k (Array.replicate k false) (Array.replicate l.toArray.size false) a w.drew (by simp) (by simp) (fun i _=>by rw [getD_replicate_false,getD_replicate_false]) (fun j _=>getD_replicate_false _ _) (ShutB.start _) hmix
 rw [show k+(l.toArray.size - k)=l.toArray.size by omega] at hgo
 exact hgo
theorem qip {o1 o2:Oper} (h1:ops[k]?=some o1) (h2:ops[k+1]?=some o2) (a:Act) (w:World) :
  wpOpIn Fence.wide n P ops Q k (fun a w=>wpOpIn Fence.wide n P ops Q (k+1) (fun a w=>Q .normal a w) a w) a w=wpListIn Fence.wide n P ops Q [o1,o2] a w:=by
 have e:(fun a w=>wpOpIn Fence.wide n P ops Q (k+1) (fun a w=>Q .normal a w) a w)=wpListIn Fence.wide n P ops Q [o2]:=by
  funext a w
  unfold wpOpIn
  rw [h2]
  rfl
 rw [e]
 unfold wpOpIn
 rw [h1]
 rfl
theorem qou {id k:Nat} {l:List Oper} (hs:List Nat) (S:World->Prop) (hm:P.follows .mixedOrders=true) (hB:qrf l k hs=true) {a:Act} {w:World} (hS:S w.drew)
  (h:wpQuiet P (l.take k).toArray S (fun a'=>wpListIn Fence.wide n P l.toArray Q (l.drop k) a' w.drew) (pickD l hs) a) :
  (Code.region id l.toArray true).wpIn Fence.wide n P Q a w:=by
 have hB':=hB
 simp only [qrf,Bool.and_eq_true,decide_eq_true_eq] at hB'
 have hl:=hB'.1.1.1.1.1.1.1
 have hd:l.drop k=[l[k]'(by omega),l[k+1]'(by omega)]:=by
  rw [List.drop_eq_getElem_cons (by omega),List.drop_eq_getElem_cons (by omega),List.drop_of_length_le (by omega)]
 have e:(fun a'=>wpListIn Fence.wide n P l.toArray Q (l.drop k) a' w.drew)=fun a'=>wpOpIn Fence.wide n P l.toArray Q k (fun a w=>wpOpIn Fence.wide n P l.toArray Q (k+1) (fun a w=>Q .normal a w) a w) a' w.drew:=by
  funext a'
  rw [hd]
  exact (qip (by simp) (by simp) _ _).symm
 rw [e] at h
 exact qds hs S hm hB hS h
end
end Go.Proofs.YtlnekijhbnlclaaGreatDoor
namespace Go.Proofs.YtlnekijhbnlclaaGreatDoor
open Go.RowKit Go.Shelf
attribute [local go_sem] Oper.semAt_some
theorem q5q {β:Type} (B:Nat) (T e:TypeId) (n b:Nat) (f:β->List Value):OwnFrom B (fun (s:β) W=>Lib.IsBuilderF T e n b (f s) W):=fun s X Y row hs hg hr=>by
 have ne:∀ k c t fz,X.heap[k]?=some (.cells c t fz)->some k≠row:=fun k c t fz h e=>by
  obtain ⟨_,o,ho,hc⟩:=hr k e.symm
  rw [h] at ho
  cases ho
  cases hc
 have key:∀ p,Lib.BuilderAtF T e n b p (f s) X->Lib.BuilderAtF T e n b p (f s) Y:=fun p ⟨hb,v,hk,hv,hne⟩=>by
  have hlt:b < X.heap.size:=(Array.getElem?_eq_some_iff.1 hk).1
  refine ⟨hb,v,(hg.block b hlt (ne _ _ _ _ hk)).trans hk,hv.kept hg ?_,hne⟩
  rcases hv.2 with ⟨rfl,_⟩ | ⟨g,cap,cur,fz,rfl,_,hgk,_⟩
  ·exact .inl rfl
  ·exact .inr (fun e=>ne _ _ _ _ hgk (by simpa [Value.ownBlock] using e))
 exact hs.imp (key _) (key _)
theorem qlh {e:TypeId} {b k:Nat} {t:TypeId} {v:Value} {X Y:World} (h:Boxed X k t v) (ho:Lib.OthersKept e (some b) X Y) (hk:k≠b) (ht:t≠e):Boxed Y k t v :=
 ho k _ h (fun e=>hk (Option.some.inj e)) (fun c fz e=>by cases e; exact ht rfl)
theorem qsr {k:Nat} {t:TypeId} {v:Value} {X Z Y:World} {row:Option Nat} (h:Boxed X k t v) (hx:X.heap=Z.heap) (g:Z.grownBy Y row) (hne:row=none):Boxed Y k t v:=by
 subst hne
 have h':Boxed Z k t v:=by unfold Boxed at *; rw [<-hx]; exact h
 exact h'.kept g (by simp)
theorem q1q {e:TypeId} {B b:Nat} {X Y:World} {cs:Array Value} {t:TypeId} {fz:Nat×Nat} (hs:X.heap.size<=Y.heap.size) (ho:Lib.OthersKept e (some b) X Y) (hb:X.heap[b]?=some (.cells cs t fz)):KeepsFrom B X Y :=
 ⟨hs,fun k o _ hk hc=>ho k o hk (fun e=>by cases e; rw [hb] at hk; cases hk; cases hc) (fun c fz e=>by subst e; cases hc)⟩
theorem qhi {T e:TypeId} {n b:Nat} {bs:List Value} {X:World} (h:Lib.IsBuilderF T e n b bs X):∃ cs,X.heap[b]?=some (.cells cs T (0,0)):=by
 rcases h with ⟨_,v,hk,_⟩ | ⟨_,v,hk,_⟩ <;> exact ⟨_,hk⟩
theorem qtp {ops:Array Oper} {o:Oper} {a:Act} {K:Act->World->Prop} {Q:Exit->Act->World->Prop} {E:Prop} (w:World) (p:Pc) (k:Value) (t:Value) (hk:k=.int .u8 (p.1:Nat)) (ht:t=.string (mkB p.2)) (hgd:o.guard=none) (s y:Operand)
  (ho:o.op=.call { callee:=.builtin .append,args:=#[s,y],argTypes:=#[237,237] })
  (base:Nat) (v:Value) (L:List Pc) (hs:a.eval s=v) (hown:OwnsP w base v L)
  (hx:a.eval y=.slice (some ⟨w.heap.size,0,none⟩) 1 1)
  (h47:L.length < 1000000) (hbase:base<=w.heap.size)
  (h:∀ v' w',OwnsP w' base v' (L ++ [p])->Below base w w'->w.grownBy w' v.ownBlock->K (a.put o.dst v') w') :
  if Region.wanted o (yielded ops a.tmps)=true then Oper.wp Tryz.prog o a (w.alloc (.cells #[k,t] 240)) K Q else E:=by
 subst hk ht
 obtain ⟨i0,hi0,hz0,hz1,hz2⟩:=info_parts Tryz.infoPiece
 have hlt:=fun k (e:v.ownBlock=some k)=>(World.ownsRow.lt hown k e).1
 refine qnf _ hgd s y _ ho base 240 i0 _ 2 24 Tryz.underlying237 hi0 hz0 hz1 hz2 rfl (by omega) v _ _ hs (World.ownsRow.alloc hown _) (w.heap.size+1) _ 1 1 (encP p) hx ?_ ?_ (by simp only [maxLen]; omega) (by omega) (by simp; omega) ?_
 ·exact ⟨rfl,fun _=>⟨_,rfl,by simp,qjg w p⟩⟩
 ·intro u hu
  simp [encP] at hu
  rcases hu with rfl | rfl <;> rfl
 ·intro v' w' h1 h2 _
  refine h v' w' (by unfold OwnsP; rw [List.length_append,qyg]; exact h1) ?_ ⟨h2.os,h2.tape,h2.output,Nat.le_trans (by simp) h2.size,fun i hi hne=>(h2.block i (by simp; omega) hne).trans (Below.heap_alloc w _ i hi)⟩
  exact ((Below.refl base w).alloc hbase _).grown h2 (by simp; omega) (fun k e=>hlt k e)
theorem qfx {w:World} {base:Nat} {v:Value} {p:Pc} (h:OwnsP w base v ([] ++ [p])):∃ g cap,v=.slice (some ⟨g,0,none⟩) 1 cap:=by
 rcases h.2 with ⟨_,e⟩ | ⟨g,cap,cur,rfl,_⟩
 ·simp at e
 ·exact ⟨g,cap,rfl⟩
theorem qqo {M:List UInt8} {B D g cap:Nat} {w w4 w5 w6:World} (hB1:Below B w w4) (hK:w4.heap[D]?=some (.deferred (some []))) (hD:B+3<=D)
  (h2:Below (B+1) w4.drew w5) (h3:Lib.OthersKept 5 (some (B+1)) w4.drew w5) (h6:Boxed w6 B 237 (.slice none 0 0))
  (g1:OwnsP w6 B (.slice (some ⟨g,0,none⟩) 1 cap) ([] ++ [(0,M)])) (g2:Below B w5 w6) (g3:w5.grownBy w6 (Value.slice none 0 0).ownBlock) :
  (w6.setCell ⟨B,0,none⟩ (.slice (some ⟨g,0,none⟩) 1 cap)).heap[D]?=some (.deferred (some []))/\(w6.setCell ⟨B,0,none⟩ (.slice (some ⟨g,0,none⟩) 1 cap)).cell? ⟨B,0,none⟩=some (.slice (some ⟨g,0,none⟩) 1 cap) /\
  OwnsP (w6.setCell ⟨B,0,none⟩ (.slice (some ⟨g,0,none⟩) 1 cap)) B (.slice (some ⟨g,0,none⟩) 1 cap) [(0,M)]/\Below B w (w6.setCell ⟨B,0,none⟩ (.slice (some ⟨g,0,none⟩) 1 cap)):=by
 have hK5:w5.heap[D]?=some (.deferred (some [])):=h3 D _ hK (fun e=>by have:=Option.some.inj e; omega) (fun c fz e=>by cases e)
 have hK6:w6.heap[D]?=some (.deferred (some [])):=(g3.block D (Array.getElem?_eq_some_iff.1 hK5).1 (by simp [Value.ownBlock])).trans hK5
 refine ⟨(KeepsOthers.setCell w6 ⟨B,0,none⟩ _).same D _ hK6 rfl,(h6.set _).cell,?_,?_⟩
 ·exact World.ownsRow.kept (row:=some B) g1 (q9r (World.grownBy.refl w6 (some B)) (.inl rfl) _) (.inr (qqh g1 (show Blk w6 B 237 #[.slice none 0 0] from h6) (by decide)))
 ·exact (hB1.trans ((((Below.refl (B+1) w4).drew.trans h2).mono (by omega)).trans g2)).setCell (p:=⟨B,0,none⟩) (Nat.le_refl _) _
theorem qbp (l:List UInt8) (pre:List (Nat×Nat)):(pre.flatMap (txS l)).length<=pre.length * (l.length+1):=by
 induction pre with
 | nil=>simp
 | cons x pre ih =>
  have h1:(txS l x).length<=l.length+1:=by
   unfold txS sub
   split
   ·simp
   ·simp; omega
  rw [List.flatMap_cons,List.length_append,List.length_cons,Nat.add_mul]
  omega
theorem qcx {l:List UInt8} (h:nrm false l=[]):l=[]:=by
 cases l with
 | nil=>rfl
 | cons c l =>
  rw [qwo] at h
  split at h
  ·simp at h
  ·simp at h
def CsAx (s:Nat) (l:List UInt8) (x:Nat×Nat) (a':Act) (_:World):Prop :=
 ∃ u0 u1 u2 u3 u4 u6 u7 u11 u12 u13 u14 u15 u16 u17 u18 u19 u20 u21 u22 u23 u24 u25 u26 u27 u28 u29 u30 u31 u32 u33 u34 u35 u36 u37 u38 u39 u40 u41 u42 u43 u44 u45 u46 u47 u48 u49 u50 u51 u52 u53 u54 u55 u56 u57 u58 u59 u60 u61 u62 u63 u64 u65 u66 u67 u68 u69 u70:Value,a'={ tmps:=#[u0,u1,u2,u3,u4,.pointer (some ⟨s,0,none⟩),u6,u7,.pointer (some ⟨s+1,0,none⟩),.string (mkB (sub l x)),.bool (bAt l x.1),u11,u12,u13,u14,u15,u16,u17,u18,u19,u20,u21,u22,u23,u24,u25,u26,u27,u28,u29,u30,u31,u32,u33,u34,u35,u36,u37,u38,u39,u40,u41,u42,u43,u44,u45,u46,u47,u48,u49,u50,u51,u52,u53,u54,u55,u56,u57,u58,u59,u60,u61,u62,u63,u64,u65,u66,u67,u68,u69,u70],defers:=[] }
def CsI (l:List UInt8) (s:Nat) (w:World) (pre:List (Nat×Nat)) (W:World):Prop :=
 (Lib.IsBuilderF 282 5 (s+1) (s+1) (Lib.byteCells (pre.flatMap (txS l))) W/\Boxed W s 237 (.slice none 0 0))/\Below s w W
theorem qdv (l:List UInt8) (s B:Nat) (w:World) (hs:s<=w.heap.size) (hB:s<=B):OwnFrom B (CsI l s w) :=
 OwnFrom.and (OwnFrom.and (q5q B _ _ _ _ fun pre:List (Nat×Nat)=>Lib.byteCells (pre.flatMap (txS l))) (Own.from (boxed_own s 237 (fun _:List (Nat×Nat)=>.slice none 0 0)) _)) (ownFrom_below hs hB)
set_option maxRecDepth 100000 in
set_option maxHeartbeats 4000000 in
theorem qpt (s:ByteArray) (hs:s.size<=4000) (w:World):Calls Tryz.prog 149 #[.string s,.int .u8 1] w (qye 1 s w):=by
 have HR:=Lib.hid (q3t s.data.toList)
 refine (callsIn_wide (n:=6)).1 ?_
 refine callsIn_of_wp_marks Tryz.func149 rfl trivial ?_ rfl
 simp only [Tryz.ntmps149,List.size_toArray,List.length_cons,List.length_nil,Nat.reduceAdd,Nat.reduceSub,Array.replicate_succ,Array.replicate_zero,List.push_toArray,List.append_toArray,List.nil_append,List.cons_append]
 gi_wp2
 have hb2:Below w.heap.size w ((w.alloc (.cells #[.slice none 0 0] 237)).alloc (.cells #[.pointer none,.slice none 0 0] 282)):=((Below.refl _ w).alloc (Nat.le_refl _) _).alloc (by simp) _
 have hs2:((w.alloc (.cells #[.slice none 0 0] 237)).alloc (.cells #[.pointer none,.slice none 0 0] 282)).heap.size=w.heap.size+2:=by simp
 have bO2:=(Boxed.new w 237 (.slice none 0 0)).alloc (.cells #[.pointer none,.slice none 0 0] 282)
 have bB2:Lib.IsBuilderF 282 5 (w.heap.size+1) (w.heap.size+1) [] ((w.alloc (.cells #[.slice none 0 0] 237)).alloc (.cells #[.pointer none,.slice none 0 0] 282)) :=
  .inl ⟨Nat.le_refl _,.slice none 0 0,by have:=heap_alloc_new (w.alloc (.cells #[.slice none 0 0] 237)) (.cells #[.pointer none,.slice none 0 0] 282); rwa [World.size_alloc] at this,World.ownsRowF_nil _ _ _ _,by simp [Value.ownBlock]⟩
 generalize (w.alloc (.cells #[.slice none 0 0] 237)).alloc (.cells #[.pointer none,.slice none 0 0] 282)=W2 at *
 refine ⟨trivial,(qej _ s W2).mono ?_⟩
 rintro e w3 ⟨rfl,rfl⟩
 simp only [hs2]
 have bS:=Boxed.new W2 9 (.string s)
 rw [hs2] at bS
 have bO:=bO2.alloc (.cells #[.string s] 9)
 have bB:=bB2.alloc (.cells #[.string s] 9)
 have hb0:Below w.heap.size w (W2.alloc (.cells #[.string s] 9)):=hb2.alloc (by omega) _
 have hs0:(W2.alloc (.cells #[.string s] 9)).heap.size=w.heap.size+3:=by simp; omega
 generalize W2.alloc (.cells #[.string s] 9)=W0 at *
 clear bO2 bB2 hb2 hs2
 gi_wp2
 refine wpIn_rangeFunc_ownH rfl (by omega) (gf:=202) (lb:=#[.pointer (some ⟨w.heap.size+2,0,none⟩)]) rfl trivial (enters_of Tryz.func202 (by kernel_rfl) rfl)
  (qkj 5 (by omega) (w.heap.size+2) w.heap.size s hs W0 bS) KeepS.trans (KeepS.put (by omega)) (Below.refl _ _) (fun _=>rfl)
  (CsI s.data.toList w.heap.size w) (fun _ _ _=>False) (qdv _ _ _ _ (Nat.le_refl _) (by omega)) (fun _ _ _ _ _ hs _ _=>hs)
  ⟨⟨bB,bO⟩,hb0⟩ (CsAx w.heap.size s.data.toList) (fun x a'=>fun _ _ _ _ h _ _=>h) ?assign ?body ?done ?stop
 case assign =>
  rintro l pre x W K hi1 hK
  unfold encR
  gi_wp2
  exact hK _ _ (KeepsFrom.refl _ _) (KeepS.refl _ _ _) hi1 ⟨_,_,_,_,_,_,_,_,_,_,_,_,_,_,_,_,_,_,_,_,_,_,_,_,_,_,_,_,_,_,_,_,_,_,_,_,_,_,_,_,_,_,_,_,_,_,_,_,_,_,_,_,_,_,_,_,_,_,_,_,_,_,_,_,_,_,_,rfl⟩
 case body =>
  rintro l pre x a' W hl _ ⟨⟨hv,ho⟩,hB1⟩ ⟨u0,u1,u2,u3,u4,u6,u7,u11,u12,u13,u14,u15,u16,u17,u18,u19,u20,u21,u22,u23,u24,u25,u26,u27,u28,u29,u30,u31,u32,u33,u34,u35,u36,u37,u38,u39,u40,u41,u42,u43,u44,u45,u46,u47,u48,u49,u50,u51,u52,u53,u54,u55,u56,u57,u58,u59,u60,u61,u62,u63,u64,u65,u66,u67,u68,u69,u70,rfl⟩ hlt
  have hsW:=hB1.size
  have hfl:=qbp s.data.toList pre
  rw [q6e] at hfl
  have hbd:(pre.flatMap (txS s.data.toList)).length<=4000 * 4001:=Nat.le_trans hfl (Nat.mul_le_mul (by omega) (by omega))
  have hb0:bAt s.data.toList x.1=isB (s.data.toList.getD x.1 0):=rfl
  have hsub:(sub s.data.toList x).length<=4000:=by unfold sub; simp; omega
  have hws:=fun (t:List UInt8) (ht:t.length<=4000)=>Tryz.Builder_WriteString_k (w.heap.size+1) (w.heap.size+1) _ (mkB t) W hv (by rw [qti]; simp [Lib.byteCells]; simp at hbd; omega) (by
   obtain ⟨cs,hk⟩:=qhi hv
   have:=(Array.getElem?_eq_some_iff.1 hk).1
   omega)
  have fin:∀ (t:List UInt8) (W':World),txS s.data.toList x=t->Lib.BuilderAtF 282 5 (w.heap.size+1) (w.heap.size+1) (.pointer (some ⟨w.heap.size+1,0,none⟩)) (Lib.byteCells (pre.flatMap (txS s.data.toList)) ++ Lib.byteCells (mkB t).data.toList) W' ->
    Below (w.heap.size+1) W W'->Lib.OthersKept 5 (some (w.heap.size+1)) W W'->KeepsFrom W0.heap.size W W'/\KeepS w.heap.size (w.heap.size+2) W W'/\CsI s.data.toList w.heap.size w (pre ++ [x]) W':=fun t W' ht h1 h2 h3=>by
   obtain ⟨cs,hk⟩:=qhi hv
   refine ⟨q1q h2.size h3 hk,⟨h2.mono (by omega),fun v hb=>qlh hb h3 (by omega) (by decide)⟩,⟨.inr ?_,qlh ho h3 (by omega) (by decide)⟩,hB1.trans (h2.mono (by omega))⟩
   rw [List.flatMap_append,List.flatMap_cons,List.flatMap_nil,List.append_nil,ht]
   unfold Lib.byteCells
   rw [List.map_append]
   exact h1
  clear hfl hbd
  cases hb:bAt s.data.toList x.1 with
  | true =>
   have HP:=Lib.hid (show txS s.data.toList x=[32] by unfold txS; rw [if_pos (hb0.symm.trans hb)])
   clear hb hb0
   have hw1:=hws [32] (by decide)
   have HF:=Lib.hid (fin [32])
   clear hws fin
   gi_wp2
   refine ⟨trivial,(CallsIn.inRound l (callsIn_wide.2 hw1)).mono ?_⟩
   rintro e W' ⟨rfl,h1,h2,h3⟩
   gi_wp2
   exact HF.out W' HP.out h1 h2 h3
  | false =>
   have HP:=Lib.hid (show txS s.data.toList x=sub s.data.toList x by unfold txS; rw [if_neg (by rw [<-hb0,hb]; decide)])
   clear hb hb0
   have hw1:=hws (sub s.data.toList x) hsub
   have HF:=Lib.hid (fin (sub s.data.toList x))
   clear hws fin
   gi_wp2
   refine ⟨trivial,(CallsIn.inRound l (callsIn_wide.2 hw1)).mono ?_⟩
   rintro e W' ⟨rfl,h1,h2,h3⟩
   gi_wp2
   exact HF.out W' HP.out h1 h2 h3
 case done =>
  rintro D ys W hD rfl ⟨⟨hv,ho⟩,hB1⟩ hK
  rw [<-HR.out] at hv
  have hln:=Tryz.Builder_Len_f _ _ _ _ hv
  have hc:=ho.cell
  have hf:=ho.frozen
  have hBl:(Lib.byteCells (nrm false s.data.toList)).length=(nrm false s.data.toList).length:=by simp [Lib.byteCells]
  rw [hBl] at hln
  gi_wp2
  refine ⟨trivial,(callsIn_wide.2 hln).mono ?_⟩
  rintro e w4 ⟨rfl,rfl⟩
  rcases List.eq_nil_or_concat (nrm false s.data.toList) with hn | ⟨M,cc,hn⟩
  ·have HE:=Lib.hid (show cutR 1 s.data.toList=[] by show cutS _=[]; rw [qcx hn]; rfl)
   rw [hn]
   clear hln hv hn
   gi_wp2
   refine ⟨by simp,.inl ⟨_,_,rfl,run_takeDeferred hK,?_⟩⟩
   refine ⟨_,results_tmp rfl _ _ _,_,rfl,?_,hB1.trans (belowK_b (w:=W0) (by omega) w4 D _ _ hD hK rfl rfl)⟩
   rw [HE.out]
   exact OwnsP.nil _ _
  ·have HE:=Lib.hid (show cutR 1 s.data.toList=[(0,nrm false s.data.toList)] by
    show cutS _=_
    unfold cutS
    rw [if_neg (fun e=>by rw [e] at hn; simp [nrm] at hn)])
   have h0:(0:Int) < ((nrm false s.data.toList).length:Nat):=by rw [hn]; simp
   have hod:Boxed w4.drew w.heap.size 237 (.slice none 0 0):=ho
   have hst:=Tryz.Builder_String_any_k (w.heap.size+1) (w.heap.size+1) _ w4.drew hv (by
    obtain ⟨cs,hk⟩:=qhi hv
    exact Nat.le_of_lt (Array.getElem?_eq_some_iff.1 hk).1)
   generalize nrm false s.data.toList=M at *
   clear hn hln
   have HV:=Lib.hid hv
   clear hv
   gi_wp2_with fail
   refine wpIn_wide.2 ?_
   have hbw:w.heap.size<=w4.heap.size:=hB1.size
   refine wp_region_noPanic ?_
   go_region_law (first | (go_simp; go_at_call 173; with_reducible refine hst.mono ?_; rintro e w5 ⟨rfl,h1,h2,h3⟩; have ho5:=qlh hod h3 (by omega) (by decide); have hc5:=ho5.cell; have hf5:=ho5.frozen; have hc5a:=(ho5.alloc (.cells #[.int .u8 0,.string ⟨M.toArray⟩] 240)).cell; have hz5:=Nat.le_trans hbw h2.size) | (refine qtp _ (0,M) _ _ (by rfl) (by rfl) (by rfl) _ _ (by rfl) w.heap.size _ [] (by rfl) (OwnsP.nil _ _) (by rfl) (by decide) hz5 ?_; intro v6 w6 g1 g2 g3; obtain ⟨g',cap',rfl⟩:=qfx g1; have ho6:=qsr ho5 rfl g3 rfl; have hc6:=ho6.cell; have hf6:=ho6.frozen))
   all_goals
    obtain ⟨hK7,hc7,hO7,hB7⟩:=qqo hB1 hK (by omega) h2 h3 ho6 g1 g2 g3
    refine NoPanic.normal ?_
    clear g1 g2 g3 ho5 ho6 hc5 hc6 hf5 hf6 hc5a h1 h2 h3 hst hod
    generalize w6.setCell ⟨w.heap.size,0,none⟩ (.slice (some ⟨g',0,none⟩) 1 cap')=W7 at *
    gi_wp2
    refine ⟨by simp,.inl ⟨_,_,rfl,run_takeDeferred hK7,?_⟩⟩
    refine ⟨_,results_tmp rfl _ _ _,_,rfl,?_,hB7.trans (belowK_b (w:=W0) (by omega) W7 D _ _ hD hK7 rfl rfl)⟩
    rw [HE.out]
    exact ownsRow_putObj hO7 _ hK7 rfl
 case stop =>
  rintro D c pre W _ _ h _
  exact h.elim
end Go.Proofs.YtlnekijhbnlclaaGreatDoor
namespace Go.Proofs.YtlnekijhbnlclaaGreatDoor
open Go.RowKit Go.Shelf
theorem qlf {ops:Array Oper} {rest:List Oper} {o:Oper} {a:Act} {Q:Exit->Act->World->Prop} (w:World) (p:Pc) (k:Value) (t:Value) (hk:k=.int .u8 (p.1:Nat)) (ht:t=.string (mkB p.2)) (hgd:o.guard=none) (s y:Operand)
  (ho:o.op=.call { callee:=.builtin .append,args:=#[s,y],argTypes:=#[237,237] })
  (base B:Nat) (v:Value) (L:List Pc) (hs:a.eval s=v) (hown:OwnsP w base v L) (hv:Boxed w B 237 v)
  (nn:Nat) (hn:nn=w.heap.size) (hx:a.eval y=.slice (some ⟨nn,0,none⟩) 1 1)
  (h47:L.length < 1000000) (hbase:base<=w.heap.size) (hB:base<=B)
  (h:∀ g cap w',Boxed w' B 237 v->Boxed (w'.setCell ⟨B,0,none⟩ (.slice (some ⟨g,0,none⟩) (L.length+1) cap)) B 237 (.slice (some ⟨g,0,none⟩) (L.length+1) cap) ->
   OwnsP (w'.setCell ⟨B,0,none⟩ (.slice (some ⟨g,0,none⟩) (L.length+1) cap)) base (.slice (some ⟨g,0,none⟩) (L.length+1) cap) (L ++ [p]) ->
   Below base w (w'.setCell ⟨B,0,none⟩ (.slice (some ⟨g,0,none⟩) (L.length+1) cap)) ->
   (∀ k cs t,t≠240->k≠B->Blk w k t cs->Blk (w'.setCell ⟨B,0,none⟩ (.slice (some ⟨g,0,none⟩) (L.length+1) cap)) k t cs) ->
   wpList Tryz.prog ops Q rest (a.put o.dst (.slice (some ⟨g,0,none⟩) (L.length+1) cap)) w'):wpList Tryz.prog ops Q (o :: rest) a (w.alloc (.cells #[k,t] 240)):=by
 subst hk ht hn
 obtain ⟨i0,hi0,hz0,hz1,hz2⟩:=info_parts Tryz.infoPiece
 refine qig _ hgd s y _ ho base 240 i0 _ 2 24 Tryz.underlying237 hi0 hz0 hz1 hz2 rfl (by omega) v _ _ hs (World.ownsRow.alloc hown _) (w.heap.size+1) _ 1 1 (encP p) hx ?_ ?_ (by simp only [maxLen]; omega) (by omega) (by simp; omega) ?_
 ·exact ⟨rfl,fun _=>⟨_,rfl,by simp,qjg w p⟩⟩
 ·intro u hu
  simp [encP] at hu
  rcases hu with rfl | rfl <;> rfl
 ·intro v' w' h1 h2 _
  obtain ⟨g,cap,rfl⟩:∃ g cap,v'=.slice (some ⟨g,0,none⟩) (L.length+1) cap:=by
   rcases h1.2 with ⟨_,e⟩ | ⟨g,cap,cur,rfl,_⟩
   ·omega
   ·exact ⟨g,cap,rfl⟩
  obtain ⟨k1,k2,k3,k4,k5⟩:=hv.appended (by decide) hown hbase hB h1 h2
  refine h g cap w' k1 k2 (by unfold OwnsP; rw [List.length_append,qyg]; exact k3) k5 fun k cs t ht hk hb=>?_
  have hb1:Blk w' k t cs:=(hb.alloc _).grown h2 (qqh hown hb (Ne.symm ht)).symm
  exact hb1.far (p:=⟨B,0,none⟩) hk _
def qkb (s:ByteArray):List ByteArray:=Lib.splitB ⟨#[10]⟩ 0 (Lib.countB s ⟨#[10]⟩) s
def q5b (s:ByteArray):List (List UInt8):=(qkb s).map (·.data.toList)
theorem qyv (s:ByteArray):(qkb s).length=Lib.countB s ⟨#[10]⟩+1:=Lib.splitB_all _ (by decide) 0 _ s rfl
theorem q7u (s:ByteArray):Lib.countB s ⟨#[10]⟩<=s.size:=Lib.countB_le _ (by decide) s.size s (Nat.le_refl _)
theorem qnu (s:ByteArray):qhb (q5b s)=cutK s.data.toList:=by
 have h:=(q1j _ s.data.toList (Nat.le_refl _)).1
 rw [<-h]
 unfold q5b qkb
 rw [Lib.splitB_data]
 rfl
theorem q6w {Ls:List (List UInt8)} {k:Nat} (h:k < Ls.length):qhb (Ls.take (k+1))=qhb (Ls.take k) ++ q0b (decide (k=0)) Ls[k]:=by
 rw [List.take_succ_eq_append_getElem h,q2n,List.length_take]
 congr 2
 rw [decide_eq_decide]
 omega
theorem qqn:∀ (Ls:List (List UInt8)),(qhb Ls).length<=2 * Ls.length:=by
 intro Ls
 rcases List.eq_nil_or_concat Ls with rfl | ⟨M,a,rfl⟩
 ·simp [qhb]
 ·rw [List.concat_eq_append,q2n]
  have:=qqn M
  have h2:(q0b (decide (M.length=0)) a).length<=2:=by unfold q0b; split <;> split <;> simp
  simp at h2 ⊢
  omega
termination_by Ls=>Ls.length
def KpA (s:ByteArray) (B:Nat) (w:World) (i:Value) (wr:World):Prop :=
 ∃ k:Nat,k<=(qkb s).length/\i=.int .i64 k/\(∃ v,Boxed wr B 237 v/\OwnsP wr B v (qhb ((q5b s).take k)))/\Below B w wr/\Blk wr (B+1) 9 ((qkb s).map Value.string).toArray
theorem str_nil {t:ByteArray}:t.data.toList=[]↔t.toList.isEmpty=true:=by
 rw [Go.Lib.toList_data]
 simp
set_option maxRecDepth 100000 in
set_option maxHeartbeats 4000000 in
theorem qvp (s:ByteArray) (hs:s.size<=4000) (m:Int) (w:World) (hm:w.cell? ⟨2,0,none⟩=some (.int .i64 m)) :
  Calls Tryz.prog 149 #[.string s,.int .u8 2] w (qye 2 s w):=by
 have hb0:Below w.heap.size w (w.alloc (.cells #[.slice none 0 0] 237)):=(Below.refl _ w).alloc (Nat.le_refl _) _
 have bO:=Boxed.new w 237 (.slice none 0 0)
 have hz0:(w.alloc (.cells #[.slice none 0 0] 237)).heap.size=w.heap.size+1:=by simp
 have hsp:=Tryz.strings_Split s ⟨#[10]⟩ m (w.alloc (.cells #[.slice none 0 0] 237)) (by omega) (cell_later hb0 hm) (by decide)
 have HC:=Lib.hid (qnu s)
 have hll:=qyv s
 have hle:=q7u s
 have hLL:(q5b s).length=(qkb s).length:=by unfold q5b; simp
 change Calls _ _ _ _ fun e w'=>e=_/\w'=World.alloc _ (.cells ((qkb s).map Value.string).toArray 9) at hsp
 rw [<-hll] at hsp
 have HLL:=Lib.hid hLL
 have hle2:(qkb s).length<=4001:=by omega
 clear hll hle hLL
 go_enter Tryz.func149,Tryz.ntmps149
 go_wp2_with fail
 refine hsp.mono ?_
 rintro e w2 ⟨rfl,hw2⟩
 have hb2:Below w.heap.size w w2:=by rw [hw2]; exact hb0.alloc (by omega) _
 have bO2:Boxed w2 w.heap.size 237 (.slice none 0 0):=by rw [hw2]; exact bO.alloc _
 have hL2:Blk w2 (w.heap.size+1) 9 ((qkb s).map Value.string).toArray:=by rw [hw2,<-hz0]; exact Blk.new _ _ _
 rw [hz0]
 clear hw2 hsp hb0 bO hz0
 go_wp2_with fail
 go_loopw [51] (KpA s w.heap.size w) (fun i _=>(qkb s).length - (intOf i).toNat)
 case atStart=>exact ⟨0,by omega,rfl,⟨_,bO2,OwnsP.nil _ _⟩,hb2,hL2⟩
 case round =>
  obtain ⟨k,hk,rfl,⟨v,hv,ho⟩,hbr,hLr⟩:=hrel
  have hc:=hv.cell
  have hsz:=hbr.size
  by_cases hlt:k < (qkb s).length
  ·have hcl:wr.cell? ⟨w.heap.size+1,k,none⟩=some (.string (qkb s)[k]):=by rw [hLr.cell]; simp [hlt]
   have hlen:=qqn ((q5b s).take k)
   rw [List.length_take,HLL.out] at hlen
   have hl46:(qhb ((q5b s).take k)).length < 9000:=by omega
   have hl47:(qhb ((q5b s).take k)).length < 1000000:=by omega
   clear hlen
   have HT:=Lib.hid (q6w (show k < (q5b s).length by rw [HLL.out]; exact hlt))
   have hel:(q5b s)[k]'(by rw [HLL.out]; exact hlt)=(qkb s)[k].data.toList:=by simp [q5b]
   rw [hel] at HT
   clear hel
   have hsn:=@str_nil (qkb s)[k]
   generalize (qkb s)[k]=x at *
   generalize qhb ((q5b s).take k)=L at *
   generalize hL':qhb ((q5b s).take (k+1))=L' at *
   have HL':=Lib.hid hL'
   clear hL'
   by_cases hk0:k=0
   ·subst hk0
    by_cases hx:x.data.toList=[]
    ·have HE:=Lib.hid (show L'=L by rw [HT.out,hx]; simp [q0b])
     have hx2:x.toList.isEmpty=true:=hsn.1 hx
     have hx3:x.toList=[]:=by simpa using hx2
     clear hsn hx
     go_wp2_with fail
     go_roundw
     case rel=>exact ⟨1,by omega,by go_num,⟨v,hv,by rw [HL'.out,HE.out]; exact ho⟩,hbr,hLr⟩
     case measure=>simp [intOf] <;> omega
    ·have HE:=Lib.hid (show L'=L ++ [(0,x.data.toList)] by rw [HT.out]; simp [q0b,hx])
     have hx2:x.toList.isEmpty=false:=by
      cases h:x.toList.isEmpty with
      | true=>exact absurd (hsn.2 h) hx
      | false=>rfl
     have hx3:¬ x.toList=[]:=by simpa using hx2
     clear hsn hx
     go_wp2_with (at_builtin; refine qlf _ (0,x.data.toList) _ _ rfl rfl rfl _ _ rfl w.heap.size w.heap.size v L rfl ho hv _ rfl rfl hl47 hsz (Nat.le_refl _) ?_; intro g1 cap1 w1 hv1 hv2 ho2 hb2' hk2; have hc1:=hv1.cell; have hf1:=hv1.frozen)
     go_roundw
     case rel=>exact ⟨1,by omega,by go_num,⟨_,hv2,by rw [HL'.out,HE.out]; exact ho2⟩,hbr.trans hb2',hk2 _ _ _ (by decide) (by omega) hLr⟩
     case measure=>simp [intOf] <;> omega
   ·have hk1:(0:Int) < (k:Int):=by omega
    have hk2':0 < k:=by omega
    by_cases hx:x.data.toList=[]
    ·have HE:=Lib.hid (show L'=L ++ [(2,[])] by rw [HT.out,hx]; simp [q0b,hk0])
     have hx2:x.toList.isEmpty=true:=hsn.1 hx
     have hx3:x.toList=[]:=by simpa using hx2
     clear hsn hx
     go_wp2_with (at_builtin; refine qlf _ (2,[]) _ _ rfl rfl rfl _ _ rfl w.heap.size w.heap.size v L rfl ho hv _ rfl rfl hl47 hsz (Nat.le_refl _) ?_; intro g1 cap1 w1 hv1 hv2 ho2 hb2' hk2; have hc1:=hv1.cell; have hf1:=hv1.frozen)
     go_roundw
     case rel=>exact ⟨k+1,by omega,by go_num,⟨_,hv2,by rw [HL'.out,HE.out]; exact ho2⟩,hbr.trans hb2',hk2 _ _ _ (by decide) (by omega) hLr⟩
     case measure=>simp [intOf] <;> omega
    ·have HE:=Lib.hid (show L'=L ++ [(2,[])] ++ [(0,x.data.toList)] by rw [HT.out]; simp [q0b,hx,hk0])
     have hx2:x.toList.isEmpty=false:=by
      cases h:x.toList.isEmpty with
      | true=>exact absurd (hsn.2 h) hx
      | false=>rfl
     have hx3:¬ x.toList=[]:=by simpa using hx2
     clear hsn hx
     have hl48:(L ++ [((2,[]):Pc)]).length < 1000000:=by rw [List.length_append]; simp; omega
     go_wp2_with (first | (at_builtin; refine qlf _ (2,[]) _ _ rfl rfl rfl (.tmp 58) (.tmp 60) rfl w.heap.size w.heap.size v L rfl ho hv _ rfl rfl hl47 hsz (Nat.le_refl _) ?_; intro g1 cap1 w1 hv1 hv2 ho2 hb2' hk2; have hc1:=hv1.cell; have hf1:=hv1.frozen; have hc2:=hv2.cell; have hsz1:w1.heap.size=(w1.setCell ⟨w.heap.size,0,none⟩ (.slice (some ⟨g1,0,none⟩) (L.length+1) cap1)).heap.size:=(World.size_setCell _ _ _).symm; have HSZ:=Lib.hid hsz1; clear hsz1) | (at_builtin; refine qlf _ (0,x.data.toList) _ _ rfl rfl rfl (.tmp 64) (.tmp 67) rfl w.heap.size w.heap.size _ (L ++ [(2,[])]) rfl ho2 hv2 _ HSZ.out rfl hl48 (Nat.le_trans hsz hb2'.size) (Nat.le_refl _) ?_; intro g3 cap3 w3 hv3 hv4 ho4 hb4 hk4; have hc3:=hv3.cell; have hf3:=hv3.frozen))
     rw [show (L ++ [((2,[]):Pc)]).length=L.length+1 by simp] at hv4 ho4 hb4 hk4
     go_roundw
     case rel=>exact ⟨k+1,by omega,by go_num,⟨_,hv4,by rw [HL'.out,HE.out]; exact ho4⟩,hbr.trans (hb2'.trans hb4),hk4 _ _ _ (by decide) (by omega) (hk2 _ _ _ (by decide) (by omega) hLr)⟩
     case measure=>simp [intOf] <;> omega
  ·obtain rfl:k=(qkb s).length:=by omega
   go_wp2_with fail
   go_ret
   refine ⟨v,rfl,?_,hbr⟩
   show OwnsP _ _ _ (cutK s.data.toList)
   rw [<-HC.out,<-HLL.out,List.take_of_length_le (Nat.le_refl _)] at *
   exact ho
set_option maxHeartbeats 1000000 in
theorem qjx (s:ByteArray) (ws:Int) (h0:ws≠0) (h1:ws≠1) (h2:ws≠2) (w:World):Calls Tryz.prog 149 #[.string s,.int .u8 ws] w (qye ws s w):=by
 have e0:(ws == 0)=false:=by simpa using h0
 have e1:(ws == 1)=false:=by simpa using h1
 have e2:(ws == 2)=false:=by simpa using h2
 have HE:=Lib.hid (show cutR ws s.data.toList=[] by unfold cutR; rw [if_neg h0,if_neg h1,if_neg h2])
 clear h0 h1 h2
 go_enter Tryz.func149,Tryz.ntmps149
 go_wp2_with fail
 go_ret
 exact ⟨_,rfl,by rw [HE.out]; exact OwnsP.nil _ _,(Below.refl _ _).alloc (Nat.le_refl _) _⟩
theorem qmw (s:ByteArray) (hs:s.size<=4000) (ws:Int) (m:Int) (w:World) (hm:w.cell? ⟨2,0,none⟩=some (.int .i64 m)) :
  Calls Tryz.prog 149 #[.string s,.int .u8 ws] w (qye ws s w):=by
 by_cases h0:ws=0
 ·subst h0; exact q8t s hs w
 ·by_cases h1:ws=1
  ·subst h1; exact qpt s hs w
  ·by_cases h2:ws=2
   ·subst h2; exact qvp s hs m w hm
   ·exact qjx s ws h0 h1 h2 w
end Go.Proofs.YtlnekijhbnlclaaGreatDoor
namespace Go.Proofs.YtlnekijhbnlclaaGreatDoor
open Go.RowKit
structure RowsAt (w:World) (b:Nat):Prop where
 row:Blk w (b+12) 322 #[.int .i64 0,.func (.func 246) #[] #[.pointer (some ⟨b,0,none⟩),.pointer (some ⟨b+1,0,none⟩)],.int .i64 16,.func (.func 247) #[] #[.pointer (some ⟨b+2,0,none⟩)],.int .i64 0,.func (.func 246) #[] #[.pointer (some ⟨b+3,0,none⟩),.pointer (some ⟨b+4,0,none⟩)],.int .i64 48,.func (.func 247) #[] #[.pointer (some ⟨b+5,0,none⟩)],.int .i64 40,.func (.func 246) #[] #[.pointer (some ⟨b+6,0,none⟩),.pointer (some ⟨b+7,0,none⟩)],.int .i64 32,.func (.func 246) #[] #[.pointer (some ⟨b+8,0,none⟩),.pointer (some ⟨b+9,0,none⟩)],.int .i64 64,.func (.func 246) #[] #[.pointer (some ⟨b+10,0,none⟩),.pointer (some ⟨b+11,0,none⟩)]]
 l0:Blk w (b) 21 #[.int .i32 (768)]
 m0:Blk w (b+1) 21 #[.int .i32 (879)]
 l1:Blk w (b+2) 9 #[.string ⟨thin.toArray⟩]
 l2:Blk w (b+3) 21 #[.int .i32 (-2147483648)]
 m2:Blk w (b+4) 21 #[.int .i32 (31)]
 l3:Blk w (b+5) 9 #[.string ⟨wide.toArray⟩]
 l4:Blk w (b+6) 21 #[.int .i32 (65)]
 m4:Blk w (b+7) 21 #[.int .i32 (90)]
 l5:Blk w (b+8) 21 #[.int .i32 (32)]
 m5:Blk w (b+9) 21 #[.int .i32 (4351)]
 l6:Blk w (b+10) 21 #[.int .i32 (4352)]
 m6:Blk w (b+11) 21 #[.int .i32 (2147483647)]
theorem RowsAt.below {w w':World} {b:Nat} (h:RowsAt w b) (hb:Below (b+13) w w'):RowsAt w' b :=
 {row:=h.row.below hb (by omega)
  l0:=h.l0.below hb (by omega)
  m0:=h.m0.below hb (by omega)
  l1:=h.l1.below hb (by omega)
  l2:=h.l2.below hb (by omega)
  m2:=h.m2.below hb (by omega)
  l3:=h.l3.below hb (by omega)
  l4:=h.l4.below hb (by omega)
  m4:=h.m4.below hb (by omega)
  l5:=h.l5.below hb (by omega)
  m5:=h.m5.below hb (by omega)
  l6:=h.l6.below hb (by omega)
  m6:=h.m6.below hb (by omega) }
theorem qbr (a b:Int) (w:World):Calls Tryz.prog 226 #[.int .i32 a,.int .i32 b] w fun e w' =>
  e=.returned (.func (.func 246) #[] #[.pointer (some ⟨w.heap.size,0,none⟩),.pointer (some ⟨w.heap.size+1,0,none⟩)])/\(w.alloc (.cells #[.int .i32 a] 21)).alloc (.cells #[.int .i32 b] 21)=w':=by
 go_enter Tryz.func226,Tryz.ntmps226
 go_wp2
 go_ret
 exact ⟨rfl,rfl⟩
theorem qiw (s:ByteArray) (w:World):Calls Tryz.prog 227 #[.string s] w fun e w' =>
  e=.returned (.func (.func 247) #[] #[.pointer (some ⟨w.heap.size,0,none⟩)])/\w.alloc (.cells #[.string s] 9)=w':=by
 go_enter Tryz.func227,Tryz.ntmps227
 go_wp2
 go_ret
 exact ⟨rfl,rfl⟩
theorem qtw (w:World) (t:TypeId) (cs:Array Value) (b:Nat) (h:b=w.heap.size):Blk (w.alloc (.cells cs t)) b t cs:=by
 subst h
 exact Blk.new w t cs
def qcr (w:World) (e:Ending) (w':World):Prop :=
 e=.returned (.slice (some ⟨w.heap.size+12,0,none⟩) 7 7)/\RowsAt w' w.heap.size/\Below w.heap.size w w'/\w'.heap.size=w.heap.size+13
theorem qyr (w:World):Calls Tryz.prog 206 #[] w (qcr w):=by
 go_enter Tryz.func206,Tryz.ntmps206
 go_wp2_with (first | (go_at_call 226; refine (qbr _ _ _).mono ?_; rintro e w' ⟨rfl,rfl⟩) | (go_at_call 227; refine (qiw _ _).mono ?_; rintro e w' ⟨rfl,rfl⟩))
 go_ret
 refine ⟨rfl,?_,?_,by simp⟩
 ·constructor
  all_goals repeat (first | (refine qtw _ _ _ _ ?_; simp; done) | refine Blk.alloc ?_ _)
 ·repeat (first | exact Below.refl _ _ | refine Below.alloc ?_ (by first | exact Nat.le_refl _ | (simp only [World.size_alloc]; omega)) _)
theorem q4v (a b r:Int) (p q:Addr) (w:World) (hp:w.cell? p=some (.int .i32 a)) (hq:w.cell? q=some (.int .i32 b)) :
  Calls Tryz.prog 246 #[.int .i32 r,.pointer (some p),.pointer (some q)] w fun e w'=>e=.returned (.bool (decide (a<=r) && decide (r<=b)))/\w=w':=by
 by_cases h1:a<=r
 ·by_cases h2:r<=b
  ·go_enter Tryz.func246,Tryz.ntmps246
   go_wp2
   go_ret
   exact ⟨by simp [h1,h2],rfl⟩
  ·go_enter Tryz.func246,Tryz.ntmps246
   go_wp2
   go_ret
   exact ⟨by simp [h2],rfl⟩
 ·go_enter Tryz.func246,Tryz.ntmps246
  go_wp2
  go_ret
  exact ⟨by simp; omega,rfl⟩
theorem qiu (s:ByteArray) (r:Int) (p:Addr) (w:World) (hp:w.cell? p=some (.string s)) (h4:4<=s.size) (hs:s.size < 1000) (ha:Ascii s) :
  Calls Tryz.prog 247 #[.int .i32 r,.pointer (some p)] w fun e w'=>e=.returned (.bool (decide (0<=r) && memb s.data.toList r))/\Below w.heap.size w w':=by
 by_cases h1:0<=r
 ·have hc:=qfw s r w h1 h4 hs ha
  go_enter Tryz.func247,Tryz.ntmps247
  go_wp2_with fail
  refine hc.mono ?_
  rintro e w1 ⟨rfl,hb⟩
  go_wp2_with fail
  go_ret
  exact ⟨by simp [h1],hb⟩
 ·go_enter Tryz.func247,Tryz.ntmps247
  go_wp2_with fail
  go_ret
  exact ⟨by simp [show ¬ 0<=r by omega],Below.refl _ _⟩
theorem quc (w:World) (b1 b2:Nat) (a c r:Int) (h1:Blk w b1 21 #[.int .i32 a]) (h2:Blk w b2 21 #[.int .i32 c]) (q:Bool) (hq:(decide (a<=r) && decide (r<=c))=q) :
  Calls Tryz.prog 246 #[.int .i32 r,.pointer (some ⟨b1,0,none⟩),.pointer (some ⟨b2,0,none⟩)] w fun e w'=>e=.returned (.bool q)/\Below w.heap.size w w':=by
 subst hq
 exact (q4v a c r _ _ w (h1.cell 0) (h2.cell 0)).mono fun e w' ⟨h1,h2⟩=>⟨h1,by rw [<-h2]; exact Below.refl _ _⟩
theorem q2f (w:World) (b1:Nat) (l:List UInt8) (r:Int) (h1:Blk w b1 9 #[.string ⟨l.toArray⟩]) (h4:4<=l.length/\l.length < 1000) (ha:∀ b ∈ l,b.toNat < 128) (q:Bool) (hq:(decide (0<=r) && memb l r)=q) :
  Calls Tryz.prog 247 #[.int .i32 r,.pointer (some ⟨b1,0,none⟩)] w fun e w'=>e=.returned (.bool q)/\Below w.heap.size w w':=by
 subst hq
 have h:=qiu ⟨l.toArray⟩ r ⟨b1,0,none⟩ w (h1.cell 0) (by simpa [ByteArray.size] using h4.1) (by simpa [ByteArray.size] using h4.2) (by simpa [Ascii] using ha)
 simpa using h
set_option maxHeartbeats 1000000 in
theorem q3u (r:Int) (w:World) :
  Calls Tryz.prog 175 #[.int .i32 r] w fun e w'=>e=.returned (.int .i64 (share r))/\Below w.heap.size w w':=by
 go_enter Tryz.func175,Tryz.ntmps175
 go_wp2_with fail
 refine (qyr w).mono ?_
 rintro e w1 ⟨rfl,hrows,hb1,hsz⟩
 have HS:=Lib.hid hsz; clear hsz
 go_wp2_with fail
 go_loopw [4,7] (fun _ i wr=>∃ k:Nat,k<=7/\i=.int .i64 k/\Hid (share r=qkd r (7 - k) k)/\Below w1.heap.size w1 wr) (fun _ i _=>7 - (intOf i).toNat)
 case atStart=>exact ⟨0,by omega,rfl,rfl,Below.refl _ _⟩
 case round =>
  obtain ⟨k,hk,rfl,HK,hbr⟩:=hrel
  have hrows':RowsAt wr w.heap.size:=hrows.below (by rw [<-HS.out]; exact hbr)
  have hlt:w.heap.size+12 < wr.heap.size:=hrows'.row.lt
  by_cases h7:k=7
  ·subst h7
   go_wp2_with fail
   go_ret
   exact ⟨by rw [HK.out]; rfl,hb1.trans (hbr.mono hb1.size)⟩
  have hk7:k=0\/k=1\/k=2\/k=3\/k=4\/k=5\/k=6:=by omega
  clear hk h7
  rcases hk7 with rfl | rfl | rfl | rfl | rfl | rfl | rfl
  ·have c0:=hrows'.row.cell 0
   have c1:=hrows'.row.cell 1
   cases hh:q5c 0 r with
   | true =>
    have HH:=Lib.hid (HK.out.trans (qzd r 6 0 hh))
    have con:=fun W (hl:∀ bb t cs,Blk wr bb t cs->Blk W bb t cs)=>quc W _ _ _ _ r (hl _ _ _ hrows'.l0) (hl _ _ _ hrows'.m0) true hh
    clear hh
    go_wp2_with fail
    refine (con _ (fun _ _ _ h=>h.alloc _)).mono ?_
    rintro e w2 ⟨rfl,hb2⟩
    have d0:=(hb2.cell (p:=⟨wr.heap.size,0,none⟩) (by simp)).trans ((Blk.new wr _ _).cell 0)
    go_wp2_with fail
    go_ret
    exact ⟨by rw [HH.out]; rfl,hb1.trans ((hbr.trans (((Below.refl _ _).alloc hbr.size _).trans (hb2.mono (by simp; have:=hbr.size; omega)))).mono hb1.size)⟩
   | false =>
    have HH:=Lib.hid (HK.out.trans (q4d r 6 0 hh))
    have con:=fun W (hl:∀ bb t cs,Blk wr bb t cs->Blk W bb t cs)=>quc W _ _ _ _ r (hl _ _ _ hrows'.l0) (hl _ _ _ hrows'.m0) false hh
    clear hh
    go_wp2_with fail
    refine (con _ (fun _ _ _ h=>h.alloc _)).mono ?_
    rintro e w2 ⟨rfl,hb2⟩
    go_wp2_with fail
    go_roundw
    case rel=>exact ⟨1,by omega,rfl,HH.out,hbr.trans (((Below.refl _ _).alloc hbr.size _).trans (hb2.mono (by simp; have:=hbr.size; omega)))⟩
    case measure=>simp [intOf]
  ·have c0:=hrows'.row.cell 2
   have c1:=hrows'.row.cell 3
   cases hh:q5c 1 r with
   | true =>
    have HH:=Lib.hid (HK.out.trans (qzd r 5 1 hh))
    have con:=fun W (hl:∀ bb t cs,Blk wr bb t cs->Blk W bb t cs)=>q2f W _ _ r (hl _ _ _ hrows'.l1) (by decide) (by decide) true hh
    clear hh
    go_wp2_with fail
    refine (con _ (fun _ _ _ h=>h.alloc _)).mono ?_
    rintro e w2 ⟨rfl,hb2⟩
    have d0:=(hb2.cell (p:=⟨wr.heap.size,0,none⟩) (by simp)).trans ((Blk.new wr _ _).cell 0)
    go_wp2_with fail
    go_ret
    exact ⟨by rw [HH.out]; rfl,hb1.trans ((hbr.trans (((Below.refl _ _).alloc hbr.size _).trans (hb2.mono (by simp; have:=hbr.size; omega)))).mono hb1.size)⟩
   | false =>
    have HH:=Lib.hid (HK.out.trans (q4d r 5 1 hh))
    have con:=fun W (hl:∀ bb t cs,Blk wr bb t cs->Blk W bb t cs)=>q2f W _ _ r (hl _ _ _ hrows'.l1) (by decide) (by decide) false hh
    clear hh
    go_wp2_with fail
    refine (con _ (fun _ _ _ h=>h.alloc _)).mono ?_
    rintro e w2 ⟨rfl,hb2⟩
    go_wp2_with fail
    go_roundw
    case rel=>exact ⟨2,by omega,rfl,HH.out,hbr.trans (((Below.refl _ _).alloc hbr.size _).trans (hb2.mono (by simp; have:=hbr.size; omega)))⟩
    case measure=>simp [intOf]
  ·have c0:=hrows'.row.cell 4
   have c1:=hrows'.row.cell 5
   cases hh:q5c 2 r with
   | true =>
    have HH:=Lib.hid (HK.out.trans (qzd r 4 2 hh))
    have con:=fun W (hl:∀ bb t cs,Blk wr bb t cs->Blk W bb t cs)=>quc W _ _ _ _ r (hl _ _ _ hrows'.l2) (hl _ _ _ hrows'.m2) true hh
    clear hh
    go_wp2_with fail
    refine (con _ (fun _ _ _ h=>h.alloc _)).mono ?_
    rintro e w2 ⟨rfl,hb2⟩
    have d0:=(hb2.cell (p:=⟨wr.heap.size,0,none⟩) (by simp)).trans ((Blk.new wr _ _).cell 0)
    go_wp2_with fail
    go_ret
    exact ⟨by rw [HH.out]; rfl,hb1.trans ((hbr.trans (((Below.refl _ _).alloc hbr.size _).trans (hb2.mono (by simp; have:=hbr.size; omega)))).mono hb1.size)⟩
   | false =>
    have HH:=Lib.hid (HK.out.trans (q4d r 4 2 hh))
    have con:=fun W (hl:∀ bb t cs,Blk wr bb t cs->Blk W bb t cs)=>quc W _ _ _ _ r (hl _ _ _ hrows'.l2) (hl _ _ _ hrows'.m2) false hh
    clear hh
    go_wp2_with fail
    refine (con _ (fun _ _ _ h=>h.alloc _)).mono ?_
    rintro e w2 ⟨rfl,hb2⟩
    go_wp2_with fail
    go_roundw
    case rel=>exact ⟨3,by omega,rfl,HH.out,hbr.trans (((Below.refl _ _).alloc hbr.size _).trans (hb2.mono (by simp; have:=hbr.size; omega)))⟩
    case measure=>simp [intOf]
  ·have c0:=hrows'.row.cell 6
   have c1:=hrows'.row.cell 7
   cases hh:q5c 3 r with
   | true =>
    have HH:=Lib.hid (HK.out.trans (qzd r 3 3 hh))
    have con:=fun W (hl:∀ bb t cs,Blk wr bb t cs->Blk W bb t cs)=>q2f W _ _ r (hl _ _ _ hrows'.l3) (by decide) (by decide) true hh
    clear hh
    go_wp2_with fail
    refine (con _ (fun _ _ _ h=>h.alloc _)).mono ?_
    rintro e w2 ⟨rfl,hb2⟩
    have d0:=(hb2.cell (p:=⟨wr.heap.size,0,none⟩) (by simp)).trans ((Blk.new wr _ _).cell 0)
    go_wp2_with fail
    go_ret
    exact ⟨by rw [HH.out]; rfl,hb1.trans ((hbr.trans (((Below.refl _ _).alloc hbr.size _).trans (hb2.mono (by simp; have:=hbr.size; omega)))).mono hb1.size)⟩
   | false =>
    have HH:=Lib.hid (HK.out.trans (q4d r 3 3 hh))
    have con:=fun W (hl:∀ bb t cs,Blk wr bb t cs->Blk W bb t cs)=>q2f W _ _ r (hl _ _ _ hrows'.l3) (by decide) (by decide) false hh
    clear hh
    go_wp2_with fail
    refine (con _ (fun _ _ _ h=>h.alloc _)).mono ?_
    rintro e w2 ⟨rfl,hb2⟩
    go_wp2_with fail
    go_roundw
    case rel=>exact ⟨4,by omega,rfl,HH.out,hbr.trans (((Below.refl _ _).alloc hbr.size _).trans (hb2.mono (by simp; have:=hbr.size; omega)))⟩
    case measure=>simp [intOf]
  ·have c0:=hrows'.row.cell 8
   have c1:=hrows'.row.cell 9
   cases hh:q5c 4 r with
   | true =>
    have HH:=Lib.hid (HK.out.trans (qzd r 2 4 hh))
    have con:=fun W (hl:∀ bb t cs,Blk wr bb t cs->Blk W bb t cs)=>quc W _ _ _ _ r (hl _ _ _ hrows'.l4) (hl _ _ _ hrows'.m4) true hh
    clear hh
    go_wp2_with fail
    refine (con _ (fun _ _ _ h=>h.alloc _)).mono ?_
    rintro e w2 ⟨rfl,hb2⟩
    have d0:=(hb2.cell (p:=⟨wr.heap.size,0,none⟩) (by simp)).trans ((Blk.new wr _ _).cell 0)
    go_wp2_with fail
    go_ret
    exact ⟨by rw [HH.out]; rfl,hb1.trans ((hbr.trans (((Below.refl _ _).alloc hbr.size _).trans (hb2.mono (by simp; have:=hbr.size; omega)))).mono hb1.size)⟩
   | false =>
    have HH:=Lib.hid (HK.out.trans (q4d r 2 4 hh))
    have con:=fun W (hl:∀ bb t cs,Blk wr bb t cs->Blk W bb t cs)=>quc W _ _ _ _ r (hl _ _ _ hrows'.l4) (hl _ _ _ hrows'.m4) false hh
    clear hh
    go_wp2_with fail
    refine (con _ (fun _ _ _ h=>h.alloc _)).mono ?_
    rintro e w2 ⟨rfl,hb2⟩
    go_wp2_with fail
    go_roundw
    case rel=>exact ⟨5,by omega,rfl,HH.out,hbr.trans (((Below.refl _ _).alloc hbr.size _).trans (hb2.mono (by simp; have:=hbr.size; omega)))⟩
    case measure=>simp [intOf]
  ·have c0:=hrows'.row.cell 10
   have c1:=hrows'.row.cell 11
   cases hh:q5c 5 r with
   | true =>
    have HH:=Lib.hid (HK.out.trans (qzd r 1 5 hh))
    have con:=fun W (hl:∀ bb t cs,Blk wr bb t cs->Blk W bb t cs)=>quc W _ _ _ _ r (hl _ _ _ hrows'.l5) (hl _ _ _ hrows'.m5) true hh
    clear hh
    go_wp2_with fail
    refine (con _ (fun _ _ _ h=>h.alloc _)).mono ?_
    rintro e w2 ⟨rfl,hb2⟩
    have d0:=(hb2.cell (p:=⟨wr.heap.size,0,none⟩) (by simp)).trans ((Blk.new wr _ _).cell 0)
    go_wp2_with fail
    go_ret
    exact ⟨by rw [HH.out]; rfl,hb1.trans ((hbr.trans (((Below.refl _ _).alloc hbr.size _).trans (hb2.mono (by simp; have:=hbr.size; omega)))).mono hb1.size)⟩
   | false =>
    have HH:=Lib.hid (HK.out.trans (q4d r 1 5 hh))
    have con:=fun W (hl:∀ bb t cs,Blk wr bb t cs->Blk W bb t cs)=>quc W _ _ _ _ r (hl _ _ _ hrows'.l5) (hl _ _ _ hrows'.m5) false hh
    clear hh
    go_wp2_with fail
    refine (con _ (fun _ _ _ h=>h.alloc _)).mono ?_
    rintro e w2 ⟨rfl,hb2⟩
    go_wp2_with fail
    go_roundw
    case rel=>exact ⟨6,by omega,rfl,HH.out,hbr.trans (((Below.refl _ _).alloc hbr.size _).trans (hb2.mono (by simp; have:=hbr.size; omega)))⟩
    case measure=>simp [intOf]
  ·have c0:=hrows'.row.cell 12
   have c1:=hrows'.row.cell 13
   cases hh:q5c 6 r with
   | true =>
    have HH:=Lib.hid (HK.out.trans (qzd r 0 6 hh))
    have con:=fun W (hl:∀ bb t cs,Blk wr bb t cs->Blk W bb t cs)=>quc W _ _ _ _ r (hl _ _ _ hrows'.l6) (hl _ _ _ hrows'.m6) true hh
    clear hh
    go_wp2_with fail
    refine (con _ (fun _ _ _ h=>h.alloc _)).mono ?_
    rintro e w2 ⟨rfl,hb2⟩
    have d0:=(hb2.cell (p:=⟨wr.heap.size,0,none⟩) (by simp)).trans ((Blk.new wr _ _).cell 0)
    go_wp2_with fail
    go_ret
    exact ⟨by rw [HH.out]; rfl,hb1.trans ((hbr.trans (((Below.refl _ _).alloc hbr.size _).trans (hb2.mono (by simp; have:=hbr.size; omega)))).mono hb1.size)⟩
   | false =>
    have HH:=Lib.hid (HK.out.trans (q4d r 0 6 hh))
    have con:=fun W (hl:∀ bb t cs,Blk wr bb t cs->Blk W bb t cs)=>quc W _ _ _ _ r (hl _ _ _ hrows'.l6) (hl _ _ _ hrows'.m6) false hh
    clear hh
    go_wp2_with fail
    refine (con _ (fun _ _ _ h=>h.alloc _)).mono ?_
    rintro e w2 ⟨rfl,hb2⟩
    go_wp2_with fail
    go_roundw
    case rel=>exact ⟨7,by omega,rfl,HH.out,hbr.trans (((Below.refl _ _).alloc hbr.size _).trans (hb2.mono (by simp; have:=hbr.size; omega)))⟩
    case measure=>simp [intOf]
end Go.Proofs.YtlnekijhbnlclaaGreatDoor
namespace Go.Proofs.YtlnekijhbnlclaaGreatDoor
open Go.RowKit
theorem qki (n font:Int) (w:World) (hn:0<=n) :
  Calls Tryz.prog 162 #[.int .i64 n,.int .i64 font] w fun e w'=>e=.returned (.tuple #[.int .i64 (qka n font).1,.int .i64 (qka n font).2])/\w=w':=by
 by_cases h1:font < 1
 ·have H:=Lib.hid (show qka n font=(0,2) from if_pos (.inl h1))
  go_enter Tryz.func162,Tryz.ntmps162
  go_wp2_with fail
  go_ret2
  exact ⟨by rw [H.out]; rfl,rfl⟩
 by_cases h2:1000 < font
 ·have H:=Lib.hid (show qka n font=(0,2) from if_pos (.inr h2))
  go_enter Tryz.func162,Tryz.ntmps162
  go_wp2_with fail
  go_ret2
  exact ⟨by rw [H.out]; rfl,rfl⟩
 have hd:1099511627776 / font < n↔1099511627776 < n * font:=Int.ediv_lt_iff_lt_mul (by omega)
 have hp:0<=n * font:=Int.mul_nonneg hn (by omega)
 by_cases h3:1099511627776 / font < n
 ·have H:=Lib.hid (show qka n font=(0,10) from (if_neg (by omega)).trans (if_pos (hd.1 h3)))
  clear hd
  go_enter Tryz.func162,Tryz.ntmps162
  go_wp2_with fail
  go_ret2
  exact ⟨by rw [H.out]; rfl,rfl⟩
 ·have hle:n * font<=1099511627776:=by have:=(not_congr hd).1 h3; omega
  have H:=Lib.hid (show qka n font=(n * font,0) from (if_neg (by omega)).trans (if_neg (by omega)))
  clear hd
  go_enter Tryz.func162,Tryz.ntmps162
  go_wp2_with fail
  go_ret2
  exact ⟨by rw [H.out]; rfl,rfl⟩
theorem q8j (font:Int) (w:World) :
  Calls Tryz.prog 138 #[.int .i64 font] w fun e w'=>e=.returned (.tuple #[.int .i64 (qka 60 font).1,.int .i64 (qka 60 font).2])/\w=w':=by
 have h:=qki 60 font w (by omega)
 go_enter Tryz.func138,Tryz.ntmps138
 go_wp2_with (go_at_call 162; refine h.mono ?_; rintro e w' ⟨rfl,rfl⟩)
 go_ret2
 exact ⟨rfl,rfl⟩
theorem qbl (font:Int) (w:World) :
  Calls Tryz.prog 139 #[.int .i64 font] w fun e w'=>e=.returned (.tuple #[.int .i64 (qka 20 font).1,.int .i64 (qka 20 font).2])/\w=w':=by
 have h:=qki 20 font w (by omega)
 go_enter Tryz.func139,Tryz.ntmps139
 go_wp2_with (go_at_call 162; refine h.mono ?_; rintro e w' ⟨rfl,rfl⟩)
 go_ret2
 exact ⟨rfl,rfl⟩
end Go.Proofs.YtlnekijhbnlclaaGreatDoor
