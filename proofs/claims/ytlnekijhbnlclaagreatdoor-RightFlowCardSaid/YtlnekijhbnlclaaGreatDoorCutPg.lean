/-
  Walks: package layout: inside, open, groups (an iterator).
-/
import Derived.Test.YtlnekijhbnlclaaGreatDoorFits
import Derived.Test.YtlnekijhbnlclaaGreatDoorDocFacts
import Derived.Test.YtlnekijhbnlclaaGreatDoorTMay
import Derived.Test.YtlnekijhbnlclaaGreatDoorMMay
import Derived.Test.YtlnekijhbnlclaaGreatDoorMetric2
import Derived.Test.YtlnekijhbnlclaaGreatDoorWidth
namespace Go.Proofs.YtlnekijhbnlclaaGreatDoor
open Go.RowKit Go.Shelf
set_option linter.unusedSimpArgs false
set_option linter.unusedVariables false
theorem PageAt.glt {W:World} {g B:Nat} {ns:List Nd} {next:Int} (h:PageAt W g B ns next):g < B:=by
 obtain ⟨dv,kv,vs,h1,h2,h3,h4⟩:=h
 exact h2
set_option maxRecDepth 100000 in
set_option maxHeartbeats 4000000 in
theorem qpl (g B:Nat) (ns:List Nd) (next:Int) (i:Nat) (w:World) (h:PageAt w g B ns next) (hi:i < ns.length) :
  Calls Tryz.prog 136 #[.pointer (some ⟨g,0,none⟩),.int .i64 i] w fun e w'=>e=.returned (.bool (qfa ns i))/\Below w.heap.size w w':=by
 obtain ⟨b,o,c,hd,hc,hb,hrg⟩:=h.node hi
 have hz:(i:Int) < (ns.length:Int):=by omega
 have HR:=Lib.hid hrg
 have HI:=Lib.hid (show qfa ns i=(decide ((ndAt ns i).kind=1) || decide ((ndAt ns i).st.display=1)) from rfl)
 clear hrg h
 generalize ndAt ns i=n at *
 go_enter Tryz.func136,Tryz.ntmps136
 go_upto_region 2 with (first | (refine wpList_load_mid rfl 35 _ rfl b (o+i * 51) rfl (ndC n) _ HR.out Tryz.underlying35 rfl qza ?_) | (refine qxa rfl 35 _ _ rfl w.heap.size 35 (ndC nd0) (ndC n) rfl (Blk.new w _ _) rfl rfl qza (qec _) ?_; intro w3 r3 r4 r5))
 have hk:Kept [] w w3:=((Kept.refl [] w).alloc _).fresh r4 (by simp)
 have hB:Below w.heap.size w w3:=hk.to_below (Nat.le_refl _) (by simp)
 clear r4 r5 hk hd
 obtain ⟨key,depth,kind,st,text⟩:=n
 have c0:w3.cell? ⟨w.heap.size,2,none⟩=some (.int .u8 kind):=r3.cell 2
 have c1:w3.cell? ⟨w.heap.size,3,none⟩=some (.int .u8 st.display):=r3.cell 3
 generalize st.display=dp at *
 by_cases h1:kind=1
 ·subst h1
  have HJ:=Lib.hid (show qfa ns i=true by rw [HI.out]; rfl)
  go_wp2_with fail
  go_ret
  exact ⟨by rw [HJ.out]; rfl,hB⟩
 ·have h1i:¬ (kind:Int)=1:=by omega
  have h1b:((kind:Int) == 1)=false:=beq_false_of_ne h1i
  by_cases h2:dp=1
  ·subst h2
   have HJ:=Lib.hid (show qfa ns i=true by rw [HI.out]; simp)
   go_wp2_with fail
   go_ret
   exact ⟨by rw [HJ.out]; rfl,hB⟩
  ·have h2i:¬ (dp:Int)=1:=by omega
   have h2b:((dp:Int) == 1)=false:=beq_false_of_ne h2i
   have HJ:=Lib.hid (show qfa ns i=false by rw [HI.out]; simp [h1,h2])
   go_wp2_with fail
   go_ret
   exact ⟨by rw [HJ.out]; rfl,hB⟩
set_option maxRecDepth 100000 in
set_option maxHeartbeats 8000000 in
theorem q2s (g B:Nat) (ns:List Nd) (next:Int) (i:Nat) (apart:Bool) (w:World) (h:PageAt w g B ns next) (hi:i < ns.length) :
  Calls Tryz.prog 113 #[.pointer (some ⟨g,0,none⟩),.int .i64 i,.bool apart] w fun e w'=>e=.returned (.tuple #[.bool (openL ns i apart).1,.bool (openL ns i apart).2])/\Below w.heap.size w w':=by
 have hs:=qce g B ns next i w h hi
 have HO:=Lib.hid (show openL ns i apart=(decide (w64 ((stAt ns i).pT+(stAt ns i).bT)=0) && !apart,decide (w64 ((stAt ns i).pB+(stAt ns i).bB)=0) && !apart && !(qtb (stAt ns i)).2.1 && decide ((qfb (stAt ns i)).1=0) && decide ((qfb (stAt ns i)).2.1=1099511627776)) from rfl)
 clear h
 generalize stAt ns i=s at *
 have h1:=fun W=>qgl s W
 have h2:=fun W=>qzj s W
 unfold Res3 at h1
 unfold Num3 at h2
 generalize qtb s=x at *
 generalize qfb s=y at *
 obtain ⟨x1,x2,x3⟩:=x
 obtain ⟨y1,y2,y3⟩:=y
 go_enter Tryz.func113,Tryz.ntmps113
 go_upto_region 2 with (first | (go_at_call 60; refine hs.mono ?_; rintro e w1 ⟨rfl,hb1⟩) | (refine qxa rfl 33 _ _ rfl w1.heap.size 33 (stC st0) (stC s) rfl (Blk.new w1 _ _) rfl rfl qoa (qve _) ?_; intro w3 r3 r4 r5))
 have hB:Below w.heap.size w w3:=hb1.trans ((((Kept.refl [] w1).alloc _).fresh r4 (by simp)).to_below hb1.size (by simp))
 clear r4 r5 hb1 hs
 obtain ⟨q,hq⟩:∃ q,w1.heap.size=q:=⟨_,rfl⟩
 rw [hq] at r3 ⊢
 clear hq
 go_upto_region 3 with (first | (refine qwa rfl 33 _ rfl q 0 33 (stC s) (stC s) _ rfl r3 (fun j v hv=>by rw [Nat.zero_add]; exact hv) Tryz.underlying33 rfl qoa ?_) | (go_at_call 131; refine (h1 _).mono ?_; rintro e w4 ⟨rfl,hb4⟩))
 have r4:=r3.below hb4 r3.lt
 have hB4:Below w.heap.size w w4:=hB.trans (hb4.mono hB.size)
 clear hb4 r3 hB
 go_upto_region 4 with (first | (refine qwa rfl 33 _ rfl q 0 33 (stC s) (stC s) _ rfl r4 (fun j v hv=>by rw [Nat.zero_add]; exact hv) Tryz.underlying33 rfl qoa ?_) | (go_at_call 103; refine (h2 _).mono ?_; rintro e w5 ⟨rfl,hb5⟩))
 have r5:=r4.below hb5 r4.lt
 have hB5:Below w.heap.size w w5:=hB4.trans (hb5.mono hB4.size)
 clear hb5 r4 hB4 h1 h2
 have c0:w5.cell? ⟨q,22,none⟩=some (.int .i64 s.pT):=r5.cell 22
 have c1:w5.cell? ⟨q,26,none⟩=some (.int .i64 s.bT):=r5.cell 26
 have c2:w5.cell? ⟨q,24,none⟩=some (.int .i64 s.pB):=r5.cell 24
 have c3:w5.cell? ⟨q,28,none⟩=some (.int .i64 s.bB):=r5.cell 28
 clear r5
 generalize s.pT=pT at *
 generalize s.bT=bT at *
 generalize s.pB=pB at *
 generalize s.bB=bB at *
 go_upto_region 6 with fail
 clear c0 c1 c2 c3
 obtain ⟨u,hu⟩:∃ u,w64 (pT+bT)=u:=⟨_,rfl⟩
 obtain ⟨v,hv⟩:∃ v,w64 (pB+bB)=v:=⟨_,rfl⟩
 rw [hu,hv] at HO
 simp only [show wrap64 (pT+bT)=u from hu,show wrap64 (pB+bB)=v from hv]
 clear hu hv
 by_cases d1:u=0
 all_goals by_cases d2:v=0
 all_goals (first | subst d1 | have d1b:(u == 0)=false:=beq_false_of_ne d1)
 all_goals (first | subst d2 | have d2b:(v == 0)=false:=beq_false_of_ne d2)
 all_goals cases apart
 all_goals cases x2
 all_goals by_cases d3:y1=0
 all_goals by_cases d4:y2=1099511627776
 all_goals (first | subst d3 | have d3b:(y1 == 0)=false:=beq_false_of_ne d3)
 all_goals (first | subst d4 | have d4b:(y2 == 1099511627776)=false:=beq_false_of_ne d4)
 all_goals
  go_wp2_with fail
  go_ret2
  exact ⟨by rw [HO.out]; simp [*],hB5⟩
structure KidsAt (W:World) (g B:Nat) (ns:List Nd) (at_:Nat) (A:Option Addr) (b o c:Nat):Prop where
 hd:∃ kb ko kc,W.cell? ⟨g,2,none⟩=some (.slice (some ⟨kb,ko,none⟩) ns.length kc)/\W.cell? ⟨kb,ko+at_,none⟩=some (.slice A (kidsN ns at_).length c)/\kb < B
 gl:g < B
 cap:(kidsN ns at_).length<=c
 adr:0 < (kidsN ns at_).length->A=some ⟨b,o,none⟩/\b < B
 cell:∀ i (hi:i < (kidsN ns at_).length),W.cell? ⟨b,o+i,none⟩=some (.int .i64 ((kidsN ns at_)[i]:Nat))
theorem qio {w:World} {B n c:Nat} {A:Option Addr} {zs:List Int} (h:Ints w B (.slice A n c) zs) (h0:0 < zs.length):∃ b o,A=some ⟨b,o,none⟩/\b < B/\∀ i (hi:i < zs.length),w.cell? ⟨b,o+i,none⟩=some (.int .i64 zs[i]):=by
 obtain ⟨A',c',e,hc,hr⟩:=h
 injection e with e1 e2 e3
 subst e1
 obtain ⟨ad,rfl,hb,_⟩:=Reads.val hr h0
 have hcell:∀ i (hi:i < zs.length),w.cell? (ad.add i)=some (.int .i64 zs[i]):=fun i hi=>by
  obtain ⟨ad',e,_,h2⟩:=Reads.val hr hi
  cases e
  exact h2
 have hs:ad.spot=none:=by
  have:=World.cell?_spot (hcell 0 h0)
  simpa [Addr.add] using this
 obtain ⟨b,o,spot⟩:=ad
 simp at hs
 subst hs
 refine ⟨b,o,rfl,hb,fun i hi=>?_⟩
 rw [<-hcell i hi]
 congr 1
 unfold Addr.add
 split <;> simp_all
theorem PageAt.kids {W:World} {g B:Nat} {ns:List Nd} {next:Int} (h:PageAt W g B ns next) {at_:Nat} (hat:at_ < ns.length):∃ A b o c,KidsAt W g B ns at_ A b o c:=by
 obtain ⟨dv,kv,vs,h1,h2,h3,h4,⟨A,c,rfl,hc,hr⟩,h6,h7⟩:=h
 obtain ⟨kb,ko,rfl,hb,hcell⟩:=Shp.In.at_ (S:=shSl) (⟨A,c,rfl,hc,hr⟩:shSl.In W B (.slice A vs.length c) vs) (by decide) (by omega)
 have hi:=h7 at_ (by omega)
 have hc1:=hcell at_ (by omega) 0 (by decide)
 have e1:ko+(at_ * shSl.k+0)=ko+at_:=by show ko+(at_ * 1+0)=_; omega
 rw [e1] at hc1
 have hhd:W.cell? ⟨g,2,none⟩=some (.slice (some ⟨kb,ko,none⟩) vs.length c):=h1.cell 2
 obtain ⟨x,hx⟩:∃ x,vs[at_]'(by omega)=x:=⟨_,rfl⟩
 rw [hx] at hi hc1
 obtain ⟨A2,n2,c2⟩:=x
 have hi':=hi
 obtain ⟨A3,c3,e3,hc3,hr3⟩:=hi
 simp only [slV,List.length_map] at e3 hc3
 injection e3 with e4 e5 e6
 subst e4 e5 e6
 rcases Nat.eq_zero_or_pos (kidsN ns at_).length with h0 | h0
 ·exact ⟨A2,0,0,c2,⟨kb,ko,c,h6 ▸ hhd,hc1,hb⟩,h2,hc3,fun h=>by omega,fun i hi=>by omega⟩
 ·obtain ⟨b,o,rfl,hb2,h8⟩:=qio hi' (by simpa using h0)
  exact ⟨_,b,o,c2,⟨kb,ko,c,h6 ▸ hhd,hc1,hb⟩,h2,hc3,fun _=>⟨rfl,hb2⟩,fun i hi=>by
   have:=h8 i (by simpa using hi)
   simpa using this⟩
theorem KidsAt.below {W W':World} {g B:Nat} {ns:List Nd} {at_:Nat} {A:Option Addr} {b o c:Nat} (h:KidsAt W g B ns at_ A b o c) (hb:Below B W W'):KidsAt W' g B ns at_ A b o c:=by
 obtain ⟨⟨kb,ko,kc,h1,h2,h3⟩,h4,h5,h6,h7⟩:=h
 refine ⟨⟨kb,ko,kc,(hb.cell (p:=⟨g,2,none⟩) h4).trans h1,(hb.cell (p:=⟨kb,ko+at_,none⟩) h3).trans h2,h3⟩,h4,h5,h6,fun i hi=>(hb.cell (p:=⟨b,o+i,none⟩) (h6 (by omega)).2).trans (h7 i hi)⟩
theorem qpr (g a:Nat) (w:World) :
  Calls Tryz.prog 109 #[.pointer (some ⟨g,0,none⟩),.int .i64 a] w fun e w'=>e=.returned (.func (.func 135) #[] #[.pointer (some ⟨w.heap.size,0,none⟩),.pointer (some ⟨w.heap.size+1,0,none⟩)]) /\
   w'=(w.alloc (.cells #[.pointer (some ⟨g,0,none⟩)] 73)).alloc (.cells #[.int .i64 a] 3):=by
 go_enter Tryz.func109,Tryz.ntmps109
 go_wp2_with fail
 go_ret
 exact ⟨rfl,rfl⟩
structure GrpW (W:World) (bp ba g B:Nat) (ns:List Nd) (next:Int) (a:Nat) (A:Option Addr) (b o c:Nat):Prop where
 page:Blk W bp 73 #[.pointer (some ⟨g,0,none⟩)]
 at_:Blk W ba 3 #[.int .i64 a]
 pg:PageAt W g B ns next
 kids:KidsAt W g B ns a A b o c
theorem GrpW.kept {W W':World} {bp ba g B:Nat} {ns:List Nd} {next:Int} {a:Nat} {A:Option Addr} {b o c:Nat} {gs:List Nat} (h:GrpW W bp ba g B ns next a A b o c) (hk:Kept gs W W') (h1:bp ∉ gs) (h2:ba ∉ gs) (h5:∀ k ∈ gs,B<=k):GrpW W' bp ba g B ns next a A b o c :=
 ⟨h.page.kept hk h1,h.at_.kept hk h2,h.pg.below (hk.to_below h.pg.lt h5),h.kids.below (hk.to_below h.pg.lt h5)⟩
def GrpRd (bp ba B k:Nat):Prop:=k=bp\/k=ba\/k < B
def grpV (b o c:Nat) (x:Nat×Nat×Bool):Value:=.slice (some ⟨b,o+x.1,none⟩) (x.2.1 - x.1) (c - x.1)
def GrR (bp ba g B:Nat) (ns:List Nd) (next:Int) (a:Nat) (A:Option Addr) (b o c:Nat) (J:List Nat->List (Nat×Nat×Bool)->World->Prop) (n:Nat) (i:Value) (wr:World):Prop :=
 ∃ (ws:List Nat) (pre:List (Nat×Nat×Bool)) (k f:Nat),i=.int .i64 k/\J ws pre wr/\(∀ q ∈ ws,q < wr.heap.size/\¬ GrpRd bp ba B q)/\grpL ns (kidsN ns a)=pre ++ grpGo ns (kidsN ns a) f k/\(kidsN ns a).length<=f+k/\k<=(kidsN ns a).length /\
  GrpW wr bp ba g B ns next a A b o c/\n<=wr.heap.size
def GtR (ns:List Nd) (l:List Nat) (k:Nat) (run:Bool) (w0:World) (i:Value) (wr:World):Prop :=
 ∃ t:Nat,i=.int .i64 t/\k+1<=t/\t<=l.length/\(run=true->∀ j,k+1<=j->j < t->qfa ns (l.getD j 0)=true)/\(run=false->t=k+1)/\Below w0.heap.size w0 wr
theorem qmh (ns:List Nd) (l:List Nat) (f k:Nat):grpGo ns l (f+1) k=if k < l.length then (k,grpTo ns l k,qfa ns (l.getD k 0)) :: grpGo ns l f (grpTo ns l k) else []:=rfl
set_option maxRecDepth 100000 in
set_option maxHeartbeats 8000000 in
theorem qdt (ns:List Nd) (next:Int) (a bp ba g B:Nat) (A:Option Addr) (b o c:Nat) (w:World) (h:GrpW w bp ba g B ns next a A b o c) (hin:∀ k ∈ kidsN ns a,k < ns.length) (hm:(kidsN ns a).length < 1000000) (hal:a < ns.length) :
  SeqP Tryz.prog 135 #[.pointer (some ⟨bp,0,none⟩),.pointer (some ⟨ba,0,none⟩)] (fun x=>#[grpV b o c x,.bool x.2.2]) (grpL ns (kidsN ns a)) [] (GrpRd bp ba B) w:=by
 intro lp n J Jx Jp W wr0 hbW hwr0 hJ hJx hJp hY hj0
 have h0:GrpW W bp ba g B ns next a A b o c:=h.kept (gs:=[]) ⟨hbW.os,hbW.tape,hbW.output,hbW.size,fun k hk _=>hbW.block k hk⟩ (by simp) (by simp) (by simp)
 refine callsIn_wide.2 ?_
 obtain ⟨kb,ko,kc,q1,q2,q3⟩:=h0.kids.hd
 have hgl:=h0.kids.gl
 have hBW:=h0.pg.lt
 have hcap:=h0.kids.cap
 have e0:∀ V:BW W.heap.size W,V.val.cell? ⟨bp,0,none⟩=some (.pointer (some ⟨g,0,none⟩)):=fun V=>(h0.page.below V.ok h0.page.lt).cell 0
 have e1:∀ V:BW W.heap.size W,V.val.cell? ⟨ba,0,none⟩=some (.int .i64 a):=fun V=>(h0.at_.below V.ok h0.at_.lt).cell 0
 have e2:∀ V:BW W.heap.size W,V.val.cell? ⟨g,2,none⟩=some (.slice (some ⟨kb,ko,none⟩) ns.length kc):=fun V=>(V.ok.cell (p:=⟨g,2,none⟩) (by show g < _; omega)).trans q1
 have e3:∀ V:BW W.heap.size W,V.val.cell? ⟨kb,ko+a,none⟩=some (.slice A (kidsN ns a).length c):=fun V=>(V.ok.cell (p:=⟨kb,ko+a,none⟩) (by show kb < _; omega)).trans q2
 clear q1 q2
 obtain ⟨l,hl⟩:∃ l,kidsN ns a=l:=⟨_,rfl⟩
 rw [hl] at hY hm hin e3 hcap ⊢
 go_enter Tryz.func135,Tryz.ntmps135
 go_wp2_with fail
 refine qeb W.heap.size (by kernel_rfl) (by kernel_rfl) ?_
 repeat (go_big_quiet_step (fail))
 refine wpQuiet_nil ?_
 intro w3 hw'
 obtain ⟨⟨_,hQ⟩,rfl⟩:=hw'
 have h3:GrpW w3 bp ba g B ns next a A b o c:=h0.kept (gs:=[]) (Kept.of_below hQ) (by simp) (by simp) (by simp)
 have hj3:=hJ _ _ _ _ hj0 (IS.of_kept (Kept.of_below hQ))
 have hsz3:=hQ.size
 clear e0 e1 e2 e3
 go_wp2_with fail
 go_loopw [5] (GrR bp ba g B ns next a A b o c J W.heap.size) (fun i _=>l.length - (intOf i).toNat)
 case atStart=>exact ⟨wr0,[],0,l.length,rfl,hj3,fun q hq=>⟨by have:=(hwr0 q hq).1; omega,(hwr0 q hq).2⟩,by rw [hl]; rfl,by rw [hl]; omega,by omega,h3,hsz3⟩
 case round =>
  obtain ⟨ws,pre,k,f,rfl,hj,hws,heq,hf,hk,hE,hn⟩:=hrel
  rw [hl] at heq hf hk
  by_cases hlt:k < l.length
  ·obtain ⟨f',rfl⟩:∃ f',f=f'+1:=⟨f - 1,by omega⟩
   rw [qmh,if_pos hlt] at heq
   have hA:A=some ⟨b,o,none⟩/\b < B:=hE.kids.adr (by rw [hl]; omega)
   obtain ⟨rfl,hbB⟩:=hA
   have hBr:=hE.pg.lt
   have d0:∀ V:BW wr.heap.size wr,V.val.cell? ⟨bp,0,none⟩=some (.pointer (some ⟨g,0,none⟩)):=fun V=>(hE.page.below V.ok hE.page.lt).cell 0
   have hlk:∀ j (hj:j < l.length) W',Below wr.heap.size wr W'->W'.cell? ⟨b,o+j,none⟩=some (.int .i64 (l[j]:Nat)):=fun j hj W' hW=>(hW.cell (p:=⟨b,o+j,none⟩) (by show b < _; omega)).trans (by have:=hE.kids.cell j (by rw [hl]; exact hj); simpa [hl] using this)
   have d1:∀ V:BW wr.heap.size wr,V.val.cell? ⟨b,o+k,none⟩=some (.int .i64 (l[k]:Nat)):=fun V=>hlk k hlt _ V.ok
   have hzk:(k:Int) < (l.length:Int):=by omega
   have hg0:l.getD k 0=l[k]:=by rw [List.getD_eq_getElem?_getD,List.getElem?_eq_getElem hlt]; rfl
   have hcall:∀ V:BW wr.heap.size wr,Calls Tryz.prog 136 #[.pointer (some ⟨g,0,none⟩),.int .i64 (l[k]:Nat)] V.val fun e w''=>e=.returned (.bool (qfa ns (l.getD k 0)))/\∃ V':BW wr.heap.size wr,w''=V'.val:=fun V =>
    (qpl g B ns next l[k] V.val (hE.pg.below (V.ok.mono hBr)) (hin _ (List.getElem_mem hlt))).mono fun e w'' ⟨he,hb⟩=>⟨by rw [hg0]; exact he,⟨w'',V.ok.trans (hb.mono V.ok.size)⟩,rfl⟩
   have HQ:=Lib.hid heq
   have HL:=Lib.hid hlk
   have HG:=Lib.hid hg0
   clear heq hlk hg0
   obtain ⟨run,hrun⟩:∃ run,qfa ns (l.getD k 0)=run:=⟨_,rfl⟩
   rw [hrun] at hcall
   have HR:=Lib.hid hrun
   clear hrun
   generalize l[k]=lk at *
   go_wp2_with fail
   refine qeb wr.heap.size (by kernel_rfl) (by kernel_rfl) ?_
   repeat (go_big_quiet_step ((go_at_call 136; exact hcall _)))
   refine wpQuiet_nil ?_
   intro w4 hw'
   obtain ⟨⟨_,hQ4⟩,rfl⟩:=hw'
   clear d0 d1 hcall
   go_wp2_with fail
   go_loopw [6] (GtR ns l k run wr) (fun i _=>l.length - (intOf i).toNat)
   case atStart=>exact ⟨k+1,congrArg (Value.int IntKind.i64) (by omega),Nat.le_refl _,hlt,fun _ j h1 h2=>absurd h2 (by omega),fun _=>rfl,hQ4⟩
   case round =>
    obtain ⟨t,rfl,ht1,ht2,ht3,ht4,hQt⟩:=hrel
    have hEt:=hE.kept (gs:=[]) (Kept.of_below hQt) (by simp) (by simp) (by simp)
    have hBt:=hEt.pg.lt
    have d0:∀ V:BW wr.heap.size wr,V.val.cell? ⟨bp,0,none⟩=some (.pointer (some ⟨g,0,none⟩)):=fun V=>(hEt.page.below V.ok hEt.page.lt).cell 0
    cases run with
    | false =>
     have ht:=ht4 rfl
     have HT:=Lib.hid (show grpTo ns l k=t by unfold grpTo; rw [HR.out,if_neg (by decide)]; exact ht.symm)
     clear ht ht3 ht4
     go_wp2_with fail
     refine qeb wr.heap.size (by kernel_rfl) (by kernel_rfl) ?_
     repeat (go_big_quiet_step (fail))
     refine wpQuiet_nil ?_
     intro w5 hw'
     obtain ⟨⟨_,hQ5⟩,rfl⟩:=hw'
     clear d0
     have hk35:=(Kept.of_below (gs:=[]) hQt).trans (Kept.of_below hQ5)
     have hE5:=hE.kept hk35 (by simp) (by simp) (by simp)
     have heq5:grpL ns l=(pre ++ [(k,t,false)]) ++ grpGo ns l f' t:=by rw [HQ.out,HT.out,HR.out]; simp
     have HE5:=Lib.hid heq5
     clear heq5
     go_upto_region 7 with fail
     refine (wpIn_wide (n:=n)).1 ?_
     obtain ⟨fn,tmps,assign,body,hy,hR⟩:=hY (n - 1) ws pre (k,t,false) w5 (hJ _ _ _ _ hj (IS.of_kept hk35)) ⟨_,HE5.out.symm⟩
     dsimp only [grpV] at hy
     gi_wp2
     refine ⟨fun h=>absurd h (by decide),hR.mono ?_⟩
     rintro e w7 (⟨rfl,ws',hj7,hk7,hw7⟩ | ⟨rfl,hx7⟩ | ⟨ch,rfl,hp7⟩)
     ·gi_wp2
      go_wp2_with fail
      have hz7:=hk7.size
      have hz5:=hk35.size
      have l1:=hE5.page.lt
      have l2:=hE5.at_.lt
      have l3:=hE5.pg.lt
      refine ⟨⟨ws',_,t,f',rfl,hj7,fun q hq=>⟨(hw7 q hq).2,?_⟩,by rw [hl]; exact HE5.out,by rw [hl]; omega,by rw [hl]; omega,hE5.kept hk7 (fun h=>(hws _ h).2 (.inl rfl)) (fun h=>(hws _ h).2 (.inr (.inl rfl))) (fun q hq=>?_),by omega⟩,by simp [intOf]; omega⟩
      ·rcases (hw7 q hq).1 with h4 | h4
       ·exact (hws q h4).2
       ·unfold GrpRd
        omega
      ·have:=(hws q hq).2
       unfold GrpRd at this
       omega
     ·gi_wp2
      go_wp2_with fail
      refine bodyPost_ret (results_none rfl _ _ _) rfl ?_
      exact .inl ⟨_,rfl,.inr hx7⟩
     ·exact ⟨rfl,.inr ⟨ch,rfl,hp7⟩⟩
    | true =>
     have ht3':=ht3 rfl
     clear ht4 ht3
     rcases Nat.lt_or_ge t l.length with hzt | hzt
     ·have hzi:(t:Int) < (l.length:Int):=by omega
      have d1:∀ V:BW wr.heap.size wr,V.val.cell? ⟨b,o+t,none⟩=some (.int .i64 (l[t]:Nat)):=fun V=>HL.out t hzt _ (hQt.trans (V.ok.mono hQt.size))
      have hgt:l.getD t 0=l[t]:=by rw [List.getD_eq_getElem?_getD,List.getElem?_eq_getElem hzt]; rfl
      have hcall:∀ V:BW wr.heap.size wr,Calls Tryz.prog 136 #[.pointer (some ⟨g,0,none⟩),.int .i64 (l[t]:Nat)] V.val fun e w''=>e=.returned (.bool (qfa ns (l.getD t 0)))/\∃ V':BW wr.heap.size wr,w''=V'.val:=fun V =>
       (qpl g B ns next l[t] V.val (hEt.pg.below (V.ok.mono hBt)) (hin _ (List.getElem_mem hzt))).mono fun e w'' ⟨he,hb⟩=>⟨by rw [hgt]; exact he,⟨w'',V.ok.trans (hb.mono V.ok.size)⟩,rfl⟩
      clear hgt
      obtain ⟨r2,hr2⟩:∃ r2,qfa ns (l.getD t 0)=r2:=⟨_,rfl⟩
      rw [hr2] at hcall
      generalize l[t]=lt_ at *
      cases r2 with
      | true =>
       have H3:=Lib.hid ht3'
       have H4:=Lib.hid hr2
       clear ht3' hr2
       go_wp2_with fail
       refine qeb wr.heap.size (by kernel_rfl) (by kernel_rfl) ?_
       repeat (go_big_quiet_step ((go_at_call 136; exact hcall _)))
       refine wpQuiet_nil ?_
       intro w5 hw'
       obtain ⟨⟨_,hQ5⟩,rfl⟩:=hw'
       clear d0 d1 hcall
       go_wp2_with fail
       refine ⟨⟨t+1,congrArg (Value.int IntKind.i64) (by omega),by omega,hzt,fun _ j h1 h2=>?_,fun h=>(by cases h),hQt.trans (hQ5.mono hQt.size)⟩,by simp [intOf]; omega⟩
       rcases Nat.lt_or_ge j t with h3 | h3
       ·exact H3.out j h1 h3
       ·obtain rfl:j=t:=by omega
        exact H4.out
      | false =>
       have HT:=Lib.hid (show grpTo ns l k=t from qnn ht1 ht2 HR.out ht3' fun _=>hr2)
       clear ht3' hr2
       go_wp2_with fail
       refine qeb wr.heap.size (by kernel_rfl) (by kernel_rfl) ?_
       repeat (go_big_quiet_step ((go_at_call 136; exact hcall _)))
       refine wpQuiet_nil ?_
       intro w5 hw'
       obtain ⟨⟨_,hQ5⟩,rfl⟩:=hw'
       clear d1 hcall
       clear d0
       have hk35:=(Kept.of_below (gs:=[]) hQt).trans (Kept.of_below hQ5)
       have hE5:=hE.kept hk35 (by simp) (by simp) (by simp)
       have heq5:grpL ns l=(pre ++ [(k,t,true)]) ++ grpGo ns l f' t:=by rw [HQ.out,HT.out,HR.out]; simp
       have HE5:=Lib.hid heq5
       clear heq5
       go_upto_region 7 with fail
       refine (wpIn_wide (n:=n)).1 ?_
       obtain ⟨fn,tmps,assign,body,hy,hR⟩:=hY (n - 1) ws pre (k,t,true) w5 (hJ _ _ _ _ hj (IS.of_kept hk35)) ⟨_,HE5.out.symm⟩
       dsimp only [grpV] at hy
       gi_wp2
       refine ⟨fun h=>absurd h (by decide),hR.mono ?_⟩
       rintro e w7 (⟨rfl,ws',hj7,hk7,hw7⟩ | ⟨rfl,hx7⟩ | ⟨ch,rfl,hp7⟩)
       ·gi_wp2
        go_wp2_with fail
        have hz7:=hk7.size
        have hz5:=hk35.size
        have l1:=hE5.page.lt
        have l2:=hE5.at_.lt
        have l3:=hE5.pg.lt
        refine ⟨⟨ws',_,t,f',rfl,hj7,fun q hq=>⟨(hw7 q hq).2,?_⟩,by rw [hl]; exact HE5.out,by rw [hl]; omega,by rw [hl]; omega,hE5.kept hk7 (fun h=>(hws _ h).2 (.inl rfl)) (fun h=>(hws _ h).2 (.inr (.inl rfl))) (fun q hq=>?_),by omega⟩,by simp [intOf]; omega⟩
        ·rcases (hw7 q hq).1 with h4 | h4
         ·exact (hws q h4).2
         ·unfold GrpRd
          omega
        ·have:=(hws q hq).2
         unfold GrpRd at this
         omega
       ·gi_wp2
        go_wp2_with fail
        refine bodyPost_ret (results_none rfl _ _ _) rfl ?_
        exact .inl ⟨_,rfl,.inr hx7⟩
       ·exact ⟨rfl,.inr ⟨ch,rfl,hp7⟩⟩
     ·obtain rfl:t=l.length:=by omega
      have HT:=Lib.hid (show grpTo ns l k=l.length from qnn ht1 ht2 HR.out ht3' fun h=>absurd h (Nat.lt_irrefl _))
      clear ht3' hzt
      go_wp2_with fail
      refine qeb wr.heap.size (by kernel_rfl) (by kernel_rfl) ?_
      repeat (go_big_quiet_step (fail))
      refine wpQuiet_nil ?_
      intro w5 hw'
      obtain ⟨⟨_,hQ5⟩,rfl⟩:=hw'
      clear d0
      have hk35:=(Kept.of_below (gs:=[]) hQt).trans (Kept.of_below hQ5)
      have hE5:=hE.kept hk35 (by simp) (by simp) (by simp)
      have heq5:grpL ns l=(pre ++ [(k,l.length,true)]) ++ grpGo ns l f' l.length:=by rw [HQ.out,HT.out,HR.out]; simp
      have HE5:=Lib.hid heq5
      clear heq5
      go_upto_region 7 with fail
      refine (wpIn_wide (n:=n)).1 ?_
      obtain ⟨fn,tmps,assign,body,hy,hR⟩:=hY (n - 1) ws pre (k,l.length,true) w5 (hJ _ _ _ _ hj (IS.of_kept hk35)) ⟨_,HE5.out.symm⟩
      dsimp only [grpV] at hy
      gi_wp2
      refine ⟨fun h=>absurd h (by decide),hR.mono ?_⟩
      rintro e w7 (⟨rfl,ws',hj7,hk7,hw7⟩ | ⟨rfl,hx7⟩ | ⟨ch,rfl,hp7⟩)
      ·gi_wp2
       go_wp2_with fail
       have hz7:=hk7.size
       have hz5:=hk35.size
       have l1:=hE5.page.lt
       have l2:=hE5.at_.lt
       have l3:=hE5.pg.lt
       refine ⟨⟨ws',_,l.length,f',rfl,hj7,fun q hq=>⟨(hw7 q hq).2,?_⟩,by rw [hl]; exact HE5.out,by rw [hl]; omega,by rw [hl]; omega,hE5.kept hk7 (fun h=>(hws _ h).2 (.inl rfl)) (fun h=>(hws _ h).2 (.inr (.inl rfl))) (fun q hq=>?_),by omega⟩,by simp [intOf]; omega⟩
       ·rcases (hw7 q hq).1 with h4 | h4
        ·exact (hws q h4).2
        ·unfold GrpRd
         omega
       ·have:=(hws q hq).2
        unfold GrpRd at this
        omega
      ·gi_wp2
       go_wp2_with fail
       refine bodyPost_ret (results_none rfl _ _ _) rfl ?_
       exact .inl ⟨_,rfl,.inr hx7⟩
      ·exact ⟨rfl,.inr ⟨ch,rfl,hp7⟩⟩
  ·obtain rfl:k=l.length:=by omega
   have hng:grpGo ns l f l.length=[]:=by
    cases f with
    | zero=>rfl
    | succ f=>rw [qmh,if_neg (Nat.lt_irrefl _)]
   rw [hng,List.append_nil] at heq
   go_wp2_with fail
   go_end0
   rw [heq]
   exact .inl ⟨_,rfl,.inl ⟨ws,hj⟩⟩
end Go.Proofs.YtlnekijhbnlclaaGreatDoor
namespace Go.Proofs.YtlnekijhbnlclaaGreatDoor
open Go.RowKit Go.Shelf
set_option linter.unusedSimpArgs false
set_option linter.unusedVariables false
structure PgW (W:World) (g B:Nat) (ns:List Nd) (next:Int):Prop where
 pg:PageAt W g B ns next
 ml:∃ m,W.cell? ⟨2,0,none⟩=some (.int .i64 m)
 mlt:2 < B
theorem PgW.below {W W':World} {g B:Nat} {ns:List Nd} {next:Int} (h:PgW W g B ns next) (hb:Below B W W'):PgW W' g B ns next:=by
 obtain ⟨h1,⟨m,h2⟩,h3⟩:=h
 exact ⟨h1.below hb,⟨m,(hb.cell (p:=⟨2,0,none⟩) h3).trans h2⟩,h3⟩
theorem PgW.lt {W:World} {g B:Nat} {ns:List Nd} {next:Int} (h:PgW W g B ns next):B<=W.heap.size:=h.pg.lt
def cutF (font:Int) (i:Nat) (x:Pc):Option Pie:=(must (q1b (mkB x.2) font).2).bind fun _=>some ⟨x.1,(q1b (mkB x.2) font).1,⟨(q1b (mkB x.2) font).1,(qka 60 font).1,(qka 20 font).1,0⟩,i,0,0,mkB x.2,none⟩
theorem qim (ns:List Nd) (i ws:Nat) (font:Int):cutL ns i ws font=(must (qka 60 font).2).bind fun _=>(must (qka 20 font).2).bind fun _=>(Go.Proofs.YtlnekijhbnlclaaGreatDoor.cutR ws (ndAt ns i).text.data.toList).mapM (cutF font i):=rfl
def CutP (r:Option (List Pie)) (w:World) (e:Ending) (w':World):Prop:=Below w.heap.size w w'/\(match r with
 | some L=>∃ v,e=.returned v/\shPi.Owns w' w.heap.size v (bareM L)
 | none=>e=.panicked overC)
theorem q6c (w:World):Calls Tryz.prog 51 #[.int .i64 0] w fun e w'=>e=.returned (.tuple #[])/\w=w':=(q7d w).mono fun _ _ h=>⟨h.1,h.2.symm⟩
theorem qvc (n:Int) (hn:n≠0) (w:World):Calls Tryz.prog 51 #[.int .i64 n] w fun e w'=>e=.panicked overC/\w=w':=(qyd n hn w).mono fun _ _ h=>⟨h.1,h.2.symm⟩
theorem q4c {n:Int} (h:n≠0):must n=none:=if_neg h
def CgR (font:Int) (i:Nat) (L:List Pc) (w4:World) (v q:Value) (wr:World):Prop :=
 ∃ (k:Nat) (acc:List Pie),k<=L.length/\q=.int .i64 k/\(L.take k).mapM (cutF font i)=some acc/\shPi.Owns wr w4.heap.size v (bareM acc)/\Below w4.heap.size w4 wr
set_option maxRecDepth 100000 in
set_option maxHeartbeats 8000000 in
theorem qdx (g B:Nat) (ns:List Nd) (next:Int) (i ws:Nat) (font:Int) (w:World) (h:PgW w g B ns next) (hi:i < ns.length) (ht:(ndAt ns i).text.size<=4000) :
  Calls Tryz.prog 121 #[.pointer (some ⟨g,0,none⟩),.int .i64 i,.int .u8 ws,.int .i64 font] w (CutP (cutL ns i ws font) w):=by
 have h1:=fun W=>q8j font W
 have h2:=fun W=>qbl font W
 have HC:=Lib.hid (qim ns i ws font)
 have HF:=Lib.hid (fun x=>show cutF font i x=_ from rfl)
 obtain ⟨u,hu⟩:∃ u,qka 60 font=u:=⟨_,rfl⟩
 obtain ⟨d,hd⟩:∃ d,qka 20 font=d:=⟨_,rfl⟩
 rw [hu] at h1 HC
 rw [hd] at h2 HC
 have HX:=Lib.hid (fun x:Pc=>show cutF font i x=(must (q1b (mkB x.2) font).2).bind fun _=>some ⟨x.1,(q1b (mkB x.2) font).1,⟨(q1b (mkB x.2) font).1,u.1,d.1,0⟩,i,0,0,mkB x.2,none⟩ by unfold cutF; rw [hu,hd])
 clear hu hd HF
 obtain ⟨u1,u2⟩:=u
 obtain ⟨d1,d2⟩:=d
 by_cases hu2:u2=0
 ·subst hu2
  by_cases hd2:d2=0
  ·subst hd2
   obtain ⟨b,o,c,hd,hc,hb,hrg⟩:=h.pg.node hi
   have hz:(i:Int) < (ns.length:Int):=by omega
   have hBw:=h.lt
   obtain ⟨m,hm⟩:=h.ml
   have c50:w.cell? ⟨b,o+i * 51+50,none⟩=some (.string (ndAt ns i).text):=hrg 50 _ rfl
   have HC:=Lib.hid (show cutL ns i ws font=(Go.Proofs.YtlnekijhbnlclaaGreatDoor.cutR ws (ndAt ns i).text.data.toList).mapM (cutF font i) from HC.out)
   have hcut:=qmw (ndAt ns i).text ht ws m w hm
   unfold qye at hcut
   have hbd:=qsn (ws:Int) (ndAt ns i).text.data.toList
   rw [q6e] at hbd
   generalize (ndAt ns i).text=tx at *
   obtain ⟨L,hL⟩:∃ L,Go.Proofs.YtlnekijhbnlclaaGreatDoor.cutR ws tx.data.toList=L:=⟨_,rfl⟩
   rw [hL] at hcut hbd HC
   clear hL hrg h
   go_enter Tryz.func121,Tryz.ntmps121
   go_upto_region 6 with (first | (go_at_call 138; refine (h1 _).mono ?_; rintro e w1 ⟨rfl,rfl⟩) | (go_at_call 139; refine (h2 _).mono ?_; rintro e w1 ⟨rfl,rfl⟩) | (go_at_call 51; refine (q6c _).mono ?_; rintro e w1 ⟨rfl,rfl⟩))
   clear h1 h2
   go_wp2_with fail
   refine hcut.mono ?_
   rintro e w4 ⟨v4,rfl,hown4,hb4⟩
   have hP4:=hown4.pieces
   obtain ⟨A4,cc4,rfl⟩:=hP4.form
   clear hown4 hcut c50 hm hd
   have HP:=Lib.hid hP4
   clear hP4
   go_wp2_with fail
   go_loopw [12,43] (CgR font i L w4) (fun _ q _=>L.length - (intOf q).toNat)
   case atStart=>exact ⟨0,[],Nat.zero_le _,rfl,rfl,Shp.Owns.nil _ _,Below.refl _ _⟩
   case round =>
    obtain ⟨k,acc,hk,rfl,hacc,hown,hbr⟩:=hrel
    obtain ⟨A5,n5,c5,rfl⟩:=hown.slice_
    have hal:=qkh _ hacc
    rw [List.length_take,Nat.min_eq_left hk] at hal
    have HA:=Lib.hid hacc
    clear hacc
    by_cases hlt:k < L.length
    ·have hP:=HP.out.below hbr
     rcases hP with ⟨h0,_⟩ | ⟨pg,pc,hv,hp0,hp1,hp2,hp3,hpc,hpf⟩
     ·rw [h0] at hlt; exact absurd hlt (by simp)
     injection hv with hv1 hv2 hv3
     subst hv1
     obtain ⟨e0,e1⟩:=hpc k hlt
     have hzk:(k:Int) < (L.length:Int):=by omega
     have hsum:=qaj hlt
     have hw:=fun W=>qpw (mkB L[k].2) font W (by rw [qti]; omega)
     have HT:=Lib.hid (qml (cutF font i) hlt)
     have HX1:=Lib.hid (HX.out L[k])
     obtain ⟨wd,hwd⟩:∃ wd,q1b (mkB L[k].2) font=wd:=⟨_,rfl⟩
     rw [hwd] at hw HX1
     obtain ⟨n,n2⟩:=wd
     obtain ⟨tx2,htx2⟩:∃ t,mkB L[k].2=t:=⟨_,rfl⟩
     rw [htx2] at e1 hw HX1
     obtain ⟨kd,hkd⟩:∃ t,L[k].1=t:=⟨_,rfl⟩
     rw [hkd] at e0 HX1
     clear hpc hwd hsum htx2 hkd hv2 hv3
     go_upto_region 9 with fail
     have hX:=Blk.new wr 240 #[.int .u8 kd,.string tx2]
     have kX:Kept [] wr (wr.alloc (.cells #[.int .u8 kd,.string tx2] 240)):=(Kept.refl [] wr).alloc _
     generalize wr.alloc (.cells #[.int .u8 kd,.string tx2] 240)=w5 at *
     obtain ⟨q,hq⟩:∃ q,wr.heap.size=q:=⟨_,rfl⟩
     rw [hq] at hX ⊢
     clear hq e0 e1
     have c1:w5.cell? ⟨q,1,none⟩=some (.string tx2):=hX.cell 1
     go_upto_region 10 with (go_at_call 150; refine (hw _).mono ?_; rintro e w6 ⟨rfl,hb6⟩)
     have hX6:=hX.below hb6 hX.lt
     have k6:Kept [] wr w6:=kX.trans (Kept.of_below hb6)
     clear c1 hX kX hw hb6
     by_cases hn2:n2=0
     ·subst hn2
      have HT:=Lib.hid (show (L.take (k+1)).mapM (cutF font i)=some (acc ++ [⟨kd,n,⟨n,u1,d1,0⟩,i,0,0,tx2,none⟩]) by rw [HT.out,HA.out,HX1.out]; rfl)
      have c0:w6.cell? ⟨q,0,none⟩=some (.int .u8 kd):=hX6.cell 0
      have c1:w6.cell? ⟨q,1,none⟩=some (.string tx2):=hX6.cell 1
      have hown6:shPi.Owns w6 w4.heap.size (.slice A5 n5 c5) (bareM acc):=hown.kept k6 (by simp)
      have hs6:w4.heap.size<=w6.heap.size:=Nat.le_trans hbr.size k6.size
      have hal2:(bareM acc).length+1<=1000000000:=by unfold bareM; rw [List.length_map]; omega
      go_upto_region 11 with (go_at_call 51; refine (q6c _).mono ?_; rintro e w7 ⟨rfl,rfl⟩)
      go_wp2_with (refine qsd (v:=.slice A5 n5 c5) qcf w6 ⟨⟨kd,n,⟨n,u1,d1,0⟩,i,0,0,tx2,none⟩,none⟩ rfl _ _ rfl rfl hown6 rfl hal2 hs6 ?_; intro v7 w7 hown7 hgrow7 hloc7; obtain ⟨A7,n7,c7,rfl⟩:=hown7.slice_)
      have k7:Kept (Value.slice A5 n5 c5).ownBlock.toList w6 w7:=((Kept.refl _ w6).alloc _).grown hgrow7 fun g hg=>.inl (by rw [hg]; simp)
      have hB7:Below w4.heap.size w4 w7:=(hbr.trans (k6.to_below hbr.size (by simp))).trans (k7.to_below hs6 fun g hg=>(hown6.lt g (by simpa using hg)).1)
      refine ⟨⟨k+1,_,hlt,by go_num,HT.out,?_,hB7⟩,by simp [intOf]; omega⟩
      have e:bareM (acc ++ [⟨kd,n,⟨n,u1,d1,0⟩,i,0,0,tx2,none⟩])=bareM acc ++ [⟨⟨kd,n,⟨n,u1,d1,0⟩,i,0,0,tx2,none⟩,none⟩]:=by simp [bareM]
      rw [e]
      exact hown7
     ·have HN:=Lib.hid (show cutL ns i ws font=none by
       rw [HC.out]
       refine qeh _ (k:=k+1) ?_
       rw [HT.out,HA.out,HX1.out,q4c hn2]
       rfl)
      go_wp2_with (go_at_call 51; refine (qvc n2 hn2 _).mono ?_; rintro e w7 ⟨rfl,rfl⟩)
      have hB7:Below w.heap.size w w6:=(hb4.trans ((hbr.trans (k6.to_below hbr.size (by simp))).mono hb4.size))
      refine ⟨rfl,hB7,?_⟩
      rw [HN.out]
    ·obtain rfl:k=L.length:=by omega
     rw [List.take_length] at HA
     have HN:=Lib.hid (HC.out.trans HA.out)
     go_wp2_with fail
     go_ret
     refine ⟨hb4.trans (hbr.mono hb4.size),?_⟩
     rw [HN.out]
     exact ⟨_,rfl,hown.base_le hb4.size⟩
  ·have HN:=Lib.hid (show cutL ns i ws font=none by rw [HC.out]; show (must d2).bind _=none; rw [q4c hd2]; rfl)
   clear h
   go_enter Tryz.func121,Tryz.ntmps121
   go_upto_region 4 with (first | (go_at_call 138; refine (h1 _).mono ?_; rintro e w1 ⟨rfl,rfl⟩) | (go_at_call 139; refine (h2 _).mono ?_; rintro e w1 ⟨rfl,rfl⟩) | (go_at_call 51; refine (q6c _).mono ?_; rintro e w1 ⟨rfl,rfl⟩))
   go_wp2_with (go_at_call 51; refine (qvc d2 hd2 _).mono ?_; rintro e w7 ⟨rfl,rfl⟩)
   refine ⟨rfl,Below.refl _ _,?_⟩
   rw [HN.out]
 ·have HN:=Lib.hid (show cutL ns i ws font=none by rw [HC.out]; show (must u2).bind _=none; rw [q4c hu2]; rfl)
  clear h
  go_enter Tryz.func121,Tryz.ntmps121
  go_upto_region 2 with (go_at_call 138; refine (h1 _).mono ?_; rintro e w1 ⟨rfl,rfl⟩)
  go_wp2_with (go_at_call 51; refine (qvc u2 hu2 _).mono ?_; rintro e w7 ⟨rfl,rfl⟩)
  refine ⟨rfl,Below.refl _ _,?_⟩
  rw [HN.out]
end Go.Proofs.YtlnekijhbnlclaaGreatDoor
