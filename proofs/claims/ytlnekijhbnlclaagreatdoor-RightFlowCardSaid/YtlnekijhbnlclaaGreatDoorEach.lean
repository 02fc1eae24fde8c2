/-
  Walks: package lines: each (an iterator).
-/
import Derived.Test.YtlnekijhbnlclaaGreatDoorKids
import Derived.Test.YtlnekijhbnlclaaGreatDoorRangeP
namespace Go.Proofs.YtlnekijhbnlclaaGreatDoor
open Go.RowKit Go.Shelf
theorem qmk (l:List Im) (a:Nat):a<=qva l a:=by
 unfold qva
 split
 ·omega
 ·exact qje l 0 a
theorem qmg {l:List Im} {a:Nat} (h:a<=l.length):qva l a<=l.length:=by
 unfold qva
 split
 ·rename_i hk; exact qtd hk
 ·exact qrd h
theorem qrg {l:List Im} {kind a:Nat} (h:a<=l.length):pass1 l kind a<=l.length:=by
 unfold pass1
 split
 ·rename_i hk; exact qtd hk
 ·exact h
theorem q9l (l:List Im) (kind a:Nat):a<=pass1 l kind a:=by unfold pass1; split <;> omega
theorem q6h {l:List Im} {width:Int} {fr f t0 a:Nat} {wd:Int} (h:qva l a=a):qmb l width fr (f+1) t0 wd a=(t0,wd):=by rw [qmb]; exact if_pos h
theorem qbm {l:List Im} {width:Int} {fr f t0 a:Nat} {wd:Int} (h:qva l a≠a) (h2:t0=fr\/sumW l fr (qva l a)<=width) :
  qmb l width fr (f+1) t0 wd a=qmb l width fr f (qva l a) (sumW l fr (qva l a)) (passK l 1 (qva l a)):=by rw [qmb]; exact (if_neg h).trans (if_pos h2)
theorem qek {l:List Im} {width:Int} {fr f t0 a:Nat} {wd:Int} (h:qva l a≠a) (h2:¬ (t0=fr\/sumW l fr (qva l a)<=width)):qmb l width fr (f+1) t0 wd a=(t0,wd):=by rw [qmb]; exact (if_neg h).trans (if_neg h2)
theorem qgj {l:List Im} {width:Int} {fr:Nat}:∀ (f t0 a:Nat) (wd:Int),t0<=l.length->a<=l.length->fr<=t0->t0<=a->(qmb l width fr f t0 wd a).1<=l.length/\fr<=(qmb l width fr f t0 wd a).1
 | 0,t0,a,wd,h1,h2,h3,h4=>⟨h1,h3⟩
 | f+1,t0,a,wd,h1,h2,h3,h4=>by
  by_cases hc:qva l a=a
  ·rw [q6h hc]; exact ⟨h1,h3⟩
  ·by_cases h5:t0=fr\/sumW l fr (qva l a)<=width
   ·rw [qbm hc h5]
    have:=qmg h2
    have:=qmk l a
    exact qgj f _ _ _ (qmg h2) (qrd (qmg h2)) (by omega) (qje _ _ _)
   ·rw [qek hc h5]; exact ⟨h1,h3⟩
def lineX (l:List Im) (width:Int) (a:Nat):Nat×Int:=qmb l width a (l.length+1 - a) a 0 a
theorem qtf (l:List Im) (width:Int) (f at_:Nat):qdc l width (f+1) at_ =
  if passK l 1 at_ < (lineX l width (passK l 1 at_)).1 then (passK l 1 at_,lineX l width (passK l 1 at_)) :: qdc l width f (pass1 l 2 (passK l 1 (lineX l width (passK l 1 at_)).1))
  else if isK l 2 (lineX l width (passK l 1 at_)).1=true then (passK l 1 at_,lineX l width (passK l 1 at_)) :: qdc l width f (pass1 l 2 (lineX l width (passK l 1 at_)).1)
  else []:=rfl
structure EachW (W:World) (g bp bc bw B:Nat) (v:Value) (l:List Im) (width:Int) (a:Nat):Prop where
 cur:Blk W g 244 #[v,.int .i64 a]
 pass:Blk W bp 291 #[.func (.func 176) #[.pointer (some ⟨g,0,none⟩)] #[]]
 cp:Blk W bc 242 #[.pointer (some ⟨g,0,none⟩)]
 wd:Blk W bw 3 #[.int .i64 width]
 ims:Ims W B v l
section
variable {W W':World} {g bp bc bw B a:Nat} {v:Value} {l:List Im} {width:Int} {gs:List Nat}
theorem EachW.kept (h:EachW W g bp bc bw B v l width a) (hk:Kept gs W W') (hB:B<=g) (h1:g ∉ gs) (h2:bp ∉ gs) (h3:bc ∉ gs) (h4:bw ∉ gs) (h5:∀ k ∈ gs,B<=k):EachW W' g bp bc bw B v l width a :=
 ⟨h.cur.kept hk h1,h.pass.kept hk h2,h.cp.kept hk h3,h.wd.kept hk h4,h.ims.below (hk.to_below (by have:=h.cur.lt; omega) h5)⟩
theorem EachW.moved {a':Nat} (h:EachW W g bp bc bw B v l width a) (hk:Kept [g] W W') (hc:Blk W' g 244 #[v,.int .i64 a']) (hB:B<=g) (h2:bp≠g) (h3:bc≠g) (h4:bw≠g):EachW W' g bp bc bw B v l width a' :=
 ⟨hc,h.pass.kept hk (by simp [h2]),h.cp.kept hk (by simp [h3]),h.wd.kept hk (by simp [h4]),h.ims.below (hk.to_below (by have:=h.cur.lt; omega) (by simp [hB]))⟩
theorem Kept.setNew {a b:World} (h:Kept gs a b) {p:Addr} (hp:a.heap.size<=p.block) (u:Value):Kept gs a (b.setCell p u) :=
 ⟨h.os,h.tape,h.output,by simpa [World.setCell] using h.size,fun i hi hn=>(Below.heap_setCell b p u i (fun e=>by omega)).trans (h.block i hi hn)⟩
end
def qid (g bp bc bw B k:Nat):Prop:=k=g\/k=bp\/k=bc\/k=bw\/k < B
def EcR (g bp bc bw B:Nat) (v:Value) (l:List Im) (width:Int) (fr X:Nat) (R:Nat×Int) (W1:World) (wr:World):Prop :=
 ∃ (t0 a f:Nat) (wd:Int),qmb l width fr f t0 wd a=R/\l.length+1<=f+a/\a<=l.length/\fr<=t0/\t0<=a/\EachW wr g bp bc bw B v l width a/\Kept [g] W1 wr /\
  Blk wr X 217 #[.int .i64 fr,.int .i64 t0,.int .i64 wd]
def EaR (g bp bc bw B:Nat) (v:Value) (l:List Im) (width:Int) (J:List Nat->List (Nat×Nat×Int)->World->Prop) (n:Nat) (wr:World):Prop :=
 ∃ (ws:List Nat) (pre:List (Nat×Nat×Int)) (a f:Nat),J ws pre wr/\(∀ k ∈ ws,k < wr.heap.size/\¬ qid g bp bc bw B k)/\eachR l width=pre ++ qdc l width f a/\l.length+1<=f+a/\a<=l.length /\
  EachW wr g bp bc bw B v l width a/\n<=wr.heap.size
def ln3V (x:Nat×Nat×Int):Value:=.agg #[.int .i64 x.1,.int .i64 x.2.1,.int .i64 x.2.2]
set_option maxRecDepth 100000 in
set_option maxHeartbeats 4000000 in
theorem qlt (l:List Im) (width:Int) (v:Value) (B g bp bc bw:Nat) (w:World) (h:EachW w g bp bc bw B v l width 0) (hB:B<=g) (h1:bp≠g) (h2:bc≠g) (h3:bw≠g) (hm:l.length < 1000000) :
  SeqP Tryz.prog 177 #[.pointer (some ⟨bp,0,none⟩),.pointer (some ⟨bc,0,none⟩),.pointer (some ⟨bw,0,none⟩)] (fun x=>#[ln3V x]) (eachR l width) [g] (qid g bp bc bw B) w:=by
 intro lp n J Jx Jp W wr0 hbW hwr0 hJ hJx hJp hY hj0
 have h0:EachW W g bp bc bw B v l width 0:=h.kept (gs:=[]) ⟨hbW.os,hbW.tape,hbW.output,hbW.size,fun k hk _=>hbW.block k hk⟩ hB (by simp) (by simp) (by simp) (by simp) (by simp)
 refine callsIn_wide.2 ?_
 go_enter Tryz.func177,Tryz.ntmps177
 go_wp2_with fail
 go_loopw [] (EaR g bp bc bw B v l width J W.heap.size) (fun wr=>l.length+1 - (intOf ((wr.cell? ⟨g,1,none⟩).getD undef)).toNat)
 case atStart=>exact ⟨wr0,[],0,l.length+1,hj0,hwr0,rfl,by omega,by omega,h0,Nat.le_refl _⟩
 case round =>
  obtain ⟨ws,pre,a,f,hj,hws,heq,hf,ha,hE,hn⟩:=hrel
  obtain ⟨f',rfl⟩:∃ f',f=f'+1:=⟨f - 1,by omega⟩
  rw [qtf] at heq
  have p0:wr.cell? ⟨bp,0,none⟩=some (.func (.func 176) #[.pointer (some ⟨g,0,none⟩)] #[]):=hE.pass.cell 0
  obtain ⟨fr,hfr⟩:∃ fr,passK l 1 a=fr:=⟨_,rfl⟩
  have hfl:a<=fr/\fr<=l.length:=by rw [<-hfr]; exact ⟨qje _ _ _,qrd ha⟩
  have hps:=q3d l a 1 v B g wr hE.cur hE.ims hB ha hm
  rw [hfr] at hps heq
  obtain ⟨R,hR0⟩:∃ R,lineX l width fr=R:=⟨_,rfl⟩
  rw [hR0] at heq
  go_wp2_with fail
  refine hps.mono ?_
  rintro e w1 ⟨rfl,hk1,hc1⟩
  have hE1:=hE.moved hk1 hc1 hB h1 h2 h3
  have c0:∀ V:BW w1.heap.size w1,V.val.cell? ⟨bc,0,none⟩=some (.pointer (some ⟨g,0,none⟩)):=fun V=>(hE1.cp.below V.ok hE1.cp.lt).cell 0
  have c1:∀ V:BW w1.heap.size w1,V.val.cell? ⟨g,1,none⟩=some (.int .i64 fr):=fun V=>(hc1.below V.ok hc1.lt).cell 1
  go_wp2_with fail
  refine qna [10] [0,1,2,3,4,5,6,7,8] [9,10] (fun w'=>∃ V:BW (w1.heap.size) w1,w'=V.val) (by kernel_rfl) (by kernel_rfl) (fun c a d v w h=>by cases d <;> exact h) ⟨⟨w1.drew,(Below.refl _ _).drew⟩,rfl⟩ ?_
  simp only [pickD,List.map_cons,List.map_nil,List.getD_cons_zero,List.getD_cons_succ]
  repeat (go_big_quiet_step (fail))
  refine wpQuiet_nil ?_
  refine qca rfl fun K hK=>?_
  go_simp
  refine hK.out _ _ (.inr ⟨⟨_,((Below.refl _ _).drew).alloc (Nat.le_refl _) _⟩,rfl⟩) ?_
  clear hK K
  try simp only [Act.put,zA,zB,zC]
  refine qca rfl fun K hK=>?_
  go_simp
  refine hK.out _ _ (.inl (by decide)) ?_
  clear hK K
  refine qla ?_
  have hb2:Below w1.heap.size w1 (w1.alloc (.cells #[.int .i64 fr,.int .i64 fr,.int .i64 0] 217)).drew:=((Below.refl _ _).alloc (Nat.le_refl _) _).drew
  have hE2:=hE1.kept (gs:=[]) (Kept.of_below hb2) hB (by simp) (by simp) (by simp) (by simp) (by simp)
  have hX2:=(Blk.new w1 217 #[.int .i64 fr,.int .i64 fr,.int .i64 0]).drew
  have hk2:Kept [g] w1 (w1.alloc (.cells #[.int .i64 fr,.int .i64 fr,.int .i64 0] 217)).drew:=Kept.of_below hb2
  generalize (w1.alloc (.cells #[.int .i64 fr,.int .i64 fr,.int .i64 0] 217)).drew=w2 at *
  obtain ⟨X,hXs⟩:∃ X,w1.heap.size=X:=⟨_,rfl⟩
  rw [hXs] at hX2 ⊢
  have hgX:g≠X/\bp≠X/\bc≠X/\bw≠X/\B<=X:=by
   have:=hE1.cur.lt; have:=hE1.pass.lt; have:=hE1.cp.lt; have:=hE1.wd.lt
   refine ⟨?_,?_,?_,?_,?_⟩ <;> omega
  clear c0 c1 p0 hb2
  go_wp2_with fail
  go_loopw [] (EcR g bp bc bw B v l width fr X R w1) (fun wr=>l.length+1 - (intOf ((wr.cell? ⟨g,1,none⟩).getD undef)).toNat)
  case atStart=>exact ⟨fr,fr,l.length+1 - fr,0,hR0,by omega,by omega,by omega,by omega,hE2,hk2,hX2⟩
  case round =>
   obtain ⟨t0,b,q,wd,hgo,hq,hb,h5,h6,hEr,hkr,hXr⟩:=hrel
   obtain ⟨q',rfl⟩:∃ q',q=q'+1:=⟨q - 1,by omega⟩
   have hcl:=q3p l b v B g wr hEr.cur hEr.ims hB hb hm
   have r0:wr.cell? ⟨bc,0,none⟩=some (.pointer (some ⟨g,0,none⟩)):=hEr.cp.cell 0
   have hce:=qmk l b
   have hcl2:=qmg hb
   by_cases hc:qva l b=b
   ·rw [q6h hc] at hgo
    rw [hc] at hcl
    rw [decide_eq_false (Nat.lt_irrefl b)] at hcl
    subst hgo
    clear hps hR0
    go_wp2_with fail
    refine hcl.mono ?_
    rintro e w3 ⟨rfl,hk3,hc3⟩
    have hE3:=hEr.moved hk3 hc3 hB h1 h2 h3
    have hX3:=hXr.kept hk3 (by simp; omega)
    have hk13:=hkr.trans hk3
    have x0:w3.cell? ⟨X,0,none⟩=some (.int .i64 fr):=hX3.cell 0
    have x1:w3.cell? ⟨X,1,none⟩=some (.int .i64 t0):=hX3.cell 1
    have x2:w3.cell? ⟨bc,0,none⟩=some (.pointer (some ⟨g,0,none⟩)):=hE3.cp.cell 0
    have x3:=hE3.cur.frozen
    have x4:w3.cell? ⟨g,1,none⟩=some (.int .i64 b):=hE3.cur.cell 1
    go_upto_region 8 with fail
    have hc4:=hE3.cur.set_ 1 (.int .i64 (t0:Int))
    simp only [zA,zB,zC] at hc4
    have hk4:Kept [g] w3 (w3.setCell ⟨g,1,none⟩ (.int .i64 (t0:Int))):=(Kept.refl _ _).setCell (p:=⟨g,1,none⟩) (by simp) _
    have hE4:=hE3.moved hk4 hc4 hB h1 h2 h3
    have hX4:=hX3.kept hk4 (by simp; omega)
    have hk14:=hk13.trans hk4
    clear x0 x1 x2 x3 x4
    generalize w3.setCell ⟨g,1,none⟩ (.int .i64 (t0:Int))=w4 at *
    have x0:w4.cell? ⟨X,0,none⟩=some (.int .i64 fr):=hX4.cell 0
    have x1:w4.cell? ⟨X,1,none⟩=some (.int .i64 t0):=hX4.cell 1
    have x2:w4.cell? ⟨bc,0,none⟩=some (.pointer (some ⟨g,0,none⟩)):=hE4.cp.cell 0
    have x5:w4.cell? ⟨bp,0,none⟩=some (.func (.func 176) #[.pointer (some ⟨g,0,none⟩)] #[]):=hE4.pass.cell 0
    try dsimp only at heq
    rcases Nat.lt_or_ge fr t0 with hlt | hge
    ·skip
     have hz:(fr:Int) < (t0:Int):=by omega
     rw [if_pos hlt] at heq
     obtain ⟨a3,ha3⟩:∃ a3,passK l 1 t0=a3:=⟨_,rfl⟩
     have ha3':t0<=a3/\a3<=l.length:=by rw [<-ha3]; exact ⟨qje _ _ _,qrd (by omega)⟩
     have hps2:=q3d l t0 1 v B g w4 hE4.cur hE4.ims hB (by omega) hm
     rw [ha3] at hps2 heq
     have han1:=q9l l 2 a3
     have han2:=qrg (kind:=2) ha3'.2
     go_wp2_with fail
     refine hps2.mono ?_
     rintro e w5 ⟨rfl,hk5,hc5⟩
     have hE5:=hE4.moved hk5 hc5 hB h1 h2 h3
     have hX5:=hX4.kept hk5 (by simp; omega)
     have hk15:=hk14.trans hk5
     have hps3:=qug l a3 2 v B g w5 hE5.cur hE5.ims hB hm
     have p5:w5.cell? ⟨bp,0,none⟩=some (.func (.func 176) #[.pointer (some ⟨g,0,none⟩)] #[]):=hE5.pass.cell 0
     go_wp2_with fail
     refine hps3.mono ?_
     rintro e w6 ⟨rfl,hk6,hc6⟩
     have hE6:=hE5.moved hk6 hc6 hB h1 h2 h3
     have hX6:=hX5.kept hk6 (by simp; omega)
     have hk16:=hk15.trans hk6
     clear hps2 hps3 p5 x0 x1 x2 x5
     have y0:w6.cell? ⟨X,0,none⟩=some (.int .i64 fr):=hX6.cell 0
     have y1:w6.cell? ⟨X,1,none⟩=some (.int .i64 t0):=hX6.cell 1
     have y2:w6.cell? ⟨X,2,none⟩=some (.int .i64 wd):=hX6.cell 2
     go_upto_region 12 with fail
     refine (wpIn_wide (n:=n)).1 ?_
     have hkW:=hk1.trans hk16
     obtain ⟨fn,tmps,assign,body,hy,hR⟩:=hY (n - 1) ws pre (fr,t0,wd) w6 (hJ _ _ _ _ hj (IS.of_kept hkW)) ⟨_,(by rw [heq,List.append_assoc]; rfl)⟩
     dsimp only [ln3V] at hy
     gi_wp2
     refine ⟨fun h=>absurd h (by decide),hR.mono ?_⟩
     rintro e w7 (⟨rfl,ws',hj7,hk7,hw7⟩ | ⟨rfl,hx7⟩ | ⟨ch,rfl,hp7⟩)
     ·gi_wp2
      go_wp2_with fail
      have hE7:=hE6.kept hk7 hB (fun h=>(hws _ h).2 (.inl rfl)) (fun h=>(hws _ h).2 (.inr (.inl rfl))) (fun h=>(hws _ h).2 (.inr (.inr (.inl rfl)))) (fun h=>(hws _ h).2 (.inr (.inr (.inr (.inl rfl))))) (fun k hk=>by
       have:=(hws k hk).2
       unfold qid at this
       omega)
      have hz7:=hk7.size
      have hzW:=hkW.size
      have l1:=hE6.cur.lt
      have l2:=hE6.pass.lt
      have l3:=hE6.cp.lt
      have l4:=hE6.wd.lt
      have m1:=hE.cur.cell 1
      have m2:=hE7.cur.cell 1
      refine ⟨⟨ws',_,_,f',hj7,fun k hk=>⟨(hw7 k hk).2,?_⟩,by rw [heq,List.append_assoc]; rfl,by omega,by omega,hE7,by omega⟩,?_⟩
      ·rcases (hw7 k hk).1 with h4 | h4
       ·exact (hws k h4).2
       ·unfold qid
        omega
      ·rw [m1,m2]
       simp [intOf]
       omega
     ·gi_wp2
      go_wp2_with fail
      refine bodyPost_ret (results_none rfl _ _ _) rfl ?_
      exact .inl ⟨_,rfl,.inr hx7⟩
     ·exact ⟨rfl,.inr ⟨ch,rfl,hp7⟩⟩
    ·skip
     have hz:¬ (fr:Int) < (t0:Int):=by omega
     rw [if_neg (by omega)] at heq
     have his:=quf l t0 2 v B g w4 hE4.cur hE4.ims (by have:=hE4.cur.lt; omega)
     cases hh:isK l 2 t0 with
     | true =>
      rw [hh] at his
      rw [hh,if_pos rfl] at heq
      have hp1:pass1 l 2 t0=t0+1:=by unfold pass1; rw [if_pos hh]
      have hlt0:=qtd hh
      go_wp2_with fail
      refine his.mono ?_
      rintro e w5 ⟨rfl,hb5⟩
      have hk5:Kept [] w4 w5:=Kept.of_below hb5
      have hE5:=hE4.kept hk5 hB (by simp) (by simp) (by simp) (by simp) (by simp)
      have hX5:=hX4.kept hk5 (by simp)
      have hk15:=hk14.trans (hk5.more (by simp))
      have hps3:=qug l t0 2 v B g w5 hE5.cur hE5.ims hB hm
      have p5:w5.cell? ⟨bp,0,none⟩=some (.func (.func 176) #[.pointer (some ⟨g,0,none⟩)] #[]):=hE5.pass.cell 0
      go_wp2_with fail
      refine hps3.mono ?_
      rintro e w6 ⟨rfl,hk6,hc6⟩
      have hE6:=hE5.moved hk6 hc6 hB h1 h2 h3
      have hX6:=hX5.kept hk6 (by simp; omega)
      have hk16:=hk15.trans hk6
      clear his hps3 p5 x0 x1 x2 x5
      have y0:w6.cell? ⟨X,0,none⟩=some (.int .i64 fr):=hX6.cell 0
      have y1:w6.cell? ⟨X,1,none⟩=some (.int .i64 t0):=hX6.cell 1
      have y2:w6.cell? ⟨X,2,none⟩=some (.int .i64 wd):=hX6.cell 2
      go_upto_region 12 with fail
      refine (wpIn_wide (n:=n)).1 ?_
      have hkW:=hk1.trans hk16
      obtain ⟨fn,tmps,assign,body,hy,hR⟩:=hY (n - 1) ws pre (fr,t0,wd) w6 (hJ _ _ _ _ hj (IS.of_kept hkW)) ⟨_,(by rw [heq,List.append_assoc]; rfl)⟩
      dsimp only [ln3V] at hy
      gi_wp2
      refine ⟨fun h=>absurd h (by decide),hR.mono ?_⟩
      rintro e w7 (⟨rfl,ws',hj7,hk7,hw7⟩ | ⟨rfl,hx7⟩ | ⟨ch,rfl,hp7⟩)
      ·gi_wp2
       go_wp2_with fail
       have hE7:=hE6.kept hk7 hB (fun h=>(hws _ h).2 (.inl rfl)) (fun h=>(hws _ h).2 (.inr (.inl rfl))) (fun h=>(hws _ h).2 (.inr (.inr (.inl rfl)))) (fun h=>(hws _ h).2 (.inr (.inr (.inr (.inl rfl))))) (fun k hk=>by
        have:=(hws k hk).2
        unfold qid at this
        omega)
       have hz7:=hk7.size
       have hzW:=hkW.size
       have l1:=hE6.cur.lt
       have l2:=hE6.pass.lt
       have l3:=hE6.cp.lt
       have l4:=hE6.wd.lt
       have m1:=hE.cur.cell 1
       have m2:=hE7.cur.cell 1
       refine ⟨⟨ws',_,_,f',hj7,fun k hk=>⟨(hw7 k hk).2,?_⟩,by rw [heq,List.append_assoc]; rfl,by omega,by omega,hE7,by omega⟩,?_⟩
       ·rcases (hw7 k hk).1 with h4 | h4
        ·exact (hws k h4).2
        ·unfold qid
         omega
       ·rw [m1,m2]
        simp [intOf]
        omega
      ·gi_wp2
       go_wp2_with fail
       refine bodyPost_ret (results_none rfl _ _ _) rfl ?_
       exact .inl ⟨_,rfl,.inr hx7⟩
      ·exact ⟨rfl,.inr ⟨ch,rfl,hp7⟩⟩
     | false =>
      rw [hh] at his
      rw [hh,if_neg (by decide),List.append_nil] at heq
      go_wp2_with fail
      refine his.mono ?_
      rintro e w5 ⟨rfl,hb5⟩
      go_wp2_with fail
      refine bodyPost_ret (results_none rfl _ _ _) rfl ?_
      rw [heq]
      exact .inl ⟨_,rfl,.inl ⟨ws,hJ _ _ _ _ hj (IS.of_kept (hk1.trans (hk14.trans (Kept.of_below hb5))))⟩⟩
   ·have hcb:b < qva l b:=by omega
    rw [decide_eq_true hcb] at hcl
    obtain ⟨ce,hce0⟩:∃ ce,qva l b=ce:=⟨_,rfl⟩
    by_cases hfit:t0=fr\/sumW l fr (qva l b)<=width
    ·rw [qbm hc hfit] at hgo
     rw [hce0] at hgo hcl hcb hfit hcl2
     obtain ⟨N,hN⟩:∃ N,sumW l fr ce=N:=⟨_,rfl⟩
     rw [hN] at hgo hfit
     obtain ⟨a3,ha3⟩:∃ a3,passK l 1 ce=a3:=⟨_,rfl⟩
     have ha3':ce<=a3/\a3<=l.length:=by rw [<-ha3]; exact ⟨qje _ _ _,qrd hcl2⟩
     rw [ha3] at hgo
     go_wp2_with fail
     refine hcl.mono ?_
     rintro e w3 ⟨rfl,hk3,hc3⟩
     have hE3:=hEr.moved hk3 hc3 hB h1 h2 h3
     have hX3:=hXr.kept hk3 (by simp; omega)
     have hk13:=hkr.trans hk3
     have v0:∀ V:BW w3.heap.size w3,V.val.cell? ⟨bc,0,none⟩=some (.pointer (some ⟨g,0,none⟩)):=fun V=>(hE3.cp.below V.ok hE3.cp.lt).cell 0
     have v1:∀ V:BW w3.heap.size w3,V.val.cell? ⟨g,1,none⟩=some (.int .i64 ce):=fun V=>(hE3.cur.below V.ok hE3.cur.lt).cell 1
     have v2:∀ V:BW w3.heap.size w3,V.val.cell? ⟨X,0,none⟩=some (.int .i64 fr):=fun V=>(hX3.below V.ok hX3.lt).cell 0
     go_wp2_with fail
     refine qna [8] [0,1,2,3,4,5,6] [7,8] (fun w'=>∃ V:BW (w3.heap.size) w3,w'=V.val) (by kernel_rfl) (by kernel_rfl) (fun c a d v w h=>by cases d <;> exact h) ⟨⟨w3.drew,(Below.refl _ _).drew⟩,rfl⟩ ?_
     simp only [pickD,List.map_cons,List.map_nil,List.getD_cons_zero,List.getD_cons_succ]
     repeat (go_big_quiet_step (fail))
     refine wpQuiet_nil ?_
     refine qca rfl fun K hK=>?_
     go_simp
     go_at_call 180
     refine (qzm l (ce:Int) fr ce v B g w3.drew hE3.cur.drew (hE3.ims.below ((Below.refl _ _).drew)) (by have:=hE3.cur.lt; show B<=w3.heap.size; omega) (by omega) hcl2 hm).mono ?_
     rintro e w4 ⟨rfl,hb4⟩
     have hb4':Below w3.heap.size w3 w4:=((Below.refl _ _).drew).trans hb4
     refine hK.out _ _ (.inr ⟨⟨_,hb4'⟩,rfl⟩) ?_
     clear hK K
     try simp only [Act.put,zA,zB,zC]
     refine qca rfl fun K hK=>?_
     go_simp
     refine hK.out _ _ (.inl (by decide)) ?_
     clear hK K
     refine qla ?_
     have hkk:Kept [] w3 w4:=Kept.of_below hb4'
     have hE4:=hE3.kept hkk hB (by simp) (by simp) (by simp) (by simp) (by simp)
     have hX4:=hX3.kept hkk (by simp)
     have hk14:=hk13.trans (hkk.more (by simp))
     clear v0 v1 v2 hb4 hb4'
     have x0:w4.cell? ⟨X,0,none⟩=some (.int .i64 fr):=hX4.cell 0
     have x1:w4.cell? ⟨X,1,none⟩=some (.int .i64 t0):=hX4.cell 1
     have x2:w4.cell? ⟨bc,0,none⟩=some (.pointer (some ⟨g,0,none⟩)):=hE4.cp.cell 0
     have x3:w4.cell? ⟨bw,0,none⟩=some (.int .i64 width):=hE4.wd.cell 0
     have x4:w4.cell? ⟨g,1,none⟩=some (.int .i64 ce):=hE4.cur.cell 1
     have x5:=hX4.frozen
     have x6:w4.cell? ⟨X,2,none⟩=some (.int .i64 wd):=hX4.cell 2
     rcases hfit with hfit | hfit
     ·subst hfit
      go_upto_region 6 with fail
      have hk5:Kept [g] w1 ((w4.setCell ⟨X,1,none⟩ (.int .i64 (ce:Int))).setCell ⟨X,2,none⟩ (.int .i64 N)):=(Kept.setNew (Kept.setNew hk14 (p:=⟨X,1,none⟩) (by show _<=X; omega) _) (p:=⟨X,2,none⟩) (by show _<=X; omega) _)
      have hX5:=(hX4.set_ 1 (.int .i64 (ce:Int))).set_ 2 (.int .i64 N)
      simp only [zA,zB,zC] at hX5
      have hkX:Kept [X] w4 ((w4.setCell ⟨X,1,none⟩ (.int .i64 (ce:Int))).setCell ⟨X,2,none⟩ (.int .i64 N)):=((Kept.refl _ _).setCell (p:=⟨X,1,none⟩) (by simp) _).setCell (p:=⟨X,2,none⟩) (by simp) _
      have hE5:=hE4.kept hkX hB (by simp; omega) (by simp; omega) (by simp; omega) (by simp; omega) (by simp; omega)
      clear x0 x1 x2 x3 x4 x5 x6 hkX
      generalize (w4.setCell ⟨X,1,none⟩ (.int .i64 (ce:Int))).setCell ⟨X,2,none⟩ (.int .i64 N)=w5 at *
      have p5:w5.cell? ⟨bp,0,none⟩=some (.func (.func 176) #[.pointer (some ⟨g,0,none⟩)] #[]):=hE5.pass.cell 0
      have hps5:=q3d l ce 1 v B g w5 hE5.cur hE5.ims hB hcl2 hm
      rw [ha3] at hps5
      go_wp2_with fail
      refine hps5.mono ?_
      rintro e w6 ⟨rfl,hk6,hc6⟩
      have hE6:=hE5.moved hk6 hc6 hB h1 h2 h3
      have hX6:=hX5.kept hk6 (by simp; omega)
      have m1:=hEr.cur.cell 1
      have m2:=hE6.cur.cell 1
      clear p5
      go_wp2_with fail
      refine ⟨⟨ce,a3,q',N,hgo,by omega,ha3'.2,by omega,ha3'.1,hE6,hk5.trans hk6,hX6⟩,?_⟩
      rw [m1,m2]
      simp [intOf]
      omega
     ·by_cases htf:(t0:Int)=(fr:Int)
      ·obtain rfl:=Int.ofNat_inj.1 htf
       go_upto_region 6 with fail
       have hk5:Kept [g] w1 ((w4.setCell ⟨X,1,none⟩ (.int .i64 (ce:Int))).setCell ⟨X,2,none⟩ (.int .i64 N)):=(Kept.setNew (Kept.setNew hk14 (p:=⟨X,1,none⟩) (by show _<=X; omega) _) (p:=⟨X,2,none⟩) (by show _<=X; omega) _)
       have hX5:=(hX4.set_ 1 (.int .i64 (ce:Int))).set_ 2 (.int .i64 N)
       simp only [zA,zB,zC] at hX5
       have hkX:Kept [X] w4 ((w4.setCell ⟨X,1,none⟩ (.int .i64 (ce:Int))).setCell ⟨X,2,none⟩ (.int .i64 N)):=((Kept.refl _ _).setCell (p:=⟨X,1,none⟩) (by simp) _).setCell (p:=⟨X,2,none⟩) (by simp) _
       have hE5:=hE4.kept hkX hB (by simp; omega) (by simp; omega) (by simp; omega) (by simp; omega) (by simp; omega)
       clear x0 x1 x2 x3 x4 x5 x6 hkX
       generalize (w4.setCell ⟨X,1,none⟩ (.int .i64 (ce:Int))).setCell ⟨X,2,none⟩ (.int .i64 N)=w5 at *
       have p5:w5.cell? ⟨bp,0,none⟩=some (.func (.func 176) #[.pointer (some ⟨g,0,none⟩)] #[]):=hE5.pass.cell 0
       have hps5:=q3d l ce 1 v B g w5 hE5.cur hE5.ims hB hcl2 hm
       rw [ha3] at hps5
       go_wp2_with fail
       refine hps5.mono ?_
       rintro e w6 ⟨rfl,hk6,hc6⟩
       have hE6:=hE5.moved hk6 hc6 hB h1 h2 h3
       have hX6:=hX5.kept hk6 (by simp; omega)
       have m1:=hEr.cur.cell 1
       have m2:=hE6.cur.cell 1
       clear p5
       go_wp2_with fail
       refine ⟨⟨ce,a3,q',N,hgo,by omega,ha3'.2,by omega,ha3'.1,hE6,hk5.trans hk6,hX6⟩,?_⟩
       rw [m1,m2]
       simp [intOf]
       omega
      ·skip
       go_upto_region 6 with fail
       have hk5:Kept [g] w1 ((w4.setCell ⟨X,1,none⟩ (.int .i64 (ce:Int))).setCell ⟨X,2,none⟩ (.int .i64 N)):=(Kept.setNew (Kept.setNew hk14 (p:=⟨X,1,none⟩) (by show _<=X; omega) _) (p:=⟨X,2,none⟩) (by show _<=X; omega) _)
       have hX5:=(hX4.set_ 1 (.int .i64 (ce:Int))).set_ 2 (.int .i64 N)
       simp only [zA,zB,zC] at hX5
       have hkX:Kept [X] w4 ((w4.setCell ⟨X,1,none⟩ (.int .i64 (ce:Int))).setCell ⟨X,2,none⟩ (.int .i64 N)):=((Kept.refl _ _).setCell (p:=⟨X,1,none⟩) (by simp) _).setCell (p:=⟨X,2,none⟩) (by simp) _
       have hE5:=hE4.kept hkX hB (by simp; omega) (by simp; omega) (by simp; omega) (by simp; omega) (by simp; omega)
       clear x0 x1 x2 x3 x4 x5 x6 hkX
       generalize (w4.setCell ⟨X,1,none⟩ (.int .i64 (ce:Int))).setCell ⟨X,2,none⟩ (.int .i64 N)=w5 at *
       have p5:w5.cell? ⟨bp,0,none⟩=some (.func (.func 176) #[.pointer (some ⟨g,0,none⟩)] #[]):=hE5.pass.cell 0
       have hps5:=q3d l ce 1 v B g w5 hE5.cur hE5.ims hB hcl2 hm
       rw [ha3] at hps5
       go_wp2_with fail
       refine hps5.mono ?_
       rintro e w6 ⟨rfl,hk6,hc6⟩
       have hE6:=hE5.moved hk6 hc6 hB h1 h2 h3
       have hX6:=hX5.kept hk6 (by simp; omega)
       have m1:=hEr.cur.cell 1
       have m2:=hE6.cur.cell 1
       clear p5
       go_wp2_with fail
       refine ⟨⟨ce,a3,q',N,hgo,by omega,ha3'.2,by omega,ha3'.1,hE6,hk5.trans hk6,hX6⟩,?_⟩
       rw [m1,m2]
       simp [intOf]
       omega
    ·rw [qek hc hfit] at hgo
     subst hgo
     rw [hce0] at hcl hcb hfit hcl2
     obtain ⟨N,hN⟩:∃ N,sumW l fr ce=N:=⟨_,rfl⟩
     rw [hN] at hfit
     go_wp2_with fail
     refine hcl.mono ?_
     rintro e w3 ⟨rfl,hk3,hc3⟩
     have hE3:=hEr.moved hk3 hc3 hB h1 h2 h3
     have hX3:=hXr.kept hk3 (by simp; omega)
     have hk13:=hkr.trans hk3
     have v0:∀ V:BW w3.heap.size w3,V.val.cell? ⟨bc,0,none⟩=some (.pointer (some ⟨g,0,none⟩)):=fun V=>(hE3.cp.below V.ok hE3.cp.lt).cell 0
     have v1:∀ V:BW w3.heap.size w3,V.val.cell? ⟨g,1,none⟩=some (.int .i64 ce):=fun V=>(hE3.cur.below V.ok hE3.cur.lt).cell 1
     have v2:∀ V:BW w3.heap.size w3,V.val.cell? ⟨X,0,none⟩=some (.int .i64 fr):=fun V=>(hX3.below V.ok hX3.lt).cell 0
     go_wp2_with fail
     refine qna [8] [0,1,2,3,4,5,6] [7,8] (fun w'=>∃ V:BW (w3.heap.size) w3,w'=V.val) (by kernel_rfl) (by kernel_rfl) (fun c a d v w h=>by cases d <;> exact h) ⟨⟨w3.drew,(Below.refl _ _).drew⟩,rfl⟩ ?_
     simp only [pickD,List.map_cons,List.map_nil,List.getD_cons_zero,List.getD_cons_succ]
     repeat (go_big_quiet_step (fail))
     refine wpQuiet_nil ?_
     refine qca rfl fun K hK=>?_
     go_simp
     go_at_call 180
     refine (qzm l (ce:Int) fr ce v B g w3.drew hE3.cur.drew (hE3.ims.below ((Below.refl _ _).drew)) (by have:=hE3.cur.lt; show B<=w3.heap.size; omega) (by omega) hcl2 hm).mono ?_
     rintro e w4 ⟨rfl,hb4⟩
     have hb4':Below w3.heap.size w3 w4:=((Below.refl _ _).drew).trans hb4
     refine hK.out _ _ (.inr ⟨⟨_,hb4'⟩,rfl⟩) ?_
     clear hK K
     try simp only [Act.put,zA,zB,zC]
     refine qca rfl fun K hK=>?_
     go_simp
     refine hK.out _ _ (.inl (by decide)) ?_
     clear hK K
     refine qla ?_
     have hkk:Kept [] w3 w4:=Kept.of_below hb4'
     have hE4:=hE3.kept hkk hB (by simp) (by simp) (by simp) (by simp) (by simp)
     have hX4:=hX3.kept hkk (by simp)
     have hk14:=hk13.trans (hkk.more (by simp))
     clear v0 v1 v2 hb4 hb4'
     have x0:w4.cell? ⟨X,0,none⟩=some (.int .i64 fr):=hX4.cell 0
     have x1:w4.cell? ⟨X,1,none⟩=some (.int .i64 t0):=hX4.cell 1
     have x2:w4.cell? ⟨bc,0,none⟩=some (.pointer (some ⟨g,0,none⟩)):=hE4.cp.cell 0
     have x3:w4.cell? ⟨bw,0,none⟩=some (.int .i64 width):=hE4.wd.cell 0
     have x4:w4.cell? ⟨g,1,none⟩=some (.int .i64 ce):=hE4.cur.cell 1
     have x5:=hX4.frozen
     have x6:w4.cell? ⟨X,2,none⟩=some (.int .i64 wd):=hX4.cell 2
     have htf:¬ (t0:Int)=(fr:Int):=fun h=>hfit (.inl (Int.ofNat_inj.1 h))
     have hnw:¬ N<=width:=fun h=>hfit (.inr h)
     go_upto_region 7 with fail
     clear x0 x1 x2 x3 x4 x5 x6
     have x0:w4.cell? ⟨X,0,none⟩=some (.int .i64 fr):=hX4.cell 0
     have x1:w4.cell? ⟨X,1,none⟩=some (.int .i64 t0):=hX4.cell 1
     have x2:w4.cell? ⟨bc,0,none⟩=some (.pointer (some ⟨g,0,none⟩)):=hE4.cp.cell 0
     have x3:=hE4.cur.frozen
     have x4:w4.cell? ⟨g,1,none⟩=some (.int .i64 ce):=hE4.cur.cell 1
     go_upto_region 8 with fail
     have hc4:=hE4.cur.set_ 1 (.int .i64 (t0:Int))
     simp only [zA,zB,zC] at hc4
     have hk4:Kept [g] w4 (w4.setCell ⟨g,1,none⟩ (.int .i64 (t0:Int))):=(Kept.refl _ _).setCell (p:=⟨g,1,none⟩) (by simp) _
     have hE4b:=hE4.moved hk4 hc4 hB h1 h2 h3
     have hX4b:=hX4.kept hk4 (by simp; omega)
     have hk14b:=hk14.trans hk4
     clear x0 x1 x2 x3 x4
     generalize w4.setCell ⟨g,1,none⟩ (.int .i64 (t0:Int))=w4b at *
     have x0:w4b.cell? ⟨X,0,none⟩=some (.int .i64 fr):=hX4b.cell 0
     have x1:w4b.cell? ⟨X,1,none⟩=some (.int .i64 t0):=hX4b.cell 1
     have x2:w4b.cell? ⟨bc,0,none⟩=some (.pointer (some ⟨g,0,none⟩)):=hE4b.cp.cell 0
     have x5b:w4b.cell? ⟨bp,0,none⟩=some (.func (.func 176) #[.pointer (some ⟨g,0,none⟩)] #[]):=hE4b.pass.cell 0
     try dsimp only at heq
     rcases Nat.lt_or_ge fr t0 with hlt | hge
     ·skip
      have hz:(fr:Int) < (t0:Int):=by omega
      rw [if_pos hlt] at heq
      obtain ⟨a3,ha3⟩:∃ a3,passK l 1 t0=a3:=⟨_,rfl⟩
      have ha3':t0<=a3/\a3<=l.length:=by rw [<-ha3]; exact ⟨qje _ _ _,qrd (by omega)⟩
      have hps2:=q3d l t0 1 v B g w4b hE4b.cur hE4b.ims hB (by omega) hm
      rw [ha3] at hps2 heq
      have han1:=q9l l 2 a3
      have han2:=qrg (kind:=2) ha3'.2
      go_wp2_with fail
      refine hps2.mono ?_
      rintro e w5 ⟨rfl,hk5,hc5⟩
      have hE5:=hE4b.moved hk5 hc5 hB h1 h2 h3
      have hX5:=hX4b.kept hk5 (by simp; omega)
      have hk15:=hk14b.trans hk5
      have hps3:=qug l a3 2 v B g w5 hE5.cur hE5.ims hB hm
      have p5:w5.cell? ⟨bp,0,none⟩=some (.func (.func 176) #[.pointer (some ⟨g,0,none⟩)] #[]):=hE5.pass.cell 0
      go_wp2_with fail
      refine hps3.mono ?_
      rintro e w6 ⟨rfl,hk6,hc6⟩
      have hE6:=hE5.moved hk6 hc6 hB h1 h2 h3
      have hX6:=hX5.kept hk6 (by simp; omega)
      have hk16:=hk15.trans hk6
      clear hps2 hps3 p5 x0 x1 x2 x5b
      have y0:w6.cell? ⟨X,0,none⟩=some (.int .i64 fr):=hX6.cell 0
      have y1:w6.cell? ⟨X,1,none⟩=some (.int .i64 t0):=hX6.cell 1
      have y2:w6.cell? ⟨X,2,none⟩=some (.int .i64 wd):=hX6.cell 2
      go_upto_region 12 with fail
      refine (wpIn_wide (n:=n)).1 ?_
      have hkW:=hk1.trans hk16
      obtain ⟨fn,tmps,assign,body,hy,hR⟩:=hY (n - 1) ws pre (fr,t0,wd) w6 (hJ _ _ _ _ hj (IS.of_kept hkW)) ⟨_,(by rw [heq,List.append_assoc]; rfl)⟩
      dsimp only [ln3V] at hy
      gi_wp2
      refine ⟨fun h=>absurd h (by decide),hR.mono ?_⟩
      rintro e w7 (⟨rfl,ws',hj7,hk7,hw7⟩ | ⟨rfl,hx7⟩ | ⟨ch,rfl,hp7⟩)
      ·gi_wp2
       go_wp2_with fail
       have hE7:=hE6.kept hk7 hB (fun h=>(hws _ h).2 (.inl rfl)) (fun h=>(hws _ h).2 (.inr (.inl rfl))) (fun h=>(hws _ h).2 (.inr (.inr (.inl rfl)))) (fun h=>(hws _ h).2 (.inr (.inr (.inr (.inl rfl))))) (fun k hk=>by
        have:=(hws k hk).2
        unfold qid at this
        omega)
       have hz7:=hk7.size
       have hzW:=hkW.size
       have l1:=hE6.cur.lt
       have l2:=hE6.pass.lt
       have l3:=hE6.cp.lt
       have l4:=hE6.wd.lt
       have m1:=hE.cur.cell 1
       have m2:=hE7.cur.cell 1
       refine ⟨⟨ws',_,_,f',hj7,fun k hk=>⟨(hw7 k hk).2,?_⟩,by rw [heq,List.append_assoc]; rfl,by omega,by omega,hE7,by omega⟩,?_⟩
       ·rcases (hw7 k hk).1 with h4 | h4
        ·exact (hws k h4).2
        ·unfold qid
         omega
       ·rw [m1,m2]
        simp [intOf]
        omega
      ·gi_wp2
       go_wp2_with fail
       refine bodyPost_ret (results_none rfl _ _ _) rfl ?_
       exact .inl ⟨_,rfl,.inr hx7⟩
      ·exact ⟨rfl,.inr ⟨ch,rfl,hp7⟩⟩
     ·exfalso
      omega
end Go.Proofs.YtlnekijhbnlclaaGreatDoor
