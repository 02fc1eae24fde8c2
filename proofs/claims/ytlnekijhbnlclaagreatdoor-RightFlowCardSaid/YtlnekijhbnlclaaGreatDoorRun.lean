/-
  Walks: package layout: run.
-/
import Derived.Test.YtlnekijhbnlclaaGreatDoorRunI
import Derived.Test.YtlnekijhbnlclaaGreatDoorCutPg
import Derived.Test.YtlnekijhbnlclaaGreatDoorPlace
namespace Go.Proofs.YtlnekijhbnlclaaGreatDoor
open Go.RowKit Go.Shelf
set_option linter.unusedSimpArgs false
set_option linter.unusedVariables false
theorem Tryz.lawInt2:Go.Maps.Keyed Tryz.prog 3:=Tryz.lawInt
def imOf (x:Pie):Im:=(x.kind,x.width)
def shIm:Shp Im:=⟨187,2,fun x=>[.int .u8 x.1,.int .i64 x.2],fun _=>rfl,fun x u hu=>by
 simp only [List.mem_cons,List.not_mem_nil,or_false] at hu
 (repeat' (rcases hu with rfl | hu)) <;> first | rfl | (subst hu; rfl)⟩
theorem qjh:shIm.Ok Tryz.prog 185 16:=by
 refine ⟨Tryz.underlying185,?_,by decide,by decide⟩
 have h:(Tryz.prog.info? 187).map (fun i=>(i.zero,i.size,i.bytes))=some (some (.agg #[.int .u8 0,.int .i64 0]),2,16):=by kernel_rfl
 cases hi:Tryz.prog.info? 187 with
 | none=>rw [hi] at h; cases h
 | some i =>
  rw [hi] at h
  injection h with h
  injection h with h1 h2
  injection h2 with h2 h3
  exact ⟨i,_,hi,h1,h2,h3,rfl⟩
theorem qkw {W:World} {B:Nat} {v:Value} {l:List Im} (h:shIm.In W B v l):Ims W B v l:=by
 obtain ⟨A,c,rfl,hc,hr⟩:=h
 refine ⟨A,c,rfl,hc,fun h0=>?_⟩
 obtain ⟨b,o,rfl,hb,hcell⟩:=Shp.In.at_ (S:=shIm) (⟨A,c,rfl,hc,hr⟩:shIm.In W B (.slice A l.length c) l) (by decide) h0
 refine ⟨_,rfl,hb,fun k hk=>?_⟩
 have ea:(⟨b,o,none⟩:Addr).add (k * 2)=⟨b,o+k * 2,none⟩:=by unfold Addr.add; split <;> simp_all
 rw [ea]
 have hc:=fun j (hj:j < 2)=>hcell k hk j hj
 exact ⟨hc 0 (by decide),hc 1 (by decide)⟩
theorem Shp.In.of_blk {α:Type} {S:Shp α} {w:World} {g:Nat} {x:α} (h:Blk w g S.t (S.enc x).toArray):S.In w (g+1) (.slice (some ⟨g,0,none⟩) 1 1) [x]:=by
 refine ⟨_,_,rfl,Nat.le_refl _,by rw [S.row_len],fun _=>⟨_,rfl,Nat.lt_succ_self g,fun j u hu=>?_⟩⟩
 have e:(⟨g,0,none⟩:Addr).add j=⟨g,j,none⟩:=by unfold Addr.add; split <;> simp_all
 rw [e,h.cell,<-hu,Shp.row_one]
 simp
def RowN (W:World) (B:Nat) (v:Value) (l:List Nat):Prop:=∃ b o c,v=.slice (some ⟨b,o,none⟩) l.length c/\b < B/\∀ j (hj:j < l.length),W.cell? ⟨b,o+j,none⟩=some (.int .i64 (l[j]:Nat))
theorem RowN.below {W W':World} {B:Nat} {v:Value} {l:List Nat} (h:RowN W B v l) (hb:Below B W W'):RowN W' B v l:=by
 obtain ⟨b,o,c,rfl,hlt,hc⟩:=h
 exact ⟨b,o,c,rfl,hlt,fun j hj=>(hb.cell (p:=⟨b,o+j,none⟩) hlt).trans (hc j hj)⟩
def runF (ns:List Nd) (lay:Lay) (ws:Nat) (font w:Int) (k:Nat):Option (List Pie):=if (ndAt ns k).kind=0 then (qke ns lay k font w).map fun x=>[x] else cutL ns k ws font
theorem qvv {ns:List Nd} {i ws:Nat} {font:Int} {L:List Pie} (h:cutL ns i ws font=some L):L.length<=(ndAt ns i).text.size/\∀ x ∈ L,x.at_=i/\x.box=none/\x.text.size<=(ndAt ns i).text.size:=by
 rw [qim] at h
 cases h1:must (qka 60 font).2 with
 | none=>rw [h1] at h; cases h
 | some _ =>
  rw [h1] at h
  cases h2:must (qka 20 font).2 with
  | none=>rw [h2] at h; cases h
  | some _ =>
   rw [h2] at h
   have h:(Go.Proofs.YtlnekijhbnlclaaGreatDoor.cutR ws (ndAt ns i).text.data.toList).mapM (cutF font i)=some L:=h
   have hbd:=qsn (ws:Int) (ndAt ns i).text.data.toList
   rw [q6e] at hbd
   refine ⟨by rw [qkh _ h]; exact hbd.2,?_⟩
   have key:∀ (Q:List Pc) (L:List Pie),Q.mapM (cutF font i)=some L->∀ x ∈ L,x.at_=i/\x.box=none/\∃ q ∈ Q,x.text.size=q.2.length:=by
    intro Q
    induction Q with
    | nil=>intro L h; rw [List.mapM_nil] at h; cases h; simp
    | cons q Q ih =>
     intro L h
     rw [q1e] at h
     cases hq:cutF font i q with
     | none=>rw [hq] at h; cases h
     | some y =>
      rw [hq] at h
      cases hQ:Q.mapM (cutF font i) with
      | none=>rw [hQ] at h; cases h
      | some M =>
       rw [hQ] at h
       cases h
       intro x hx
       rcases List.mem_cons.1 hx with rfl | hx
       ·unfold cutF at hq
        cases hm:must (q1b (mkB q.2) font).2 with
        | none=>rw [hm] at hq; cases hq
        | some _ =>
         rw [hm] at hq
         cases hq
         exact ⟨rfl,rfl,q,List.mem_cons_self,by rw [qti]⟩
       ·obtain ⟨a,b,q',hq',e⟩:=ih M hQ x hx
        exact ⟨a,b,q',List.mem_cons_of_mem _ hq',e⟩
   intro x hx
   obtain ⟨a,b,q,hq,e⟩:=key _ _ h x hx
   obtain ⟨j,hj,rfl⟩:=List.getElem_of_mem hq
   have:=qaj hj
   exact ⟨a,b,by omega⟩
theorem qnr {ns:List Nd} {lay:Lay} {k:Nat} {font w:Int} {x:Pie} (h:qke ns lay k font w=some x):x.at_=k/\x.text.size=0:=by
 unfold qke at h
 cases h1:q3a ns k w with
 | none=>rw [h1] at h; cases h
 | some f =>
  rw [h1] at h
  cases h2:qdo ns k font w f with
  | none=>simp [h2] at h
  | some n =>
   cases h3:lay k font n (-1) true with
   | none=>simp [h2,h3] at h
   | some b =>
    simp [h2,h3] at h
    subst h
    exact ⟨rfl,rfl⟩
theorem qin (ns:List Nd) (lay:Lay) (l:List Nat) (at_:Nat) (font w:Int):runL ns lay l at_ font w=(l.mapM (runF ns lay (stAt ns at_).ws font w)).bind fun more =>
  (must (fillL (more.flatten.map fun x=>(x.kind,x.width)) w).2).bind fun _=>(must (qka 60 font).2).bind fun _=>(must (qka 20 font).2).bind fun _ =>
  ((fillL (more.flatten.map fun x=>(x.kind,x.width)) w).1.foldlM (rowU ns (qka 60 font).1 (qka 20 font).1 w (stAt ns at_).lines more.flatten) ([],0)).bind fun r =>
  some (l.filterMap (getX r.1),r.2,!(fillL (more.flatten.map fun x=>(x.kind,x.width)) w).1.isEmpty):=rfl
theorem q7l {ns:List Nd} {lay:Lay} {l:List Nat} {at_:Nat} {font w:Int} (h:l.mapM (runF ns lay (stAt ns at_).ws font w)=none):runL ns lay l at_ font w=none:=by rw [qin,h]; rfl
structure PcsM (ns:List Nd) (W:World) (base d:Nat) (pv iv:Value) (M:List PiM) (LB:List En) (P:List Pie) (seen:List Nat):Prop where
 own:shPi.Owns W base pv M
 its:shIm.Owns W base iv (M.map fun m=>imOf m.x)
 pie:M.map PiM.x=P
 boxes:BoxesAt YT W base d (LB.map En.b) (LB.map En.p) (LB.map En.fp)
 keys:(LB.map En.key).Nodup
 sub:∀ e ∈ LB,e.key ∈ seen/\(ndAt ns e.key).kind=0
 held:∀ m ∈ M,∀ b0,m.x.box=some b0->∃ e ∈ LB,e.key=m.x.at_/\m.p=some e.p/\e.b=b0
 bare:∀ m ∈ M,m.x.box=none->m.p=none
 kind:∀ m ∈ M,(∃ b0,m.x.box=some b0)↔(ndAt ns m.x.at_).kind=0
 seen:∀ m ∈ M,m.x.at_ ∈ seen/\m.x.text.size<=200
 okT:∀ e ∈ LB,okT ns.length d e.b
def PcT:List TypeId:=[193,187]
def R1 (ns:List Nd) (lay:Lay) (ws:Nat) (font x:Int) (l:List Nat) (n0 d:Nat) (w3:World) (pv iv i:Value) (wr:World):Prop :=
 ∃ (k:Nat) (acc:List (List Pie)) (M:List PiM) (LB:List En),k<=l.length/\i=.int .i64 k/\(l.take k).mapM (runF ns lay ws font x)=some acc/\PcsM ns wr n0 d pv iv M LB acc.flatten (l.take k)/\Below n0 w3 wr/\M.length<=200 * k
def MoreP (ns:List Nd) (n0 d:Nat) (pv iv:Value) (M:List PiM) (L:List Pie) (LB:List En) (seen:List Nat) (k0:Nat) (wr:World) (mv:Value) (wm:World):Prop :=
 Below wr.heap.size wr wm/\∃ (MM:List PiM) (LB2:List En),shPi.Owns wm wr.heap.size mv MM/\MM.map PiM.x=L/\MM.length<=200/\BoxesAt YT wm n0 d ((LB ++ LB2).map En.b) ((LB ++ LB2).map En.p) ((LB ++ LB2).map En.fp)/\(∀ e ∈ LB2,e.key=k0/\(ndAt ns k0).kind=0/\okT ns.length d e.b)/\(LB2.length<=1) /\
  (∀ m ∈ MM,∀ b0,m.x.box=some b0->∃ e ∈ LB2,e.key=m.x.at_/\m.p=some e.p/\e.b=b0)/\(∀ m ∈ MM,m.x.box=none->m.p=none)/\(∀ m ∈ MM,(∃ b0,m.x.box=some b0)↔(ndAt ns m.x.at_).kind=0)/\∀ m ∈ MM,m.x.at_=k0/\m.x.text.size<=200
def R2 (n0:Nat) (M MM:List PiM) (mv:Value) (wm:World) (pv iv i:Value) (wr:World):Prop :=
 ∃ j:Nat,j<=MM.length/\i=.int .i64 j/\shPi.Owns wr n0 pv (M ++ MM.take j)/\shIm.Owns wr n0 iv ((M ++ MM.take j).map fun m=>imOf m.x)/\shPi.Owns wr n0 mv MM/\(∀ g,pv.ownBlock=some g->mv.ownBlock≠some g)/\Chg n0 PcT wm wr
theorem qzi {l:List Im} {width:Int}:∀ (f a:Nat),a<=l.length->∀ x ∈ qdc l width f a,x.1<=x.2.1/\x.2.1<=l.length/\x.1 < l.length
 | 0,_,_,x,h=>by cases h
 | f+1,a,ha,x,h=>by
  have h1:=qrd (kind:=1) ha
  have h2:=qgj (l:=l) (width:=width) (fr:=passK l 1 a) (l.length+1 - passK l 1 a) (passK l 1 a) (passK l 1 a) 0 h1 h1 (Nat.le_refl _) (Nat.le_refl _)
  have h3:(lineX l width (passK l 1 a)).1<=l.length/\passK l 1 a<=(lineX l width (passK l 1 a)).1:=h2
  rw [qtf] at h
  split at h
  ·rename_i hq
   rcases List.mem_cons.1 h with rfl | h
   ·exact ⟨h3.2,h3.1,Nat.lt_of_lt_of_le hq h3.1⟩
   ·exact qzi f _ (qrg (qrd h3.1)) x h
  ·split at h
   ·rename_i hq
    rcases List.mem_cons.1 h with rfl | h
    ·exact ⟨h3.2,h3.1,Nat.lt_of_le_of_lt h3.2 (qtd hq)⟩
    ·exact qzi f _ (qrg h3.1) x h
   ·cases h
theorem q5o {l:List Im} {width:Int} (h0:(fillL l width).2=0):l.length<=2048/\(fillL l width).1.length<=l.length+1/\∀ x ∈ (fillL l width).1,x.1<=x.2.1/\x.2.1<=l.length/\x.1 < l.length:=by
 unfold fillL at h0 ⊢
 split at h0
 ·cases h0
 ·rename_i h1
  rw [if_neg h1]
  split at h0
  ·cases h0
  ·rename_i h2
   rw [if_neg h2]
   split at h0
   ·cases h0
   ·rename_i h3
    rw [if_neg h3]
    split at h0
    ·rename_i h4
     rw [if_pos h4]
     exact ⟨by omega,qgg l width _ _,fun x hx=>qzi _ _ (Nat.zero_le _) x hx⟩
    ·cases h0
theorem qzs {l:List Sp} {up down width:Int} {lines:Nat} (h0:(q3b l up down width lines).2.2.2=0):(q3b l up down width lines).1.length=l.length:=by
 unfold q3b at h0 ⊢
 split at h0
 ·cases h0
 ·rename_i h1
  rw [if_neg h1]
  split at h0
  ·cases h0
  ·rename_i h2
   rw [if_neg h2]
   split at h0
   ·cases h0
   ·rename_i h3
    rw [if_neg h3]
    dsimp only at h0 ⊢
    split at h0
    ·rename_i h4
     rw [if_pos h4]
     exact qth _ _ _ _
    ·cases h0
theorem q7w (width:Int):∀ (f a:Nat),qdc [] width f a=[]
 | 0,_=>rfl
 | f+1,a=>by
  have h1:passK [] 1 a=a:=by unfold passK; simp
  have h2:∀ b,isK [] 2 b=false:=fun b=>rfl
  have h3:∀ b,(lineX [] width b).1=b:=fun b=>by
   unfold lineX
   cases ([]:List Im).length+1 - b with
   | zero=>rfl
   | succ q =>
    rw [q6h]
    unfold qva passK
    simp [isK]
  rw [qtf,h1,h3,if_neg (Nat.lt_irrefl a),h2,if_neg (by decide)]
theorem q4p (width:Int):(fillL [] width).1=[]:=by
 unfold fillL
 have:eachR [] width=[]:=q7w width _ _
 rw [this]
 (repeat' split) <;> rfl
theorem q7q:shSp.Ok Tryz.prog 218 32:=by
 refine ⟨Tryz.underlying218,?_,by decide,by decide⟩
 have h:(Tryz.prog.info? 191).map (fun i=>(i.zero,i.size,i.bytes))=some (some (.agg #[.int .i64 0,.int .i64 0,.int .i64 0,.int .u8 0]),4,32):=by kernel_rfl
 cases hi:Tryz.prog.info? 191 with
 | none=>rw [hi] at h; cases h
 | some i =>
  rw [hi] at h
  injection h with h
  injection h with h1 h2
  injection h2 with h2 h3
  exact ⟨i,_,hi,h1,h2,h3,rfl⟩
def R3 (ns:List Nd) (d n0 mb C:Nat) (M:List PiM) (F:Bx×Int->Nat×Nat×Int->Option (Bx×Int)) (rows:List (Nat×Nat×Int)) (w9:World) (yv i:Value) (wr:World):Prop :=
 ∃ (k:Nat) (m:Bx) (y:Int) (f:Nat->Option Nat) (n:Nat) (LB:List En),k<=rows.length/\i=.int .i64 k/\yv=.int .i64 y/\(rows.take k).foldlM F ([],0)=some (m,y)/\RB ns wr n0 d mb n f LB (getX m) M/\Chg n0 BxT w9 wr /\
  n<=k * C/\TxB ns (getX m) (k * C)/\OkG ns.length d (getX m)
def R4 (P:List Pie) (wA:World) (v i:Value) (wr:World):Prop :=
 ∃ j:Nat,j<=P.length/\i=.int .i64 j/\shSp.Owns wr wA.heap.size v ((P.take j).map Pie.spot)/\Below wA.heap.size wA wr
def R5 (ns:List Nd) (d n0 mb c0:Nat) (M:List PiM) (y tall:Int) (Z:List (Pie×Int×Int)) (m0:Bx) (wA:World) (lastv i:Value) (wr:World):Prop :=
 ∃ (j:Nat) (m:Bx) (last:Int) (f:Nat->Option Nat) (n:Nat) (LB:List En),j<=Z.length/\i=.int .i64 j/\lastv=.int .i64 last/\(Z.take j).foldl (q9b ns y tall) (m0,-1)=(m,last)/\RB ns wr n0 d mb n f LB (getX m) M/\Chg n0 BxT wA wr /\
  n<=c0+j/\TxB ns (getX m) (c0+j)/\OkG ns.length d (getX m)/\∀ q:Nat,last=(q:Int)->∃ b,getX m q=some b/\b.text≠[]
def R6 (ns:List Nd) (l:List Nat) (m:Bx) (LB:List En) (wE:World) (v i:Value) (wr:World):Prop :=
 ∃ (k:Nat) (es:List En),k<=l.length/\i=.int .i64 k/\(l.take k).filterMap (getX m)=es.map En.b/\(∀ e ∈ es,e ∈ LB/\e.key ∈ l.take k/\getX m e.key=some e.b)/\(es.map En.key).Nodup/\(shPt YT.ptr).Owns wr wE.heap.size v (es.map En.p)/\Below wE.heap.size wE wr
section
variable {ns:List Nd} {w:World} {base d mb n:Nat} {f:Nat->Option Nat} {LB:List En} {G:Nat->Option BT} {M:List PiM}
theorem RB.apart (h:RB ns w base d mb n f LB G M) {e e':En} (he:e ∈ LB) (he':e' ∈ LB) (hk:e.key≠e'.key):∀ q ∈ e.fp,q ∉ e'.fp:=by
 obtain ⟨i,hi,rfl⟩:=List.getElem_of_mem he
 obtain ⟨j,hj,rfl⟩:=List.getElem_of_mem he'
 exact qvf h.boxes.nodup (i:=i) (j:=j) (fun e=>hk (by subst e; rfl)) (by simp [hi]) (by simp [hj])
theorem RB.sel (h:RB ns w base d mb n f LB G M) (es:List En) (hs:∀ e ∈ es,e ∈ LB) (hn:(es.map En.key).Nodup):BoxesAt YT w base d (es.map En.b) (es.map En.p) (es.map En.fp):=by
 refine ⟨by simp,by simp,fun i hi p fp hp hf=>?_,nodup_flat.2 ⟨fun q hq=>?_,fun i j hi hj hij q hq hm=>?_⟩⟩
 ·have hi':i < es.length:=by simpa using hi
  simp [hi'] at hp hf
  subst hp hf
  simpa using h.box (hs _ (List.getElem_mem hi'))
 ·obtain ⟨e,he,rfl⟩:=List.mem_map.1 hq
  exact (h.box (hs e he)).nodup
 ·have hi':i < es.length:=by simpa using hi
  have hj':j < es.length:=by simpa using hj
  rw [List.getElem_map] at hq hm
  have hk:=List.pairwise_iff_getElem.1 hn i j (by simpa using hi') (by simpa using hj') hij
  rw [List.getElem_map,List.getElem_map] at hk
  exact h.apart (hs _ (List.getElem_mem hi')) (hs _ (List.getElem_mem hj')) hk q hq hm
end
set_option maxRecDepth 100000 in
set_option maxHeartbeats 8000000 in
theorem qsp (lay:Lay) (d g B:Nat) (ns:List Nd) (next:Int) (l:List Nat) (lv:Value) (at_:Nat) (font x:Int) (w:World) (h:PgW w g B ns next) (hl:RowN w B lv l) (hat:at_ < ns.length) (hll:∀ k ∈ l,k < ns.length) (hnd:l.Nodup)
  (htx:∀ k ∈ l,(ndAt ns k).text.size<=200) (hlen:l.length<=300) (hns:ns.length<=1000000) (hd1:1<=d) (hw:∀ k ∈ l,(ndAt ns k).kind=0->∀ W,PgW W g B ns next->Calls Tryz.prog 137 #[.pointer (some ⟨g,0,none⟩),.int .i64 k,.int .i64 font,.int .i64 x] W (WiP ns.length (qke ns lay k font x) d W)) :
  Calls Tryz.prog 110 #[.pointer (some ⟨g,0,none⟩),lv,.int .i64 at_,.int .i64 font,.int .i64 x] w (RunP ns.length (runL ns lay l at_ font x) d w):=by
 have hs:=qce g B ns next at_ w h.pg hat
 have hBw:=h.lt
 obtain ⟨lb,lo,lc,rfl,hlb,hlc⟩:=hl
 have HL0:=Lib.hid (And.intro h hlc)
 clear hlc h
 obtain ⟨s,hsd⟩:∃ s,stAt ns at_=s:=⟨_,rfl⟩
 rw [hsd] at hs
 have HS:=Lib.hid hsd
 clear hsd
 go_enter Tryz.func110,Tryz.ntmps110
 go_upto_region 2 with (first | (go_at_call 60; refine hs.mono ?_; rintro e w1 ⟨rfl,hb1⟩) | (refine qxa rfl 33 _ _ rfl w1.heap.size 33 (stC st0) (stC s) rfl (Blk.new w1 _ _) rfl rfl qoa (qve _) ?_; intro w3 r3 r4 r5))
 have hB3:Below w.heap.size w w3:=hb1.trans ((((Kept.refl [] w1).alloc _).fresh r4 (by simp)).to_below hb1.size (by simp))
 clear r4 r5 hs
 obtain ⟨q,hq⟩:∃ q,w1.heap.size=q:=⟨_,rfl⟩
 rw [hq] at r3 ⊢
 have hq2:w.heap.size<=q:=by rw [<-hq]; exact hb1.size
 clear hq hb1
 have hq3:=r3.lt
 obtain ⟨n0,hn0⟩:∃ n0,w3.heap.size=n0:=⟨_,rfl⟩
 have HS3:=Lib.hid r3
 rw [hn0] at hq3
 have HN:=Lib.hid hn0
 have HL:=Lib.hid (And.intro (HL0.out.1.below (hB3.mono hBw)) (fun j (hj:j < l.length)=>((hB3.mono hBw).cell (p:=⟨lb,lo+j,none⟩) hlb).trans (HL0.out.2 j hj)))
 clear r3 hn0
 have HB3:=Lib.hid hB3
 clear hB3
 go_wp2_with fail
 go_loopw [14,15,51] (R1 ns lay s.ws font x l n0 d w3) (fun _ _ i _=>l.length - (intOf i).toNat)
 case atStart =>
  exact ⟨0,[],[],[],Nat.zero_le _,rfl,rfl,⟨Shp.Owns.nil _ _,Shp.Owns.nil _ _,rfl,BoxesAt.nil d,by simp,by simp,by simp,by simp,by simp,by simp,by simp⟩,Below.refl _ _,by simp⟩
 case round =>
  obtain ⟨k,acc,M,LB,hk,rfl,hacc,hP,hbr,hMl⟩:=hrel
  obtain ⟨A5,n5,c5,rfl⟩:=hP.own.slice_
  obtain ⟨A6,n6,c6,rfl⟩:=hP.its.slice_
  by_cases hlt:k < l.length
  ·skip
   have hzk:(k:Int) < (l.length:Int):=by omega
   have hBn:B<=n0:=by omega
   have hbrB:=hbr.mono hBn
   have e0:wr.cell? ⟨lb,lo+k,none⟩=some (.int .i64 (l[k]:Nat)):=(hbrB.cell (p:=⟨lb,lo+k,none⟩) hlb).trans (HL.out.2 k hlt)
   have hPg:=HL.out.1.below hbrB
   have hk0:=hll _ (List.getElem_mem hlt)
   have hwk:=hw _ (List.getElem_mem hlt)
   have htk:=htx _ (List.getElem_mem hlt)
   have HT:=Lib.hid (qml (runF ns lay s.ws font x) hlt)
   have HTk:=Lib.hid (show l.take (k+1)=l.take k ++ [l[k]] from List.take_succ_eq_append_getElem hlt)
   have HNk:=Lib.hid (show l[k] ∉ l.take k from fun hm=>by
    obtain ⟨j,hj,he⟩:=List.getElem_of_mem hm
    rw [List.length_take] at hj
    rw [List.getElem_take] at he
    have:=List.pairwise_iff_getElem.1 hnd j k (by omega) hlt (by omega)
    exact this he)
   obtain ⟨k0,hk0e⟩:∃ k0,l[k]=k0:=⟨_,rfl⟩
   rw [hk0e] at e0 hk0 hwk htk HT HTk HNk
   clear hk0e
   obtain ⟨b,o,c,hd,hc,hb,hrg⟩:=hPg.pg.node hk0
   have c2:wr.cell? ⟨b,o+k0 * 51+2,none⟩=some (.int .u8 (ndAt ns k0).kind):=hrg 2 _ rfl
   have hzk0:(k0:Int) < (ns.length:Int):=by omega
   have hwsz:n0<=wr.heap.size:=by rw [<-HN.out]; exact hbr.size
   have s33:wr.cell? ⟨q,33,none⟩=some (.int .u8 s.ws):=(hbr.cell (p:=⟨q,33,none⟩) hq3).trans (HS3.out.cell 33)
   have HP:=Lib.hid hP
   have HA:=Lib.hid hacc
   have HBR:=Lib.hid hbr
   have HPg:=Lib.hid hPg
   clear hrg hP hacc hbr hPg hbrB
   obtain ⟨fk,hfk⟩:∃ fk,runF ns lay s.ws font x k0=fk:=⟨_,rfl⟩
   have HF:=Lib.hid hfk
   rw [hfk] at HT
   clear hfk
   obtain ⟨kb,hkb⟩:∃ kb,(((ndAt ns k0).kind:Int) == 0)=kb:=⟨_,rfl⟩
   have HKB:=Lib.hid hkb
   go_upto_if 64 with fail
   clear hkb
   go_cut [18] (fun mv wm=>∃ L,fk=some L/\MoreP ns n0 d (.slice A5 n5 c5) (.slice A6 n6 c6) M L LB (l.take k) k0 wr mv wm)
   case first =>
    cases kb with
    | true =>
     have hk00:(ndAt ns k0).kind=0:=by
      have:=HKB.out
      simp at this
      omega
     have hF:=HF.out
     unfold runF at hF
     rw [if_pos hk00] at hF
     have HF2:=Lib.hid hF
     clear hF
     cases hwi:qke ns lay k0 font x with
     | none =>
      have HW:=Lib.hid hwi
      have HR:=Lib.hid (show runL ns lay l at_ font x=none from q7l (by rw [HS.out]; refine qeh _ (k:=k+1) ?_; rw [HT.out,HA.out,<-HF2.out,HW.out]; rfl))
      go_wp2_with (go_at_call 137; refine (hwk hk00 wr HPg.out).mono ?_; rintro e w4 ⟨hb4,he⟩; rw [HW.out] at he; obtain rfl:=he)
      refine ⟨rfl,?_,?_⟩
      ·exact HB3.out.trans ((HBR.out.trans (hb4.mono hwsz)).mono (by omega))
      ·rw [HR.out]
     | some y =>
      have HW:=Lib.hid hwi
      go_wp2_with (first
       | (go_at_call 137; refine (hwk hk00 wr HPg.out).mono ?_; rintro e w4 ⟨hb4,he⟩; rw [HW.out] at he; obtain ⟨b4,p4,fp4,hy4,rfl,hbx4,hok4⟩:=he; unfold piC)
       | (at_builtin; refine qsd (v:=.slice none 0 0) (L:=[]) (base:=wr.heap.size) qcf w4 ⟨y,some p4⟩ rfl _ _ rfl rfl (Shp.Owns.nil _ _) rfl (by simp) hb4.size ?_; intro v7 w7 hown7 hgrow7 hloc7; obtain ⟨A7,n7,c7,rfl⟩:=hown7.slice_))
      have k7:Kept [] w4 w7:=((Kept.refl [] w4).alloc _).grown hgrow7 fun g hg=>(by cases hg)
      have kb7:Kept [] wr w7:=(Kept.of_below hb4).trans k7
      have hyf:=qnr HW.out
      go_meet
      refine ⟨[y],by rw [<-HF2.out,HW.out]; rfl,kb7.to_below (Nat.le_refl _) (by simp),[⟨y,some p4⟩],[⟨k0,p4,fp4,b4⟩],hown7,rfl,by simp,?_,?_,by simp,?_,?_,?_,?_⟩
      ·rw [List.map_append,List.map_append,List.map_append]
       refine (HP.out.boxes.kept kb7 (by simp)).snoc ((hbx4.kept k7 (by simp)).base_le hwsz) fun g hg hm=>?_
       have:=(HP.out.boxes.mem_lt g hm).2
       have:=(hbx4.mem_lt g hg).1
       omega
      ·intro e he
       rw [List.mem_singleton.1 he]
       exact ⟨rfl,hk00,hok4⟩
      ·intro m hm b0 hb0
       rw [List.mem_singleton.1 hm] at hb0 ⊢
       refine ⟨⟨k0,p4,fp4,b4⟩,by simp,hyf.1.symm,rfl,?_⟩
       rw [hy4] at hb0
       injection hb0
      ·intro m hm h0
       rw [List.mem_singleton.1 hm] at h0
       rw [hy4] at h0
       cases h0
      ·intro m hm
       rw [List.mem_singleton.1 hm]
       exact ⟨fun _=>by show (ndAt ns y.at_).kind=0; rw [hyf.1]; exact hk00,fun _=>⟨b4,hy4⟩⟩
      ·intro m hm
       rw [List.mem_singleton.1 hm]
       exact ⟨hyf.1,by show y.text.size<=200; omega⟩
    | false =>
     have hk00:(ndAt ns k0).kind≠0:=by
      have:=HKB.out
      simp at this
      omega
     have hF:=HF.out
     unfold runF at hF
     rw [if_neg hk00] at hF
     have HF2:=Lib.hid hF
     clear hF
     have hcut:=qdx g B ns next k0 s.ws font wr HPg.out hk0 (by omega)
     cases hwi:cutL ns k0 s.ws font with
     | none =>
      have HW:=Lib.hid hwi
      have HR:=Lib.hid (show runL ns lay l at_ font x=none from q7l (by rw [HS.out]; refine qeh _ (k:=k+1) ?_; rw [HT.out,HA.out,<-HF2.out,HW.out]; rfl))
      go_wp2_with (go_at_call 121; refine hcut.mono ?_; rintro e w4 ⟨hb4,he⟩; rw [HW.out] at he; obtain rfl:=he)
      refine ⟨rfl,?_,?_⟩
      ·exact HB3.out.trans ((HBR.out.trans (hb4.mono hwsz)).mono (by omega))
      ·rw [HR.out]
     | some y =>
      have HW:=Lib.hid hwi
      clear hwi
      go_wp2_with (go_at_call 121; refine hcut.mono ?_; rintro e w4 ⟨hb4,he⟩; rw [HW.out] at he; obtain ⟨v4,rfl,hown4⟩:=he)
      have hyf:=qvv HW.out
      have kb7:Kept [] wr w4:=Kept.of_below hb4
      go_meet
      refine ⟨y,by rw [<-HF2.out,HW.out],hb4,bareM y,[],hown4,by unfold bareM; rw [List.map_map]; exact List.map_id'' (fun _=>rfl) _,by unfold bareM; rw [List.length_map]; omega,?_,by simp,by simp,?_,?_,?_,?_⟩
      ·rw [List.append_nil]
       exact HP.out.boxes.kept kb7 (by simp)
      ·intro m hm b0 hb0
       obtain ⟨z,hz,rfl⟩:=List.mem_map.1 hm
       rw [(hyf.2 z hz).2.1] at hb0
       cases hb0
      ·intro m hm _
       obtain ⟨z,hz,rfl⟩:=List.mem_map.1 hm
       rfl
      ·intro m hm
       obtain ⟨z,hz,rfl⟩:=List.mem_map.1 hm
       have h1:=hyf.2 z hz
       constructor
       ·rintro ⟨b0,hb0⟩
        rw [h1.2.1] at hb0
        cases hb0
       ·intro h0
        rw [h1.1] at h0
        exact absurd h0 hk00
      ·intro m hm
       obtain ⟨z,hz,rfl⟩:=List.mem_map.1 hm
       have h1:=hyf.2 z hz
       exact ⟨h1.1,by show z.text.size<=200; omega⟩
   case rest =>
    obtain ⟨L,rfl,hbm,MM,LB2,hmo,hmx,hml,hbx,hl2,hl3,hheld,hbare,hkind,hseen⟩:=hcut
    obtain ⟨Am,nm,cm,rfl⟩:=hmo.slice_
    obtain rfl:nm=MM.length:=by
     obtain ⟨_,_,e,_⟩:=hmo.in_
     injection e
    have hwm:n0<=wc.heap.size:=Nat.le_trans hwsz hbm.size
    have hpo:shPi.Owns wc n0 (.slice A5 n5 c5) M:=HP.out.own.below hbm
    have hio:shIm.Owns wc n0 (.slice A6 n6 c6) (M.map fun m=>imOf m.x):=HP.out.its.below hbm
    have hpm:∀ g,(Value.slice A5 n5 c5).ownBlock=some g->(Value.slice Am MM.length cm).ownBlock≠some g:=fun g hg hg2=>by
     have:=(HP.out.own.lt g hg).2
     have:=(hmo.lt g hg2).1
     omega
    have HM:=Lib.hid (And.intro hbm (And.intro hmx (And.intro hbx (And.intro hl2 (And.intro hl3 (And.intro hheld (And.intro hbare (And.intro hkind hseen))))))))
    clear hbm hmx hbx hl2 hl3 hheld hbare hkind hseen e0 c2 s33
    have hmo:=hmo.base_le hwsz
    go_wp2_with fail
    go_loopw [14,15,81] (R2 n0 M MM (.slice Am MM.length cm) wc) (fun _ _ i _=>MM.length - (intOf i).toNat)
    case atStart=>exact ⟨0,Nat.zero_le _,rfl,by simpa using hpo,by simpa using hio,hmo,hpm,Chg.refl _ _ _⟩
    case round =>
     obtain ⟨j,hj,rfl,ho1,ho2,ho3,ho4,hch⟩:=hrel
     obtain ⟨A7,n7,c7,rfl⟩:=ho1.slice_
     obtain ⟨A8,n8,c8,rfl⟩:=ho2.slice_
     have hMl2:(M ++ MM.take j).length+1<=1000000000:=by rw [List.length_append,List.length_take]; omega
     have hMl3:((M ++ MM.take j).map fun m=>imOf m.x).length+1<=1000000000:=by rw [List.length_map]; exact hMl2
     have hws:n0<=wr.heap.size:=Nat.le_trans hwm hch.size
     by_cases hjt:j < MM.length
     ·have hzj:(j:Int) < (MM.length:Int):=by omega
      obtain ⟨A9,c9,hv9,hc9,hr9⟩:=ho3.in_
      injection hv9 with hv91 hv92 hv93
      clear hv92
      subst hv91 hv93
      obtain ⟨bm,om,rfl,hbm2,hcm⟩:=Shp.In.at_ (S:=shPi) (⟨_,_,rfl,hc9,hr9⟩:shPi.In wr wr.heap.size (.slice Am MM.length cm) MM) (by decide) (by omega)
      have hrg:wr.rangeAt bm (om+j * 11) (piC MM[j]):=fun t v hv=>by
       have ht:t < 11:=(List.getElem?_eq_some_iff.1 hv).1
       rw [Nat.add_assoc]
       exact (hcm j hjt t ht).trans hv
      have HT2:=Lib.hid (show MM.take (j+1)=MM.take j ++ [MM[j]] from List.take_succ_eq_append_getElem hjt)
      have HRG:=Lib.hid hrg
      clear hrg hcm hr9
      generalize MM[j]=m at *
      go_upto_region 14 with (first | (refine wpList_load_mid rfl 193 _ rfl bm (om+j * 11) rfl (piC m) _ HRG.out Tryz.underlying193 rfl q8d ?_) | (refine qxa rfl 193 _ _ rfl wr.heap.size 193 (piC ⟨⟨0,0,⟨0,0,0,0⟩,0,0,0,ByteArray.empty,none⟩,none⟩) (piC m) rfl (Blk.new wr _ _) rfl rfl q8d (q0f _) ?_; intro w5 r5 k5 z5; simp only [Act.put]))
      have kw5:Kept [] wr w5:=((Kept.refl [] wr).alloc _).fresh k5 (by simp)
      have z5':w5.heap.size=wr.heap.size+1:=by rw [z5,World.size_alloc]
      have hp5:=ho1.kept kw5 (by simp)
      have hi5:=ho2.kept kw5 (by simp)
      have hm5:=ho3.kept kw5 (by simp)
      have hb5:n0<=w5.heap.size:=by omega
      have hol1:∀ g,(Value.slice A7 n7 c7).ownBlock=some g->g < wr.heap.size:=fun g hg=>(ho1.lt g hg).2
      have hol2:∀ g,(Value.slice A8 n8 c8).ownBlock=some g->g < wr.heap.size:=fun g hg=>(ho2.lt g hg).2
      clear k5 z5
      generalize wr.heap.size=q5 at *
      have HZ5:=Lib.hid z5'
      clear z5'
      obtain ⟨gs,hgs⟩:∃ gs,(Value.slice A7 n7 c7).ownBlock.toList ++ (Value.slice A8 n8 c8).ownBlock.toList=gs:=⟨_,rfl⟩
      have hgs1:∀ g,(Value.slice A7 n7 c7).ownBlock=some g->g ∈ gs:=fun g hg=>by rw [<-hgs,hg]; simp
      have hgs2:∀ g,(Value.slice A8 n8 c8).ownBlock=some g->g ∈ gs:=fun g hg=>by rw [<-hgs,hg]; simp
      have hq5:q5 ∉ gs:=by
       rw [<-hgs]
       simp only [List.mem_append,Option.mem_toList]
       rintro (hm | hm)
       ·have:=hol1 _ hm; omega
       ·have:=hol2 _ hm; omega
      have HGS:=Lib.hid hgs
      clear hgs
      have f:=fun V:KW gs w5=>r5.kept V.ok hq5
      obtain ⟨⟨kd,wd,⟨sw,su,sd,sa⟩,ax,tp,lf,tx,bx⟩,pp⟩:=m
      have f0:∀ V:KW gs w5,V.val.cell? ⟨q5,0,none⟩=some (.int .u8 kd):=fun V=>(f V).cell 0
      have f1:∀ V:KW gs w5,V.val.cell? ⟨q5,1,none⟩=some (.int .i64 wd):=fun V=>(f V).cell 1
      have f2:∀ V:KW gs w5,V.val.cell? ⟨q5,2,none⟩=some (.int .i64 sw):=fun V=>(f V).cell 2
      have f3:∀ V:KW gs w5,V.val.cell? ⟨q5,3,none⟩=some (.int .i64 su):=fun V=>(f V).cell 3
      have f4:∀ V:KW gs w5,V.val.cell? ⟨q5,4,none⟩=some (.int .i64 sd):=fun V=>(f V).cell 4
      have f5:∀ V:KW gs w5,V.val.cell? ⟨q5,5,none⟩=some (.int .u8 sa):=fun V=>(f V).cell 5
      have f6:∀ V:KW gs w5,V.val.cell? ⟨q5,6,none⟩=some (.int .i64 ax):=fun V=>(f V).cell 6
      have f7:∀ V:KW gs w5,V.val.cell? ⟨q5,7,none⟩=some (.int .i64 tp):=fun V=>(f V).cell 7
      have f8:∀ V:KW gs w5,V.val.cell? ⟨q5,8,none⟩=some (.int .i64 lf):=fun V=>(f V).cell 8
      have f9:∀ V:KW gs w5,V.val.cell? ⟨q5,9,none⟩=some (.string tx):=fun V=>(f V).cell 9
      have f10:∀ V:KW gs w5,V.val.cell? ⟨q5,10,none⟩=some (ptrO pp):=fun V=>(f V).cell 10
      clear f
      have hcg:∀ w8,Kept gs w5 w8->Chg n0 PcT wc w8:=fun w8 hk=>hch.trans ((Chg.of_nil kw5).trans (Chg.of_kept hk (fun g hg=>by
       rw [<-HGS.out] at hg
       simp only [List.mem_append,Option.mem_toList] at hg
       exact hg.elim (fun hg=>(hp5.lt g hg).1) (fun hg=>(hi5.lt g hg).1)) (fun g hg cs t fr hb=>by
       rw [<-HGS.out] at hg
       simp only [List.mem_append,Option.mem_toList] at hg
       rcases hg with hg | hg
       ·rw [qsb hp5 hg hb]; exact List.mem_cons_self
       ·rw [qsb hi5 hg hb]; exact List.mem_cons_of_mem _ List.mem_cons_self)))
      have HCG:=Lib.hid hcg
      have hmlt:∀ g,(Value.slice (some ⟨bm,om,none⟩) MM.length cm).ownBlock=some g->g < w5.heap.size:=fun g hg=>(hm5.lt g hg).2
      clear hcg hch
      go_wp2_with fail
      refine q5d [10] [0,1,4,5,6] 6 (fun w'=>∃ V:KW gs w5,w'=V.val) (by kernel_rfl) (by kernel_rfl) (fun c a d v w h=>by cases d <;> exact h) ⟨⟨w5.drew,(Kept.refl _ _).drew⟩,rfl⟩ ?_
      simp only [pickD,List.map_cons,List.map_nil,List.getD_cons_zero,List.getD_cons_succ]
      repeat (go_big_quiet_step (fail))
      refine wpQuiet_nil ?_
      refine qba [2,7] (by kernel_rfl) fun i hi=>?_
      rcases (by simpa using hi:i=2\/i=7) with rfl | rfl
      ·skip
       refine qaa rfl fun K hK=>?_
       go_simp
       refine hK.out _ _ (.inr ⟨⟨_,((Kept.refl _ _).drew).alloc _⟩,rfl⟩) ?_
       clear hK K
       try simp only [Act.put,zA,zB,zC]
       refine qba [3,7] (by kernel_rfl) fun i hi=>?_
       rcases (by simpa using hi:i=3\/i=7) with rfl | rfl
       ·skip
        refine qaa rfl fun K hK=>?_
        refine qpb (v:=.slice A7 n7 c7) (L:=M ++ MM.take j) (M:=[⟨⟨kd,wd,⟨sw,su,sd,sa⟩,ax,tp,lf,tx,bx⟩,pp⟩]) (base:=n0) (u:=.slice (some ⟨w5.heap.size,0,none⟩) 1 1) qcf rfl _ _ rfl (by rfl) ((show shPi.Owns w5.drew n0 _ _ from hp5).alloc _) (by rfl) (Shp.In.one shPi w5.drew ⟨⟨kd,wd,⟨sw,su,sd,sa⟩,ax,tp,lf,tx,bx⟩,pp⟩) hMl2 (by simp; omega) ?_
        intro v6 w6 hp6 hg6 hl6
        obtain ⟨A9,n9,c9,rfl⟩:=hp6.slice_
        have hk6:Kept (Value.slice A7 n7 c7).ownBlock.toList w5 w6:=(((Kept.refl _ w5).drew).alloc _).grown hg6 fun g hg=>.inl (by rw [hg]; simp)
        have hK6:Kept gs w5 w6:=(((Kept.refl gs w5).drew).alloc _).grown hg6 fun g hg=>.inl (hgs1 g hg)
        have hi6:=hi5.kept hk6 fun g hg hm=>qbb hp5 hi5 (by decide) g (by simpa using hm) hg
        have hm6:=hm5.kept hk6 fun g hg hm=>ho4 g (by simpa using hm) hg
        have hn6:∀ g,(Value.slice A9 n9 c9).ownBlock=some g->(Value.slice (some ⟨bm,om,none⟩) MM.length cm).ownBlock≠some g:=fun g hg hg2=>by
         rcases hl6 with e | e
         ·exact ho4 g (by rw [<-e]; exact hg) hg2
         ·have h1:=hmlt g hg2
          rw [e] at hg
          injection hg with hg
          simp at hg
          omega
        have hs6:n0<=w6.heap.size:=Nat.le_trans hb5 hK6.size
        refine hK.out _ _ (.inr ⟨⟨_,hK6⟩,rfl⟩) ?_
        clear hK K
        try simp only [Act.put,zA,zB,zC]
        refine qba [7] (by kernel_rfl) fun i hi=>?_
        obtain rfl:i=7:=by simpa using hi
        refine qaa rfl fun K hK=>?_
        go_simp
        refine hK.out _ _ (.inr ⟨⟨_,(hK6).alloc _⟩,rfl⟩) ?_
        clear hK K
        try simp only [Act.put,zA,zB,zC]
        refine qba [8] (by kernel_rfl) fun i hi=>?_
        obtain rfl:i=8:=by simpa using hi
        refine qaa rfl fun K hK=>?_
        refine qpb (v:=.slice A8 n8 c8) (L:=(M ++ MM.take j).map fun m=>imOf m.x) (M:=[(kd,wd)]) (base:=n0) (u:=.slice (some ⟨w6.heap.size,0,none⟩) 1 1) qjh rfl _ _ rfl (by rfl) (hi6.alloc _) (by rfl) (Shp.In.one shIm w6 (kd,wd)) hMl3 (by first | exact hs6 | (simp; omega)) ?_
        intro v8 w8 hi8 hg8 hl8
        obtain ⟨A10,n10,c10,rfl⟩:=hi8.slice_
        have hk8:Kept (Value.slice A8 n8 c8).ownBlock.toList w6 w8:=((Kept.refl _ w6).alloc _).grown hg8 fun g hg=>.inl (by rw [hg]; simp)
        have hK8:Kept gs w5 w8:=hK6.trans (((Kept.refl gs w6).alloc _).grown hg8 fun g hg=>.inl (hgs2 g hg))
        have hp8:=hp6.kept hk8 fun g hg hm=>qbb hi6 hp6 (by decide) g (by simpa using hm) hg
        have hm8:=hm6.kept hk8 fun g hg hm=>qbb hi6 hm6 (by decide) g (by simpa using hm) hg
        refine hK.out _ _ (.inr ⟨⟨_,hK8⟩,rfl⟩) ?_
        clear hK K
        try simp only [Act.put,zA,zB,zC]
        refine qba [9] (by kernel_rfl) fun i hi=>?_
        obtain rfl:i=9:=by simpa using hi
        refine qaa rfl fun K hK=>?_
        go_simp
        refine hK.out _ _ (.inr ⟨⟨_,hK8⟩,rfl⟩) ?_
        clear hK K
        try simp only [Act.put,zA,zB,zC]
        refine qba [10] (by kernel_rfl) fun i hi=>?_
        obtain rfl:i=10:=by simpa using hi
        refine qaa rfl fun K hK=>?_
        go_simp
        refine hK.out _ _ (.inl (by decide)) ?_
        clear hK K
        try simp only [Act.put,zA,zB,zC]
        refine qma (by kernel_rfl) ?_
        go_wp2_with fail
        refine ⟨⟨j+1,hjt,by go_num,by rw [HT2.out,<-List.append_assoc]; exact hp8,by rw [HT2.out,<-List.append_assoc,List.map_append]; exact hi8,hm8,hn6,HCG.out _ hK8⟩,by simp [intOf]; omega⟩
       ·skip
        refine qaa rfl fun K hK=>?_
        go_simp
        refine hK.out _ _ (.inr ⟨⟨_,(((Kept.refl _ _).drew).alloc _).alloc _⟩,rfl⟩) ?_
        clear hK K
        try simp only [Act.put,zA,zB,zC]
        refine qba [3] (by kernel_rfl) fun i hi=>?_
        obtain rfl:i=3:=by simpa using hi
        refine qaa rfl fun K hK=>?_
        refine qpb (v:=.slice A7 n7 c7) (L:=M ++ MM.take j) (M:=[⟨⟨kd,wd,⟨sw,su,sd,sa⟩,ax,tp,lf,tx,bx⟩,pp⟩]) (base:=n0) (u:=.slice (some ⟨w5.heap.size,0,none⟩) 1 1) qcf rfl _ _ rfl (by rfl) (((show shPi.Owns w5.drew n0 _ _ from hp5).alloc _).alloc _) (by rfl) ((Shp.In.one shPi w5.drew ⟨⟨kd,wd,⟨sw,su,sd,sa⟩,ax,tp,lf,tx,bx⟩,pp⟩).below ((Below.refl _ _).alloc (by simp) _)) hMl2 (by simp; omega) ?_
        intro v6 w6 hp6 hg6 hl6
        obtain ⟨A9,n9,c9,rfl⟩:=hp6.slice_
        have hk6:Kept (Value.slice A7 n7 c7).ownBlock.toList w5 w6:=((((Kept.refl _ w5).drew).alloc _).alloc _).grown hg6 fun g hg=>.inl (by rw [hg]; simp)
        have hK6:Kept gs w5 w6:=((((Kept.refl gs w5).drew).alloc _).alloc _).grown hg6 fun g hg=>.inl (hgs1 g hg)
        have hi6:=hi5.kept hk6 fun g hg hm=>qbb hp5 hi5 (by decide) g (by simpa using hm) hg
        have hm6:=hm5.kept hk6 fun g hg hm=>ho4 g (by simpa using hm) hg
        have hn6:∀ g,(Value.slice A9 n9 c9).ownBlock=some g->(Value.slice (some ⟨bm,om,none⟩) MM.length cm).ownBlock≠some g:=fun g hg hg2=>by
         rcases hl6 with e | e
         ·exact ho4 g (by rw [<-e]; exact hg) hg2
         ·have h1:=hmlt g hg2
          rw [e] at hg
          injection hg with hg
          simp at hg
          omega
        have hs6:n0<=w6.heap.size:=Nat.le_trans hb5 hK6.size
        have hI6:Blk w6 (w5.heap.size+1) 187 #[.int .u8 kd,.int .i64 wd]:=(by have h1:=Blk.new (w5.drew.alloc (.cells (shPi.enc ⟨⟨kd,wd,⟨sw,su,sd,sa⟩,ax,tp,lf,tx,bx⟩,pp⟩).toArray shPi.t)) 187 #[.int .u8 kd,.int .i64 wd]; rw [World.size_alloc] at h1; exact h1.kept ((Kept.refl (Value.slice A7 n7 c7).ownBlock.toList _).grown hg6 fun g hg=>.inl (by rw [hg]; simp)) (by simp only [Option.mem_toList]; intro hm; have h2:w5.heap.size+1 < w5.heap.size:=(hp5.lt _ hm).2; omega))
        refine hK.out _ _ (.inr ⟨⟨_,hK6⟩,rfl⟩) ?_
        clear hK K
        try simp only [Act.put,zA,zB,zC]
        refine qba [8] (by kernel_rfl) fun i hi=>?_
        obtain rfl:i=8:=by simpa using hi
        refine qaa rfl fun K hK=>?_
        refine qpb (v:=.slice A8 n8 c8) (L:=(M ++ MM.take j).map fun m=>imOf m.x) (M:=[(kd,wd)]) (base:=n0) (u:=.slice (some ⟨w5.heap.size+1,0,none⟩) 1 1) qjh rfl _ _ rfl (by rfl) (hi6) (by rfl) (Shp.In.of_blk (S:=shIm) (x:=(kd,wd)) hI6) hMl3 (by first | exact hs6 | (simp; omega)) ?_
        intro v8 w8 hi8 hg8 hl8
        obtain ⟨A10,n10,c10,rfl⟩:=hi8.slice_
        have hk8:Kept (Value.slice A8 n8 c8).ownBlock.toList w6 w8:=(Kept.refl _ w6).grown hg8 fun g hg=>.inl (by rw [hg]; simp)
        have hK8:Kept gs w5 w8:=hK6.trans ((Kept.refl gs w6).grown hg8 fun g hg=>.inl (hgs2 g hg))
        have hp8:=hp6.kept hk8 fun g hg hm=>qbb hi6 hp6 (by decide) g (by simpa using hm) hg
        have hm8:=hm6.kept hk8 fun g hg hm=>qbb hi6 hm6 (by decide) g (by simpa using hm) hg
        refine hK.out _ _ (.inr ⟨⟨_,hK8⟩,rfl⟩) ?_
        clear hK K
        try simp only [Act.put,zA,zB,zC]
        refine qba [9] (by kernel_rfl) fun i hi=>?_
        obtain rfl:i=9:=by simpa using hi
        refine qaa rfl fun K hK=>?_
        go_simp
        refine hK.out _ _ (.inr ⟨⟨_,hK8⟩,rfl⟩) ?_
        clear hK K
        try simp only [Act.put,zA,zB,zC]
        refine qba [10] (by kernel_rfl) fun i hi=>?_
        obtain rfl:i=10:=by simpa using hi
        refine qaa rfl fun K hK=>?_
        go_simp
        refine hK.out _ _ (.inl (by decide)) ?_
        clear hK K
        try simp only [Act.put,zA,zB,zC]
        refine qma (by kernel_rfl) ?_
        go_wp2_with fail
        refine ⟨⟨j+1,hjt,by go_num,by rw [HT2.out,<-List.append_assoc]; exact hp8,by rw [HT2.out,<-List.append_assoc,List.map_append]; exact hi8,hm8,hn6,HCG.out _ hK8⟩,by simp [intOf]; omega⟩
      ·skip
       refine qaa rfl fun K hK=>?_
       go_simp
       refine hK.out _ _ (.inr ⟨⟨_,((Kept.refl _ _).drew).alloc _⟩,rfl⟩) ?_
       clear hK K
       try simp only [Act.put,zA,zB,zC]
       refine qba [2] (by kernel_rfl) fun i hi=>?_
       obtain rfl:i=2:=by simpa using hi
       refine qaa rfl fun K hK=>?_
       go_simp
       refine hK.out _ _ (.inr ⟨⟨_,(((Kept.refl _ _).drew).alloc _).alloc _⟩,rfl⟩) ?_
       clear hK K
       try simp only [Act.put,zA,zB,zC]
       refine qba [3] (by kernel_rfl) fun i hi=>?_
       obtain rfl:i=3:=by simpa using hi
       refine qaa rfl fun K hK=>?_
       refine qpb (v:=.slice A7 n7 c7) (L:=M ++ MM.take j) (M:=[⟨⟨kd,wd,⟨sw,su,sd,sa⟩,ax,tp,lf,tx,bx⟩,pp⟩]) (base:=n0) (u:=.slice (some ⟨w5.heap.size+1,0,none⟩) 1 1) qcf rfl _ _ rfl (by rfl) (((show shPi.Owns w5.drew n0 _ _ from hp5).alloc _).alloc _) (by rfl) ((by have h1:=Shp.In.one shPi (w5.drew.alloc (.cells #[.int .u8 kd,.int .i64 wd] 187)) ⟨⟨kd,wd,⟨sw,su,sd,sa⟩,ax,tp,lf,tx,bx⟩,pp⟩; rw [World.size_alloc] at h1; exact h1)) hMl2 (by simp; omega) ?_
       intro v6 w6 hp6 hg6 hl6
       obtain ⟨A9,n9,c9,rfl⟩:=hp6.slice_
       have hk6:Kept (Value.slice A7 n7 c7).ownBlock.toList w5 w6:=((((Kept.refl _ w5).drew).alloc _).alloc _).grown hg6 fun g hg=>.inl (by rw [hg]; simp)
       have hK6:Kept gs w5 w6:=((((Kept.refl gs w5).drew).alloc _).alloc _).grown hg6 fun g hg=>.inl (hgs1 g hg)
       have hi6:=hi5.kept hk6 fun g hg hm=>qbb hp5 hi5 (by decide) g (by simpa using hm) hg
       have hm6:=hm5.kept hk6 fun g hg hm=>ho4 g (by simpa using hm) hg
       have hn6:∀ g,(Value.slice A9 n9 c9).ownBlock=some g->(Value.slice (some ⟨bm,om,none⟩) MM.length cm).ownBlock≠some g:=fun g hg hg2=>by
        rcases hl6 with e | e
        ·exact ho4 g (by rw [<-e]; exact hg) hg2
        ·have h1:=hmlt g hg2
         rw [e] at hg
         injection hg with hg
         simp at hg
         omega
       have hs6:n0<=w6.heap.size:=Nat.le_trans hb5 hK6.size
       have hI6:Blk w6 (w5.heap.size) 187 #[.int .u8 kd,.int .i64 wd]:=(by have h1:=(Blk.new w5.drew 187 #[.int .u8 kd,.int .i64 wd]).alloc (.cells (shPi.enc ⟨⟨kd,wd,⟨sw,su,sd,sa⟩,ax,tp,lf,tx,bx⟩,pp⟩).toArray shPi.t); exact h1.kept ((Kept.refl (Value.slice A7 n7 c7).ownBlock.toList _).grown hg6 fun g hg=>.inl (by rw [hg]; simp)) (by simp only [Option.mem_toList]; intro hm; have h2:w5.heap.size < w5.heap.size:=(hp5.lt _ hm).2; omega))
       refine hK.out _ _ (.inr ⟨⟨_,hK6⟩,rfl⟩) ?_
       clear hK K
       try simp only [Act.put,zA,zB,zC]
       refine qba [8] (by kernel_rfl) fun i hi=>?_
       obtain rfl:i=8:=by simpa using hi
       refine qaa rfl fun K hK=>?_
       refine qpb (v:=.slice A8 n8 c8) (L:=(M ++ MM.take j).map fun m=>imOf m.x) (M:=[(kd,wd)]) (base:=n0) (u:=.slice (some ⟨w5.heap.size,0,none⟩) 1 1) qjh rfl _ _ rfl (by rfl) (hi6) (by rfl) (Shp.In.of_blk (S:=shIm) (x:=(kd,wd)) hI6) hMl3 (by first | exact hs6 | (simp; omega)) ?_
       intro v8 w8 hi8 hg8 hl8
       obtain ⟨A10,n10,c10,rfl⟩:=hi8.slice_
       have hk8:Kept (Value.slice A8 n8 c8).ownBlock.toList w6 w8:=(Kept.refl _ w6).grown hg8 fun g hg=>.inl (by rw [hg]; simp)
       have hK8:Kept gs w5 w8:=hK6.trans ((Kept.refl gs w6).grown hg8 fun g hg=>.inl (hgs2 g hg))
       have hp8:=hp6.kept hk8 fun g hg hm=>qbb hi6 hp6 (by decide) g (by simpa using hm) hg
       have hm8:=hm6.kept hk8 fun g hg hm=>qbb hi6 hm6 (by decide) g (by simpa using hm) hg
       refine hK.out _ _ (.inr ⟨⟨_,hK8⟩,rfl⟩) ?_
       clear hK K
       try simp only [Act.put,zA,zB,zC]
       refine qba [9] (by kernel_rfl) fun i hi=>?_
       obtain rfl:i=9:=by simpa using hi
       refine qaa rfl fun K hK=>?_
       go_simp
       refine hK.out _ _ (.inr ⟨⟨_,hK8⟩,rfl⟩) ?_
       clear hK K
       try simp only [Act.put,zA,zB,zC]
       refine qba [10] (by kernel_rfl) fun i hi=>?_
       obtain rfl:i=10:=by simpa using hi
       refine qaa rfl fun K hK=>?_
       go_simp
       refine hK.out _ _ (.inl (by decide)) ?_
       clear hK K
       try simp only [Act.put,zA,zB,zC]
       refine qma (by kernel_rfl) ?_
       go_wp2_with fail
       refine ⟨⟨j+1,hjt,by go_num,by rw [HT2.out,<-List.append_assoc]; exact hp8,by rw [HT2.out,<-List.append_assoc,List.map_append]; exact hi8,hm8,hn6,HCG.out _ hK8⟩,by simp [intOf]; omega⟩
     ·obtain rfl:j=MM.length:=by omega
      rw [List.take_length] at ho1 ho2
      obtain ⟨hbm,hmx,hbx,hl2,hl3,hheld,hbare,hkind,hseen⟩:=HM.out
      have hP':=HP.out
      have hacc2:(l.take (k+1)).mapM (runF ns lay s.ws font x)=some (acc ++ [L]):=by rw [HT.out,HA.out]; rfl
      have hfl:(acc ++ [L]).flatten=acc.flatten ++ L:=by simp
      have hbox:BoxesAt YT wr n0 d ((LB ++ LB2).map En.b) ((LB ++ LB2).map En.p) ((LB ++ LB2).map En.fp):=hch.boxes hbx (by decide) (by decide) (by decide)
      have hks:∀ e ∈ LB ++ LB2,e.key ∈ l.take k ++ [k0]/\(ndAt ns e.key).kind=0:=fun e he=>by
       rcases List.mem_append.1 he with he | he
       ·exact ⟨List.mem_append_left _ (hP'.sub e he).1,(hP'.sub e he).2⟩
       ·have h1:=hl2 e he
        rw [h1.1]
        exact ⟨by simp,h1.2.1⟩
      have hP2:PcsM ns wr n0 d (.slice A7 n7 c7) (.slice A8 n8 c8) (M ++ MM) (LB ++ LB2) (acc.flatten ++ L) (l.take (k+1)):=by
       rw [HTk.out]
       refine ⟨ho1,ho2,by rw [List.map_append,hP'.pie,hmx],hbox,?_,hks,fun m hm b0 hb0=>?_,fun m hm h0=>?_,fun m hm=>?_,fun m hm=>?_,fun e he=>?_⟩
       ·rw [List.map_append,List.nodup_append]
        refine ⟨hP'.keys,?_,fun a ha b hb e=>?_⟩
        ·match LB2,hl3 with
         | [],_=>simp
         | [_],_=>simp
        ·obtain ⟨e1,he1,rfl⟩:=List.mem_map.1 ha
         obtain ⟨e2,he2,rfl⟩:=List.mem_map.1 hb
         rw [(hl2 e2 he2).1] at e
         exact HNk.out (e ▸ (hP'.sub e1 he1).1)
       ·rcases List.mem_append.1 hm with hm | hm
        ·obtain ⟨e,he,r⟩:=hP'.held m hm b0 hb0
         exact ⟨e,List.mem_append_left _ he,r⟩
        ·obtain ⟨e,he,r⟩:=hheld m hm b0 hb0
         exact ⟨e,List.mem_append_right _ he,r⟩
       ·exact (List.mem_append.1 hm).elim (fun hm=>hP'.bare m hm h0) (fun hm=>hbare m hm h0)
       ·exact (List.mem_append.1 hm).elim (fun hm=>hP'.kind m hm) (fun hm=>hkind m hm)
       ·rcases List.mem_append.1 hm with hm | hm
        ·exact ⟨List.mem_append_left _ (hP'.seen m hm).1,(hP'.seen m hm).2⟩
        ·have h1:=hseen m hm
         exact ⟨by rw [h1.1]; simp,h1.2⟩
       ·exact (List.mem_append.1 he).elim (fun he=>hP'.okT e he) (fun he=>(hl2 e he).2.2)
      have HP2:=Lib.hid hP2
      have HA2:=Lib.hid hacc2
      have HB2:=Lib.hid ((HBR.out.trans (hbm.mono hwsz)).trans (hch.below (Nat.le_refl _) hwm))
      have hMl5:(M ++ MM).length<=200 * (k+1):=by rw [List.length_append]; omega
      clear hP2 hacc2 hbox hks hP' hheld hbare hkind hseen hl2 hl3 hbx hbm
      go_wp2_with fail
      exact ⟨⟨k+1,acc ++ [L],M ++ MM,LB ++ LB2,hlt,by go_num,HA2.out,by rw [hfl]; exact HP2.out,HB2.out,hMl5⟩,by simp [intOf]; omega⟩
  ·skip
   obtain rfl:k=l.length:=by omega
   have hwsz:n0<=wr.heap.size:=by rw [<-HN.out]; exact hbr.size
   rw [List.take_length] at hacc
   have hits:(M.map fun m=>imOf m.x)=acc.flatten.map fun x=>(x.kind,x.width):=by rw [<-hP.pie,List.map_map]; rfl
   have hio:=hP.its
   rw [hits] at hio
   have hMP:M.length=acc.flatten.length:=by rw [<-hP.pie,List.length_map]
   obtain ⟨P,hPd⟩:∃ P,acc.flatten=P:=⟨_,rfl⟩
   rw [hPd] at hio hMP hP
   have HRL:=Lib.hid (show runL ns lay l at_ font x=(must (fillL (P.map fun x=>(x.kind,x.width)) x).2).bind fun _=>(must (qka 60 font).2).bind fun _=>(must (qka 20 font).2).bind fun _ =>
     ((fillL (P.map fun x=>(x.kind,x.width)) x).1.foldlM (rowU ns (qka 60 font).1 (qka 20 font).1 x s.lines P) ([],0)).bind fun r =>
     some (l.filterMap (getX r.1),r.2,!(fillL (P.map fun x=>(x.kind,x.width)) x).1.isEmpty) by rw [qin,HS.out,hacc,<-hPd]; rfl)
   clear hits hPd hacc
   have hfill:=qpq (P.map fun x=>(x.kind,x.width)) x (.slice A6 n6 c6) wr.heap.size wr (qkw hio.in_) (Nat.le_refl _) (by rw [List.length_map]; omega)
   unfold qyj at hfill
   have hfb:=fun h0=>q5o (l:=P.map fun x=>(x.kind,x.width)) (width:=x) h0
   have h1:=fun W=>q8j font W
   have h2:=fun W=>qbl font W
   obtain ⟨fl,hfl0⟩:∃ fl,fillL (P.map fun x=>(x.kind,x.width)) x=fl:=⟨_,rfl⟩
   have HFL:=Lib.hid hfl0
   rw [hfl0] at hfill hfb HRL
   clear hfl0
   obtain ⟨rows,fe⟩:=fl
   generalize qka 60 font=u at *
   generalize qka 20 font=dd at *
   obtain ⟨u1,u2⟩:=u
   obtain ⟨d1,d2⟩:=dd
   have HP:=Lib.hid hP
   have HBR:=Lib.hid hbr
   clear hP hbr hio
   by_cases hfe:fe=0
   case neg =>
    have HR:=Lib.hid (show runL ns lay l at_ font x=none by rw [HRL.out]; show (must fe).bind _=none; rw [q4c hfe]; rfl)
    go_upto_region 18 with (go_at_call 122; refine hfill.mono ?_; rintro e w4 ⟨rv,rfl,hrv,hb4⟩)
    go_wp2_with (go_at_call 51; refine (qvc fe hfe _).mono ?_; rintro e w7 ⟨rfl,rfl⟩)
    refine ⟨rfl,HB3.out.trans ((HBR.out.trans (hb4.mono hwsz)).mono (by omega)),?_⟩
    rw [HR.out]
   subst hfe
   by_cases hu2:u2=0
   case neg =>
    have HR:=Lib.hid (show runL ns lay l at_ font x=none by rw [HRL.out]; show (must u2).bind _=none; rw [q4c hu2]; rfl)
    go_upto_region 20 with (first | (go_at_call 122; refine hfill.mono ?_; rintro e w4 ⟨rv,rfl,hrv,hb4⟩) | (go_at_call 138; refine (h1 _).mono ?_; rintro e w1 ⟨rfl,rfl⟩) | (go_at_call 51; refine (q6c _).mono ?_; rintro e w1 ⟨rfl,rfl⟩))
    go_wp2_with (go_at_call 51; refine (qvc u2 hu2 _).mono ?_; rintro e w7 ⟨rfl,rfl⟩)
    refine ⟨rfl,HB3.out.trans ((HBR.out.trans (hb4.mono hwsz)).mono (by omega)),?_⟩
    rw [HR.out]
   subst hu2
   by_cases hd2:d2=0
   case neg =>
    have HR:=Lib.hid (show runL ns lay l at_ font x=none by rw [HRL.out]; show (must d2).bind _=none; rw [q4c hd2]; rfl)
    go_upto_region 22 with (first | (go_at_call 122; refine hfill.mono ?_; rintro e w4 ⟨rv,rfl,hrv,hb4⟩) | (go_at_call 138; refine (h1 _).mono ?_; rintro e w1 ⟨rfl,rfl⟩) | (go_at_call 139; refine (h2 _).mono ?_; rintro e w1 ⟨rfl,rfl⟩) | (go_at_call 51; refine (q6c _).mono ?_; rintro e w1 ⟨rfl,rfl⟩))
    go_wp2_with (go_at_call 51; refine (qvc d2 hd2 _).mono ?_; rintro e w7 ⟨rfl,rfl⟩)
    refine ⟨rfl,HB3.out.trans ((HBR.out.trans (hb4.mono hwsz)).mono (by omega)),?_⟩
    rw [HR.out]
   subst hd2
   have HRL:=Lib.hid (show runL ns lay l at_ font x=(rows.foldlM (rowU ns u1 d1 x s.lines P) ([],0)).bind fun r=>some (l.filterMap (getX r.1),r.2,!rows.isEmpty) from HRL.out)
   obtain ⟨hc1,hc2,hc3⟩:=hfb rfl
   rw [List.length_map] at hc1 hc2 hc3
   clear hfb
   rw [<-hMP] at hc1 hc2 hc3
   have HMP:=Lib.hid hMP
   clear hMP
   have hmm:=@run_makeMap Tryz.prog
   go_upto_region 24 with (first | (go_at_call 122; refine hfill.mono ?_; rintro e w4 ⟨rv,rfl,hrv,hb4⟩) | (go_at_call 138; refine (h1 _).mono ?_; rintro e w1 ⟨rfl,rfl⟩) | (go_at_call 139; refine (h2 _).mono ?_; rintro e w1 ⟨rfl,rfl⟩) | (go_at_call 51; refine (q6c _).mono ?_; rintro e w1 ⟨rfl,rfl⟩))
   clear h1 h2 hfill hmm
   have hr4:∀ r:Nat,0 < rows.length->0 < M.length:=fun _ h=>by
    rcases Nat.eq_zero_or_pos M.length with h0 | h0
    ·exfalso
     have hP0:P=[]:=List.eq_nil_of_length_eq_zero (by have:=HMP.out; omega)
     have:=HFL.out
     rw [hP0] at this
     have h2:rows=[]:=by
      have h3:=congrArg Prod.fst this
      rw [List.map_nil,q4p] at h3
      exact h3.symm
     rw [h2] at h
     exact absurd h (by simp)
    ·exact h0
   have hb49:Below n0 wr w4:=hb4.mono hwsz
   have kw9:Kept [] wr (w4.alloc (.map #[] 0)):=(Kept.of_below hb4).trans ((Kept.refl [] w4).alloc _)
   have hRB0:RB ns (w4.alloc (.map #[] 0)) n0 d w4.heap.size 0 (fun _=>none) LB (getX []) M:=by
    have hP':=HP.out
    refine ⟨hP'.boxes.kept kw9 (by simp),hP'.keys,PtrMap.made _ _ _,fun k b h=>(by cases h),fun _ _=>rfl,fun m hm b0 hb0=>?_,hP'.bare,fun e he=>.inr (hP'.sub e he).2⟩
    obtain ⟨e,he,h1,h2,h3⟩:=hP'.held m hm b0 hb0
    exact ⟨e,he,h1,h2,b0.x,b0.y,by rw [h3]; cases b0; rfl⟩
   have HOM:=Lib.hid (show ∀ m ∈ M,∀ b0,m.x.box=some b0->okT ns.length d b0 from fun m hm b0 hb0=>by
    obtain ⟨e,he,h1,h2,h3⟩:=HP.out.held m hm b0 hb0
    exact h3 ▸ HP.out.okT e he)
   have hpo9:shPi.Owns (w4.alloc (.map #[] 0)) n0 (.slice A5 n5 c5) M:=HP.out.own.kept kw9 (by simp)
   have hrv9:shLn.Owns (w4.alloc (.map #[] 0)) wr.heap.size rv rows:=hrv.alloc _
   have hB9:Below n0 w3 (w4.alloc (.map #[] 0)):=HBR.out.trans (kw9.to_below hwsz (by simp))
   obtain ⟨mb,hmb⟩:∃ mb,w4.heap.size=mb:=⟨_,rfl⟩
   have hmb0:n0<=mb:=by rw [<-hmb]; exact Nat.le_trans hwsz hb4.size
   rw [hmb] at hRB0 ⊢
   clear hb4 hrv kw9 hb49 hmb
   generalize w4.alloc (.map #[] 0)=w9 at *
   obtain ⟨Ar,nr,cr,rfl⟩:=hrv9.slice_
   obtain rfl:nr=rows.length:=by
    obtain ⟨_,_,e,_⟩:=hrv9.in_
    injection e
   obtain rfl:n5=M.length:=by
    obtain ⟨_,_,e,_⟩:=hpo9.in_
    injection e
   have H9:=Lib.hid (And.intro hpo9 (And.intro hrv9 (And.intro hB9 hr4)))
   clear hpo9 hrv9 hB9 hr4
   go_wp2_with fail
   go_loopw [26,121] (R3 ns d n0 mb 2048 M (rowU ns u1 d1 x s.lines P) rows w9) (fun _ i _=>rows.length - (intOf i).toNat)
   case atStart=>exact ⟨0,[],0,_,0,LB,Nat.zero_le _,rfl,rfl,rfl,hRB0,Chg.refl _ _ _,Nat.zero_le _,fun k b h=>(by cases h),fun k b h=>(by cases h)⟩
   case round =>
    obtain ⟨k,m,y,f,n,LB3,hk3,rfl,rfl,hfold,hRB,hch,hn,htxb,hokg⟩:=hrel
    by_cases hlt3:k < rows.length
    ·have hMpos:=H9.out.2.2.2 0 (by omega)
     have hpo:=hch.owns H9.out.1 (by decide)
     have hrv:=hch.owns H9.out.2.1 (by decide)
     obtain ⟨A0,cc0,hv0,hcc0,hr0⟩:=hrv.in_
     injection hv0 with hv01 hv02 hv03
     clear hv02
     subst hv01 hv03
     obtain ⟨rb,ro,rfl,hrb,hcr⟩:=Shp.In.at_ (S:=shLn) (⟨_,_,rfl,hcc0,hr0⟩:shLn.In wr wr.heap.size (.slice Ar rows.length cr) rows) (by decide) (by omega)
     have hbd:=hc3 _ (List.getElem_mem hlt3)
     have HT3:=Lib.hid (qop (rowU ns u1 d1 x s.lines P) (b:=([],0)) hlt3)
     have e0:=hcr k hlt3 0 (by decide)
     have e1:=hcr k hlt3 1 (by decide)
     have e2:=hcr k hlt3 2 (by decide)
     generalize rows[k]=rk at *
     obtain ⟨fr,to_,wd⟩:=rk
     have e0:wr.cell? ⟨rb,ro+k * 3,none⟩=some (.int .i64 fr):=e0
     have e1:wr.cell? ⟨rb,ro+k * 3+1,none⟩=some (.int .i64 to_):=e1
     have e2:wr.cell? ⟨rb,ro+k * 3+2,none⟩=some (.int .i64 wd):=e2
     dsimp only at hbd
     clear hcr hr0 hcc0
     have hz3:(k:Int) < (rows.length:Int):=by omega
     go_upto_region 28 with fail
     have rA:=Blk.new wr 217 #[.int .i64 fr,.int .i64 to_,.int .i64 wd]
     have kA:Kept [] wr (wr.alloc (.cells #[.int .i64 fr,.int .i64 to_,.int .i64 wd] 217)):=(Kept.refl [] wr).alloc _
     have hpoA:=hpo.kept kA (by simp)
     have hRBA:=hRB.fresh_ kA
     have hchA:Chg n0 BxT w9 _:=hch.trans (Chg.of_nil kA)
     clear hRB hch hpo hrv e0 e1 e2
     obtain ⟨qA,hqA⟩:∃ qA,wr.heap.size=qA:=⟨_,rfl⟩
     rw [hqA] at rA ⊢
     clear hqA kA
     generalize wr.alloc (.cells #[.int .i64 fr,.int .i64 to_,.int .i64 wd] 217)=wA at *
     obtain ⟨A7,c7,hv7,hc7,hr7⟩:=hpoA.in_
     injection hv7 with hv71 hv72 hv73
     clear hv72
     subst hv71 hv73
     obtain ⟨pb,po,rfl,hpb,hcm⟩:=Shp.In.at_ (S:=shPi) (⟨_,_,rfl,hc7,hr7⟩:shPi.In wA wA.heap.size (.slice A5 M.length c5) M) (by decide) hMpos
     have HCM:=Lib.hid hcm
     clear hcm hr7
     have g0:wA.cell? ⟨qA,0,none⟩=some (.int .i64 fr):=rA.cell 0
     have g1:wA.cell? ⟨qA,1,none⟩=some (.int .i64 to_):=rA.cell 1
     have hto:to_<=M.length:=hbd.2.1
     have hfrc:fr < c5:=Nat.lt_of_lt_of_le hbd.2.2 hc7
     have hfrn:¬ c5=fr:=by omega
     have hz4:(to_:Int)<=(M.length:Int):=by omega
     have hz5:(fr:Int)<=(to_:Int):=by omega
     go_wp2_with fail
     clear g0 g1
     go_loopw [29,132] (R4 ((P.drop fr).take (to_ - fr)) wA) (fun _ i _=>(to_ - fr) - (intOf i).toNat)
     case atStart=>exact ⟨0,Nat.zero_le _,rfl,Shp.Owns.nil _ _,Below.refl _ _⟩
     case round =>
      obtain ⟨j,hj,rfl,hso,hsb⟩:=hrel
      have hLl:((P.drop fr).take (to_ - fr)).length=to_ - fr:=by
       rw [List.length_take,List.length_drop]
       have:=HMP.out
       omega
      rw [hLl] at hj
      obtain ⟨A8,n8,c8,rfl⟩:=hso.slice_
      by_cases hjt:j < to_ - fr
      ·skip
       have hzj:(j:Int) < ((to_ - fr:Nat):Int):=by omega
       have hij:fr+j < M.length:=by omega
       have hrg:wr.rangeAt pb (po+fr * 11+j * 11) (piC M[fr+j]):=fun t v hv=>by
        have ht:t < 11:=(List.getElem?_eq_some_iff.1 hv).1
        have h5:=(hsb.cell (p:=⟨pb,po+((fr+j) * 11+t),none⟩) hpb).trans (HCM.out (fr+j) hij t ht)
        rw [show po+fr * 11+j * 11+t=po+((fr+j) * 11+t) by omega]
        exact h5.trans hv
       have HT4:=Lib.hid (show (((P.drop fr).take (to_ - fr)).take (j+1)).map Pie.spot=(((P.drop fr).take (to_ - fr)).take j).map Pie.spot ++ [M[fr+j].x.spot] by
        have hjl:j < ((P.drop fr).take (to_ - fr)).length:=by rw [hLl]; exact hjt
        rw [List.take_succ_eq_append_getElem hjl,List.map_append]
        congr 1
        rw [List.getElem_take,List.getElem_drop]
        have h6:=HP.out.pie
        have h7:P[fr+j]?=some M[fr+j].x:=by rw [<-h6,List.getElem?_map,List.getElem?_eq_getElem hij]; rfl
        rw [List.getElem?_eq_getElem (by have:=HMP.out; omega)] at h7
        injection h7 with h7
        rw [<-h7]
        rfl)
       have HRG:=Lib.hid hrg
       clear hrg
       generalize M[fr+j]=m4 at *
       have hws4:=hsb.size
       go_upto_region 32 with (first | (refine wpList_load_mid rfl 193 _ rfl pb (po+fr * 11+j * 11) rfl (piC m4) _ HRG.out Tryz.underlying193 rfl q8d ?_) | (refine qxa rfl 193 _ _ rfl wr.heap.size 193 (piC ⟨⟨0,0,⟨0,0,0,0⟩,0,0,0,ByteArray.empty,none⟩,none⟩) (piC m4) rfl (Blk.new wr _ _) rfl rfl q8d (q0f _) ?_; intro w5 r5 k5 z5; simp only [Act.put]))
       have kw5:Kept [] wr w5:=((Kept.refl [] wr).alloc _).fresh k5 (by simp)
       have hso5:=hso.kept kw5 (by simp)
       have hsz5:=Nat.le_trans hws4 kw5.size
       have hkb5:=kw5.to_below (B:=wA.heap.size) hws4 (by simp)
       clear k5 z5
       generalize wr.heap.size=q5 at *
       obtain ⟨⟨kd,wd4,⟨sw,su,sd,sa⟩,ax,tp,lf,tx,bx⟩,pp⟩:=m4
       have f2:w5.cell? ⟨q5,2,none⟩=some (.int .i64 sw):=r5.cell 2
       have f3:w5.cell? ⟨q5,3,none⟩=some (.int .i64 su):=r5.cell 3
       have f4:w5.cell? ⟨q5,4,none⟩=some (.int .i64 sd):=r5.cell 4
       have f5:w5.cell? ⟨q5,5,none⟩=some (.int .u8 sa):=r5.cell 5
       have hlen4:((((P.drop fr).take (to_ - fr)).take j).map Pie.spot).length+1<=1000000000:=by
        rw [List.length_map,List.length_take]; omega
       go_wp2_with (at_builtin; refine qsd (v:=.slice A8 n8 c8) (base:=wA.heap.size) q7q w5 ⟨sw,su,sd,sa⟩ rfl _ _ rfl rfl hso5 rfl hlen4 hsz5 ?_; intro v7 w7 hown7 hgrow7 hloc7; obtain ⟨A9,n9,c9,rfl⟩:=hown7.slice_)
       have k7:Kept (Value.slice A8 n8 c8).ownBlock.toList w5 w7:=((Kept.refl _ w5).alloc _).grown hgrow7 fun g hg=>.inl (by rw [hg]; simp)
       refine ⟨⟨j+1,by rw [hLl]; omega,by go_num,by rw [HT4.out]; exact hown7,(hsb.trans hkb5).trans (k7.to_below hsz5 fun g hg=>(hso5.lt g (by simpa using hg)).1)⟩,by simp [intOf]; omega⟩
      ·skip
       obtain rfl:j=to_ - fr:=by omega
       rw [List.take_of_length_le (show ((P.drop fr).take (to_ - fr)).length<=to_ - fr by omega)] at hso
       obtain ⟨L,hL⟩:∃ L,(P.drop fr).take (to_ - fr)=L:=⟨_,rfl⟩
       rw [hL] at hso hLl
       have HLd:=Lib.hid hL
       have HRU:=Lib.hid (show rowU ns u1 d1 x s.lines P (m,y) (fr,to_,wd)=(must (q3b (L.map Pie.spot) u1 d1 x s.lines).2.2.2).bind fun _=>some (((L.zip (q3b (L.map Pie.spot) u1 d1 x s.lines).1).foldl (q9b ns y (w64 (u1+d1))) (m,-1)).1,w64 (y+(q3b (L.map Pie.spot) u1 d1 x s.lines).2.1)) by rw [<-hL]; rfl)
       clear hL
       have hpl:=qwp (L.map Pie.spot) u1 d1 x s.lines _ wr.heap.size wr hso.in_ (Nat.le_refl _) (by rw [List.length_map]; omega)
       unfold qol at hpl
       have hpln:=fun h0=>qzs (l:=L.map Pie.spot) (up:=u1) (down:=d1) (width:=x) (lines:=s.lines) h0
       generalize q3b (L.map Pie.spot) u1 d1 x s.lines=pr at *
       obtain ⟨ps,ph,pbs,pe⟩:=pr
       have hwr0:n0<=wA.heap.size:=Nat.le_trans H9.out.2.2.1.size (by have:=hchA.size; omega) |> fun h=>Nat.le_trans (Nat.le_of_eq HN.out.symm) h
       have hBr:Below n0 w3 wr:=(H9.out.2.2.1.trans (hchA.below (Nat.le_refl _) (by rw [<-HN.out]; exact H9.out.2.2.1.size))).trans (hsb.mono hwr0)
       have s34:wr.cell? ⟨q,34,none⟩=some (.int .u8 s.lines):=(hBr.cell (p:=⟨q,34,none⟩) hq3).trans (HS3.out.cell 34)
       have HBr:=Lib.hid hBr
       clear hBr hso
       by_cases hpe:pe=0
       case neg =>
        have HR:=Lib.hid (show runL ns lay l at_ font x=none by
         rw [HRL.out,qlx _ (k:=k+1) (by rw [HT3.out,hfold]; show rowU ns u1 d1 x s.lines P (m,y) (fr,to_,wd)=none; rw [HRU.out]; show (must pe).bind _=none; rw [q4c hpe]; rfl)]
         rfl)
        go_upto_region 35 with (go_at_call 140; refine hpl.mono ?_; rintro e w6 ⟨pv,rfl,hpos,hb6⟩)
        go_wp2_with (go_at_call 51; refine (qvc pe hpe _).mono ?_; rintro e w7 ⟨rfl,rfl⟩)
        refine ⟨rfl,HB3.out.trans ((HBr.out.trans (hb6.mono (Nat.le_trans hwr0 hsb.size))).mono (by omega)),?_⟩
        rw [HR.out]
       subst hpe
       have hpn:=hpln rfl
       rw [List.length_map] at hpn
       clear hpln
       go_upto_region 36 with (first | (go_at_call 140; refine hpl.mono ?_; rintro e w6 ⟨pv,rfl,hpos,hb6⟩) | (go_at_call 51; refine (q6c _).mono ?_; rintro e w7 ⟨rfl,rfl⟩))
       have hA6:Below wA.heap.size wA w6:=hsb.trans (hb6.mono hsb.size)
       have rA6:=rA.below hA6 rA.lt
       have g0:w6.cell? ⟨qA,0,none⟩=some (.int .i64 fr):=rA6.cell 0
       have g1:w6.cell? ⟨qA,1,none⟩=some (.int .i64 to_):=rA6.cell 1
       obtain ⟨Ap,np,cp,rfl⟩:=hpos.slice_
       obtain rfl:np=ps.length:=by
        obtain ⟨_,_,e,_⟩:=hpos.in_
        injection e
       have hRB6:=hRBA.fresh_ (Kept.of_below hA6)
       have hch6:Chg n0 BxT w9 w6:=hchA.trans (Chg.of_nil (Kept.of_below hA6))
       have hpo6:shPi.Owns w6 n0 (.slice (some ⟨pb,po,none⟩) M.length c5) M:=hpoA.below hA6
       have HM6:=Lib.hid (And.intro hpos (And.intro hch6 (And.intro hpo6 hA6)))
       have hsb0:=hsb.size
       have hb60:=hb6.size
       clear hpos hch6 hpo6 hA6 rA6 hpl s34 hb6 hsb hpoA hRBA hchA rA
       go_wp2_with fail
       clear g0 g1
       go_loopw [36,163] (R5 ns d n0 mb (k * 2048) M y (w64 (u1+d1)) (L.zip ps) m w6) (fun _ i _=>(to_ - fr) - (intOf i).toNat)
       case atStart=>exact ⟨0,m,-1,f,n,LB3,Nat.zero_le _,rfl,rfl,rfl,hRB6,Chg.refl _ _ _,hn,htxb,hokg,fun q hq=>absurd hq (by omega)⟩
       case round =>
        obtain ⟨j,m5,last,f5,n5,LB5,hj5,rfl,rfl,hfl5,hRB,hch,hn5,htx5,hok5,hlast⟩:=hrel
        have hZl:(L.zip ps).length=to_ - fr:=by rw [List.length_zip,hpn,hLl]; omega
        rw [hZl] at hj5
        by_cases hjt:j < to_ - fr
        ·skip
         have hzj:(j:Int) < ((to_ - fr:Nat):Int):=by omega
         have hij:fr+j < M.length:=by omega
         have hpor:=hch.owns HM6.out.2.2.1 (by decide)
         have hpsr:=hch.owns HM6.out.1 (by decide)
         obtain ⟨A0,cc0,hv0,hcc0,hr0⟩:=hpor.in_
         injection hv0 with hv01 hv02 hv03
         subst hv01 hv03
         obtain ⟨pb1,po1,hpe1,hpb1,hcm1⟩:=Shp.In.at_ (S:=shPi) (⟨_,_,rfl,hcc0,hr0⟩:shPi.In wr wr.heap.size (.slice (some ⟨pb,po,none⟩) M.length c5) M) (by decide) hMpos
         injection hpe1 with hpe1
         injection hpe1 with hpe2 hpe3
         subst hpe2 hpe3
         have hrg:wr.rangeAt pb (po+fr * 11+j * 11) (piC M[fr+j]):=fun t v hv=>by
          have ht:t < 11:=(List.getElem?_eq_some_iff.1 hv).1
          rw [show po+fr * 11+j * 11+t=po+((fr+j) * 11+t) by omega]
          exact (hcm1 (fr+j) hij t ht).trans hv
         have hjp:j < ps.length:=by omega
         obtain ⟨A1,cc1,hv1,hcc1,hr1⟩:=hpsr.in_
         injection hv1 with hv11 hv12 hv13
         subst hv11 hv13
         obtain ⟨ab,ao,rfl,hab,hcp⟩:=Shp.In.at_ (S:=shPos) (⟨_,_,rfl,hcc1,hr1⟩:shPos.In wr wr.heap.size (.slice Ap ps.length cp) ps) (by decide) (by omega)
         have p0:=hcp j hjp 0 (by decide)
         have p1:=hcp j hjp 1 (by decide)
         have HZ:=Lib.hid (show (L.zip ps).take (j+1)=(L.zip ps).take j ++ [(M[fr+j].x,ps[j])] by
          rw [List.take_succ_eq_append_getElem (show j < (L.zip ps).length by omega),List.getElem_zip]
          congr 1
          congr 1
          congr 1
          have h6:=HP.out.pie
          have h7:P[fr+j]?=some M[fr+j].x:=by rw [<-h6,List.getElem?_map,List.getElem?_eq_getElem hij]; rfl
          have h8:L[j]?=some M[fr+j].x:=by rw [<-HLd.out,List.getElem?_take_of_lt hjt,List.getElem?_drop,h7]
          rw [List.getElem?_eq_getElem (by omega)] at h8
          injection h8)
         have hmm:M[fr+j] ∈ M:=List.getElem_mem hij
         have hsn:=HP.out.seen _ hmm
         have hom:=HOM.out _ hmm
         have hpty:∃ cs fr',wr.heap[ab]?=some (Obj.cells cs 223 fr'):=by
          have h1:=hch.owns HM6.out.1 (by decide)
          rcases h1.2 with ⟨e,_⟩ | ⟨g9,cap9,cur9,e,_,hb9,_⟩
          ·cases e
          ·injection e with e1
           injection e1 with e1
           injection e1 with e1
           subst e1
           exact ⟨_,_,hb9⟩
         have hwn0:n0<=wr.heap.size:=Nat.le_trans hwr0 (Nat.le_trans HM6.out.2.2.2.size hch.size)
         have hPr:PgW wr g B ns next:=HL.out.1.below (((H9.out.2.2.1.trans ((HM6.out.2.1.trans hch).below (Nat.le_refl _) (by rw [<-HN.out]; exact H9.out.2.2.1.size))).mono (by omega)))
         have hseenat:=hll _ (List.mem_of_mem_take hsn.1)
         have HRG:=Lib.hid (And.intro hrg (And.intro hpty (And.intro hPr hwn0)))
         have HPS:=Lib.hid (And.intro p0 p1)
         clear hrg hpty hPr hwn0 hcm1 hr0 hcc0 hr1 hcc1 hcp hpor hpsr hv02 hv12 p0 p1
         go_upto_if 164 with fail
         rename_i Kx hKx
         refine wp_cond_true rfl (wp_skip (hKx _ _ ?_))
         refine wp_seq (wp_block ?_)
         refine qjp g B ns next d n0 mb (k * 2048+j) M y u1 d1 ps[j].1 ps[j].2 last m5 M[fr+j] f5 n5 LB5 ab ao ps.length cp pb (po+fr * 11) (to_ - fr) (c5 - fr) j wr _ HRG.out.2.2.1 (by omega) HRG.out.2.2.2 hmb0 hd1 hRB hn5 htx5 hok5 hlast (by omega) (by omega) hmm HP.out.kind hseenat hsn.2 hom HRG.out.1 hjt (by omega) hjp (by omega) HPS.out.1 HPS.out.2 HRG.out.2.1 _ _ _ _ _ _ _ _ _ _ _ _ _ _ _ _ _ _ _ _ _ _ _ _ _ _ _ _ _ _ _ _ _ _ _ _ _ _ _ _ _ _ _ _ _ _ _ _ _ _ _ _ _ _ _ _ _ _ _ _ _ _ _ _ _ _ _ _ _ _ _ _ _ _ _ _ _ _ _ _ _ _ _ _ _ _ _ _ _ _ _ _ _ _ _ _ _ _ _ _ _ _ _ _ _ _ _ _ _ _ _ _ _ _ _ _ _ _ _ _ _ _ _ _ _ _ _ _ _ _ _ _ _ _ _ _ _ _ _ _ _ _ _ _ _ _ _ _ _ _ _ _ _ _ _ _ _ _ _ _ _ _ _ _ _ _ _ _ _ _ _ _ _ _ _ _ _ _ _ _ _ _ _ _ _ _ _ _ _ _ _ _ _ _ _ _ _ _ _ _ _ _ _ _ _ _ _ _ _ _ _ _ _ _ _ _ _ _ _ _ _ _ _ _ _ _ _ _ _ _ _ _ _ _ _ _ _ _ _ _ _ _ _ _ _ _ _ _ _ _ _ _ _ _ _ _ _ _ _ _ _ _ _ _ _ _ _ _ _ _ _ _ _ _ _ _ _ _ _ _ _ _ _ _ _ _ _ _ _ _ _ _ _ _ _ _ _ _ _ _ _ _ _ _ _ _ _ _ _ _ _ _ _ ?_ ?_
         ·intro c a e v w h
          cases e <;> exact h
         ·intro x37 x38 x39 x40 x41 x165 x166 x167 x168 x169 x170 x171 x172 x173 x174 x175 x176 x177 x178 x179 x180 x181 x182 x183 x184 x185 x186 x187 x188 x189 x190 x191 x192 x193 x194 x195 x196 x197 x198 x199 x200 x201 x202 x203 x204 x205 x206 x207 x208 x209 x210 x211 x212 x213 x214 x215 x216 x217 x218 x219 x220 x221 x222 x223 x224 x225 x226 x227 x228 x229 x230 x231 x232 x233 x234 x235 x236 x237 x238 x239 x240 x241 x242 x243 x244 x245 x246 x247 x248 x249 x250 x251 x252 x253 x254 x255 x256 x257 x258 x259 x260 x261 x262 x263 x264 x265 x266 x267 x268 x269 x270 x271 x272 x273 x274 x275 x276 x277 x278 x279 x280 x281 x282 x283 x284 x285 x286 x287 x288 x289 x290 x291 x292 x293 x294 x295 m6 last2 w2 hst hrd
          have hfl6:((L.zip ps).take (j+1)).foldl (q9b ns y (w64 (u1+d1))) (m,-1)=(m6,last2):=by
           rw [HZ.out,List.foldl_append,hfl5]
           exact hst
          obtain ⟨⟨f6,n6,LB6,hRB6',hn6⟩,hch6',htx6,hok6,hlast6⟩:=hrd
          have HR6:=Lib.hid (And.intro hfl6 (And.intro hRB6' (And.intro (hch.trans hch6') (And.intro htx6 (And.intro hok6 hlast6)))))
          clear hfl6 hRB6' hch6' htx6 hok6 hlast6 hst
          constructor
          all_goals
           go_wp2_with fail
           exact ⟨⟨j+1,m6,last2,f6,n6,LB6,by rw [hZl]; omega,by go_num,rfl,HR6.out.1,HR6.out.2.1,HR6.out.2.2.1,by omega,HR6.out.2.2.2.1,HR6.out.2.2.2.2.1,HR6.out.2.2.2.2.2⟩,by simp [intOf]; omega⟩
        ·skip
         obtain rfl:j=to_ - fr:=by omega
         rw [<-hZl,List.take_length] at hfl5
         have HF5:=Lib.hid (show (rows.take (k+1)).foldlM (rowU ns u1 d1 x s.lines P) ([],0)=some (m5,w64 (y+ph)) by
          rw [HT3.out,hfold]
          show rowU ns u1 d1 x s.lines P (m,y) (fr,to_,wd)=_
          rw [HRU.out]
          show some (((L.zip ps).foldl (q9b ns y (w64 (u1+d1))) (m,-1)).1,w64 (y+ph))=_
          rw [hfl5])
         have hC:=HM6.out.2.1.trans hch
         clear hfl5 hlast
         go_wp2_with fail
         refine ⟨⟨k+1,m5,w64 (y+ph),f5,n5,LB5,hlt3,by go_num,rfl,HF5.out,hRB,hC,by omega,fun q b hq hk=>?_,hok5⟩,by simp [intOf]; omega⟩
         have h5:=htx5 q b hq hk
         exact ⟨by omega,fun t ht=>by have:=h5.2 t ht; omega⟩
    ·skip
     obtain rfl:k=rows.length:=by omega
     rw [List.take_length] at hfold
     have HRU:=Lib.hid (show runL ns lay l at_ font x=some (l.filterMap (getX m),y,!rows.isEmpty) by rw [HRL.out,hfold]; rfl)
     clear hfold htxb
     have hBE:Below n0 w3 wr:=H9.out.2.2.1.trans (hch.below (Nat.le_refl _) (by rw [<-HN.out]; exact H9.out.2.2.1.size))
     have hwE:n0<=wr.heap.size:=by rw [<-HN.out]; exact hBE.size
     have HBE:=Lib.hid hBE
     have HRB:=Lib.hid hRB
     have hmbl:=hRB.map.lt
     clear hBE hch hRB
     go_wp2_with fail
     go_loopw [42,303] (R6 ns l m LB3 wr) (fun _ i _=>l.length - (intOf i).toNat)
     case atStart=>exact ⟨0,[],Nat.zero_le _,rfl,rfl,by simp,by simp,Shp.Owns.nil _ _,Below.refl _ _⟩
     case round =>
      obtain ⟨k6,es,hk6,rfl,hsel,hes,hek,hown,hb6⟩:=hrel
      obtain ⟨A6,n6,c6',rfl⟩:=hown.slice_
      by_cases hlt6:k6 < l.length
      ·skip
       have hz6:(k6:Int) < (l.length:Int):=by omega
       have e0:wr.cell? ⟨lb,lo+k6,none⟩=some (.int .i64 (l[k6]:Nat)):=((HBE.out.trans (hb6.mono hwE)).cell (p:=⟨lb,lo+k6,none⟩) (by show lb < n0; omega)).trans (HL.out.2 k6 hlt6)
       have hll6:=hll _ (List.getElem_mem hlt6)
       have HT6:=Lib.hid (show l.take (k6+1)=l.take k6 ++ [l[k6]] from List.take_succ_eq_append_getElem hlt6)
       have HN6:=Lib.hid (show l[k6] ∉ l.take k6 from fun hm=>by
        obtain ⟨j,hj,he⟩:=List.getElem_of_mem hm
        rw [List.length_take] at hj
        rw [List.getElem_take] at he
        have:=List.pairwise_iff_getElem.1 hnd j k6 (by omega) hlt6 (by omega)
        exact this he)
       have hesl:es.length<=k6:=by
        have h1:=congrArg List.length hsel
        rw [List.length_map] at h1
        have h2:=List.length_filterMap_le (getX m) (l.take k6)
        rw [List.length_take] at h2
        omega
       generalize l[k6]=k0 at *
       have hmap6:=HRB.out.map.kept (Kept.of_below (gs:=[]) hb6) (by simp)
       have hkey:keyOf Tryz.prog 3 (.int .i64 (k0:Int))=some (kyI k0):=Go.Maps.keyOf_int_mk Tryz.underlying3 (q1g (by omega))
       have HS6:=Lib.hid (And.intro hsel (And.intro hes hek))
       have HB6:=Lib.hid hb6
       have hsz6:=hb6.size
       clear hsel hes hek hb6
       cases hG:getX m k0 with
       | none =>
        have hf0:=HRB.out.non k0 hG
        have HG:=Lib.hid hG
        clear hG
        go_wp2_with (at_lookup; refine q6f rfl _ _ 215 rfl 83 Tryz.lawInt Tryz.underlying215 (Tryz.zeroBox _) rfl hmap6 k0 rfl hkey ?_; rw [hf0]; simp only [ptrO])
        obtain ⟨h1,h2,h3⟩:=HS6.out
        exact ⟨⟨k6+1,es,hlt6,by go_num,by rw [HT6.out,List.filterMap_append,h1,show [k0].filterMap (getX m)=[] by rw [List.filterMap_cons,HG.out]; rfl,List.append_nil],fun e he=>⟨(h2 e he).1,by rw [HT6.out]; exact List.mem_append_left _ (h2 e he).2.1,(h2 e he).2.2⟩,h3,hown,HB6.out⟩,by simp [intOf]; omega⟩
       | some b =>
        obtain ⟨e,he,hke,hbe,hfe⟩:=HRB.out.got k0 b hG
        have HG:=Lib.hid (And.intro hG (And.intro he (And.intro hke hbe)))
        have hpl6:(es.map En.p).length+1<=1000000000:=by rw [List.length_map]; omega
        clear hG he hke hbe
        go_wp2_with (first
         | (at_lookup; refine q6f rfl _ _ 215 rfl 83 Tryz.lawInt Tryz.underlying215 (Tryz.zeroBox _) rfl hmap6 k0 rfl hkey ?_; rw [hfe]; simp only [ptrO,ptrV])
         | (at_builtin; refine qsd (v:=.slice A6 n6 c6') (L:=es.map En.p) qfn wr e.p rfl _ _ rfl rfl hown rfl hpl6 hsz6 ?_; intro v7 w7 hown7 hgrow7 hloc7; obtain ⟨A7,n7,c7,rfl⟩:=hown7.slice_))
        have k7:Kept (Value.slice A6 n6 c6').ownBlock.toList wr w7:=((Kept.refl _ wr).alloc _).grown hgrow7 fun g hg=>.inl (by rw [hg]; simp)
        obtain ⟨h1,h2,h3⟩:=HS6.out
        obtain ⟨g1,g2,g3,g4⟩:=HG.out
        refine ⟨⟨k6+1,es ++ [e],hlt6,by go_num,?_,fun e' he'=>?_,?_,by rw [List.map_append]; exact hown7,HB6.out.trans (k7.to_below hsz6 fun g hg=>(hown.lt g (by simpa using hg)).1)⟩,by simp [intOf]; omega⟩
        ·rw [HT6.out,List.filterMap_append,h1,List.map_append,show [k0].filterMap (getX m)=[e.b] by rw [List.filterMap_cons,g1,g4]; rfl]
         rfl
        ·rw [HT6.out]
         rcases List.mem_append.1 he' with he' | he'
         ·exact ⟨(h2 e' he').1,List.mem_append_left _ (h2 e' he').2.1,(h2 e' he').2.2⟩
         ·rw [List.mem_singleton.1 he',g3]
          exact ⟨g2,by simp,by rw [g1,g4]⟩
        ·rw [List.map_append,List.nodup_append]
         refine ⟨h3,by simp,fun a ha b hb' e1=>?_⟩
         obtain ⟨e2,he2,rfl⟩:=List.mem_map.1 ha
         simp at hb'
         rw [hb',g3] at e1
         exact HN6.out (e1 ▸ (h2 e2 he2).2.1)
      ·skip
       obtain rfl:k6=l.length:=by omega
       rw [List.take_length] at hsel
       have HR:=Lib.hid (HRU.out.trans (by rw [hsel]:_=some (es.map En.b,y,!rows.isEmpty)))
       have hRBF:=HRB.out.fresh_ (Kept.of_below hb6)
       have hbx:=hRBF.sel es (fun e he=>(hes e he).1) hek
       have hrows:decide (0 < rows.length)=!rows.isEmpty:=by
        cases rows with
        | nil=>rfl
        | cons a r=>first | (simp; done) | (simp; omega)
       have HF:=Lib.hid (And.intro hbx (And.intro hown (And.intro hb6 (And.intro hes hrows))))
       clear hbx hown hb6 hes hrows hsel hek hRBF
       go_wp2_with fail
       go_ret3
       obtain ⟨f1,f2,f3,f4,f5⟩:=HF.out
       have hwn:w.heap.size<=n0:=by omega
       refine ⟨HB3.out.trans ((HBE.out.trans (f3.mono hwE)).mono hwn),?_⟩
       rw [HR.out]
       refine ⟨_,es.map En.p,es.map En.fp,by rw [<-f5]; rfl,f2.base_le (by omega),f1.base_le hwn,fun g hg hm=>?_,fun b hb=>?_⟩
       ·have h1:=(f2.lt g hg).1
        obtain ⟨q1,hq1,hq2⟩:=List.mem_flatten.1 hm
        obtain ⟨e,he,rfl⟩:=List.mem_map.1 hq1
        have h2:=((HRB.out.box (f4 e he).1).mem_lt g hq2).2
        omega
       ·obtain ⟨e,he,rfl⟩:=List.mem_map.1 hb
        exact hokg e.key e.b (f4 e he).2.2
end Go.Proofs.YtlnekijhbnlclaaGreatDoor
