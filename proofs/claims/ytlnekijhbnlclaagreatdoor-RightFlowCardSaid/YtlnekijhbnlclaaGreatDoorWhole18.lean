/-
  Walks: package layout: whole.
-/
import Derived.Test.YtlnekijhbnlclaaGreatDoorLayB
import Derived.Test.YtlnekijhbnlclaaGreatDoorAll
import Derived.Test.YtlnekijhbnlclaaGreatDoorInline
namespace Go.Proofs.YtlnekijhbnlclaaGreatDoor
open Go.RowKit Go.Shelf
attribute [local go_sem] Oper.semAt_some
set_option linter.unusedSimpArgs false
set_option linter.unusedVariables false
def WhP (r:Option (List Fg)) (w:World) (e:Ending) (w':World):Prop:=Below w.heap.size w w'/\(match r with
 | some l=>∃ v,e=.returned (.tuple #[v,.int .i64 0])/\(shFg YT.frag).Owns w' w.heap.size v l
 | none=>∃ v,e=.returned (.tuple #[v,.int .i64 10]))
theorem qpk (w:World) (g:Nat) (v:Value) (A:Option Addr) (n c:Nat) (hv:v=.slice A n c) (h:Blk w g 36 #[v]):(loadVar 36 ⟨g,0,none⟩).run Tryz.prog w=.ok v w:=by
 subst hv
 have c:=h.cell 0
 simp at c
 simp [loadVar,c,go_sem]
theorem q3l (w:World) (g:Nat) (x:Int) (h:Blk w g 37 #[.int .i64 x]):(loadVar 37 ⟨g,0,none⟩).run Tryz.prog w=.ok (.int .i64 x) w:=by
 have c:=h.cell 0
 simp at c
 simp [loadVar,c,go_sem]
def dfW (s:Nat):Deferred:={ target:=.fn (.func 46) #[.pointer (some ⟨s+2,0,none⟩)],args:=#[] }
theorem qph {n s:Nat} {r:Option (List Fg)} {w0 w:World} {v:Value} {A:Option Addr} {vn vc:Nat} (hv:v=.slice A vn vc) (hs:s=w0.heap.size) (hb:Below s w0 w) (hl:Blk w (s+1) 36 #[v]) (x:Int) (he:Blk w (s+2) 37 #[.int .i64 x]) (tmps:Array Value) (h4:tmps.getD 4 undef=.pointer (some ⟨s+1,0,none⟩)) (h5:tmps.getD 5 undef=.pointer (some ⟨s+2,0,none⟩)) (hr:r=none) :
  LeavesInM Fence.wide n Tryz.prog Tryz.f34 tmps (WhP r w0) [dfW s] (.panicking overC) w:=by
 refine ⟨by simp,.inr ⟨fun h=>(by cases h),.func 46,#[.pointer (some ⟨s+2,0,none⟩)],46,#[.pointer (some ⟨s+2,0,none⟩)],rfl,by simp [dfW,go_sem],fun _ _=>trivial,?_⟩⟩
 refine CallsDIn.mono (qcw (n - 1) (s+2) x w he) ?_
 rintro e5 u5 w5 ⟨rfl,rfl,b2,k⟩
 have hl5:=hl.kept k (by simp)
 refine ⟨_,q6d rfl tmps w5 h4 h5 (qpk w5 (s+1) v A vn vc hv hl5) (q3l w5 (s+2) 10 b2),?_⟩
 subst hr
 refine ⟨?_,v,rfl⟩
 rw [<-hs]
 exact hb.trans (k.to_below (by have:=hb.size; omega) (by simp))
theorem qzk {n s:Nat} {r:Option (List Fg)} {w0 w:World} {v:Value} {A:Option Addr} {vn vc:Nat} (hv:v=.slice A vn vc) (hs:s=w0.heap.size) (hb:Below s w0 w) (hl:Blk w (s+1) 36 #[v]) (x:Int) (he:Blk w (s+2) 37 #[.int .i64 x]) (tmps:Array Value) (h4:tmps.getD 4 undef=.pointer (some ⟨s+1,0,none⟩)) (h5:tmps.getD 5 undef=.pointer (some ⟨s+2,0,none⟩))
  (hr:match r with
   | some l=>x=0/\(shFg YT.frag).Owns w (s+3) v l
   | none=>x=10) :
  LeavesInM Fence.wide n Tryz.prog Tryz.f34 tmps (WhP r w0) [dfW s] .returning w:=by
 refine ⟨by simp,.inr ⟨fun h=>(by cases h),.func 46,#[.pointer (some ⟨s+2,0,none⟩)],46,#[.pointer (some ⟨s+2,0,none⟩)],rfl,by simp [dfW,go_sem],fun _ _=>trivial,?_⟩⟩
 refine CallsDIn.mono (qyp (n - 1) (s+2) x w he) ?_
 rintro e5 u5 w5 ⟨rfl,rfl,b2,k⟩
 have hl5:=hl.kept k (by simp)
 refine ⟨_,q6d rfl tmps w5 h4 h5 (qpk w5 (s+1) v A vn vc hv hl5) (q3l w5 (s+2) x b2),?_⟩
 refine ⟨?_,?_⟩
 ·rw [<-hs]
  exact hb.trans (k.to_below (by have:=hb.size; omega) (by simp))
 ·cases r with
  | none=>exact ⟨v,by rw [show x=10 from hr]⟩
  | some l =>
   obtain ⟨rfl,ho⟩:=hr
   refine ⟨v,rfl,?_⟩
   rw [<-hs]
   exact (ho.kept k fun q hq hm=>by have:=(ho.lt q hq).1; simp at hm; omega).base_le (by omega)
section
variable {P:Program} {F:Fence} {n:Nat} {ops:Array Oper} {rest:List Oper} {op:Oper} {a:Act} {Q:Exit->Act->World->Prop}
theorem q7t {α:Type} {S:Shp α} {ts:TypeId} {bytes:Nat} (hS:S.Ok P ts bytes) (w:World) (x:α) (hgd:op.guard=none) (s y:Operand)
  (ho:op.op=.call { callee:=.builtin .append,args:=#[s,y],argTypes:=#[ts,ts] })
  {base:Nat} {v:Value} {L:List α} (hs:a.eval s=v) (hown:S.Owns w base v L) (hy:a.eval y=.slice (some ⟨w.heap.size,0,none⟩) 1 1)
  (h47:L.length+1<=4000000000) (hbase:base<=w.heap.size)
  (h:∀ v' w',S.Owns w' base v' (L ++ [x])->(w.alloc (.cells (S.enc x).toArray S.t)).grownBy w' v.ownBlock->(v'.ownBlock=v.ownBlock\/v'.ownBlock=some (w.alloc (.cells (S.enc x).toArray S.t)).heap.size)->wpListIn F n P ops Q rest (a.put op.dst v') w') :
  wpListIn F n P ops Q (op :: rest) a (w.alloc (.cells (S.enc x).toArray S.t)):=by
 obtain ⟨i0,z,hi0,hz0,hz1,hz2,hz3⟩:=hS.info
 have hb:=Shp.In.built (B:=w.heap.size+1) S w [x] S.t (by omega)
 rw [Shp.row_one] at hb
 obtain ⟨A,c,e1,hc,hr⟩:=hb
 have e2:a.eval y=.slice A [x].length c:=hy.trans e1
 have h5:=hS.small
 have hbb:(L.length+1) * bytes<=4000000000 * 10000:=Nat.mul_le_mul h47 h5
 refine qyi hgd s y _ ho base S.t i0 z S.k bytes hS.under hi0 hz0 hz1 hz2 hz3 hS.pos v _ _ hs (hown.alloc _) _ A _ c (S.row [x]) e2 hr (S.row_oneCell [x]) (by simp only [maxLen,List.length_cons,List.length_nil]; omega) (by show (L.length+1) * bytes<=_; omega) (by simp; omega) ?_
 intro v' w' h1 h2 h3
 exact h v' w' (by unfold Shp.Owns; rw [List.length_append,S.row_append]; exact h1) h2 h3
end
theorem qew (w:World) (dv:Value) (next:Int):∃ W,W=((w.alloc (.cells #[dv,.int .i64 next] 24)).alloc (.cells #[.slice none 0 0] 36)).alloc (.cells #[.int .i64 0] 37) /\
  Blk W w.heap.size 24 #[dv,.int .i64 next]/\Blk W (w.heap.size+1) 36 #[.slice none 0 0]/\Blk W (w.heap.size+2) 37 #[.int .i64 0]/\Below w.heap.size w W/\W.heap.size=w.heap.size+3:=by
 refine ⟨_,rfl,((Blk.new w _ _).alloc _).alloc _,?_,?_,?_,by simp⟩
 ·have h:=Blk.new (w.alloc (.cells #[dv,.int .i64 next] 24)) 36 #[.slice none 0 0]
  rw [World.size_alloc] at h
  exact h.alloc _
 ·have h:=Blk.new ((w.alloc (.cells #[dv,.int .i64 next] 24)).alloc (.cells #[.slice none 0 0] 36)) 37 #[.int .i64 0]
  simp only [World.size_alloc] at h
  exact h
 ·exact (((Below.refl _ _).alloc (Nat.le_refl _) _).alloc (by simp) _).alloc (by simp; omega) _
def fitG (f:Fg):Bool:=fit f.x && fit f.y && fit f.w && fit f.h
theorem q4q (f:Fg):[f.x,f.y,f.w,f.h].all fit=fitG f:=by simp [fitG,Bool.and_assoc]
theorem PgN.of_page {W:World} {g B:Nat} {ns:List Nd} {next:Int} (h:PageAt W g B ns next) (hn:0 < ns.length):∃ nb no nc,nb < B/\PgN W g nb no nc ns:=by
 obtain ⟨b,o,c,h1,h2,h3,_⟩:=h.node hn
 refine ⟨b,o,c,h3,h1,h2,fun i hi=>?_,hn⟩
 obtain ⟨b',o',c',e1,_,_,e4⟩:=h.node hi
 rw [h1] at e1
 injection e1 with e1
 injection e1 with e1
 injection e1 with e1
 injection e1 with e5 e6
 rw [e5,e6]
 exact e4
theorem PgN.apart {W:World} {g nb no nc:Nat} {ns:List Nd} (h:PgN W g nb no nc ns) {q:Nat} {t:TypeId} {v:Value} (hb:Blk W q t #[v]) (hv:∀ A n c,v≠.slice (some A) n c:=by intros; simp):q≠g/\q≠nb:=by
 refine ⟨?_,?_⟩
 ·rintro rfl
  have h1:=h.doc
  rw [hb.cell 0] at h1
  simp at h1
  exact hv _ _ _ h1
 ·rintro rfl
  have h0:=h.nodes 0 h.some_ 1 _ rfl
  rw [hb.cell] at h0
  simp at h0
set_option maxRecDepth 100000 in
set_option maxHeartbeats 20000000 in
theorem qas (flex:Lay->Lay) (ns:List Nd) (dv:Value) (next x:Int) (w:World) (h:DocIn w w.heap.size dv ns) (hns:ns.length<=300) (hn0:0 < ns.length) (hd:∀ i,0<=(ndAt ns i).depth/\(ndAt ns i).depth < 16) (htx:∀ k,(ndAt ns k).text.size<=200)
  (hml:∃ m,w.cell? ⟨2,0,none⟩=some (.int .i64 m))
  (hlen:∀ (f:Fm) (b:BT×Tl),q3a ns 0 x=some f->layOf ns flex (ns.length+1) 0 16 (qia x f.ak).2.1 (-1) true=some b->(allL ns (ns.length+1) (b.1.put (qia x f.ak).1 f.top) 0 0).length < 4000000000)
  (hlay:∀ (g B:Nat) (W:World) (n:Int),PgW W g B ns next->Calls Tryz.prog 52 #[.pointer (some ⟨g,0,none⟩),.int .i64 (0:Nat),.int .i64 16,.int .i64 n,.int .i64 (-1),.bool true] W (LayP ns.length (layOf ns flex (ns.length+1) 0 16 n (-1) true) (ns.length+1) W)) :
  Calls Tryz.prog 34 #[docA dv next,.int .i64 x] w (WhP (qrb ns flex x) w):=by
 refine callsIn_wide.1 (qef (n:=6) Tryz.func34 rfl ?_)
 simp only [Tryz.ntmps34,List.size_toArray,List.length_cons,List.length_nil,Nat.reduceAdd,Nat.reduceSub,Array.replicate_succ,Array.replicate_zero,List.push_toArray,List.append_toArray,List.nil_append,List.cons_append]
 have H:=Lib.hid (And.intro h hml)
 obtain ⟨DA,dc,rfl⟩:∃ A c,dv=.slice A ns.length c:=by
  obtain ⟨A,c,e,_⟩:=h
  exact ⟨A,c,e⟩
 clear h hml
 unfold docA
 obtain ⟨s,hse⟩:∃ s,s=w.heap.size:=⟨_,rfl⟩
 have hmf:∀ W,(Instr.makeFunc (.func 46) #[] #[.pointer (some ⟨s+2,0,none⟩)]).run Tryz.prog W=.ok (.func (.func 46) #[] #[.pointer (some ⟨s+2,0,none⟩)]) W:=fun W=>by kernel_rfl
 repeat (refine qea ?_)
 refine qda (n:=6) (wpIn_wide.2 ?_)
 go_wp2_with fail
 obtain ⟨w1,hw1,bD,bL,bE,hb1,hs1⟩:=qew w (.slice DA ns.length dc) next
 change wpF _ _ _ _ _ (((w.alloc (.cells #[.slice DA ns.length dc,.int .i64 next] 24)).alloc (.cells #[.slice none 0 0] 36)).alloc (.cells #[.int .i64 0] 37))
 rw [<-hw1]
 rw [<-hse] at bD bL bE hb1 hs1
 simp only [<-hse,show s+1+1=s+2 from rfl]
 have HS:=Lib.hid (And.intro hse hs1)
 clear hw1 hse hs1
 have c0:w1.cell? ⟨s,0,none⟩=some (.slice DA ns.length dc):=bD.cell 0
 have c1:w1.cell? ⟨s,1,none⟩=some (.int .i64 next):=bD.cell 1
 repeat (refine qea ?_)
 refine qda (n:=6) (wpIn_wide.2 ?_)
 go_wp2_with fail
 repeat (refine qea ?_)
 refine qda (n:=6) (wpIn_wide.2 ?_)
 have hdoc:DocIn w1 w1.heap.size (.slice DA ns.length dc) ns:=by
  have h1:DocIn w w.heap.size (.slice DA ns.length dc) ns:=H.out.1
  have h2:=HS.out
  exact Shp.In.more (Shp.In.below h1 (by rw [<-h2.1]; exact hb1)) (by omega)
 have htu:=qer ns (.slice DA ns.length dc) next w1 hdoc (by omega) hd
 unfold docA at htu
 go_wp2_with (go_at_call 48; refine htu.mono ?_; rintro e w2 ⟨g,rfl,hpg,hb2⟩)
 have hz2:=hb2.size
 have hs2:s<=w2.heap.size:=by have:=HS.out; omega
 have hB2:Below s w w2:=hb1.trans (hb2.mono (by have:=HS.out; omega))
 have hPW:PgW w2 g w2.heap.size ns next:=by
  obtain ⟨m,hm⟩:=H.out.2
  have hlt:2 < w.heap.size:=World.block_lt_of_cell? w _ hm
  have h2:=HS.out
  have hgs:2 < s:=by omega
  refine ⟨hpg,⟨m,?_⟩,by omega⟩
  exact (hB2.cell (p:=⟨2,0,none⟩) hgs).trans hm
 have bL2:=bL.below hb2 bL.lt
 have bE2:=bE.below hb2 bE.lt
 clear c0 c1 htu hdoc bD bL bE hb1 hb2
 have hwo:qrb ns flex x=(q3a ns 0 x).bind fun f=>(must (qia x f.ak).2.2.2).bind fun _=>(layOf ns flex (ns.length+1) 0 16 (qia x f.ak).2.1 (-1) true).bind fun b =>
   if (allL ns (ns.length+1) (b.1.put (qia x f.ak).1 f.top) 0 0).all (fun x=>fit x.x && fit x.y && fit x.w && fit x.h)=true then some (allL ns (ns.length+1) (b.1.put (qia x f.ak).1 f.top) 0 0) else none:=rfl
 have HWO:=Lib.hid hwo
 clear hwo
 have hfr:=q6k g w2.heap.size ns next 0 x w2 hpg hn0
 change Calls _ _ #[_,.int .i64 0,_] _ _ at hfr
 unfold FrP at hfr
 repeat (refine qea ?_)
 refine qda (n:=6) (wpIn_wide.2 ?_)
 cases hfl:q3a ns 0 x with
 | none =>
  rw [hfl] at hfr
  have HN:=Lib.hid hfl
  clear hfl
  go_wp2_with (go_at_call 49; refine hfr.mono ?_; rintro e w3 ⟨hb3,he⟩; obtain rfl:=he)
  exact qph rfl HS.out.1 (hB2.trans (hb3.mono hs2)) (bL2.below hb3 bL2.lt) 0 (bE2.below hb3 bE2.lt) _ rfl rfl (by rw [HWO.out,HN.out]; rfl)
 | some f =>
  rw [hfl] at hfr
  have HN:=Lib.hid hfl
  clear hfl
  obtain ⟨⟨is,wd,le,mo,lf,rt,al,ar,ed⟩,tp,bt,up⟩:=f
  unfold fmV at hfr
  dsimp only at hfr
  go_wp2_with (go_at_call 49; refine hfr.mono ?_; rintro e w3 ⟨hb3,he⟩; obtain rfl:=he)
  have hz3:w2.heap.size<=w3.heap.size:=hb3.size
  have fF0:=Blk.new w3 78 #[.bool is,.int .i64 wd,.int .i64 le,.int .i64 mo,.int .i64 lf,.int .i64 rt,.bool al,.bool ar,.int .i64 ed,.int .i64 tp,.int .i64 bt,.int .i64 up]
  have k24:Kept [] w2 (w3.alloc (.cells #[.bool is,.int .i64 wd,.int .i64 le,.int .i64 mo,.int .i64 lf,.int .i64 rt,.bool al,.bool ar,.int .i64 ed,.int .i64 tp,.int .i64 bt,.int .i64 up] 78)):=(Kept.of_below hb3).alloc _
  clear hb3 hfr
  have hsv:=fun W=>qtn x ⟨is,wd,le,mo,lf,rt,al,ar,ed⟩ W
  unfold Res4 akV at hsv
  dsimp only at hsv
  obtain ⟨sv,hsve⟩:∃ sv,qia x ⟨is,wd,le,mo,lf,rt,al,ar,ed⟩=sv:=⟨_,rfl⟩
  rw [hsve] at hsv
  have HSV:=Lib.hid hsve
  clear hsve
  obtain ⟨sl,sw,sr,se⟩:=sv
  repeat (refine qea ?_)
  refine qda (n:=6) (wpIn_wide.2 ?_)
  go_wp2_with (go_at_call 50; refine (hsv _).mono ?_; rintro e w5 ⟨rfl,hb5⟩)
  have k25:Kept [] w2 w5:=k24.trans (Kept.of_below hb5)
  have fF5:=fF0.below hb5 fF0.lt
  have hB5:Below s w w5:=hB2.trans (k25.to_below hs2 (by simp))
  have bL5:=bL2.kept k25 (by simp)
  have bE5:=bE2.kept k25 (by simp)
  have hs5:s<=w5.heap.size:=Nat.le_trans hs2 k25.size
  clear fF0 hb5 hsv k24
  repeat (refine qea ?_)
  refine qda (n:=6) (wpIn_wide.2 ?_)
  by_cases hse:se=0
  case neg =>
   have hmo:=qvc se hse w5
   go_wp2_with (go_at_call 51; refine hmo.mono ?_; rintro e w6 ⟨rfl,rfl⟩)
   exact qph rfl HS.out.1 hB5 bL5 0 bE5 _ rfl rfl (by
    rw [HWO.out,HN.out]
    show (must (qia x ⟨is,wd,le,mo,lf,rt,al,ar,ed⟩).2.2.2).bind _=none
    rw [HSV.out]
    show (must se).bind _=none
    rw [q4c hse]
    rfl)
  subst hse
  have hm0:=q6c w5
  go_wp2_with (go_at_call 51; refine hm0.mono ?_; rintro e w6 ⟨rfl,rfl⟩)
  have hP5:=hPW.below (k25.to_below (Nat.le_refl _) (by simp))
  have hly:=hlay g w2.heap.size w5 sw hP5
  change Calls _ _ #[_,.int .i64 0,_,_,_,_] _ _ at hly
  unfold LayP at hly
  repeat (refine qea ?_)
  refine qda (n:=6) (wpIn_wide.2 ?_)
  cases hla:layOf ns flex (ns.length+1) 0 16 sw (-1) true with
  | none =>
   rw [hla] at hly
   have HLA:=Lib.hid hla
   clear hla
   go_wp2_with (go_at_call 52; refine hly.mono ?_; rintro e w7 ⟨hb7,he⟩; obtain rfl:=he)
   exact qph rfl HS.out.1 (hB5.trans (hb7.mono hs5)) (bL5.below hb7 bL5.lt) 0 (bE5.below hb7 bE5.lt) _ rfl rfl (by
    rw [HWO.out,HN.out]
    show (must (qia x ⟨is,wd,le,mo,lf,rt,al,ar,ed⟩).2.2.2).bind (fun _=>(layOf ns flex (ns.length+1) 0 16 (qia x ⟨is,wd,le,mo,lf,rt,al,ar,ed⟩).2.1 (-1) true).bind _)=none
    rw [HSV.out,HLA.out]
    rfl)
  | some yb =>
   obtain ⟨bL,tL⟩:=yb
   rw [hla] at hly
   have HLA:=Lib.hid hla
   clear hla
   unfold tlC at hly
   go_wp2_with (go_at_call 52; refine hly.mono ?_; rintro e w7 ⟨hb7,p9,fp9,rfl,hbx9,hok9⟩)
   generalize hw8:World.alloc w7 _=w8
   have k78:Kept [] w7 w8:=by rw [<-hw8]; exact (Kept.refl _ _).alloc _
   clear hw8
   have hB7:=hB5.trans (hb7.mono hs5)
   have hB8:Below s w w8:=hB7.trans (k78.to_below (by have:=hb7.size; omega) (by simp))
   have bL8:=(bL5.below hb7 bL5.lt).kept k78 (by simp)
   have bE8:=(bE5.below hb7 bE5.lt).kept k78 (by simp)
   have fF8:=(fF5.below hb7 fF5.lt).kept k78 (by simp)
   have hbx8:=hbx9.kept k78 (by simp)
   have k28:Kept [] w2 w8:=(k25.trans (Kept.of_below hb7)).trans k78
   obtain ⟨kv9,tv9,ps9,fks9,hblk,-,-,-,-,-,hfp9,-,-⟩:=id hbx8
   have hp9:=hbx8.mem_lt p9 (by rw [hfp9]; simp)
   have q10:∀ V:KW [p9] w8,V.val.cell? ⟨w3.heap.size,9,none⟩=some (.int .i64 tp):=fun V=>(fF8.kept V.ok (by have:=fF5.lt; simp; omega)).cell 9
   repeat (refine qea ?_)
   refine qda (n:=6) (wpIn_wide.2 ?_)
   refine wp_region_noPanic ?_
   refine qna [10] [0,1,2,3,4,5,6] [7,8,9,10] (fun w'=>∃ V:KW [p9] w8,w'=V.val) (by kernel_rfl) (by kernel_rfl) (fun c a d v w h=>by cases d <;> exact h) ⟨⟨w8.drew,(Kept.refl _ _).drew⟩,rfl⟩ ?_
   simp only [pickD,List.map_cons,List.map_nil,List.getD_cons_zero,List.getD_cons_succ]
   repeat (go_big_quiet_step (fail))
   refine wpQuiet_nil ?_
   refine qca rfl fun K hK=>?_
   have t0:=hblk.frozen
   have t1:w8.cell? ⟨p9,3,none⟩=some (.int .i64 bL.x):=hblk.cell 3
   go_simp
   refine hK.out _ _ (.inr ⟨⟨_,((Kept.refl _ _).drew).setCell (p:=⟨p9,3,none⟩) (by simp) _⟩,rfl⟩) ?_
   clear hK K
   try simp only [Act.put,zA,zB,zC]
   refine qca rfl fun K hK=>?_
   go_simp
   refine hK.out _ _ (.inr ⟨⟨_,((Kept.refl _ _).drew).setCell (p:=⟨p9,3,none⟩) (by simp) _⟩,rfl⟩) ?_
   clear hK K
   try simp only [Act.put,zA,zB,zC]
   refine qca rfl fun K hK=>?_
   go_simp
   refine hK.out _ _ (.inr ⟨⟨_,((Kept.refl _ _).drew).setCell (p:=⟨p9,3,none⟩) (by simp) _⟩,rfl⟩) ?_
   clear hK K
   try simp only [Act.put,zA,zB,zC]
   refine qca rfl fun K hK=>?_
   have t2:=((hblk.set_ 3 (.int .i64 sl)).drew).frozen
   have t3:(w8.setCell ⟨p9,3,none⟩ (.int .i64 sl)).drew.cell? ⟨p9,4,none⟩=some (.int .i64 bL.y):=((hblk.set_ 3 (.int .i64 sl)).drew).cell 4
   go_simp
   refine hK.out _ _ (.inl (by decide)) ?_
   clear hK K
   refine qla ?_
   refine NoPanic.normal ?_
   generalize hw9:World.drew (World.setCell (World.setCell w8 _ _) _ _)=w9
   have k89:Kept [p9] w8 w9:=by rw [<-hw9]; exact (((Kept.refl [p9] w8).setCell (p:=⟨p9,3,none⟩) (by simp) _).setCell (p:=⟨p9,4,none⟩) (by simp) _).drew
   have hput:BoxAt YT w9 w5.heap.size (ns.length+1) (bL.put sl tp) p9 fp9:=BoxAt.put hbx8 k89 fun kv tv h=>by rw [<-hw9]; exact ((h.set_ 3 (.int .i64 sl)).set_ 4 (.int .i64 tp)).drew
   have bL9:=bL8.kept k89 (by have:=bL5.lt; simp; omega)
   have bE9:=bE8.kept k89 (by have:=bE5.lt; simp; omega)
   have hB9:Below s w w9:=hB8.trans (k89.to_below (by have:=hp9.2; omega) (by simp; omega))
   clear hw9 hblk q10 fF8 fF5 hbx8 hbx9 bL8 bE8 hly hm0
   have hc:=qeo g p9 0 0 w9
   repeat (refine qea ?_)
   refine qda (n:=6) (wpIn_wide.2 ?_)
   go_wp2_with (go_at_call 53; refine hc.mono ?_; rintro e wA ⟨rfl,hwA⟩; have HWA:=Lib.hid hwA; clear hwA)
   refine qwd ?_
   have hwA:=HWA.out
   have hkA:Kept [] w9 wA:=by rw [hwA]; exact ((((Kept.refl [] w9).alloc _).alloc _).alloc _).alloc _
   have hcap:AllW wA w9.heap.size (w9.heap.size+1) (w9.heap.size+1+1) (w9.heap.size+1+1+1) g p9 0 0:=by rw [hwA]; exact qcj g p9 0 0 w9
   have hsA:wA.heap.size=w9.heap.size+4:=by rw [hwA]; simp
   have hs9:w8.heap.size<=w9.heap.size:=k89.size
   have hs35:s+3<=w5.heap.size:=by have:=bE5.lt; omega
   have bLA:=bL9.kept hkA (by simp)
   have bEA:=bE9.kept hkA (by simp)
   have hBA:Below s w wA:=hB9.trans (hkA.to_below (by omega) (by simp))
   obtain ⟨nb,no,nc,hnb2,hpn2⟩:=PgN.of_page hPW.pg hn0
   have hpnA:PgN wA g nb no nc ns:=((hpn2.kept k28 (by simp) (by simp)).kept k89 (by have:=hpn2.lt.1; simp; have:=k25.size; omega) (by have:=k25.size; simp; omega)).kept hkA (by simp) (by simp)
   have hap1:=hpn2.apart bL2
   have hap2:=hpn2.apart bE2
   have hsq:=q4n ns g nb no nc (by omega) (ns.length+1) (bL.put sl tp) p9 fp9 w5.heap.size 0 0 w9.heap.size (w9.heap.size+1) (w9.heap.size+1+1) (w9.heap.size+1+1+1) wA (hput.kept hkA (by simp)) hcap hpnA (q3h hok9 _ _)
   have hLl:(allL ns (ns.length+1) (bL.put sl tp) 0 0).length < 4000000000:=by
    have h:=hlen _ (bL,tL) HN.out (by
     show layOf ns flex (ns.length+1) 0 16 (qia x ⟨is,wd,le,mo,lf,rt,al,ar,ed⟩).2.1 (-1) true=_
     rw [HSV.out]
     exact HLA.out)
    change (allL ns (ns.length+1) (bL.put (qia x ⟨is,wd,le,mo,lf,rt,al,ar,ed⟩).1 tp) 0 0).length < _ at h
    rw [HSV.out] at h
    exact h
   have hR:qrb ns flex x=if (allL ns (ns.length+1) (bL.put sl tp) 0 0).all fitG=true then some (allL ns (ns.length+1) (bL.put sl tp) 0 0) else none:=by
    rw [HWO.out,HN.out]
    show (must (qia x ⟨is,wd,le,mo,lf,rt,al,ar,ed⟩).2.2.2).bind (fun _=>(layOf ns flex (ns.length+1) 0 16 (qia x ⟨is,wd,le,mo,lf,rt,al,ar,ed⟩).2.1 (-1) true).bind _)=_
    rw [HSV.out,HLA.out]
    rfl
   obtain ⟨LL,hLL⟩:∃ LL,LL=allL ns (ns.length+1) (bL.put sl tp) 0 0:=⟨_,rfl⟩
   rw [<-hLL] at hsq hLl hR
   have HR:=Lib.hid hR
   clear hR hLL hwA hc bL5 bE5 bL9 bE9 bL2 bE2 hPW hP5 hpg
   refine q3n (f:=34) ⟨_,Tryz.func34⟩ (n:=6) (gf:=70) (lb:=#[.pointer (some ⟨w9.heap.size,0,none⟩),.pointer (some ⟨w9.heap.size+1,0,none⟩),.pointer (some ⟨w9.heap.size+1+1,0,none⟩),.pointer (some ⟨w9.heap.size+1+1+1,0,none⟩)]) rfl (enters_of Tryz.func70 (by kernel_rfl) rfl)
    hsq (Below.refl _ _) (fun _=>rfl) ?hrd [s+1,s+2] ?hwr
    (fun wr pre W=>∃ v,wr=(s+1) :: (s+2) :: v.ownBlock.toList/\Blk W (s+1) 36 #[v]/\(shFg YT.frag).Owns W (s+3) v pre/\Blk W (s+2) 37 #[.int .i64 0]/\Below s w W/\pre.all fitG=true/\s+3<=W.heap.size)
    (fun c W=>c=.ret/\Below s w W/\Blk W (s+1) 36 #[.slice none 0 0]/\Blk W (s+2) 37 #[.int .i64 10]/\LL.all fitG=false/\s+3<=W.heap.size) (fun _ _=>False) ?hI ?hIx ?hIp (by simp) ?h0 (fun f a' w'=>∃ q:Nat,a'={ tmps:=#[.agg #[.slice DA ns.length dc,.int .i64 next],.int .i64 x,.pointer (some ⟨s,0,none⟩),undef,.pointer (some ⟨s+1,0,none⟩),.pointer (some ⟨s+2,0,none⟩),.pointer (some ⟨g,0,none⟩),.pointer (some ⟨w3.heap.size,0,none⟩),.int .i64 sl,.int .i64 sw,.int .i64 sr,.int .i64 0,.pointer (some ⟨p9,0,none⟩),.pointer (some ⟨w7.heap.size,0,none⟩),.pointer (some ⟨q,0,none⟩),.func (.func 46) #[] #[.pointer (some ⟨s+2,0,none⟩)],.agg #[.slice DA ns.length dc,.int .i64 next],.pointer (some ⟨g,0,none⟩),.pointer (some ⟨g,0,none⟩),.int .i64 x,.agg #[.bool is,.int .i64 wd,.int .i64 le,.int .i64 mo,.int .i64 lf,.int .i64 rt,.bool al,.bool ar,.int .i64 ed,.int .i64 tp,.int .i64 bt,.int .i64 up],.tuple #[.int .i64 sl,.int .i64 sw,.int .i64 sr,.int .i64 0],.int .i64 x,.pointer (some ⟨w3.heap.size,0,none⟩),.agg #[.bool is,.int .i64 wd,.int .i64 le,.int .i64 mo,.int .i64 lf,.int .i64 rt,.bool al,.bool ar,.int .i64 ed],.tuple #[.int .i64 sl,.int .i64 sw,.int .i64 sr,.int .i64 0],.int .i64 sl,.int .i64 sw,.int .i64 sr,.int .i64 0,.int .i64 0,.tuple #[],.tuple #[.pointer (some ⟨p9,0,none⟩),.agg #[.int .i64 tL.top.fst,.int .i64 tL.top.snd,.int .i64 tL.bottom.fst,.int .i64 tL.bottom.snd,.bool tL.through]],.pointer (some ⟨g,0,none⟩),.int .i64 sw,.tuple #[.pointer (some ⟨p9,0,none⟩),.agg #[.int .i64 tL.top.fst,.int .i64 tL.top.snd,.int .i64 tL.bottom.fst,.int .i64 tL.bottom.snd,.bool tL.through]],.pointer (some ⟨p9,0,none⟩),.agg #[.int .i64 tL.top.fst,.int .i64 tL.top.snd,.int .i64 tL.bottom.fst,.int .i64 tL.bottom.snd,.bool tL.through],.pointer (some ⟨p9,0,none⟩),.pointer (some ⟨p9,0,none⟩),.int .i64 sl,.pointer (some ⟨w3.heap.size,9,none⟩),.int .i64 tp,.pointer (some ⟨p9,0,none⟩),.pointer (some ⟨p9,3,none⟩),.pointer (some ⟨p9,0,none⟩),.pointer (some ⟨p9,4,none⟩),.pointer (some ⟨g,0,none⟩),.pointer (some ⟨p9,0,none⟩),.func (.func 70) #[] #[.pointer (some ⟨w9.heap.size,0,none⟩),.pointer (some ⟨w9.heap.size+1,0,none⟩),.pointer (some ⟨w9.heap.size+1+1,0,none⟩),.pointer (some ⟨w9.heap.size+1+1+1,0,none⟩)],.agg (fgC f).toArray,undef,undef,undef,undef,undef,undef,undef,undef,undef,undef,undef,undef,undef,undef,undef,undef],defers:=[] }/\Blk w' q 42 (fgC f).toArray) ?hAx ?assign ?body ?done ?stop ?thrown
   case hrd =>
    intro k hk
    have h1:=hpn2.lt
    have h2:=k25.size
    rcases hk with rfl | rfl | rfl | rfl | (rfl | rfl) | hk
    all_goals (first | omega | (have:=hput.mem_lt k hk; omega))
   case hwr =>
    have hq:∀ q,s < q->q < s+3->q≠g->q≠nb->q < wA.heap.size/\¬ AllRd w9.heap.size (w9.heap.size+1) (w9.heap.size+1+1) (w9.heap.size+1+1+1) g nb fp9 q:=fun q h0 h1 h2 h3=>by
     refine ⟨by omega,?_⟩
     rintro (h | h | h | h | (h | h) | h)
     ·omega
     ·omega
     ·omega
     ·omega
     ·exact h2 h
     ·exact h3 h
     ·have:=(hput.mem_lt q h).1; omega
    intro q hm
    simp only [List.mem_cons,List.not_mem_nil,or_false] at hm
    rcases hm with rfl | rfl
    ·exact hq _ (by omega) (by omega) hap1.1 hap1.2
    ·exact hq _ (by omega) (by omega) hap2.1 hap2.2
   case hI =>
    rintro wr' pre A' B' ⟨v,rfl,i1,i2,i3,i4,i5,i6⟩ hi'
    exact ⟨v,rfl,i1.is hi' (by simp),i2.is hi' (by simp),i3.is hi' (by simp),i4.trans (hi'.below (by omega) (by omega) (by simp)),i5,Nat.le_trans i6 hi'.size⟩
   case hIx =>
    rintro c A' B' ⟨rfl,i1,i2,i3,i4,i5⟩ hi'
    exact ⟨rfl,i1.trans (hi'.below (by omega) (by omega) (by simp)),i2.is hi' (by simp),i3.is hi' (by simp),i4,Nat.le_trans i5 hi'.size⟩
   case hIp=>exact fun _ _ _ h _=>h
   case h0=>exact ⟨.slice none 0 0,rfl,bLA,Shp.Owns.nil _ _,bEA,hBA,rfl,by omega⟩
   case hAx =>
    rintro f a' A' B' ⟨q,h1,h2⟩ hi'
    exact ⟨q,h1,h2.is hi' (by simp)⟩
   case assign =>
    rintro l wr' pre f W5 K hi hK
    refine q5l (by kernel_rfl) (by rintro ⟨_,_,h⟩; exact h) ?_
    go_wp2_with (refine qxa rfl 42 _ _ rfl W5.heap.size 42 (fgC ⟨0,0,0,0,0,0,0,ByteArray.empty⟩) (fgC f) rfl (Blk.new _ _ _) rfl rfl q8b (qbe f) ?_; intro w6 r6 k6 z6; simp only [Act.put])
    exact hK _ _ (((Kept.refl [] W5).alloc _).fresh k6 (by simp)) ⟨W5.heap.size,rfl,r6⟩
   case body =>
    rintro l wr' pre f a' W5 hl hlr hwl ⟨v,rfl,i1,i2,i3,i4,i5,i6⟩ ⟨q16,rfl,hq16⟩ hpre
    obtain ⟨A1,n1,c1,rfl⟩:=i2.slice_
    have hpl:pre.length+1<=4000000000:=by
     have q1:=hpre.length_le
     rw [List.length_append] at q1
     simp only [List.length_cons,List.length_nil] at q1
     omega
    have hfm:f ∈ LL:=by
     obtain ⟨r,hr⟩:=hpre
     rw [<-hr]
     simp
    have e3:W5.cell? ⟨q16,3,none⟩=some (.int .i64 f.x):=hq16.cell 3
    have e4:W5.cell? ⟨q16,4,none⟩=some (.int .i64 f.y):=hq16.cell 4
    have e5:W5.cell? ⟨q16,5,none⟩=some (.int .i64 f.w):=hq16.cell 5
    have e6:W5.cell? ⟨q16,6,none⟩=some (.int .i64 f.h):=hq16.cell 6
    have hf0:=qhc [f.x,f.y,f.w,f.h] _ _ _ (Ints.built W5 [f.x,f.y,f.w,f.h] 3) (by simp)
    rw [q4q] at hf0
    simp only [List.length_cons,List.length_nil,Nat.zero_add,Nat.reduceAdd,List.map_cons,List.map_nil] at hf0
    have hf1:=CallsIn.inRound l (callsIn_wide (n:=5).2 hf0)
    clear hf0
    have HPR:=Lib.hid (And.intro hpre hpl)
    clear hpre hpl
    cases hfx:fitG f with
    | false =>
     rw [hfx] at hf1
     have hall:LL.all fitG=false:=List.all_eq_false.2 ⟨_,hfm,by simp [hfx]⟩
     have HALL:=Lib.hid hall
     clear hall hfx
     gi_wp2
     refine ⟨trivial,hf1.mono ?_⟩
     rintro e w7 ⟨rfl,rfl⟩
     have kd:Kept [] W5 (W5.alloc (.cells #[.int .i64 f.x,.int .i64 f.y,.int .i64 f.w,.int .i64 f.h] 3)):=(Kept.refl [] W5).alloc _
     clear e3 e4 e5 e6 hf1
     generalize W5.alloc (.cells #[.int .i64 f.x,.int .i64 f.y,.int .i64 f.w,.int .i64 f.h] 3)=W0 at *
     have h1':=i1.kept kd (by simp)
     have h2':=i3.kept kd (by simp)
     have q0:=h1'.cell 0
     have q1:=h2'.cell 0
     have q2:=h1'.frozen
     have q3:=h2'.frozen
     gi_wp2
     have hkk:Kept ((s+1) :: (s+2) :: (Value.slice A1 n1 c1).ownBlock.toList) W5 ((W0.setCell ⟨s+1,0,none⟩ (.slice none 0 0)).setCell ⟨s+2,0,none⟩ (.int .i64 10)):=((kd.more (by simp)).setCell (p:=⟨s+1,0,none⟩) (by simp) _).setCell (p:=⟨s+2,0,none⟩) (by simp) _
     have hbb:Below s W5 ((W0.setCell ⟨s+1,0,none⟩ (.slice none 0 0)).setCell ⟨s+2,0,none⟩ (.int .i64 10)):=((kd.to_below (B:=s) (by omega) (by simp)).setCell (p:=⟨s+1,0,none⟩) (by show s<=s+1; omega) _).setCell (p:=⟨s+2,0,none⟩) (by show s<=s+2; omega) _
     have t0:=(h1'.set_ 0 (.slice none 0 0)).far (p:=⟨s+2,0,none⟩) (by show s+1≠s+2; omega) (.int .i64 10)
     have t1:=(h2'.far (p:=⟨s+1,0,none⟩) (by show s+2≠s+1; omega) (.slice none 0 0)).set_ 0 (.int .i64 10)
     simp only [zA,zB] at t0 t1
     exact ⟨hkk,rfl,i4.trans hbb,t0,t1,HALL.out,by have:=hkk.size; omega⟩
    | true =>
     rw [hfx] at hf1
     have HFX:=Lib.hid hfx
     clear hfx
     gi_wp2
     refine ⟨trivial,hf1.mono ?_⟩
     rintro e w7 ⟨rfl,rfl⟩
     have kd:Kept [] W5 (W5.alloc (.cells #[.int .i64 f.x,.int .i64 f.y,.int .i64 f.w,.int .i64 f.h] 3)):=(Kept.refl [] W5).alloc _
     clear e3 e4 e5 e6 hf1
     have HSZ:=Lib.hid (show W5.heap.size<=(W5.alloc (.cells #[.int .i64 f.x,.int .i64 f.y,.int .i64 f.w,.int .i64 f.h] 3)).heap.size from kd.size)
     generalize W5.alloc (.cells #[.int .i64 f.x,.int .i64 f.y,.int .i64 f.w,.int .i64 f.h] 3)=W0 at *
     have h1':=i1.kept kd (by simp)
     have h2':=i3.kept kd (by simp)
     have h3':=i2.kept kd (by simp)
     have hq':=hq16.kept kd (by simp)
     obtain ⟨f1,f2,f3,f4,f5,f6,f7,ft⟩:=f
     have k0:W0.cell? ⟨q16,0,none⟩=some (.int .i64 f1):=hq'.cell 0
     have k1:W0.cell? ⟨q16,1,none⟩=some (.int .i64 f2):=hq'.cell 1
     have k2:W0.cell? ⟨q16,2,none⟩=some (.int .i64 f3):=hq'.cell 2
     have k3:W0.cell? ⟨q16,3,none⟩=some (.int .i64 f4):=hq'.cell 3
     have k4:W0.cell? ⟨q16,4,none⟩=some (.int .i64 f5):=hq'.cell 4
     have k5:W0.cell? ⟨q16,5,none⟩=some (.int .i64 f6):=hq'.cell 5
     have k6:W0.cell? ⟨q16,6,none⟩=some (.int .i64 f7):=hq'.cell 6
     have k7:W0.cell? ⟨q16,7,none⟩=some (.string ft):=hq'.cell 7
     have HI:=Lib.hid (And.intro hl (And.intro hlr (And.intro hwl (And.intro i1 (And.intro i2 (And.intro i3 hfm))))))
     clear hl hlr hwl i1 i2 i3 hfm hq' hq16
     have q0:=h1'.cell 0
     have q2:=h1'.frozen
     have h7':s+3<=W0.heap.size:=Nat.le_trans i6 HSZ.out
     gi_wp2_with (gi_at_builtin; refine q7t q5f _ (⟨f1,f2,f3,f4,f5,f6,f7,ft⟩:Fg) rfl _ _ rfl rfl h3' rfl HPR.out.2 h7' ?_; intro v' w8' hown' hgrow hloc; obtain ⟨A2,n2,c2,rfl⟩:=hown'.slice_; have h1b:Blk w8' (s+1) 36 #[.slice A1 n1 c1]:=(hgrow.block (s+1) (h1'.alloc _).lt (fun e=>by have:=(h3'.lt (s+1) e.symm).1; omega)).trans (h1'.alloc _); have q5:=h1b.cell 0; have q6:=h1b.frozen; have h2b:Blk w8' (s+2) 37 #[.int .i64 0]:=(hgrow.block (s+2) (h2'.alloc _).lt (fun e=>by have:=(h3'.lt (s+2) e.symm).1; omega)).trans (h2'.alloc _))
     obtain ⟨W9,hW9⟩:∃ W9,W9=w8'.setCell ⟨s+1,0,none⟩ (.slice A2 n2 c2):=⟨_,rfl⟩
     obtain ⟨r1,r2⟩:=qji (v:=.slice A1 n1 c1) (v':=.slice A2 n2 c2) (u:=.slice A2 n2 c2) hgrow hloc (fun k hk=>(hown'.lt k hk).2) h1'.lt
     rw [<-hW9] at r1 r2
     have hk8:Kept [s+1] w8' W9:=by rw [hW9]; exact (Kept.refl [s+1] w8').setCell (p:=⟨s+1,0,none⟩) (by simp) _
     have t0:Blk W9 (s+1) 36 #[.slice A2 n2 c2]:=by rw [hW9]; exact h1b.set_ 0 _
     have t1:=h2b.kept hk8 (by simp)
     have t3:=hown'.kept hk8 fun q hq=>by have:=(hown'.lt q hq).1; simp; omega
     rw [<-hW9]
     clear hW9
     have hkw:Kept ((s+1) :: (s+2) :: (Value.slice A1 n1 c1).ownBlock.toList) W5 W9:=(kd.more (by simp)).trans (r1.more fun q hq=>(List.mem_cons.1 hq).elim (fun e=>by rw [e]; exact List.mem_cons_self) fun h=>List.mem_cons_of_mem _ (List.mem_cons_of_mem _ h))
     have hlw:∀ q ∈ (s+1) :: (s+2) :: (Value.slice A1 n1 c1).ownBlock.toList,s<=q:=fun q hq=>by
      rcases List.mem_cons.1 hq with rfl | hq
      ·omega
      ·rcases List.mem_cons.1 hq with rfl | hq
       ·omega
       ·have:=(HI.out.2.2.2.2.1.lt q (by simpa using hq)).1; omega
     refine ⟨(s+1) :: (s+2) :: (Value.slice A2 n2 c2).ownBlock.toList,⟨_,rfl,t0,t3,t1,i4.trans (hkw.to_below (by omega) hlw),by rw [List.all_append,i5]; simp [HFX.out],Nat.le_trans i6 hkw.size⟩,hkw,fun q hq=>?_⟩
     have hsz:=hkw.size
     rcases List.mem_cons.1 hq with rfl | hq
     ·exact ⟨.inl List.mem_cons_self,by omega⟩
     ·rcases List.mem_cons.1 hq with rfl | hq
      ·exact ⟨.inl (List.mem_cons_of_mem _ List.mem_cons_self),by omega⟩
      ·obtain ⟨q1,q2⟩:=r2 q (List.mem_cons_of_mem _ hq)
       refine ⟨?_,q2⟩
       rcases q1 with h | h
       ·rcases List.mem_cons.1 h with rfl | h
        ·exact .inl List.mem_cons_self
        ·exact .inl (List.mem_cons_of_mem _ (List.mem_cons_of_mem _ h))
       ·exact .inr (Nat.le_trans HSZ.out h)
   case done =>
    rintro D wr' W5 hD ⟨v,rfl,i1,i2,i3,i4,i5,i6⟩ hK hDn
    have hR:=HR.out
    rw [if_pos i5] at hR
    have HR2:=Lib.hid hR
    clear hR
    obtain ⟨A1,n1,c1,rfl⟩:=i2.slice_
    simp only [Exit.inBlock,Exit.then]
    refine qda (n:=6) (wpIn_wide.2 ?_)
    have c0:=i1.cell 0
    have d1:=i3.cell 0
    have d2:=i1.frozen
    have d3:=i3.frozen
    go_wp2_with fail
    obtain ⟨W9,hW9⟩:∃ W9,W9=(W5.setCell ⟨s+1,0,none⟩ (.slice A1 n1 c1)).setCell ⟨s+2,0,none⟩ (.int .i64 0):=⟨_,rfl⟩
    have hk9:Kept [s+1,s+2] W5 W9:=by rw [hW9]; exact ((Kept.refl [s+1,s+2] W5).setCell (p:=⟨s+1,0,none⟩) (by simp) _).setCell (p:=⟨s+2,0,none⟩) (by simp) _
    have t0:Blk W9 (s+1) 36 #[.slice A1 n1 c1]:=by
     rw [hW9]
     exact (i1.set_ 0 (.slice A1 n1 c1)).far (p:=⟨s+2,0,none⟩) (by show s+1≠s+2; omega) (.int .i64 0)
    have t1:Blk W9 (s+2) 37 #[.int .i64 0]:=by
     rw [hW9]
     exact (i3.far (p:=⟨s+1,0,none⟩) (by show s+2≠s+1; omega) (.slice A1 n1 c1)).set_ 0 (.int .i64 0)
    rw [<-hW9]
    clear hW9
    have hDs:s+3<=D:=by omega
    have hK2:W9.heap[D]?=some (.deferred (some [])):=(hk9.block D (Array.getElem?_eq_some_iff.1 hK).1 (by simp; omega)).trans hK
    have t3:=i2.kept hk9 fun q hq=>by have:=(i2.lt q hq).1; simp; omega
    have hbb:Below s w W9:=i4.trans (hk9.to_below (by omega) (by simp))
    refine ⟨by simp,.inl ⟨_,_,rfl,run_takeDeferred hK2,?_⟩⟩
    exact qzk rfl HS.out.1 (hbb.trans (belowK_b (w:=w) (by have:=HS.out.1; omega) W9 D _ _ (by have:=HS.out.1; omega) hK2 rfl rfl)) (t0.putObj (o':=.deferred none) hK2 rfl) 0 (t1.putObj (o':=.deferred none) hK2 rfl) _ rfl rfl (by rw [HR2.out]; exact ⟨rfl,ownsRow_putObj t3 _ hK2 rfl⟩)
   case stop =>
    rintro D c W5 hD ⟨rfl,i1,i2,i3,i4,i5⟩ hK
    have hR:=HR.out
    rw [if_neg (by rw [i4]; decide)] at hR
    have HR2:=Lib.hid hR
    clear hR
    simp only [Exit.inBlock,Exit.then]
    refine wpIn_wide.2 ?_
    go_wp2_with fail
    have hDs:s+3<=D:=by omega
    refine ⟨by simp,.inl ⟨_,_,rfl,run_takeDeferred hK,?_⟩⟩
    exact qzk rfl HS.out.1 (i1.trans (belowK_b (w:=w) (by have:=HS.out.1; omega) W5 D _ _ (by have:=HS.out.1; omega) hK rfl rfl)) (i2.putObj (o':=.deferred none) hK rfl) 10 (i3.putObj (o':=.deferred none) hK rfl) _ rfl rfl (by rw [HR2.out])
   case thrown=>exact fun _ _ _ _ h _=>h.elim
end Go.Proofs.YtlnekijhbnlclaaGreatDoor
