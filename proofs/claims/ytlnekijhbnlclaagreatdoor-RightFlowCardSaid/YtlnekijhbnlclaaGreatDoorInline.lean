/-
  Walks: package layout: must; a page in memory; style, clamped, known, height, frames' sums.
-/
import Derived.Test.YtlnekijhbnlclaaGreatDoorLinesFill
import Derived.Test.YtlnekijhbnlclaaGreatDoorStyR
import Derived.Test.YtlnekijhbnlclaaGreatDoorDocFacts
import Derived.Recover
import Derived.RangeFuncLeaves
namespace Go.Proofs.YtlnekijhbnlclaaGreatDoor
open Go.RowKit Go.Shelf
def overC:List PanicEntry:=[{ v:=.iface 106 (.agg #[]),recovered:=false }]
theorem q7d (w:World):Calls Tryz.prog 51 #[.int .i64 0] w fun e w'=>e=.returned (.tuple #[])/\w'=w:=by
 go_enter Tryz.func51,Tryz.ntmps51
 go_wp2_with fail
 go_end0
 exact ⟨rfl,rfl⟩
theorem qyd (n:Int) (hn:n≠0) (w:World):Calls Tryz.prog 51 #[.int .i64 n] w fun e w'=>e=.panicked overC/\w'=w:=by
 go_enter Tryz.func51,Tryz.ntmps51
 go_wp2_with fail
 all_goals (exact ⟨rfl,rfl,rfl⟩)
abbrev Sl:=Option Addr×Nat×Nat
def slV (x:Sl):Value:=.slice x.1 x.2.1 x.2.2
def shSl:Shp Sl:=⟨47,1,fun x=>[slV x],fun _=>rfl,fun x u hu=>by rw [List.mem_singleton.1 hu]; rfl⟩
def PageAt (W:World) (g B:Nat) (ns:List Nd) (next:Int):Prop :=
 ∃ dv kv vs,Blk W g 110 #[dv,.int .i64 next,kv]/\g < B/\B<=W.heap.size/\DocIn W B dv ns/\shSl.In W B kv vs/\vs.length=ns.length/\∀ i (h:i < vs.length),Ints W B (slV vs[i]) ((kidsN ns i).map fun j=>Int.ofNat j)
theorem PageAt.below {W W':World} {g B:Nat} {ns:List Nd} {next:Int} (h:PageAt W g B ns next) (hb:Below B W W'):PageAt W' g B ns next:=by
 obtain ⟨dv,kv,vs,h1,h2,h3,h4,h5,h6,h7⟩:=h
 exact ⟨dv,kv,vs,h1.below hb h2,h2,Nat.le_trans h3 hb.size,h4.below hb,Shp.In.below h5 hb,h6,fun i hi=>(h7 i hi).below hb⟩
theorem PageAt.lt {W:World} {g B:Nat} {ns:List Nd} {next:Int} (h:PageAt W g B ns next):B<=W.heap.size:=by
 obtain ⟨dv,kv,vs,h1,h2,h3,h4⟩:=h
 exact h3
theorem PageAt.node {W:World} {g B:Nat} {ns:List Nd} {next:Int} (h:PageAt W g B ns next) {i:Nat} (hi:i < ns.length) :
  ∃ b o c,W.cell? ⟨g,0,none⟩=some (.slice (some ⟨b,o,none⟩) ns.length c)/\ns.length<=c/\b < B/\W.rangeAt b (o+i * 51) (ndC (ndAt ns i)):=by
 obtain ⟨dv,kv,vs,h1,h2,h3,⟨A,c,rfl,hc,hr⟩,_⟩:=h
 obtain ⟨b,o,rfl,hb,hcell⟩:=Shp.In.at_ (S:=shNd) (⟨A,c,rfl,hc,hr⟩:shNd.In W B (.slice A ns.length c) ns) (by decide) (by omega)
 refine ⟨b,o,c,h1.cell 0,hc,hb,fun k v hv=>?_⟩
 have hk:k < 51:=(List.getElem?_eq_some_iff.1 hv).1
 rw [Nat.add_assoc]
 exact (hcell i hi k hk).trans (by rw [<-hv,qxb hi]; rfl)
theorem nd_st (n:Nd):∀ j v,(stC n.st)[j]?=some v->(ndC n)[3+j]?=some v:=fun j v hv=>by
 unfold ndC
 rw [List.getElem?_append_right (by simp),List.getElem?_append_left (by have:=(List.getElem?_eq_some_iff.1 hv).1; simpa using this)]
 simpa using hv
set_option linter.unusedSimpArgs false
set_option linter.unusedVariables false
set_option maxRecDepth 100000 in
set_option maxHeartbeats 4000000 in
theorem qce (g B:Nat) (ns:List Nd) (next:Int) (i:Nat) (w:World) (h:PageAt w g B ns next) (hi:i < ns.length) :
  Calls Tryz.prog 60 #[.pointer (some ⟨g,0,none⟩),.int .i64 i] w fun e w'=>e=.returned (.agg (stC (stAt ns i)).toArray)/\Below w.heap.size w w':=by
 obtain ⟨b,o,c,hd,hc,hb,hrg⟩:=h.node hi
 have hBw:=h.lt
 have hz:(i:Int) < (ns.length:Int):=by omega
 have hg:g < w.heap.size:=by
  obtain ⟨_,_,_,_,h2,h3,_⟩:=h
  omega
 have hrs:∀ W,Below w.heap.size w W->W.rangeAt b (o+i * 51+3) (stC (stAt ns i)):=fun W hW k v hv=>by
  rw [Nat.add_assoc]
  exact (hW.cell (p:=⟨b,o+i * 51+(3+k),none⟩) (by show b < _; omega)).trans (hrg _ _ (nd_st _ _ _ hv))
 have Q:=Lib.hid hrs
 have hd':∀ W,Below w.heap.size w W->W.cell? ⟨g,0,none⟩=some (.slice (some ⟨b,o,none⟩) ns.length c):=fun W hW=>(hW.cell (p:=⟨g,0,none⟩) hg).trans hd
 have Q2:=Lib.hid hd'
 clear hrs hrg hd hd' h
 go_enter Tryz.func60,Tryz.ntmps60
 go_upto_region 1 with fail
 change Code.wp _ _ _ _ (w.alloc (.cells (stC st0).toArray 33))
 have g1:=Blk.new w 33 (stC st0).toArray
 have hb1:Below w.heap.size w (w.alloc (.cells (stC st0).toArray 33)):=(Below.refl _ _).alloc (Nat.le_refl _) _
 generalize w.alloc (.cells (stC st0).toArray 33)=w1 at *
 have e0:=Q2.out w1 hb1
 have z:=Q.out w1 hb1
 have Z:=Lib.hid z
 clear z
 go_wp2_with (first | (refine wpList_load_mid rfl 33 _ rfl b (o+i * 51+3) rfl (stC (stAt ns i)) _ Z.out Tryz.underlying33 rfl qoa ?_) | (refine qmd rfl 33 _ _ rfl w.heap.size 0 33 (stC st0) (stC (stAt ns i)) rfl g1 rfl (by show (47:Nat)<=47; exact Nat.le_refl _) qoa (qve _) ?_; intro w2 r2 r3 r4))
 rw [qjd (L:=stC st0) (r:=stC (stAt ns i)) rfl] at r2
 refine bodyPost_ret (results_cell_row rfl _ _ w.heap.size 33 (stC (stAt ns i)).toArray (0,0) _ rfl r2 Tryz.underlying33 rfl qoa) rfl ?_
 exact ⟨rfl,hb1.trans (r3.to_below hb1.size (by simp))⟩
def OvP (r:Option Int) (w:World) (e:Ending) (w':World):Prop:=Below w.heap.size w w'/\(match r with
 | some m=>e=.returned (.int .i64 m)
 | none=>e=.panicked overC)
set_option maxRecDepth 100000 in
set_option maxHeartbeats 4000000 in
theorem qem (g B:Nat) (ns:List Nd) (next:Int) (i:Nat) (n:Int) (w:World) (h:PageAt w g B ns next) (hi:i < ns.length) :
  Calls Tryz.prog 125 #[.pointer (some ⟨g,0,none⟩),.int .i64 i,.int .i64 n] w (OvP (qkc ns i n) w):=by
 have hs:=qce g B ns next i w h hi
 have hh:=fun W=>qzj (stAt ns i) W
 unfold Num3 at hh
 obtain ⟨x,hx⟩:∃ x,qfb (stAt ns i)=x:=⟨_,rfl⟩
 have HC:=Lib.hid (show qkc ns i n=(must x.2.2).bind fun _=>some (q7b n x.1 x.2.1) by rw [<-hx]; rfl)
 rw [hx] at hh
 obtain ⟨x1,x2,x3⟩:=x
 clear hx h
 go_enter Tryz.func125,Tryz.ntmps125
 go_wp2_with fail
 refine hs.mono ?_
 rintro e w1 ⟨rfl,hb1⟩
 go_wp2_with fail
 refine (hh w1).mono ?_
 rintro e w2 ⟨rfl,hb2⟩
 have hB2:Below w.heap.size w w2:=hb1.trans (hb2.mono hb1.size)
 go_wp2_with fail
 by_cases h3:x3=0
 ·subst h3
  refine (q7d w2).mono ?_
  rintro e w3 ⟨rfl,rfl⟩
  go_wp2_with fail
  refine (qzl _ _ _ _).mono ?_
  rintro e w4 ⟨rfl,rfl⟩
  go_wp2_with fail
  go_ret
  exact ⟨hB2,by rw [HC.out]; rfl⟩
 ·refine (qyd x3 h3 w2).mono ?_
  rintro e w3 ⟨rfl,rfl⟩
  have HN:=Lib.hid (show qkc ns i n=none by rw [HC.out]; unfold must; rw [if_neg h3]; rfl)
  refine ⟨rfl,hB2,?_⟩
  rw [HN.out]
def KnP (r:Option (Option Int)) (w:World) (e:Ending) (w':World):Prop:=Below w.heap.size w w'/\(match r with
 | some (some m)=>e=.returned (.tuple #[.int .i64 m,.bool true])
 | some none=>e=.returned (.tuple #[.int .i64 0,.bool false])
 | none=>e=.panicked overC)
set_option maxRecDepth 100000 in
set_option maxHeartbeats 4000000 in
theorem qtr (g B:Nat) (ns:List Nd) (next:Int) (i:Nat) (by_:Int) (w:World) (h:PageAt w g B ns next) (hi:i < ns.length) :
  Calls Tryz.prog 104 #[.pointer (some ⟨g,0,none⟩),.int .i64 i,.int .i64 by_] w (KnP (qgc ns i by_) w):=by
 by_cases hb:by_=-1
 ·subst hb
  have hs:=qce g B ns next i w h hi
  have hh:=fun W=>qgl (stAt ns i) W
  unfold Res3 at hh
  obtain ⟨x,hx⟩:∃ x,qtb (stAt ns i)=x:=⟨_,rfl⟩
  have HC:=Lib.hid (show qgc ns i (-1)=(must x.2.2).bind fun _=>if x.2.1=true then (qkc ns i x.1).map some else some none by rw [<-hx]; rfl)
  rw [hx] at hh
  obtain ⟨x1,x2,x3⟩:=x
  clear hx
  have H:=Lib.hid h
  clear h
  go_enter Tryz.func104,Tryz.ntmps104
  go_wp2_with fail
  refine hs.mono ?_
  rintro e w1 ⟨rfl,hb1⟩
  go_wp2_with fail
  refine (hh w1).mono ?_
  rintro e w2 ⟨rfl,hb2⟩
  have hB2:Below w.heap.size w w2:=hb1.trans (hb2.mono hb1.size)
  go_wp2_with fail
  by_cases h3:x3=0
  ·subst h3
   refine (q7d w2).mono ?_
   rintro e w3 ⟨rfl,rfl⟩
   cases x2 with
   | false =>
    have HN:=Lib.hid (show qgc ns i (-1)=some none by rw [HC.out]; rfl)
    go_wp2_with fail
    go_ret2
    exact ⟨hB2,by rw [HN.out]; rfl⟩
   | true =>
    have HN:=Lib.hid (show qgc ns i (-1)=(qkc ns i x1).map some by rw [HC.out]; rfl)
    go_wp2_with fail
    refine (qem g B ns next i x1 w3 (H.out.below (hB2.mono H.out.lt)) hi).mono ?_
    rintro e w4 ⟨hb4,he⟩
    have hB4:Below w.heap.size w w4:=hB2.trans (hb4.mono hB2.size)
    cases hq:qkc ns i x1 with
    | some m =>
     rw [hq] at he HN
     subst he
     have HN':=Lib.hid (show qgc ns i (-1)=some (some m) from HN.out)
     clear hq
     go_wp2_with fail
     go_ret2
     exact ⟨hB4,by rw [HN'.out]; rfl⟩
    | none =>
     rw [hq] at he HN
     subst he
     have HN':=Lib.hid (show qgc ns i (-1)=none from HN.out)
     refine ⟨rfl,hB4,?_⟩
     rw [HN'.out]
  ·refine (qyd x3 h3 w2).mono ?_
   rintro e w3 ⟨rfl,rfl⟩
   have HN:=Lib.hid (show qgc ns i (-1)=none by rw [HC.out]; unfold must; rw [if_neg h3]; rfl)
   refine ⟨rfl,hB2,?_⟩
   rw [HN.out]
 ·have HC:=Lib.hid (show qgc ns i by_=some (some by_) from if_pos hb)
  go_enter Tryz.func104,Tryz.ntmps104
  go_wp2_with fail
  go_ret2
  exact ⟨Below.refl _ _,by rw [HC.out]; rfl⟩
set_option maxRecDepth 100000 in
set_option maxHeartbeats 4000000 in
theorem qnp (g B:Nat) (ns:List Nd) (next:Int) (i:Nat) (comes by_:Int) (w:World) (h:PageAt w g B ns next) (hi:i < ns.length) :
  Calls Tryz.prog 98 #[.pointer (some ⟨g,0,none⟩),.int .i64 i,.int .i64 comes,.int .i64 by_] w (OvP (qnb ns i comes by_) w):=by
 have hk:=qtr g B ns next i by_ w h hi
 have H:=Lib.hid h
 clear h
 cases hq:qgc ns i by_ with
 | none =>
  rw [hq] at hk
  have HN:=Lib.hid (show qnb ns i comes by_=none by unfold qnb; rw [hq]; rfl)
  clear hq
  go_enter Tryz.func98,Tryz.ntmps98
  go_wp2_with fail
  refine hk.mono ?_
  rintro e w1 ⟨hb1,rfl⟩
  refine ⟨rfl,hb1,?_⟩
  rw [HN.out]
 | some r =>
  cases r with
  | some m =>
   rw [hq] at hk
   have HN:=Lib.hid (show qnb ns i comes by_=some m by unfold qnb; rw [hq]; rfl)
   clear hq
   go_enter Tryz.func98,Tryz.ntmps98
   go_wp2_with fail
   refine hk.mono ?_
   rintro e w1 ⟨hb1,rfl⟩
   go_wp2_with fail
   go_ret
   exact ⟨hb1,by rw [HN.out]; rfl⟩
  | none =>
   rw [hq] at hk
   have HN:=Lib.hid (show qnb ns i comes by_=qkc ns i comes by unfold qnb; rw [hq]; rfl)
   clear hq
   go_enter Tryz.func98,Tryz.ntmps98
   go_wp2_with fail
   refine hk.mono ?_
   rintro e w1 ⟨hb1,rfl⟩
   go_wp2_with fail
   refine (qem g B ns next i comes w1 (H.out.below (hb1.mono H.out.lt)) hi).mono ?_
   rintro e w4 ⟨hb4,he⟩
   have hB4:Below w.heap.size w w4:=hb1.trans (hb4.mono hb1.size)
   cases hq:qkc ns i comes with
   | some m =>
    rw [hq] at he HN
    subst he
    clear hq
    go_wp2_with fail
    go_ret
    exact ⟨hB4,by rw [HN.out]; rfl⟩
   | none =>
    rw [hq] at he HN
    subst he
    refine ⟨rfl,hB4,?_⟩
    rw [HN.out]
def fmV (f:Fm):Value:=.agg #[.bool f.ak.is,.int .i64 f.ak.width,.int .i64 f.ak.least,.int .i64 f.ak.most,.int .i64 f.ak.left,.int .i64 f.ak.right,.bool f.ak.autoL,.bool f.ak.autoR,.int .i64 f.ak.edges,.int .i64 f.top,.int .i64 f.bottom,.int .i64 f.up]
end Go.Proofs.YtlnekijhbnlclaaGreatDoor
namespace Go.Proofs.YtlnekijhbnlclaaGreatDoor
open Go.RowKit Go.Shelf
set_option linter.unusedSimpArgs false
theorem qww {P:Program} {id:Nat} {ops:Array Oper} {Q:Exit->Act->List Frame->World->Prop} {a:Act} {cs:List Frame} {w:World}
  (h:∀ t,wpOpsS P ops Q (Region.schedule (P.follows .mixedOrders) ops t) a cs { w with drawn:=w.drawn+1 }):(Code.region id ops true).wpS P Q a cs w :=
 fun b k hb hr=>let ⟨e,a',cs',w',q,r⟩:=wp_opsS _ a cs _ (h _) b k hb hr; ⟨e,a',cs',w',q,.of_steps (.one step_region_draw) r⟩
def overK:List PanicEntry:=[{ v:=.iface 106 (.agg #[]),recovered:=true }]
theorem q8s (x:Int) (w:World):Calls Tryz.prog 47 #[.nilIface,.int .i64 x] w fun e w'=>e=.returned (.int .i64 x)/\w'=w:=by
 go_enter Tryz.func47,Tryz.ntmps47
 go_wp2_with fail
 go_ret
 exact ⟨rfl,rfl⟩
theorem qet (x:Int) (w:World):Calls Tryz.prog 47 #[.iface 106 (.agg #[]),.int .i64 x] w fun e w'=>e=.returned (.int .i64 10)/\Below w.heap.size w w':=by
 have hta:∀ w,(Instr.typeAssert (Value.iface 106 (Value.agg #[])) 20 106 true).run Tryz.prog w=.ok (.tuple #[.agg #[],.bool true]) w:=fun w=>by kernel_rfl
 go_enter Tryz.func47,Tryz.ntmps47
 go_wp2_with fail
 go_ret
 exact ⟨rfl,by first | exact (Below.refl _ _).alloc (Nat.le_refl _) _ | exact Below.refl _ _⟩
theorem qwh {md:Region.Mode} {ops:Array Oper} {fuel t:Nat} {listed:Array Bool} {acc rs:List Nat} (h:Region.ready md ops listed=rs):Region.linearise.go md ops (fuel+1) t listed acc=(match rs[t % rs.length]? with
  | some i=>Region.linearise.go md ops fuel (t / rs.length) (listed.setIfInBounds i true) (i :: acc)
  | none=>acc.reverse):=by
 subst h
 rfl
theorem qhe {md:Region.Mode} {ops:Array Oper} {fuel t i:Nat} {listed:Array Bool} {acc:List Nat} (h:Region.ready md ops listed=[i]):Region.linearise.go md ops (fuel+1) t listed acc=Region.linearise.go md ops fuel t (listed.setIfInBounds i true) (i :: acc):=by
 rw [qwh h]
 simp [Nat.mod_one]
theorem qdu (ops:Array Oper) (h4:ops.size=4) (h0:Region.ready .any ops (Array.replicate 4 false)=[0,1]) (h1:Region.ready .any ops ((Array.replicate 4 false).setIfInBounds 0 true)=[1]) (h2:Region.ready .any ops ((Array.replicate 4 false).setIfInBounds 1 true)=[0])
  (h3:Region.ready .any ops (((Array.replicate 4 false).setIfInBounds 0 true).setIfInBounds 1 true)=[2]) (h3':Region.ready .any ops (((Array.replicate 4 false).setIfInBounds 1 true).setIfInBounds 0 true)=[2])
  (h5:Region.ready .any ops ((((Array.replicate 4 false).setIfInBounds 0 true).setIfInBounds 1 true).setIfInBounds 2 true)=[3]) (h5':Region.ready .any ops ((((Array.replicate 4 false).setIfInBounds 1 true).setIfInBounds 0 true).setIfInBounds 2 true)=[3]) (t:Nat) :
  Region.schedule true ops t=[0,1,2,3]\/Region.schedule true ops t=[1,0,2,3]:=by
 have hm:t % 2=0\/t % 2=1:=by omega
 simp only [Region.schedule,Bool.true_or,if_true,Region.linearise,h4]
 rcases hm with h | h
 ·left
  rw [qwh h0]
  simp only [List.length_cons,List.length_nil,Nat.zero_add,Nat.reduceAdd,h,List.getElem?_cons_zero]
  rw [qhe h1,qhe h3,qhe h5]
  rfl
 ·right
  rw [qwh h0]
  simp only [List.length_cons,List.length_nil,Nat.zero_add,Nat.reduceAdd,h,List.getElem?_cons_succ,List.getElem?_cons_zero]
  rw [qhe h2,qhe h3',qhe h5']
  rfl
theorem qql {P:Program} {id:Nat} {ops:Array Oper} {Q:Exit->Act->List Frame->World->Prop} {a:Act} {cs:List Frame} {w:World} (hm:P.follows .mixedOrders=true) (h4:ops.size=4) (h0:Region.ready .any ops (Array.replicate 4 false)=[0,1]) (h1:Region.ready .any ops ((Array.replicate 4 false).setIfInBounds 0 true)=[1]) (h2:Region.ready .any ops ((Array.replicate 4 false).setIfInBounds 1 true)=[0])
  (h3:Region.ready .any ops (((Array.replicate 4 false).setIfInBounds 0 true).setIfInBounds 1 true)=[2]) (h3':Region.ready .any ops (((Array.replicate 4 false).setIfInBounds 1 true).setIfInBounds 0 true)=[2])
  (h5:Region.ready .any ops ((((Array.replicate 4 false).setIfInBounds 0 true).setIfInBounds 1 true).setIfInBounds 2 true)=[3]) (h5':Region.ready .any ops ((((Array.replicate 4 false).setIfInBounds 1 true).setIfInBounds 0 true).setIfInBounds 2 true)=[3])
  (k1:wpOpsS P ops Q [0,1,2,3] a cs w.drew) (k2:wpOpsS P ops Q [1,0,2,3] a cs w.drew):(Code.region id ops true).wpS P Q a cs w:=by
 refine qww fun t=>?_
 rw [hm]
 rcases qdu ops h4 h0 h1 h2 h3 h3' h5 h5' t with e | e
 ·rw [e]; exact k1
 ·rw [e]; exact k2
theorem qjl {P:Program} {m:Nat} {f:FuncId} {fn:Func} {c:Code} {args:Array Value} {u:FrameMode} {w:World} {R:Ending->FrameMode->World->Prop}
  (hf:P.funcs[f]?=some fn) (hb:fn.body=some c)
  (h:∀ (c₀:Frame) (cs:List Frame),c₀.mode=u ->
   c.wpS P (bodyPostS P fn c₀ cs R) { tmps:=args ++ Array.replicate (fn.ntmps - args.size) undef,defers:=[] } (c₀ :: cs) w) :
  CallsDIn Fence.wide m P f args u w R:=by
 refine ⟨trivial,fun c₀ cs hu _=>?_⟩
 let b:Frame:={ (default:Frame) with fn:=f,kind:=.deferred }
 have henter:Frame.enter P f args .deferred =
   b.at { tmps:=args ++ Array.replicate (fn.ntmps - args.size) undef,defers:=[] } [.code c]:=by
  simp [Frame.enter,Frame.at,hf,hb,b]
 obtain ⟨e,a',cs',w',hq,harr⟩:=h c₀ cs hu b [] rfl rfl
 rw [<-henter] at harr
 cases e with
 | normal =>
  obtain ⟨hd,u',rfl,v,hr,hR⟩:=hq
  exact ⟨.returned v,u',w',_,hR,comesIn_wide.2 (Steps.trans harr (.one step_end)),rfl,rfl,rfl,hd,fn,hf,hr⟩
 | ret =>
  obtain ⟨hd,u',rfl,v,hr,hR⟩:=hq
  obtain ⟨todo,hs⟩:=harr
  exact ⟨.returned v,u',w',_,hR,comesIn_wide.2 hs,rfl,rfl,rfl,hd,fn,hf,hr⟩
 | panic chain =>
  obtain ⟨hd,u',rfl,hR⟩:=hq
  obtain ⟨todo,hs⟩:=harr
  exact ⟨.panicked chain,u',w',_,hR,comesIn_wide.2 hs,rfl,rfl,rfl,hd,fn,hf⟩
 | exit id=>exact hq.elim
 | goto l=>exact hq.elim
 | outgrown =>
  obtain ⟨u',hR⟩:=hq
  exact ⟨.outgrown,u',w',b,hR,comesIn_wide.2 (harr.resolve_left (by simp [b])),rfl,rfl,trivial⟩
set_option maxRecDepth 100000 in
set_option maxHeartbeats 4000000 in
theorem qcw (m q:Nat) (x:Int) (w:World) (hq:Blk w q 37 #[.int .i64 x]) :
  CallsDIn Fence.wide m Tryz.prog 46 #[.pointer (some ⟨q,0,none⟩)] (.panicking overC) w fun e u w'=>e=.returned (.tuple #[])/\u=.panicking overK/\Blk w' q 37 #[.int .i64 10]/\Kept [q] w w':=by
 refine qjl Tryz.func46 rfl fun c₀ cs hu=>?_
 have hc:w.drew.cell? ⟨q,0,none⟩=some (.int .i64 x):=hq.cell 0
 have hcl:w.cell? ⟨q,0,none⟩=some (.int .i64 x):=hq.cell 0
 have hco:=qet x w.drew
 refine qql (by kernel_rfl) (by kernel_rfl) (by kernel_rfl) (by kernel_rfl) (by kernel_rfl) (by kernel_rfl) (by kernel_rfl) (by kernel_rfl) (by kernel_rfl) ?_ ?_
 all_goals
  simp [wpOpsS,go_sem,recoverD,hu,overC,hc,hcl,Oper.upon,Tryz.ntmps46]
  refine hco.mono ?_
  rintro e w2 ⟨rfl,hb⟩
  have hq2:Blk w2 q 37 #[.int .i64 x]:=Blk.below (w:=w.drew) hq hb hq.lt
  have t0:=hq2.frozen 0
  have t1:w2.cell? ⟨q,0,none⟩=some (.int .i64 x):=hq2.cell 0
  have hq3:=hq2.set_ 0 (.int .i64 10)
  have hk3:Kept [q] w (w2.setCell ⟨q,0,none⟩ (.int .i64 10)):=(((Kept.refl [q] w).drew).trans (Kept.of_below hb)).setCell (p:=⟨q,0,none⟩) (by simp) _
  simp [go_sem,storeCells,t0,t1]
  exact ⟨rfl,_,rfl,_,results_none rfl _ _ _,rfl,rfl,hq3,hk3⟩
theorem qyp (m q:Nat) (x:Int) (w:World) (hq:Blk w q 37 #[.int .i64 x]) :
  CallsDIn Fence.wide m Tryz.prog 46 #[.pointer (some ⟨q,0,none⟩)] .returning w fun e u w'=>e=.returned (.tuple #[])/\u=.returning/\Blk w' q 37 #[.int .i64 x]/\Kept [q] w w':=by
 refine qjl Tryz.func46 rfl fun c₀ cs hu=>?_
 have hc:w.drew.cell? ⟨q,0,none⟩=some (.int .i64 x):=hq.cell 0
 have hcl:w.cell? ⟨q,0,none⟩=some (.int .i64 x):=hq.cell 0
 have hco:=q8s x w.drew
 refine qql (by kernel_rfl) (by kernel_rfl) (by kernel_rfl) (by kernel_rfl) (by kernel_rfl) (by kernel_rfl) (by kernel_rfl) (by kernel_rfl) (by kernel_rfl) ?_ ?_
 all_goals
  simp [wpOpsS,go_sem,recoverD,hu,hc,hcl,Oper.upon,Tryz.ntmps46]
  refine hco.mono ?_
  rintro e w2 ⟨rfl,rfl⟩
  have t0:=hq.drew.frozen 0
  have hq3:=hq.drew.set_ 0 (.int .i64 x)
  have hk3:Kept [q] w ((w.drew).setCell ⟨q,0,none⟩ (.int .i64 x)):=((Kept.refl [q] w).drew).setCell (p:=⟨q,0,none⟩) (by simp) _
  simp [go_sem,storeCells,t0,hc,hcl]
  refine ⟨rfl,.returning,?_,_,results_none rfl _ _ _,rfl,rfl,hq3,hk3⟩
  cases c₀
  simp_all
end Go.Proofs.YtlnekijhbnlclaaGreatDoor
namespace Go.Proofs.YtlnekijhbnlclaaGreatDoor
open Go.RowKit Go.Shelf
attribute [local go_sem] Oper.semAt_some
def spC (s:Sp):List Value:=[.int .i64 s.width,.int .i64 s.up,.int .i64 s.down,.int .u8 s.align]
def shSp:Shp Sp:=⟨191,4,spC,fun _=>rfl,fun x u hu=>by
 unfold spC at hu
 simp only [List.mem_cons,List.not_mem_nil,or_false] at hu
 (repeat' (rcases hu with rfl | hu)) <;> first | rfl | (subst hu; rfl)⟩
def lnV2 (h b:Int):Value:=.agg #[.int .i64 h,.int .i64 b]
def spV (s:Sp):Value:=.agg #[.int .i64 s.width,.int .i64 s.up,.int .i64 s.down,.int .u8 s.align]
set_option linter.unusedSimpArgs false
set_option linter.unusedVariables false
set_option maxRecDepth 100000 in
theorem qjm (h b:Int) (s:Sp) (w:World):Calls Tryz.prog 197 #[lnV2 h b,spV s] w fun e w'=>e=.returned (.int .i64 (w64 (b - s.up)))/\Below w.heap.size w w':=by
 unfold lnV2 spV
 go_enter Tryz.func197,Tryz.ntmps197
 go_wp2_with fail
 go_ret
 exact ⟨rfl,((Below.refl _ _).alloc (Nat.le_refl _) _).alloc (by simp) _⟩
set_option maxRecDepth 100000 in
theorem qhl (h b:Int) (s:Sp) (w:World):Calls Tryz.prog 198 #[lnV2 h b,spV s] w fun e w'=>e=.returned (.int .i64 0)/\Below w.heap.size w w':=by
 unfold lnV2 spV
 go_enter Tryz.func198,Tryz.ntmps198
 go_wp2_with fail
 go_ret
 exact ⟨rfl,((Below.refl _ _).alloc (Nat.le_refl _) _).alloc (by simp) _⟩
set_option maxRecDepth 100000 in
theorem qdl (h b:Int) (s:Sp) (w:World):Calls Tryz.prog 199 #[lnV2 h b,spV s] w fun e w'=>e=.returned (.int .i64 (w64 (w64 (h - s.up) - s.down)))/\Below w.heap.size w w':=by
 unfold lnV2 spV
 go_enter Tryz.func199,Tryz.ntmps199
 go_wp2_with fail
 go_ret
 exact ⟨rfl,((Below.refl _ _).alloc (Nat.le_refl _) _).alloc (by simp) _⟩
def wyC (h b:Int):Array Value:=#[.func (.func 197) #[lnV2 h b] #[],.func (.func 198) #[lnV2 h b] #[],.func (.func 199) #[lnV2 h b] #[]]
set_option maxRecDepth 100000 in
theorem q7o (h b:Int) (w:World):Calls Tryz.prog 164 #[lnV2 h b] w fun e w'=>e=.returned (.agg (wyC h b))/\Below w.heap.size w w':=by
 have hmf:∀ (fn:Fn) (first cap:Array Value) (w:World),(Instr.makeFunc fn first cap).run Tryz.prog w=.ok (.func fn first cap) w:=fun _ _ _ _=>rfl
 have q0:=Blk.new (w.alloc (.cells #[.int .i64 h,.int .i64 b] 266)) 269 #[.nilFunc,.nilFunc,.nilFunc]
 rw [World.size_alloc] at q0
 have k0:Kept [] w ((w.alloc (.cells #[.int .i64 h,.int .i64 b] 266)).alloc (.cells #[.nilFunc,.nilFunc,.nilFunc] 269)):=((Kept.refl [] w).alloc _).alloc _
 have hone:∀ v ∈ (wyC h b).toList,v.oneCell'=true:=by
  intro v hv
  simp only [wyC,List.mem_cons,List.not_mem_nil,or_false] at hv
  rcases hv with rfl | rfl | rfl <;> rfl
 have hi:(Tryz.prog.info? 269).map (·.size)=some 3:=by kernel_rfl
 have Q:=Lib.hid (And.intro q0 (And.intro k0 (And.intro hone hi)))
 clear q0 k0 hone hi
 unfold lnV2
 go_enter Tryz.func164,Tryz.ntmps164
 go_wp2_with (refine qmd rfl 269 _ _ rfl (w.heap.size+1) 0 269 [.nilFunc,.nilFunc,.nilFunc] (wyC h b).toList rfl Q.out.1 rfl (Nat.le_refl 3) Q.out.2.2.2 Q.out.2.2.1 ?_; intro w3 r2 r3 r4)
 have r5:Blk w3 (w.heap.size+1) 269 (wyC h b):=by rw [qjd (L:=[.nilFunc,.nilFunc,.nilFunc]) (r:=(wyC h b).toList) rfl] at r2; exact r2
 refine bodyPost_ret (results_cell_row rfl _ _ (w.heap.size+1) 269 (wyC h b) (0,0) _ rfl r5 Tryz.underlying269 rfl Q.out.2.2.2) rfl ?_
 exact ⟨rfl,(Q.out.2.1.fresh r3 (by simp)).to_below (Nat.le_refl _) (by simp)⟩
set_option maxRecDepth 100000 in
theorem qbx (free:Int) (lines:Nat) (w:World) (hf:-9223372036854775808<=free/\free<=9223372036854775807):Calls Tryz.prog 165 #[.int .i64 free,.int .u8 lines] w fun e w'=>e=.returned (.int .i64 (leadR free lines))/\w'=w:=by
 have h1:=fun W ts t=>q0c (P:=Tryz.prog) W ts t 0 free
 by_cases e1:lines=1
 ·subst e1
  go_enter Tryz.func165,Tryz.ntmps165
  go_wp2_with fail
  go_ret
  exact ⟨rfl,rfl⟩
 ·have z1:¬ (lines:Int)=1:=by omega
  by_cases e2:lines=2
  ·subst e2
   have HT:=Lib.hid (show (max 0 free).tdiv 2=max 0 free / 2 from Int.tdiv_eq_ediv_of_nonneg (by omega))
   go_enter Tryz.func165,Tryz.ntmps165
   go_wp2_with fail
   go_ret
   refine ⟨?_,rfl⟩
   unfold leadR
   rw [if_neg (by decide),if_pos rfl,HT.out]
   rfl
  ·have z2:¬ (lines:Int)=2:=by omega
   have HL:=Lib.hid (show leadR free lines=0 by unfold leadR; rw [if_neg e1,if_neg e2])
   go_enter Tryz.func165,Tryz.ntmps165
   go_wp2_with fail
   go_ret
   exact ⟨by rw [HL.out]; rfl,rfl⟩
theorem qog {W:World} {B n c:Nat} {A:Option Addr} {l:List Sp} (h:shSp.In W B (.slice A n c) l) {k:Nat} (hk:k < l.length) :
  ∃ b o,A=some ⟨b,o,none⟩/\b < B/\W.cell? ⟨b,o+k * 4,none⟩=some (.int .i64 l[k].width)/\W.cell? ⟨b,o+k * 4+1,none⟩=some (.int .i64 l[k].up) /\
   W.cell? ⟨b,o+k * 4+2,none⟩=some (.int .i64 l[k].down)/\W.cell? ⟨b,o+k * 4+3,none⟩=some (.int .u8 l[k].align):=by
 obtain ⟨b,o,e,hb,hc⟩:=Shp.In.at_ h (by decide) (by omega)
 refine ⟨b,o,e,hb,hc k hk 0 (by decide),?_,?_,?_⟩
 ·rw [Nat.add_assoc]; exact hc k hk 1 (by decide)
 ·rw [Nat.add_assoc]; exact hc k hk 2 (by decide)
 ·rw [Nat.add_assoc]; exact hc k hk 3 (by decide)
theorem qmr {l:List Sp} {k:Nat} (hk:k < l.length) (up:Int):qub (l.take (k+1)) up=if l[k].align=0 then max (qub (l.take k) up) l[k].up else qub (l.take k) up:=by
 unfold qub
 rw [List.take_succ_eq_append_getElem hk,List.foldl_append,List.foldl_cons,List.foldl_nil]
theorem qsq {l:List Sp} {k:Nat} (hk:k < l.length) (up:Int):qnd (l.take (k+1)) up=if l[k].align=0 then max (qnd (l.take k) up) l[k].down else qnd (l.take k) up:=by
 unfold qnd
 rw [List.take_succ_eq_append_getElem hk,List.foldl_append,List.foldl_cons,List.foldl_nil]
def qud (n0:Int) (l:List Sp):Int:=l.foldl (fun n s=>if s.align=0 then n else max n (w64 (s.up+s.down))) n0
theorem q4w {l:List Sp} {k:Nat} (hk:k < l.length) (n0:Int):qud n0 (l.take (k+1))=if l[k].align=0 then qud n0 (l.take k) else max (qud n0 (l.take k)) (w64 (l[k].up+l[k].down)):=by
 unfold qud
 rw [List.take_succ_eq_append_getElem hk,List.foldl_append,List.foldl_cons,List.foldl_nil]
def OfA (l:List Sp) (up down:Int) (w:World) (u d i:Value) (wr:World):Prop :=
 ∃ k:Nat,k<=l.length/\i=.int .i64 k/\u=.int .i64 (qub (l.take k) up)/\d=.int .i64 (qnd (l.take k) down)/\Below w.heap.size w wr/\Blk wr w.heap.size 266 #[.int .i64 0,.int .i64 0]
def OfB (l:List Sp) (n0 b:Int) (X:Nat) (w:World) (i:Value) (wr:World):Prop :=
 ∃ k:Nat,k<=l.length/\i=.int .i64 k/\Below w.heap.size w wr/\Blk wr w.heap.size 266 #[.int .i64 0,.int .i64 0]/\Blk wr X 266 #[.int .i64 (qud n0 (l.take k)),.int .i64 b]
set_option maxRecDepth 100000 in
set_option maxHeartbeats 4000000 in
theorem qks (l:List Sp) (up down:Int) (v:Value) (B:Nat) (w:World) (h:shSp.In w B v l) (hB:B<=w.heap.size) (hm:l.length < 1000000) :
  Calls Tryz.prog 163 #[v,.int .i64 up,.int .i64 down] w fun e w'=>e=.returned (lnV2 (lineH l up down) (qub l up))/\Below w.heap.size w w':=by
 obtain ⟨A,c,rfl,hc,hr⟩:=h
 have H:∀ W,Below w.heap.size w W->shSp.In W B (.slice A l.length c) l:=fun W hW=>Shp.In.below (S:=shSp) (⟨A,c,rfl,hc,hr⟩:shSp.In w B (.slice A l.length c) l) (hW.mono hB)
 have H:=Lib.hid H
 clear hr
 go_enter Tryz.func163,Tryz.ntmps163
 go_wp2_with fail
 go_loopw [1,2,14] (OfA l up down w) (fun _ _ i _=>l.length - (intOf i).toNat)
 case atStart=>exact ⟨0,by omega,rfl,rfl,rfl,(Below.refl _ _).alloc (Nat.le_refl _) _,Blk.new _ _ _⟩
 case round =>
  obtain ⟨k,hk,rfl,rfl,rfl,hb,hR⟩:=hrel
  have hbs:=hb.size
  by_cases hlt:k < l.length
  ·obtain ⟨b,o,rfl,hbB,c0,c1,c2,c3⟩:=qog (H.out _ hb) hlt
   have HU:=Lib.hid (qmr hlt up)
   have HD:=Lib.hid (qsq hlt down)
   generalize l[k]=s at *
   obtain ⟨sw,su,sd,sa⟩:=s
   simp only at c0 c1 c2 c3
   by_cases hz:sa=0
   ·subst hz
    have HU:=Lib.hid (HU.out.trans (if_pos rfl))
    have HD:=Lib.hid (HD.out.trans (if_pos rfl))
    generalize qub (l.take k) up=U at *
    generalize qnd (l.take k) down=D at *
    have m1:=fun W ts t=>q0c (P:=Tryz.prog) W ts t U su
    have m2:=fun W ts t=>q0c (P:=Tryz.prog) W ts t D sd
    go_wp2_with fail
    have hb3:=hb.alloc hbs (.cells #[.int .i64 sw,.int .i64 su,.int .i64 sd,.int .u8 (0:Nat)] 191)
    have hR3:=hR.alloc (.cells #[.int .i64 sw,.int .i64 su,.int .i64 sd,.int .u8 (0:Nat)] 191)
    have hS3:=Blk.new wr 191 #[.int .i64 sw,.int .i64 su,.int .i64 sd,.int .u8 (0:Nat)]
    generalize wr.alloc (.cells #[.int .i64 sw,.int .i64 su,.int .i64 sd,.int .u8 (0:Nat)] 191)=w3 at *
    have e1:∀ V:BW w3.heap.size w3,V.val.cell? ⟨wr.heap.size,1,none⟩=some (.int .i64 su):=fun V=>(hS3.below V.ok hS3.lt).cell 1
    have e2:∀ V:BW w3.heap.size w3,V.val.cell? ⟨wr.heap.size,2,none⟩=some (.int .i64 sd):=fun V=>(hS3.below V.ok hS3.lt).cell 2
    refine qeb w3.heap.size (by kernel_rfl) (by kernel_rfl) ?_
    repeat (go_big_quiet_step (fail))
    refine wpQuiet_nil ?_
    intro w4 hw'
    obtain ⟨⟨_,hQ⟩,rfl⟩:=hw'
    go_wp2_with fail
    exact ⟨⟨k+1,hlt,by go_num,by rw [HU.out]; simp,by rw [HD.out]; simp,hb3.trans (hQ.mono hb3.size),hR3.below hQ hR3.lt⟩,by simp [intOf]; omega⟩
   ·have HU:=Lib.hid (HU.out.trans (if_neg hz))
    have HD:=Lib.hid (HD.out.trans (if_neg hz))
    have hzz:¬ (sa:Int)=0:=by omega
    go_wp2_with fail
    exact ⟨⟨k+1,hlt,by go_num,by rw [HU.out],by rw [HD.out],hb.alloc hbs _,hR.alloc _⟩,by simp [intOf]; omega⟩
  ·obtain rfl:k=l.length:=by omega
   rw [List.take_length]
   generalize hU:qub l up=U at *
   generalize hD:qnd l down=D at *
   go_wp2_with fail
   obtain ⟨n0,hn0⟩:∃ n0,n0=w64 (U+D):=⟨_,rfl⟩
   have hb3:=hb.alloc hbs (.cells #[.int .i64 (w64 (U+D)),.int .i64 U] 266)
   have hR3:=hR.alloc (.cells #[.int .i64 (w64 (U+D)),.int .i64 U] 266)
   have hX3:=Blk.new wr 266 #[.int .i64 (w64 (U+D)),.int .i64 U]
   obtain ⟨X,hX⟩:∃ X,wr.heap.size=X:=⟨_,rfl⟩
   have hXl:w.heap.size < X:=by rw [<-hX]; exact hR.lt
   rw [hX] at hX3 ⊢
   have HX:=Lib.hid hX
   clear hX
   go_loopw [37] (OfB l (w64 (U+D)) U X w) (fun i _=>l.length - (intOf i).toNat)
   case atStart=>exact ⟨0,by omega,rfl,hb3,hR3,hX3⟩
   case round =>
    obtain ⟨k,hk,rfl,hbr,hRr,hXr⟩:=hrel
    have hbs':=hbr.size
    have hXs:=hXr.lt
    by_cases hlt:k < l.length
    ·obtain ⟨b,o,rfl,hbB,c0,c1,c2,c3⟩:=qog (H.out _ hbr) hlt
     have HU:=Lib.hid (q4w hlt (w64 (U+D)))
     generalize l[k]=s at *
     obtain ⟨sw,su,sd,sa⟩:=s
     simp only at c0 c1 c2 c3
     have x0:=hXr.cell 0
     have x1:=hXr.frozen
     simp only [List.getElem?_toArray,List.getElem?_cons_zero] at x0
     by_cases hz:sa=0
     ·subst hz
      have HU:=Lib.hid (HU.out.trans (if_pos rfl))
      go_wp2_with fail
      refine ⟨⟨k+1,hlt,by go_num,hbr.alloc hbs' _,hRr.alloc _,by rw [HU.out]; exact hXr.alloc _⟩,by simp [intOf]; omega⟩
     ·have HU:=Lib.hid (HU.out.trans (if_neg hz))
      have hzz:¬ (sa:Int)=0:=by omega
      obtain ⟨N,hN⟩:∃ N,qud (w64 (U+D)) (l.take k)=N:=⟨_,rfl⟩
      rw [hN] at x0 HU hXr
      have m1:=fun W ts t=>q0c (P:=Tryz.prog) W ts t N (w64 (su+sd))
      go_wp2_with fail
      have hX9:=(hXr.set_ 0 (.int .i64 (max N (w64 (su+sd))))).alloc (.cells #[.int .i64 sw,.int .i64 su,.int .i64 sd,.int .u8 sa] 191)
      simp only [zA,zB] at hX9
      refine ⟨⟨k+1,hlt,by go_num,(hbr.setCell (p:=⟨X,0,none⟩) (Nat.le_of_lt hXl) _).alloc (by simpa [World.setCell] using hbs') _,(hRr.far (p:=⟨X,0,none⟩) (by show w.heap.size≠X; omega) _).alloc _,by rw [HU.out]; exact hX9⟩,by simp [intOf]; omega⟩
    ·obtain rfl:k=l.length:=by omega
     rw [List.take_length] at hXr
     obtain ⟨N,hN⟩:∃ N,qud (w64 (U+D)) l=N:=⟨_,rfl⟩
     rw [hN] at hXr
     have x0:=hXr.cell 0
     have x1:=hXr.cell 1
     have y0:=hRr.cell 0
     have y1:=hRr.cell 1
     have y2:=hRr.frozen
     simp only [List.getElem?_toArray,List.getElem?_cons_zero,List.getElem?_cons_succ] at x0 x1 y0 y1
     go_wp2_with fail
     have hR9:=(hRr.set_ 0 (.int .i64 N)).set_ 1 (.int .i64 U)
     simp only [zA,zB,zC] at hR9
     refine bodyPost_ret (results_cell_row rfl _ _ w.heap.size 266 #[.int .i64 N,.int .i64 U] (0,0) _ rfl hR9 Tryz.underlying266 rfl (by kernel_rfl)) rfl ?_
     refine ⟨?_,(hbr.setCell (p:=⟨w.heap.size,0,none⟩) (Nat.le_refl _) _).setCell (p:=⟨w.heap.size,1,none⟩) (Nat.le_refl _) _⟩
     have hLL:lineH l up down=N:=by
      rw [<-hN,<-hU,<-hD]
      rfl
     rw [hLL,hU]
     rfl
end Go.Proofs.YtlnekijhbnlclaaGreatDoor
