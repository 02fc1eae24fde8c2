/-
  Walks: package lines: Fill.
-/
import Derived.Test.YtlnekijhbnlclaaGreatDoorEach
import Derived.Test.YtlnekijhbnlclaaGreatDoorKids
namespace Go.Proofs.YtlnekijhbnlclaaGreatDoor
open Go.RowKit Go.Shelf
attribute [local go_sem] Oper.semAt_some
def ln3C (x:Nat×Nat×Int):List Value:=[.int .i64 x.1,.int .i64 x.2.1,.int .i64 x.2.2]
def shLn:Shp (Nat×Nat×Int):=⟨217,3,ln3C,fun _=>rfl,fun x u hu=>by
 unfold ln3C at hu
 simp only [List.mem_cons,List.not_mem_nil,or_false] at hu
 (repeat' (rcases hu with rfl | hu)) <;> first | rfl | (subst hu; rfl)⟩
theorem qnv:shLn.Ok Tryz.prog 194 24:=by
 refine ⟨Tryz.underlying194,?_,by decide,by decide⟩
 have h:(Tryz.prog.info? 217).map (fun i=>(i.zero,i.size,i.bytes))=some (some (.agg #[.int .i64 0,.int .i64 0,.int .i64 0]),3,24):=by kernel_rfl
 cases hi:Tryz.prog.info? 217 with
 | none=>rw [hi] at h; cases h
 | some i =>
  rw [hi] at h
  injection h with h
  injection h with h1 h2
  injection h2 with h2 h3
  exact ⟨i,_,hi,h1,h2,h3,rfl⟩
theorem q6d {P:Program} {fn:Func} {p q:Tmp} {tp tq:TypeId} (h:fn.results=#[.cell p tp,.cell q tq]) (tmps:Array Value) (w:World) {a b:Addr} {u v:Value} (hp:tmps.getD p undef=.pointer (some a)) (hq:tmps.getD q undef=.pointer (some b))
  (hu:(loadVar tp a).run P w=.ok u w) (hv:(loadVar tq b).run P w=.ok v w):(results fn tmps).run P w=.ok (.tuple #[u,v]) w:=by
 simp only [results,h]
 have hp':tmps[p]?.getD undef=.pointer (some a):=by simpa using hp
 have hq':tmps[q]?.getD undef=.pointer (some b):=by simpa using hq
 simp [Sem.run_bind,Result.andThen,hp',hq',asAddr,hu,hv]
set_option maxRecDepth 100000 in
theorem qvq (g:Nat) (width:Int) (w:World) :
  Calls Tryz.prog 151 #[.pointer (some ⟨g,0,none⟩),.int .i64 width] w fun e w'=>e=.returned (.func (.func 177) #[] #[.pointer (some ⟨w.heap.size+1+1,0,none⟩),.pointer (some ⟨w.heap.size,0,none⟩),.pointer (some ⟨w.heap.size+1,0,none⟩)]) /\
   Blk w' w.heap.size 242 #[.pointer (some ⟨g,0,none⟩)]/\Blk w' (w.heap.size+1) 3 #[.int .i64 width]/\Blk w' (w.heap.size+1+1) 291 #[.func (.func 176) #[.pointer (some ⟨g,0,none⟩)] #[]]/\Kept [] w w'/\w'.heap.size=w.heap.size+3:=by
 have hmf:∀ (fn:Fn) (first cap:Array Value) (w:World),(Instr.makeFunc fn first cap).run Tryz.prog w=.ok (.func fn first cap) w:=fun _ _ _ _=>rfl
 have q0:=((Blk.new w 242 #[.pointer (some ⟨g,0,none⟩)]).alloc (.cells #[.int .i64 width] 3)).alloc (.cells #[.nilFunc] 291)
 have q1:=(Blk.new (w.alloc (.cells #[.pointer (some ⟨g,0,none⟩)] 242)) 3 #[.int .i64 width]).alloc (.cells #[.nilFunc] 291)
 have q2:=Blk.new ((w.alloc (.cells #[.pointer (some ⟨g,0,none⟩)] 242)).alloc (.cells #[.int .i64 width] 3)) 291 #[.nilFunc]
 simp only [World.size_alloc] at q0 q1 q2
 have k0:Kept [] w (((w.alloc (.cells #[.pointer (some ⟨g,0,none⟩)] 242)).alloc (.cells #[.int .i64 width] 3)).alloc (.cells #[.nilFunc] 291)):=(((Kept.refl [] w).alloc _).alloc _).alloc _
 have Q:=Lib.hid (And.intro q0 (And.intro q1 (And.intro q2 k0)))
 clear q0 q1 q2 k0
 go_enter Tryz.func151,Tryz.ntmps151
 go_wp2_with (refine q0m rfl 291 _ _ rfl (w.heap.size+1+1) 0 291 [.nilFunc] (.func (.func 176) #[.pointer (some ⟨g,0,none⟩)] #[]) rfl Q.out.2.2.1 rfl (Nat.lt_succ_self 0) rfl rfl ?_; intro w3 r2 r3 r4)
 go_ret
 have k3:=Q.out.2.2.2
 refine ⟨rfl,Q.out.1.kept r3 (by simp; omega),Q.out.2.1.kept r3 (by simp),r2,k3.fresh r3 (by simp; omega),by rw [r4]; simp⟩
def qyj (l:List Im) (width:Int) (w:World) (e:Ending) (w':World):Prop :=
 ∃ v,e=.returned (.tuple #[v,.int .i64 (fillL l width).2])/\shLn.Owns w' w.heap.size v (fillL l width).1/\Below w.heap.size w w'
theorem Shp.Owns.slice_ {α:Type} {S:Shp α} {w:World} {base:Nat} {v:Value} {L:List α} (h:S.Owns w base v L):∃ A n c,v=.slice A n c:=by
 obtain ⟨A,c,e,_⟩:=h.in_
 exact ⟨A,_,c,e⟩
theorem Blk.putObj {W:World} {g D:Nat} {t:TypeId} {cs:Array Value} {o o':Obj} (h:Blk W g t cs) (hD:W.heap[D]?=some o) (ho:o.isCells=false):Blk (W.putObj D o') g t cs:=by
 refine (World.putObj_heap_other (fun e=>?_)).trans h
 subst e
 rw [show W.heap[g]?=_ from h] at hD
 cases hD
 cases ho
theorem qgg (l:List Im) (width:Int):∀ f a,(qdc l width f a).length<=f
 | 0,_=>Nat.le_refl _
 | f+1,a=>by
  rw [qtf]
  split
  ·rw [List.length_cons]; have:=qgg l width f (pass1 l 2 (passK l 1 (lineX l width (passK l 1 a)).1)); omega
  ·split
   ·rw [List.length_cons]; have:=qgg l width f (pass1 l 2 (lineX l width (passK l 1 a)).1); omega
   ·simp
theorem q8q {l:List Im} {width:Int} (ha:¬ (2048 < l.length\/width < 0)) (hk:l.any (fun x=>decide (3 < x.1))=true):fillL l width=([],2):=(if_neg ha).trans (if_pos hk)
theorem qxq {l:List Im} {width:Int} (ha:¬ (2048 < l.length\/width < 0)) (hk:l.any (fun x=>decide (3 < x.1))=false) (hf:(fit width && l.all (fun x=>fit x.2))=false):fillL l width=([],10):=by
 refine (if_neg ha).trans ((if_neg (by rw [hk]; decide)).trans (if_pos fun h=>?_))
 rw [h.1,h.2] at hf
 cases hf
theorem qwr {l:List Im} {width:Int} (ha:¬ (2048 < l.length\/width < 0)) (hk:l.any (fun x=>decide (3 < x.1))=false) (hf:(fit width && l.all (fun x=>fit x.2))=true) :
  fillL l width=if (eachR l width).all (fun x=>fit x.2.2)=true then (eachR l width,0) else ([],10):=by
 rw [Bool.and_eq_true] at hf
 exact (if_neg ha).trans ((if_neg (by rw [hk]; decide)).trans (if_neg fun h=>h hf))
def FlI (s bl n0:Nat) (w:World) (wr:List Nat) (pre:List (Nat×Nat×Int)) (W:World):Prop :=
 ∃ v,wr=s :: (s+1) :: bl :: v.ownBlock.toList/\Boxed W bl 194 v/\shLn.Owns W n0 v pre/\Below s w W/\Blk W s 194 #[.slice none 0 0]/\Blk W (s+1) 37 #[.int .i64 0]/\n0<=W.heap.size/\pre.all (fun x=>fit x.2.2)=true
def FlX (l:List Im) (width:Int) (s:Nat) (w:World) (c:Code) (W:World):Prop :=
 c=.ret/\Below s w W/\Blk W s 194 #[.slice none 0 0]/\Blk W (s+1) 37 #[.int .i64 10]/\(eachR l width).all (fun x=>fit x.2.2)=false/\s+2<=W.heap.size
def FlA (s bl n0:Nat) (x:Nat×Nat×Int) (a':Act) (W:World):Prop :=
 ∃ Bx,Blk W Bx 217 #[.int .i64 x.1,.int .i64 x.2.1,.int .i64 x.2.2]/\n0<=Bx/\∃ u0 u1 u2 u3 u6 u7 u8 u10 u12 u13 u14 u15 u16 u17 u18 u19 u20 u21 u22 u23 u24 u25 u26 u27 u28 u29 u30 u31 u32 u33 u34 u35 u36 u37 u38 u39 u40 u41 u42 u43 u44 u45 u46 u47 u48 u49 u50 u51 u52 u53 u54 u55 u56 u57:Value,a'={ tmps:=#[u0,u1,u2,u3,.pointer (some ⟨s,0,none⟩),.pointer (some ⟨s+1,0,none⟩),u6,u7,u8,.pointer (some ⟨bl,0,none⟩),u10,.pointer (some ⟨Bx,0,none⟩),u12,u13,u14,u15,u16,u17,u18,u19,u20,u21,u22,u23,u24,u25,u26,u27,u28,u29,u30,u31,u32,u33,u34,u35,u36,u37,u38,u39,u40,u41,u42,u43,u44,u45,u46,u47,u48,u49,u50,u51,u52,u53,u54,u55,u56,u57],defers:=[] }
def FlR (l:List Im) (width:Int) (w:World) (ok i:Value) (wr:World):Prop :=
 ∃ k:Nat,k<=l.length/\i=.int .i64 k/\ok=.bool (fit width && (l.take k).all (fun x=>fit x.2))/\(l.take k).any (fun x=>decide (3 < x.1))=false/\Below w.heap.size w wr /\
  Blk wr w.heap.size 194 #[.slice none 0 0]/\Blk wr (w.heap.size+1) 37 #[.int .i64 0]/\w.heap.size+2<=wr.heap.size
set_option linter.unusedSimpArgs false
set_option linter.unusedVariables false
set_option maxRecDepth 100000 in
set_option maxHeartbeats 4000000 in
theorem qpq (l:List Im) (width:Int) (v:Value) (B:Nat) (w:World) (h:Ims w B v l) (hB:B<=w.heap.size) (hm:l.length < 1000000) :
  Calls Tryz.prog 122 #[v,.int .i64 width] w (qyj l width w):=by
 refine callsIn_wide.1 (qef (n:=6) Tryz.func122 rfl ?_)
 simp only [Tryz.ntmps122,List.size_toArray,List.length_cons,List.length_nil,Nat.reduceAdd,Nat.reduceSub,Array.replicate_succ,Array.replicate_zero,List.push_toArray,List.append_toArray,List.nil_append,List.cons_append]
 by_cases ha:2048 < l.length\/width < 0
 ·have HR:=Lib.hid (show fillL l width=([],2) from if_pos ha)
  have h3:2048 < l.length\/(¬ 2048 < l.length/\width < 0):=by omega
  obtain ⟨A,c,rfl,hc,hf⟩:=h
  clear hf ha
  rcases h3 with g1 | ⟨g1,g2⟩
  all_goals
   repeat (refine qea ?_)
   refine qda (n:=6) (wpIn_wide.2 ?_)
   go_wp2_with fail
   repeat (refine qea ?_)
   refine qda (n:=6) (wpIn_wide.2 ?_)
   go_wp2_with fail
   repeat (refine qea ?_)
   refine qda (n:=6) (wpIn_wide.2 ?_)
   go_wp2_with fail
   refine ⟨_,q6d (u:=.slice none 0 0) (v:=.int .i64 2) rfl _ _ rfl rfl (by go_simp) (by go_simp),_,by rw [HR.out],by rw [HR.out]; exact Shp.Owns.nil _ _,((Below.refl _ _).alloc (Nat.le_refl _) _).alloc (by simp) _⟩
 ·have n1:¬ 2048 < l.length:=fun h=>ha (.inl h)
  have n2:¬ width < 0:=fun h=>ha (.inr h)
  have HA:=Lib.hid ha
  clear ha
  have hf1:=fun W=>qmc width 3 W
  have hI:=h
  obtain ⟨A,c,hv,hc,hf⟩:=h
  subst hv
  repeat (refine qea ?_)
  refine qda (n:=6) (wpIn_wide.2 ?_)
  go_wp2_with fail
  repeat (refine qea ?_)
  refine qda (n:=6) (wpIn_wide.2 ?_)
  go_wp2_with fail
  repeat (refine qea ?_)
  refine qda (n:=6) (wpIn_wide.2 ?_)
  go_wp2_with fail
  repeat (refine qea ?_)
  refine qda (n:=6) (wpIn_wide.2 ?_)
  have b0:=(Blk.new w 194 #[.slice none 0 0]).alloc (.cells #[.int .i64 0] 37)
  have b1:=Blk.new (w.alloc (.cells #[.slice none 0 0] 194)) 37 #[.int .i64 0]
  have hB1:Below w.heap.size w ((w.alloc (.cells #[.slice none 0 0] 194)).alloc (.cells #[.int .i64 0] 37)):=((Below.refl _ _).alloc (Nat.le_refl _) _).alloc (by simp) _
  have hs1:((w.alloc (.cells #[.slice none 0 0] 194)).alloc (.cells #[.int .i64 0] 37)).heap.size=w.heap.size+2:=by simp
  rw [World.size_alloc] at b1
  have HS1:=Lib.hid hs1
  clear hs1
  generalize (w.alloc (.cells #[.slice none 0 0] 194)).alloc (.cells #[.int .i64 0] 37)=w1 at *
  go_wp2_with fail
  refine (hf1 w1).mono ?_
  rintro e w2 ⟨rfl,rfl⟩
  go_wp2_with fail
  repeat (refine qea ?_)
  refine qda (n:=6) (wpIn_wide.2 ?_)
  go_wp2_with fail
  have b0':=b0.alloc (.cells #[.int .i64 width] 3)
  have b1':=b1.alloc (.cells #[.int .i64 width] 3)
  have hB2:=hB1.alloc (by rw [HS1.out]; omega) (.cells #[.int .i64 width] 3)
  have hs2:w.heap.size+2<=(w1.alloc (.cells #[.int .i64 width] 3)).heap.size:=by rw [World.size_alloc,HS1.out]; omega
  generalize w1.alloc (.cells #[.int .i64 width] 3)=w2 at *
  clear b0 b1 hB1 HS1 hf1
  repeat (refine qea ?_)
  refine qda (n:=6) (wpIn_wide.2 ?_)
  go_wp2_with fail
  go_loopw [6,24] (FlR l width w) (fun _ i _=>l.length - (intOf i).toNat)
  case atStart=>exact ⟨0,by omega,rfl,by simp,by simp,hB2,b0',b1',hs2⟩
  case round =>
   obtain ⟨k,hk,rfl,rfl,hany,hBr,c0,c1,hsr⟩:=hrel
   obtain ⟨ok,hok⟩:∃ ok,(fit width && (l.take k).all (fun x=>fit x.2))=ok:=⟨_,rfl⟩
   rw [hok]
   by_cases hlt:k < l.length
   ·obtain ⟨ad,rfl,hbk,hat⟩:=hf (by omega)
    obtain ⟨k0,k1⟩:=(hat k hlt).below (hBr.mono hB) (by rw [qac]; omega)
    have HT:=Lib.hid (List.take_succ_eq_append_getElem hlt)
    have HM:=Lib.hid (List.getElem_mem hlt)
    generalize l[k]=x at *
    obtain ⟨xk,xw⟩:=x
    simp only at k0 k1
    clear hat hf
    by_cases hkd:3 < xk
    ·have HR:=Lib.hid (q8q HA.out (List.any_eq_true.2 ⟨_,HM.out,decide_eq_true hkd⟩))
     have hkz:(3:Int) < (xk:Int):=by omega
     have q0:=(c0.alloc (.cells #[.int .u8 xk,.int .i64 xw] 187)).frozen
     have q1:=(c1.alloc (.cells #[.int .u8 xk,.int .i64 xw] 187)).frozen
     have q2:=(c0.alloc (.cells #[.int .u8 xk,.int .i64 xw] 187)).cell 0
     have q3:=(c1.alloc (.cells #[.int .u8 xk,.int .i64 xw] 187)).cell 0
     go_wp2_with fail
     have hbb:Below w.heap.size w (((wr.alloc (.cells #[.int .u8 xk,.int .i64 xw] 187)).setCell ⟨w.heap.size,0,none⟩ (.slice none 0 0)).setCell ⟨w.heap.size+1,0,none⟩ (.int .i64 2)):=((hBr.alloc (by omega) _).setCell (p:=⟨w.heap.size,0,none⟩) (Nat.le_refl _) _).setCell (p:=⟨w.heap.size+1,0,none⟩) (Nat.le_succ _) _
     refine ⟨_,q6d (u:=.slice none 0 0) (v:=.int .i64 2) rfl _ _ rfl rfl (by go_simp) (by go_simp),_,by rw [HR.out],by rw [HR.out]; exact Shp.Owns.nil _ _,hbb⟩
    ·have hkz:¬ (3:Int) < (xk:Int):=by omega
     have hany':(l.take (k+1)).any (fun x=>decide (3 < x.1))=false:=by rw [HT.out,List.any_append,hany]; simp [hkd]
     have hall':(fit width && (l.take (k+1)).all (fun x=>fit x.2))=(ok && fit xw):=by rw [HT.out,List.all_append,<-Bool.and_assoc,hok]; simp
     have hf1:=qmc xw 3 (wr.alloc (.cells #[.int .u8 xk,.int .i64 xw] 187))
     rw [World.size_alloc] at hf1
     have H1:=Lib.hid hany'
     have H2:=Lib.hid hall'
     clear hany hany' hall' hok
     cases ok with
     | false =>
      go_wp2_with fail
      refine ⟨⟨k+1,by omega,by go_num,by rw [H2.out]; rfl,H1.out,hBr.alloc (by omega) _,c0.alloc _,c1.alloc _,by simp; omega⟩,by simp [intOf]; omega⟩
     | true =>
      go_wp2_with fail
      refine hf1.mono ?_
      rintro e w3 ⟨rfl,rfl⟩
      go_wp2_with fail
      refine ⟨⟨k+1,by omega,by go_num,by rw [H2.out]; rfl,H1.out,(hBr.alloc (by omega) _).alloc (by simp; omega) _,(c0.alloc _).alloc _,(c1.alloc _).alloc _,by simp; omega⟩,by simp [intOf]; omega⟩
   ·obtain rfl:k=l.length:=by omega
    rw [List.take_length] at hok hany
    have d0:=c0.cell 0
    have d1:=c1.cell 0
    have d2:=c0.frozen
    have d3:=c1.frozen
    clear hf
    cases ok with
    | false =>
     have HR:=Lib.hid (qxq HA.out hany hok)
     go_wp2_with fail
     repeat (refine qea ?_)
     refine qda (n:=6) (wpIn_wide.2 ?_)
     go_wp2_with fail
     repeat (refine qea ?_)
     refine qda (n:=6) (wpIn_wide.2 ?_)
     go_wp2_with fail
     have hbb:Below w.heap.size w ((wr.setCell ⟨w.heap.size,0,none⟩ (.slice none 0 0)).setCell ⟨w.heap.size+1,0,none⟩ (.int .i64 10)):=(hBr.setCell (p:=⟨w.heap.size,0,none⟩) (Nat.le_refl _) _).setCell (p:=⟨w.heap.size+1,0,none⟩) (Nat.le_succ _) _
     refine ⟨_,q6d (u:=.slice none 0 0) (v:=.int .i64 10) rfl _ _ rfl rfl (by go_simp) (by go_simp),_,by rw [HR.out],by rw [HR.out]; exact Shp.Owns.nil _ _,hbb⟩
    | true =>
     have HR:=Lib.hid (qwr HA.out hany hok)
     go_wp2_with fail
     repeat (refine qea ?_)
     refine qda (n:=6) (wpIn_wide.2 ?_)
     go_wp2_with fail
     repeat (refine qea ?_)
     refine qda (n:=6) (wpIn_wide.2 ?_)
     go_wp2_with fail
     repeat (refine qea ?_)
     refine qda (n:=6) (wpIn_wide.2 ?_)
     go_wp2_with fail
     repeat (refine qea ?_)
     refine qda (n:=6) (wpIn_wide.2 ?_)
     go_wp2_with fail
     have hB5:Below w.heap.size w ((wr.alloc (.cells #[.slice none 0 0] 194)).alloc (.cells #[.slice A l.length c,.int .i64 0] 244)):=(hBr.alloc (by omega) _).alloc (by simp; omega) _
     have f0:=(c0.alloc (.cells #[.slice none 0 0] 194)).alloc (.cells #[.slice A l.length c,.int .i64 0] 244)
     have f1:=(c1.alloc (.cells #[.slice none 0 0] 194)).alloc (.cells #[.slice A l.length c,.int .i64 0] 244)
     have f2:=(Boxed.new wr 194 (.slice none 0 0)).alloc (.cells #[.slice A l.length c,.int .i64 0] 244)
     have f3:=Blk.new (wr.alloc (.cells #[.slice none 0 0] 194)) 244 #[.slice A l.length c,.int .i64 0]
     rw [World.size_alloc] at f3
     have hs5:((wr.alloc (.cells #[.slice none 0 0] 194)).alloc (.cells #[.slice A l.length c,.int .i64 0] 244)).heap.size=wr.heap.size+2:=by simp
     generalize (wr.alloc (.cells #[.slice none 0 0] 194)).alloc (.cells #[.slice A l.length c,.int .i64 0] 244)=w5 at *
     obtain ⟨bl,hbl⟩:∃ bl,wr.heap.size=bl:=⟨_,rfl⟩
     rw [hbl] at f2 f3 hs5 hsr
     have hec:=qvq (bl+1) width w5
     rw [hs5] at hec
     have HS5:=Lib.hid hs5
     have HBL:=Lib.hid hbl
     simp only [hbl]
     clear hs5 hbl
     repeat (refine qea ?_)
     refine qda (n:=6) (wpIn_wide.2 ?_)
     go_wp2_with fail
     refine hec.mono ?_
     rintro e w6 ⟨rfl,g4,g5,g6,k6,hs6⟩
     have hB6:Below w.heap.size w w6:=hB5.trans (k6.to_below (by rw [HS5.out]; omega) (by simp))
     have g0:=f0.kept k6 (by simp)
     have g1:=f1.kept k6 (by simp)
     have g2:Boxed w6 bl 194 (.slice none 0 0):=Blk.kept (g:=bl) (cs:=#[.slice none 0 0]) f2 k6 (by simp)
     have g3:=f3.kept k6 (by simp)
     clear k6
     have hI6:=hI.below (hB6.mono hB)
     clear hec f0 f1 f2 f3 c0 c1 d0 d1 d2 d3
     go_wp2_with fail
     refine qwd ?_
     refine qdh (f:=122) ⟨_,Tryz.func122⟩ (n:=5) (gf:=177) (lb:=#[.pointer (some ⟨bl+2+1+1,0,none⟩),.pointer (some ⟨bl+2,0,none⟩),.pointer (some ⟨bl+2+1,0,none⟩)]) rfl (enters_of Tryz.func177 (by kernel_rfl) rfl)
      (qlt l width (.slice A l.length c) B (bl+1) (bl+2+1+1) (bl+2) (bl+2+1) w6 ⟨g3,g6,g4,g5,hI6⟩ (by omega) (by omega) (by omega) (by omega) hm) (Below.refl _ _) (fun _=>rfl) [w.heap.size,w.heap.size+1,bl] ?hwr (FlI w.heap.size bl (bl+5) w) (FlX l width w.heap.size w) (fun _ _=>False)
      ?hI ?hIx (fun _ _ _ h _=>h) (by simp; omega) ?h0 (FlA w.heap.size bl (bl+5)) ?hAx ?assign ?body ?done ?stop (fun _ _ _ _ h _=>h.elim)
     case hwr =>
      intro g hg
      unfold qid
      simp only [List.mem_cons,List.not_mem_nil,or_false] at hg
      rcases hg with rfl | rfl | rfl <;> omega
     case hI =>
      rintro wr pre A' B' ⟨v,h1,h2,h3,h4,h5,h6,h7,h8⟩ hi
      have hb:=hi.below (s:=w.heap.size) (by omega) (by omega) (by simp; omega)
      refine ⟨v,h1,?_,h3.is hi (fun g hg=>?_),h4.trans hb,h5.is hi (by simp; omega),h6.is hi (by simp; omega),Nat.le_trans h7 hi.size,h8⟩
      ·exact Blk.is (g:=bl) (cs:=#[v]) h2 hi (by simp)
      ·have:=(h3.lt g hg).1
       simp
       omega
     case hIx =>
      rintro c' A' B' ⟨h1,h2,h3,h4,h5,h6⟩ hi
      have hb:=hi.below (s:=w.heap.size) (by omega) (by omega) (by simp; omega)
      exact ⟨h1,h2.trans hb,h3.is hi (by simp; omega),h4.is hi (by simp; omega),h5,Nat.le_trans h6 hi.size⟩
     case h0=>exact ⟨.slice none 0 0,rfl,g2,Shp.Owns.nil _ _,hB6,g0,g1,by omega,rfl⟩
     case hAx =>
      rintro x a' A' B' ⟨Bx,h1,h2,h3⟩ hi
      exact ⟨Bx,h1.is hi (by simp),h2,h3⟩
     case assign =>
      rintro lp wr pre x W K ⟨v,h1,h2,h3,h4,h5,h6,h7,h8⟩ hK
      unfold ln3V
      gi_wp2
      exact hK _ _ ((Kept.refl [] W).alloc _) ⟨W.heap.size,Blk.new _ _ _,h7,_,_,_,_,_,_,_,_,_,_,_,_,_,_,_,_,_,_,_,_,_,_,_,_,_,_,_,_,_,_,_,_,_,_,_,_,_,_,_,_,_,_,_,_,_,_,_,_,_,_,_,_,_,_,rfl⟩
     case body =>
      rintro lp wr pre x a' W hl hlp hwl ⟨v,rfl,h2,h3,h4,h5,h6,h7,h8⟩ ⟨Bx,hbx,hn0,u0,u1,u2,u3,u6,u7,u8,u10,u12,u13,u14,u15,u16,u17,u18,u19,u20,u21,u22,u23,u24,u25,u26,u27,u28,u29,u30,u31,u32,u33,u34,u35,u36,u37,u38,u39,u40,u41,u42,u43,u44,u45,u46,u47,u48,u49,u50,u51,u52,u53,u54,u55,u56,u57,rfl⟩ hpre
      obtain ⟨xa,xb,xw⟩:=x
      simp only at hbx
      have hpl:pre.length+1<=1000000000:=by
       have q1:=hpre.length_le
       have q2:(eachR l width).length<=l.length+1:=qgg l width (l.length+1) 0
       rw [List.length_append] at q1
       simp only [List.length_cons,List.length_nil] at q1
       omega
      have e0:=hbx.cell 0
      have e1:=hbx.cell 1
      have e2:=hbx.cell 2
      simp only [List.getElem?_toArray,List.getElem?_cons_zero,List.getElem?_cons_succ] at e0 e1 e2
      have hf1:=CallsIn.inRound lp (callsIn_wide (n:=4).2 (qmc xw 3 W))
      have hxm:(xa,xb,xw) ∈ eachR l width:=by
       obtain ⟨r,hr⟩:=hpre
       rw [<-hr]
       simp
      cases hfx:fit xw with
      | false =>
       rw [hfx] at hf1
       have hall:(eachR l width).all (fun x=>fit x.2.2)=false:=List.all_eq_false.2 ⟨_,hxm,by simp [hfx]⟩
       gi_wp2
       refine ⟨trivial,hf1.mono ?_⟩
       rintro e w7 ⟨rfl,rfl⟩
       have kd:Kept [] W (W.alloc (.cells #[.int .i64 xw] 3)):=(Kept.refl [] W).alloc _
       have h5':=h5.alloc (.cells #[.int .i64 xw] 3)
       have h6':=h6.alloc (.cells #[.int .i64 xw] 3)
       clear e0 e1 e2
       generalize W.alloc (.cells #[.int .i64 xw] 3)=W0 at *
       have q0:=h5'.cell 0
       have q1:=h6'.cell 0
       have q2:=h5'.frozen
       have q3:=h6'.frozen
       gi_wp2
       have hkk:Kept (w.heap.size :: (w.heap.size+1) :: bl :: v.ownBlock.toList) W ((W0.setCell ⟨w.heap.size,0,none⟩ (.slice none 0 0)).setCell ⟨w.heap.size+1,0,none⟩ (.int .i64 10)):=((kd.more (by simp)).setCell (p:=⟨w.heap.size,0,none⟩) (by simp) _).setCell (p:=⟨w.heap.size+1,0,none⟩) (by simp) _
       have hbb:Below w.heap.size W ((W0.setCell ⟨w.heap.size,0,none⟩ (.slice none 0 0)).setCell ⟨w.heap.size+1,0,none⟩ (.int .i64 10)):=((kd.to_below (B:=w.heap.size) (by omega) (by simp)).setCell (p:=⟨w.heap.size,0,none⟩) (Nat.le_refl _) _).setCell (p:=⟨w.heap.size+1,0,none⟩) (Nat.le_succ _) _
       have t0:=(h5'.set_ 0 (.slice none 0 0)).far (p:=⟨w.heap.size+1,0,none⟩) (by show w.heap.size≠w.heap.size+1; omega) (.int .i64 10)
       have t1:=(h6'.far (p:=⟨w.heap.size,0,none⟩) (by show w.heap.size+1≠w.heap.size; omega) (.slice none 0 0)).set_ 0 (.int .i64 10)
       simp only [zA,zB] at t0 t1
       exact ⟨hkk,rfl,h4.trans hbb,t0,t1,hall,by have:=hkk.size; omega⟩
      | true =>
       rw [hfx] at hf1
       gi_wp2
       refine ⟨trivial,hf1.mono ?_⟩
       rintro e w7 ⟨rfl,rfl⟩
       have kd:Kept [] W (W.alloc (.cells #[.int .i64 xw] 3)):=(Kept.refl [] W).alloc _
       have h2':Boxed (W.alloc (.cells #[.int .i64 xw] 3)) bl 194 v:=h2.alloc _
       have h3':shLn.Owns (W.alloc (.cells #[.int .i64 xw] 3)) (bl+5) v pre:=h3.alloc _
       have hbx':=hbx.alloc (.cells #[.int .i64 xw] 3)
       have h7':bl+5<=(W.alloc (.cells #[.int .i64 xw] 3)).heap.size:=by rw [World.size_alloc]; omega
       have HSD:=Lib.hid (World.size_alloc W (.cells #[.int .i64 xw] 3))
       clear e0 e1 e2
       generalize W.alloc (.cells #[.int .i64 xw] 3)=W0 at *
       have e0:=hbx'.cell 0
       have e1:=hbx'.cell 1
       have e2:=hbx'.cell 2
       simp only [List.getElem?_toArray,List.getElem?_cons_zero,List.getElem?_cons_succ] at e0 e1 e2
       have c0:=h2'.cell
       have c1:=h2'.frozen
       gi_wp2_with (refine q4r qnv _ (xa,xb,xw) rfl _ _ rfl rfl h3' rfl hpl h7' ?_; intro v' w8 hown' hgrow hloc; obtain ⟨A1,n1,c1',rfl⟩:=hown'.slice_; have h2b:=(h2'.alloc (.cells (shLn.enc (xa,xb,xw)).toArray shLn.t)).kept hgrow (fun e=>by have:=(h3'.lt bl e.symm).1; omega); have c2:=h2b.cell; have c3:=h2b.frozen)
       obtain ⟨r1,r2⟩:=qji (u:=.slice A1 n1 c1') hgrow hloc (fun k hk=>(hown'.lt k hk).2) h2'.lt
       have r1':Kept (w.heap.size :: (w.heap.size+1) :: bl :: v.ownBlock.toList) W0 (w8.setCell ⟨bl,0,none⟩ (.slice A1 n1 c1')):=r1.more fun g hg=>List.mem_cons_of_mem _ (List.mem_cons_of_mem _ hg)
       have hkw:Kept (w.heap.size :: (w.heap.size+1) :: bl :: v.ownBlock.toList) W (w8.setCell ⟨bl,0,none⟩ (.slice A1 n1 c1')):=(kd.more (by simp)).trans r1'
       have hk0:Kept (bl :: v.ownBlock.toList) W (w8.setCell ⟨bl,0,none⟩ (.slice A1 n1 c1')):=(kd.more (by simp)).trans r1
       have hwl2:∀ g ∈ bl :: v.ownBlock.toList,w.heap.size+2<=g:=fun g hg=>by
        rcases List.mem_cons.1 hg with rfl | hg
        ·exact hsr
        ·have:=(h3.lt g (by simpa using hg)).1
         omega
       have hb2:=hk0.to_below (B:=w.heap.size+2) (by omega) hwl2
       refine ⟨w.heap.size :: (w.heap.size+1) :: bl :: (Value.slice A1 n1 c1').ownBlock.toList,⟨_,rfl,h2b.set _,?_,h4.trans (hb2.mono (by omega)),h5.below hb2 (by omega),h6.below hb2 (by omega),Nat.le_trans h7 hkw.size,by rw [List.all_append,h8]; simp [hfx]⟩,hkw,fun g hg=>?_⟩
       ·exact hown'.kept ((Kept.refl [bl] w8).setCell (p:=⟨bl,0,none⟩) (by simp) _) fun g hg=>by
         have:=(hown'.lt g hg).1
         simp
         omega
       ·have hsz:=hkw.size
        rcases List.mem_cons.1 hg with rfl | hg
        ·exact ⟨.inl List.mem_cons_self,by omega⟩
        ·rcases List.mem_cons.1 hg with rfl | hg
         ·exact ⟨.inl (List.mem_cons_of_mem _ List.mem_cons_self),by omega⟩
         ·obtain ⟨q1,q2⟩:=r2 g hg
          exact ⟨q1.imp (fun h=>List.mem_cons_of_mem _ (List.mem_cons_of_mem _ h)) fun h=>by have:=HSD.out; omega,q2⟩
     case done =>
      rintro D wr W hD ⟨v,rfl,h2,h3,h4,h5,h6,h7,h8⟩ hK
      rw [if_pos h8] at HR
      obtain ⟨A1,n1,c1',rfl⟩:=h3.slice_
      simp only [Exit.inBlock,Exit.then]
      refine qda (n:=6) (wpIn_wide.2 ?_)
      have c0:=h2.cell
      have d0:=h5.cell 0
      have d1:=h6.cell 0
      have d2:=h5.frozen
      have d3:=h6.frozen
      go_wp2_with fail
      have hDs:w.heap.size+2<=D:=by omega
      have hK2:((W.setCell ⟨w.heap.size,0,none⟩ (.slice A1 n1 c1')).setCell ⟨w.heap.size+1,0,none⟩ (.int .i64 0)).heap[D]?=some (.deferred (some [])) :=
       (Below.heap_setCell _ ⟨w.heap.size+1,0,none⟩ _ D (by show D≠w.heap.size+1; omega)).trans ((Below.heap_setCell _ ⟨w.heap.size,0,none⟩ _ D (by show D≠w.heap.size; omega)).trans hK)
      have t0:=(h5.set_ 0 (.slice A1 n1 c1')).far (p:=⟨w.heap.size+1,0,none⟩) (by show w.heap.size≠w.heap.size+1; omega) (.int .i64 0)
      have t1:=(h6.far (p:=⟨w.heap.size,0,none⟩) (by show w.heap.size+1≠w.heap.size; omega) (.slice A1 n1 c1')).set_ 0 (.int .i64 0)
      simp only [zA,zB] at t0 t1
      have hbb:Below w.heap.size w ((W.setCell ⟨w.heap.size,0,none⟩ (.slice A1 n1 c1')).setCell ⟨w.heap.size+1,0,none⟩ (.int .i64 0)):=(h4.setCell (p:=⟨w.heap.size,0,none⟩) (Nat.le_refl _) _).setCell (p:=⟨w.heap.size+1,0,none⟩) (Nat.le_succ _) _
      have t3:shLn.Owns ((W.setCell ⟨w.heap.size,0,none⟩ (.slice A1 n1 c1')).setCell ⟨w.heap.size+1,0,none⟩ (.int .i64 0)) (bl+5) (.slice A1 n1 c1') (eachR l width) :=
       h3.kept (((Kept.refl [w.heap.size,w.heap.size+1] W).setCell (p:=⟨w.heap.size,0,none⟩) (by simp) _).setCell (p:=⟨w.heap.size+1,0,none⟩) (by simp) _) fun g hg=>by
        have:=(h3.lt g hg).1
        simp
        omega
      refine ⟨by simp,.inl ⟨_,_,rfl,run_takeDeferred hK2,?_⟩⟩
      generalize (W.setCell ⟨w.heap.size,0,none⟩ (.slice A1 n1 c1')).setCell ⟨w.heap.size+1,0,none⟩ (.int .i64 0)=W9 at *
      have u0:=(t0.putObj (o':=.deferred none) hK2 rfl).cell 0
      have u1:=(t1.putObj (o':=.deferred none) hK2 rfl).cell 0
      simp only [List.getElem?_toArray,List.getElem?_cons_zero] at u0 u1
      refine ⟨_,q6d (u:=.slice A1 n1 c1') (v:=.int .i64 0) rfl _ _ rfl rfl (by go_simp) (by go_simp),_,by rw [HR.out],?_,hbb.trans (belowK_b (w:=w) (Nat.le_refl _) W9 D _ _ (by omega) hK2 rfl rfl)⟩
      rw [HR.out]
      exact Shp.Owns.base_le (ownsRow_putObj t3 _ hK2 rfl) (by omega)
     case stop =>
      rintro D c' W hD ⟨rfl,h2,h3,h4,h5,h6⟩ hK
      have HR':fillL l width=([],10):=by rw [HR.out,if_neg (by rw [h5]; decide)]
      have HR':=Lib.hid HR'
      simp only [Exit.inBlock,Exit.then]
      refine wpIn_wide.2 ?_
      go_wp2_with fail
      refine ⟨by simp,.inl ⟨_,_,rfl,run_takeDeferred hK,?_⟩⟩
      have u0:=(h3.putObj (o':=.deferred none) hK rfl).cell 0
      have u1:=(h4.putObj (o':=.deferred none) hK rfl).cell 0
      simp only [List.getElem?_toArray,List.getElem?_cons_zero] at u0 u1
      refine ⟨_,q6d (u:=.slice none 0 0) (v:=.int .i64 10) rfl _ _ rfl rfl (by go_simp) (by go_simp),_,by rw [HR'.out],by rw [HR'.out]; exact Shp.Owns.nil _ _,h2.trans (belowK_b (w:=w) (Nat.le_refl _) W D _ _ (by omega) hK rfl rfl)⟩
end Go.Proofs.YtlnekijhbnlclaaGreatDoor
