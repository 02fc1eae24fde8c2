/-
  Walks: package width: Of (written by gen_of.py).
-/
import Derived.Test.YtlnekijhbnlclaaGreatDoorInline
import Derived.Test.YtlnekijhbnlclaaGreatDoorWid
set_option linter.unusedSimpArgs false
set_option linter.unusedVariables false
namespace Go.Proofs.YtlnekijhbnlclaaGreatDoor
open Go.RowKit Go.Shelf
theorem qqx (s:St) (of:Int) {x y:Int×Int×Int} {u:Int×Bool×Int} {l r:Int×Bool×Int} (h1:qha s=x) (h2:qdd s of=u) (h3:qed s of=y) (h4:qsa s.mL of=l) (h5:qsa s.mR of=r) :
  ofR s of=if x.2.2≠0 then (ak0,x.2.2) else if u.2.2≠0 then (ak0,u.2.2) else if y.2.2≠0 then (ak0,y.2.2) else if l.2.2≠0 then (ak0,l.2.2) else if r.2.2≠0 then (ak0,r.2.2)
   else (⟨u.2.1,u.1,y.1,y.2.1,l.1,r.1,!l.2.1,!r.2.1,x.1⟩,0):=by
 subst h1 h2 h3 h4 h5
 rfl
theorem ix5_0 (a b c d e:Int) (W:World):(Instr.index 130 (.agg #[.int .i64 a,.int .i64 b,.int .i64 c,.int .i64 d,.int .i64 e]) (.int .i64 0)).run Tryz.prog W=.ok (.int .i64 a) W:=by kernel_rfl
theorem ix5_1 (a b c d e:Int) (W:World):(Instr.index 130 (.agg #[.int .i64 a,.int .i64 b,.int .i64 c,.int .i64 d,.int .i64 e]) (.int .i64 1)).run Tryz.prog W=.ok (.int .i64 b) W:=by kernel_rfl
theorem ix5_2 (a b c d e:Int) (W:World):(Instr.index 130 (.agg #[.int .i64 a,.int .i64 b,.int .i64 c,.int .i64 d,.int .i64 e]) (.int .i64 2)).run Tryz.prog W=.ok (.int .i64 c) W:=by kernel_rfl
theorem ix5_3 (a b c d e:Int) (W:World):(Instr.index 130 (.agg #[.int .i64 a,.int .i64 b,.int .i64 c,.int .i64 d,.int .i64 e]) (.int .i64 3)).run Tryz.prog W=.ok (.int .i64 d) W:=by kernel_rfl
theorem ix5_4 (a b c d e:Int) (W:World):(Instr.index 130 (.agg #[.int .i64 a,.int .i64 b,.int .i64 c,.int .i64 d,.int .i64 e]) (.int .i64 4)).run Tryz.prog W=.ok (.int .i64 e) W:=by kernel_rfl
theorem qle {P:Program} {fn:Func} {p u:Tmp} {ty:TypeId} (h:fn.results=#[.cell p ty,.tmp u]) (tmps:Array Value) (w:World) (g:Nat) (t:TypeId) (cs:List Value) (d:TypeDesc)
  (hp:tmps.getD p undef=.pointer (some ⟨g,0,none⟩)) (hg:Blk w g t cs.toArray) (hu:P.underlying ty=some d) (hd:d.isRow=true) (hi:(P.info? ty).map (·.size)=some cs.length) :
  (results fn tmps).run P w=.ok (.tuple #[.agg cs.toArray,tmps.getD u undef]) w:=by
 rw [results_cell_tmp h,hp]
 have h1:=run_loadVar_mid (P:=P) w g 0 ty cs d (qwl hg) hu hd hi
 simp only [asAddr,Sem.run_pure,Result.andThen_ok,h1]
def qgo (r:Ak×Int) (w:World) (e:Ending) (w':World):Prop:=e=.returned (.tuple #[akV r.1,.int .i64 r.2])/\Below w.heap.size w w'
set_option maxRecDepth 100000 in
set_option maxHeartbeats 8000000 in
theorem qwt (s:St) (of:Int) (w:World):Calls Tryz.prog 61 #[.agg (stC s).toArray,.int .i64 of] w (qgo (ofR s of) w):=by
 have h1:=fun W=>q1d s W
 have h2:=fun W=>qlu s of W
 have h3:=fun W=>qqv s of W
 have h4:=fun W=>qaf s.mL.1 s.mL.2 of W
 have h5:=fun W=>qaf s.mR.1 s.mR.2 of W
 obtain ⟨x,hx⟩:∃ x,qha s=x:=⟨_,rfl⟩
 obtain ⟨u,hu⟩:∃ x,qdd s of=x:=⟨_,rfl⟩
 obtain ⟨y,hy⟩:∃ x,qed s of=x:=⟨_,rfl⟩
 obtain ⟨l,hl⟩:∃ x,qsa (s.mL.1,s.mL.2) of=x:=⟨_,rfl⟩
 obtain ⟨r,hr⟩:∃ x,qsa (s.mR.1,s.mR.2) of=x:=⟨_,rfl⟩
 have HO:=Lib.hid (qqx s of hx hu hy hl hr)
 simp only [hx,hu,hy,hl,hr] at h1 h2 h3 h4 h5
 clear hx hu hy hl hr
 obtain ⟨x1,x2,x3⟩:=x
 obtain ⟨u1,u2,u3⟩:=u
 obtain ⟨y1,y2,y3⟩:=y
 obtain ⟨l1,l2,l3⟩:=l
 obtain ⟨r1,r2,r3⟩:=r
 unfold Res3 at h2 h4 h5
 unfold Num3 at h3
 simp only at h1 h2 h3 h4 h5 HO
 go_enter Tryz.func61,Tryz.ntmps61
 go_upto_region 4 with fail
 change Code.wp _ _ _ _ ((((w.alloc (.cells (stC s).toArray 33)).alloc (.cells #[.bool false,.int .i64 0,.int .i64 0,.int .i64 0,.int .i64 0,.int .i64 0,.bool false,.bool false,.int .i64 0] 76)).alloc (.cells #[.bool false,.int .i64 0,.int .i64 0,.int .i64 0,.int .i64 0,.int .i64 0,.bool false,.bool false,.int .i64 0] 76)).alloc (.cells #[.int .i64 0,.int .i64 0,.int .i64 0,.int .i64 0,.int .i64 0] 130))
 have hB:Below w.heap.size w ((((w.alloc (.cells (stC s).toArray 33)).alloc (.cells #[.bool false,.int .i64 0,.int .i64 0,.int .i64 0,.int .i64 0,.int .i64 0,.bool false,.bool false,.int .i64 0] 76)).alloc (.cells #[.bool false,.int .i64 0,.int .i64 0,.int .i64 0,.int .i64 0,.int .i64 0,.bool false,.bool false,.int .i64 0] 76)).alloc (.cells #[.int .i64 0,.int .i64 0,.int .i64 0,.int .i64 0,.int .i64 0] 130)):=((((Below.refl _ w).alloc (Nat.le_refl _) _).alloc (by simp) _).alloc (by simp; omega) _).alloc (by simp; omega) _
 have G0:=(((Blk.new w 33 (stC s).toArray).alloc (.cells #[.bool false,.int .i64 0,.int .i64 0,.int .i64 0,.int .i64 0,.int .i64 0,.bool false,.bool false,.int .i64 0] 76)).alloc (.cells #[.bool false,.int .i64 0,.int .i64 0,.int .i64 0,.int .i64 0,.int .i64 0,.bool false,.bool false,.int .i64 0] 76)).alloc (.cells #[.int .i64 0,.int .i64 0,.int .i64 0,.int .i64 0,.int .i64 0] 130)
 have G4:=((Blk.new (w.alloc (.cells (stC s).toArray 33)) 76 #[.bool false,.int .i64 0,.int .i64 0,.int .i64 0,.int .i64 0,.int .i64 0,.bool false,.bool false,.int .i64 0]).alloc (.cells #[.bool false,.int .i64 0,.int .i64 0,.int .i64 0,.int .i64 0,.int .i64 0,.bool false,.bool false,.int .i64 0] 76)).alloc (.cells #[.int .i64 0,.int .i64 0,.int .i64 0,.int .i64 0,.int .i64 0] 130)
 have G6:=(Blk.new ((w.alloc (.cells (stC s).toArray 33)).alloc (.cells #[.bool false,.int .i64 0,.int .i64 0,.int .i64 0,.int .i64 0,.int .i64 0,.bool false,.bool false,.int .i64 0] 76)) 76 #[.bool false,.int .i64 0,.int .i64 0,.int .i64 0,.int .i64 0,.int .i64 0,.bool false,.bool false,.int .i64 0]).alloc (.cells #[.int .i64 0,.int .i64 0,.int .i64 0,.int .i64 0,.int .i64 0] 130)
 have G7:=Blk.new (((w.alloc (.cells (stC s).toArray 33)).alloc (.cells #[.bool false,.int .i64 0,.int .i64 0,.int .i64 0,.int .i64 0,.int .i64 0,.bool false,.bool false,.int .i64 0] 76)).alloc (.cells #[.bool false,.int .i64 0,.int .i64 0,.int .i64 0,.int .i64 0,.int .i64 0,.bool false,.bool false,.int .i64 0] 76)) 130 #[.int .i64 0,.int .i64 0,.int .i64 0,.int .i64 0,.int .i64 0]
 simp only [World.size_alloc] at G4 G6 G7
 generalize ((((w.alloc (.cells (stC s).toArray 33)).alloc (.cells #[.bool false,.int .i64 0,.int .i64 0,.int .i64 0,.int .i64 0,.int .i64 0,.bool false,.bool false,.int .i64 0] 76)).alloc (.cells #[.bool false,.int .i64 0,.int .i64 0,.int .i64 0,.int .i64 0,.int .i64 0,.bool false,.bool false,.int .i64 0] 76)).alloc (.cells #[.int .i64 0,.int .i64 0,.int .i64 0,.int .i64 0,.int .i64 0] 130))=v0 at *
 go_wp2_with (refine qwa rfl 33 _ rfl w.heap.size 0 33 (stC s) (stC s) _ rfl G0 (q8a s) Tryz.underlying33 rfl qoa ?_)
 refine (h1 _).mono ?_
 rintro e v1 ⟨rfl,hb⟩
 have N0:=G0.below hb G0.lt
 have N4:=G4.below hb G4.lt
 have N6:=G6.below hb G6.lt
 have N7:=G7.below hb G7.lt
 have NB:=hB.trans (hb.mono hB.size)
 clear G0 G4 G6 G7 hB hb
 have G0:=N0
 have G4:=N4
 have G6:=N6
 have G7:=N7
 have hB:=NB
 clear N0 N4 N6 N7 NB
 have f6:=G6.frozen
 have f7:=G7.frozen
 have c6_8:v1.cell? ⟨w.heap.size+1+1,8,none⟩=some (.int .i64 0):=G6.cell 8
 have c7_0:v1.cell? ⟨w.heap.size+1+1+1,0,none⟩=some (.int .i64 0):=G7.cell 0
 go_upto_region 5 with fail
 clear f6 f7 c6_8 c7_0
 have N6:=((G6).set_ 8 (.int .i64 x1)).far (p:=⟨w.heap.size+1+1+1,0,none⟩) (by show w.heap.size+1+1≠w.heap.size+1+1+1; omega) (.int .i64 x3)
 have N7:=((G7).far (p:=⟨w.heap.size+1+1,8,none⟩) (by show w.heap.size+1+1+1≠w.heap.size+1+1; omega) (.int .i64 x1)).set_ 0 (.int .i64 x3)
 simp only [zA,zB,zC] at N6 N7
 have N0:=((G0).far (p:=⟨w.heap.size+1+1,8,none⟩) (by show w.heap.size≠w.heap.size+1+1; omega) (.int .i64 x1)).far (p:=⟨w.heap.size+1+1+1,0,none⟩) (by show w.heap.size≠w.heap.size+1+1+1; omega) (.int .i64 x3)
 have N4:=((G4).far (p:=⟨w.heap.size+1+1,8,none⟩) (by show w.heap.size+1≠w.heap.size+1+1; omega) (.int .i64 x1)).far (p:=⟨w.heap.size+1+1+1,0,none⟩) (by show w.heap.size+1≠w.heap.size+1+1+1; omega) (.int .i64 x3)
 have NB:=((hB).setCell (p:=⟨w.heap.size+1+1,8,none⟩) (by show w.heap.size<=w.heap.size+1+1; omega) (.int .i64 x1)).setCell (p:=⟨w.heap.size+1+1+1,0,none⟩) (by show w.heap.size<=w.heap.size+1+1+1; omega) (.int .i64 x3)
 clear G0 G4 G6 G7 hB
 generalize ((v1.setCell ⟨w.heap.size+1+1,8,none⟩ (.int .i64 x1)).setCell ⟨w.heap.size+1+1+1,0,none⟩ (.int .i64 x3))=v2 at *
 have G0:=N0
 have G4:=N4
 have G6:=N6
 have G7:=N7
 have hB:=NB
 clear N0 N4 N6 N7 NB
 go_wp2_with (refine qwa rfl 33 _ rfl w.heap.size 0 33 (stC s) (stC s) _ rfl G0 (q8a s) Tryz.underlying33 rfl qoa ?_)
 refine (h2 _).mono ?_
 rintro e v3 ⟨rfl,hb⟩
 have N0:=G0.below hb G0.lt
 have N4:=G4.below hb G4.lt
 have N6:=G6.below hb G6.lt
 have N7:=G7.below hb G7.lt
 have NB:=hB.trans (hb.mono hB.size)
 clear G0 G4 G6 G7 hB hb
 have G0:=N0
 have G4:=N4
 have G6:=N6
 have G7:=N7
 have hB:=NB
 clear N0 N4 N6 N7 NB
 have f6:=G6.frozen
 have f7:=G7.frozen
 have c6_1:v3.cell? ⟨w.heap.size+1+1,1,none⟩=some (.int .i64 0):=G6.cell 1
 have c6_0:v3.cell? ⟨w.heap.size+1+1,0,none⟩=some (.bool false):=G6.cell 0
 have c7_1:v3.cell? ⟨w.heap.size+1+1+1,1,none⟩=some (.int .i64 0):=G7.cell 1
 go_upto_region 6 with fail
 clear f6 f7 c6_1 c6_0 c7_1
 have N6:=(((G6).set_ 1 (.int .i64 u1)).set_ 0 (.bool u2)).far (p:=⟨w.heap.size+1+1+1,1,none⟩) (by show w.heap.size+1+1≠w.heap.size+1+1+1; omega) (.int .i64 u3)
 have N7:=(((G7).far (p:=⟨w.heap.size+1+1,1,none⟩) (by show w.heap.size+1+1+1≠w.heap.size+1+1; omega) (.int .i64 u1)).far (p:=⟨w.heap.size+1+1,0,none⟩) (by show w.heap.size+1+1+1≠w.heap.size+1+1; omega) (.bool u2)).set_ 1 (.int .i64 u3)
 simp only [zA,zB,zC] at N6 N7
 have N0:=(((G0).far (p:=⟨w.heap.size+1+1,1,none⟩) (by show w.heap.size≠w.heap.size+1+1; omega) (.int .i64 u1)).far (p:=⟨w.heap.size+1+1,0,none⟩) (by show w.heap.size≠w.heap.size+1+1; omega) (.bool u2)).far (p:=⟨w.heap.size+1+1+1,1,none⟩) (by show w.heap.size≠w.heap.size+1+1+1; omega) (.int .i64 u3)
 have N4:=(((G4).far (p:=⟨w.heap.size+1+1,1,none⟩) (by show w.heap.size+1≠w.heap.size+1+1; omega) (.int .i64 u1)).far (p:=⟨w.heap.size+1+1,0,none⟩) (by show w.heap.size+1≠w.heap.size+1+1; omega) (.bool u2)).far (p:=⟨w.heap.size+1+1+1,1,none⟩) (by show w.heap.size+1≠w.heap.size+1+1+1; omega) (.int .i64 u3)
 have NB:=(((hB).setCell (p:=⟨w.heap.size+1+1,1,none⟩) (by show w.heap.size<=w.heap.size+1+1; omega) (.int .i64 u1)).setCell (p:=⟨w.heap.size+1+1,0,none⟩) (by show w.heap.size<=w.heap.size+1+1; omega) (.bool u2)).setCell (p:=⟨w.heap.size+1+1+1,1,none⟩) (by show w.heap.size<=w.heap.size+1+1+1; omega) (.int .i64 u3)
 clear G0 G4 G6 G7 hB
 generalize (((v3.setCell ⟨w.heap.size+1+1,1,none⟩ (.int .i64 u1)).setCell ⟨w.heap.size+1+1,0,none⟩ (.bool u2)).setCell ⟨w.heap.size+1+1+1,1,none⟩ (.int .i64 u3))=v4 at *
 have G0:=N0
 have G4:=N4
 have G6:=N6
 have G7:=N7
 have hB:=NB
 clear N0 N4 N6 N7 NB
 go_wp2_with (refine qwa rfl 33 _ rfl w.heap.size 0 33 (stC s) (stC s) _ rfl G0 (q8a s) Tryz.underlying33 rfl qoa ?_)
 refine (h3 _).mono ?_
 rintro e v5 ⟨rfl,hb⟩
 have N0:=G0.below hb G0.lt
 have N4:=G4.below hb G4.lt
 have N6:=G6.below hb G6.lt
 have N7:=G7.below hb G7.lt
 have NB:=hB.trans (hb.mono hB.size)
 clear G0 G4 G6 G7 hB hb
 have G0:=N0
 have G4:=N4
 have G6:=N6
 have G7:=N7
 have hB:=NB
 clear N0 N4 N6 N7 NB
 have f6:=G6.frozen
 have f7:=G7.frozen
 have c6_2:v5.cell? ⟨w.heap.size+1+1,2,none⟩=some (.int .i64 0):=G6.cell 2
 have c6_3:v5.cell? ⟨w.heap.size+1+1,3,none⟩=some (.int .i64 0):=G6.cell 3
 have c7_2:v5.cell? ⟨w.heap.size+1+1+1,2,none⟩=some (.int .i64 0):=G7.cell 2
 go_upto_region 7 with fail
 clear f6 f7 c6_2 c6_3 c7_2
 have N6:=(((G6).set_ 2 (.int .i64 y1)).set_ 3 (.int .i64 y2)).far (p:=⟨w.heap.size+1+1+1,2,none⟩) (by show w.heap.size+1+1≠w.heap.size+1+1+1; omega) (.int .i64 y3)
 have N7:=(((G7).far (p:=⟨w.heap.size+1+1,2,none⟩) (by show w.heap.size+1+1+1≠w.heap.size+1+1; omega) (.int .i64 y1)).far (p:=⟨w.heap.size+1+1,3,none⟩) (by show w.heap.size+1+1+1≠w.heap.size+1+1; omega) (.int .i64 y2)).set_ 2 (.int .i64 y3)
 simp only [zA,zB,zC] at N6 N7
 have N0:=(((G0).far (p:=⟨w.heap.size+1+1,2,none⟩) (by show w.heap.size≠w.heap.size+1+1; omega) (.int .i64 y1)).far (p:=⟨w.heap.size+1+1,3,none⟩) (by show w.heap.size≠w.heap.size+1+1; omega) (.int .i64 y2)).far (p:=⟨w.heap.size+1+1+1,2,none⟩) (by show w.heap.size≠w.heap.size+1+1+1; omega) (.int .i64 y3)
 have N4:=(((G4).far (p:=⟨w.heap.size+1+1,2,none⟩) (by show w.heap.size+1≠w.heap.size+1+1; omega) (.int .i64 y1)).far (p:=⟨w.heap.size+1+1,3,none⟩) (by show w.heap.size+1≠w.heap.size+1+1; omega) (.int .i64 y2)).far (p:=⟨w.heap.size+1+1+1,2,none⟩) (by show w.heap.size+1≠w.heap.size+1+1+1; omega) (.int .i64 y3)
 have NB:=(((hB).setCell (p:=⟨w.heap.size+1+1,2,none⟩) (by show w.heap.size<=w.heap.size+1+1; omega) (.int .i64 y1)).setCell (p:=⟨w.heap.size+1+1,3,none⟩) (by show w.heap.size<=w.heap.size+1+1; omega) (.int .i64 y2)).setCell (p:=⟨w.heap.size+1+1+1,2,none⟩) (by show w.heap.size<=w.heap.size+1+1+1; omega) (.int .i64 y3)
 clear G0 G4 G6 G7 hB
 generalize (((v5.setCell ⟨w.heap.size+1+1,2,none⟩ (.int .i64 y1)).setCell ⟨w.heap.size+1+1,3,none⟩ (.int .i64 y2)).setCell ⟨w.heap.size+1+1+1,2,none⟩ (.int .i64 y3))=v6 at *
 have G0:=N0
 have G4:=N4
 have G6:=N6
 have G7:=N7
 have hB:=NB
 clear N0 N4 N6 N7 NB
 have s0:v6.cell? ⟨w.heap.size,20,none⟩=some (.int .u8 s.mL.1):=G0.cell 20
 have s1:v6.cell? ⟨w.heap.size,21,none⟩=some (.int .i64 s.mL.2):=G0.cell 21
 go_wp2_with fail
 refine (h4 _).mono ?_
 rintro e v7 ⟨rfl,hb⟩
 have N0:=G0.below hb G0.lt
 have N4:=G4.below hb G4.lt
 have N6:=G6.below hb G6.lt
 have N7:=G7.below hb G7.lt
 have NB:=hB.trans (hb.mono hB.size)
 clear G0 G4 G6 G7 hB hb
 have G0:=N0
 have G4:=N4
 have G6:=N6
 have G7:=N7
 have hB:=NB
 clear N0 N4 N6 N7 NB
 clear s0 s1
 have f6:=G6.frozen
 have f7:=G7.frozen
 have c6_4:v7.cell? ⟨w.heap.size+1+1,4,none⟩=some (.int .i64 0):=G6.cell 4
 have c7_3:v7.cell? ⟨w.heap.size+1+1+1,3,none⟩=some (.int .i64 0):=G7.cell 3
 go_upto_region 8 with fail
 clear f6 f7 c6_4 c7_3
 have N6:=((G6).set_ 4 (.int .i64 l1)).far (p:=⟨w.heap.size+1+1+1,3,none⟩) (by show w.heap.size+1+1≠w.heap.size+1+1+1; omega) (.int .i64 l3)
 have N7:=((G7).far (p:=⟨w.heap.size+1+1,4,none⟩) (by show w.heap.size+1+1+1≠w.heap.size+1+1; omega) (.int .i64 l1)).set_ 3 (.int .i64 l3)
 simp only [zA,zB,zC] at N6 N7
 have N0:=((G0).far (p:=⟨w.heap.size+1+1,4,none⟩) (by show w.heap.size≠w.heap.size+1+1; omega) (.int .i64 l1)).far (p:=⟨w.heap.size+1+1+1,3,none⟩) (by show w.heap.size≠w.heap.size+1+1+1; omega) (.int .i64 l3)
 have N4:=((G4).far (p:=⟨w.heap.size+1+1,4,none⟩) (by show w.heap.size+1≠w.heap.size+1+1; omega) (.int .i64 l1)).far (p:=⟨w.heap.size+1+1+1,3,none⟩) (by show w.heap.size+1≠w.heap.size+1+1+1; omega) (.int .i64 l3)
 have NB:=((hB).setCell (p:=⟨w.heap.size+1+1,4,none⟩) (by show w.heap.size<=w.heap.size+1+1; omega) (.int .i64 l1)).setCell (p:=⟨w.heap.size+1+1+1,3,none⟩) (by show w.heap.size<=w.heap.size+1+1+1; omega) (.int .i64 l3)
 clear G0 G4 G6 G7 hB
 generalize ((v7.setCell ⟨w.heap.size+1+1,4,none⟩ (.int .i64 l1)).setCell ⟨w.heap.size+1+1+1,3,none⟩ (.int .i64 l3))=v8 at *
 have G0:=N0
 have G4:=N4
 have G6:=N6
 have G7:=N7
 have hB:=NB
 clear N0 N4 N6 N7 NB
 have s0:v8.cell? ⟨w.heap.size,16,none⟩=some (.int .u8 s.mR.1):=G0.cell 16
 have s1:v8.cell? ⟨w.heap.size,17,none⟩=some (.int .i64 s.mR.2):=G0.cell 17
 go_wp2_with fail
 refine (h5 _).mono ?_
 rintro e v9 ⟨rfl,hb⟩
 have N0:=G0.below hb G0.lt
 have N4:=G4.below hb G4.lt
 have N6:=G6.below hb G6.lt
 have N7:=G7.below hb G7.lt
 have NB:=hB.trans (hb.mono hB.size)
 clear G0 G4 G6 G7 hB hb
 have G0:=N0
 have G4:=N4
 have G6:=N6
 have G7:=N7
 have hB:=NB
 clear N0 N4 N6 N7 NB
 clear s0 s1
 have f6:=G6.frozen
 have f7:=G7.frozen
 have c6_5:v9.cell? ⟨w.heap.size+1+1,5,none⟩=some (.int .i64 0):=G6.cell 5
 have c7_4:v9.cell? ⟨w.heap.size+1+1+1,4,none⟩=some (.int .i64 0):=G7.cell 4
 go_upto_region 9 with fail
 clear f6 f7 c6_5 c7_4
 have N6:=((G6).set_ 5 (.int .i64 r1)).far (p:=⟨w.heap.size+1+1+1,4,none⟩) (by show w.heap.size+1+1≠w.heap.size+1+1+1; omega) (.int .i64 r3)
 have N7:=((G7).far (p:=⟨w.heap.size+1+1,5,none⟩) (by show w.heap.size+1+1+1≠w.heap.size+1+1; omega) (.int .i64 r1)).set_ 4 (.int .i64 r3)
 simp only [zA,zB,zC] at N6 N7
 have N0:=((G0).far (p:=⟨w.heap.size+1+1,5,none⟩) (by show w.heap.size≠w.heap.size+1+1; omega) (.int .i64 r1)).far (p:=⟨w.heap.size+1+1+1,4,none⟩) (by show w.heap.size≠w.heap.size+1+1+1; omega) (.int .i64 r3)
 have N4:=((G4).far (p:=⟨w.heap.size+1+1,5,none⟩) (by show w.heap.size+1≠w.heap.size+1+1; omega) (.int .i64 r1)).far (p:=⟨w.heap.size+1+1+1,4,none⟩) (by show w.heap.size+1≠w.heap.size+1+1+1; omega) (.int .i64 r3)
 have NB:=((hB).setCell (p:=⟨w.heap.size+1+1,5,none⟩) (by show w.heap.size<=w.heap.size+1+1; omega) (.int .i64 r1)).setCell (p:=⟨w.heap.size+1+1+1,4,none⟩) (by show w.heap.size<=w.heap.size+1+1+1; omega) (.int .i64 r3)
 clear G0 G4 G6 G7 hB
 generalize ((v9.setCell ⟨w.heap.size+1+1,5,none⟩ (.int .i64 r1)).setCell ⟨w.heap.size+1+1+1,4,none⟩ (.int .i64 r3))=v10 at *
 have G0:=N0
 have G4:=N4
 have G6:=N6
 have G7:=N7
 have hB:=NB
 clear N0 N4 N6 N7 NB
 have f6:=G6.frozen
 have f7:=G7.frozen
 have c6_6:v10.cell? ⟨w.heap.size+1+1,6,none⟩=some (.bool false):=G6.cell 6
 have c6_7:v10.cell? ⟨w.heap.size+1+1,7,none⟩=some (.bool false):=G6.cell 7
 go_upto_region 10 with fail
 clear f6 f7 c6_6 c6_7
 have N6:=((G6).set_ 6 (.bool !l2)).set_ 7 (.bool !r2)
 have N7:=((G7).far (p:=⟨w.heap.size+1+1,6,none⟩) (by show w.heap.size+1+1+1≠w.heap.size+1+1; omega) (.bool !l2)).far (p:=⟨w.heap.size+1+1,7,none⟩) (by show w.heap.size+1+1+1≠w.heap.size+1+1; omega) (.bool !r2)
 simp only [zA,zB,zC] at N6 N7
 have N0:=((G0).far (p:=⟨w.heap.size+1+1,6,none⟩) (by show w.heap.size≠w.heap.size+1+1; omega) (.bool !l2)).far (p:=⟨w.heap.size+1+1,7,none⟩) (by show w.heap.size≠w.heap.size+1+1; omega) (.bool !r2)
 have N4:=((G4).far (p:=⟨w.heap.size+1+1,6,none⟩) (by show w.heap.size+1≠w.heap.size+1+1; omega) (.bool !l2)).far (p:=⟨w.heap.size+1+1,7,none⟩) (by show w.heap.size+1≠w.heap.size+1+1; omega) (.bool !r2)
 have NB:=((hB).setCell (p:=⟨w.heap.size+1+1,6,none⟩) (by show w.heap.size<=w.heap.size+1+1; omega) (.bool !l2)).setCell (p:=⟨w.heap.size+1+1,7,none⟩) (by show w.heap.size<=w.heap.size+1+1; omega) (.bool !r2)
 clear G0 G4 G6 G7 hB
 generalize ((v10.setCell ⟨w.heap.size+1+1,6,none⟩ (.bool !l2)).setCell ⟨w.heap.size+1+1,7,none⟩ (.bool !r2))=v99 at *
 have G0:=N0
 have G4:=N4
 have G6:=N6
 have G7:=N7
 have hB:=NB
 clear N0 N4 N6 N7 NB
 have c7_0:v99.cell? ⟨w.heap.size+1+1+1,0,none⟩=some (.int .i64 x3):=G7.cell 0
 have c7_1:v99.cell? ⟨w.heap.size+1+1+1,1,none⟩=some (.int .i64 u3):=G7.cell 1
 have c7_2:v99.cell? ⟨w.heap.size+1+1+1,2,none⟩=some (.int .i64 y3):=G7.cell 2
 have c7_3:v99.cell? ⟨w.heap.size+1+1+1,3,none⟩=some (.int .i64 l3):=G7.cell 3
 have c7_4:v99.cell? ⟨w.heap.size+1+1+1,4,none⟩=some (.int .i64 r3):=G7.cell 4
 have d4:=G4.frozen
 have a4_0:v99.cell? ⟨w.heap.size+1,0,none⟩=some (.bool false):=G4.cell 0
 have a4_1:v99.cell? ⟨w.heap.size+1,1,none⟩=some (.int .i64 0):=G4.cell 1
 have a4_2:v99.cell? ⟨w.heap.size+1,2,none⟩=some (.int .i64 0):=G4.cell 2
 have a4_3:v99.cell? ⟨w.heap.size+1,3,none⟩=some (.int .i64 0):=G4.cell 3
 have a4_4:v99.cell? ⟨w.heap.size+1,4,none⟩=some (.int .i64 0):=G4.cell 4
 have a4_5:v99.cell? ⟨w.heap.size+1,5,none⟩=some (.int .i64 0):=G4.cell 5
 have a4_6:v99.cell? ⟨w.heap.size+1,6,none⟩=some (.bool false):=G4.cell 6
 have a4_7:v99.cell? ⟨w.heap.size+1,7,none⟩=some (.bool false):=G4.cell 7
 have a4_8:v99.cell? ⟨w.heap.size+1,8,none⟩=some (.int .i64 0):=G4.cell 8
 have ix0:=ix5_0 x3 u3 y3 l3 r3
 have ix1:=ix5_1 x3 u3 y3 l3 r3
 have ix2:=ix5_2 x3 u3 y3 l3 r3
 have ix3:=ix5_3 x3 u3 y3 l3 r3
 have ix4:=ix5_4 x3 u3 y3 l3 r3
 go_wp2_with fail
 by_cases e0:x3=0
 ·subst e0
  by_cases e1:u3=0
  ·subst e1
   by_cases e2:y3=0
   ·subst e2
    by_cases e3:l3=0
    ·subst e3
     by_cases e4:r3=0
     ·subst e4
      have c6_0:v99.cell? ⟨w.heap.size+1+1,0,none⟩=some (.bool u2):=G6.cell 0
      have c6_1:v99.cell? ⟨w.heap.size+1+1,1,none⟩=some (.int .i64 u1):=G6.cell 1
      have c6_2:v99.cell? ⟨w.heap.size+1+1,2,none⟩=some (.int .i64 y1):=G6.cell 2
      have c6_3:v99.cell? ⟨w.heap.size+1+1,3,none⟩=some (.int .i64 y2):=G6.cell 3
      have c6_4:v99.cell? ⟨w.heap.size+1+1,4,none⟩=some (.int .i64 l1):=G6.cell 4
      have c6_5:v99.cell? ⟨w.heap.size+1+1,5,none⟩=some (.int .i64 r1):=G6.cell 5
      have c6_6:v99.cell? ⟨w.heap.size+1+1,6,none⟩=some (.bool !l2):=G6.cell 6
      have c6_7:v99.cell? ⟨w.heap.size+1+1,7,none⟩=some (.bool !r2):=G6.cell 7
      have c6_8:v99.cell? ⟨w.heap.size+1+1,8,none⟩=some (.int .i64 x1):=G6.cell 8
      refine wp_loop_rounds 6 ?_
      rw [rounds_succ]
      go_wp2_with fail
      rw [rounds_succ]
      go_wp2_with fail
      rw [rounds_succ]
      go_wp2_with fail
      rw [rounds_succ]
      go_wp2_with fail
      rw [rounds_succ]
      go_wp2_with fail
      rw [rounds_succ]
      go_wp2_with fail
      have NB:Below w.heap.size w (((((((((v99.setCell ⟨w.heap.size+1,0,none⟩ (.bool u2)).setCell ⟨w.heap.size+1,1,none⟩ (.int .i64 u1)).setCell ⟨w.heap.size+1,2,none⟩ (.int .i64 y1)).setCell ⟨w.heap.size+1,3,none⟩ (.int .i64 y2)).setCell ⟨w.heap.size+1,4,none⟩ (.int .i64 l1)).setCell ⟨w.heap.size+1,5,none⟩ (.int .i64 r1)).setCell ⟨w.heap.size+1,6,none⟩ (.bool !l2)).setCell ⟨w.heap.size+1,7,none⟩ (.bool !r2)).setCell ⟨w.heap.size+1,8,none⟩ (.int .i64 x1)):=(((((((((hB).setCell (p:=⟨w.heap.size+1,0,none⟩) (Nat.le_succ _) (.bool u2)).setCell (p:=⟨w.heap.size+1,1,none⟩) (Nat.le_succ _) (.int .i64 u1)).setCell (p:=⟨w.heap.size+1,2,none⟩) (Nat.le_succ _) (.int .i64 y1)).setCell (p:=⟨w.heap.size+1,3,none⟩) (Nat.le_succ _) (.int .i64 y2)).setCell (p:=⟨w.heap.size+1,4,none⟩) (Nat.le_succ _) (.int .i64 l1)).setCell (p:=⟨w.heap.size+1,5,none⟩) (Nat.le_succ _) (.int .i64 r1)).setCell (p:=⟨w.heap.size+1,6,none⟩) (Nat.le_succ _) (.bool !l2)).setCell (p:=⟨w.heap.size+1,7,none⟩) (Nat.le_succ _) (.bool !r2)).setCell (p:=⟨w.heap.size+1,8,none⟩) (Nat.le_succ _) (.int .i64 x1)
      have N4:=(((((((((G4).set_ 0 (.bool u2)).set_ 1 (.int .i64 u1)).set_ 2 (.int .i64 y1)).set_ 3 (.int .i64 y2)).set_ 4 (.int .i64 l1)).set_ 5 (.int .i64 r1)).set_ 6 (.bool !l2)).set_ 7 (.bool !r2)).set_ 8 (.int .i64 x1)
      simp only [zA,zB,zC] at N4
      refine bodyPost_ret (qle rfl _ _ (w.heap.size+1) 76 [.bool u2,.int .i64 u1,.int .i64 y1,.int .i64 y2,.int .i64 l1,.int .i64 r1,.bool !l2,.bool !r2,.int .i64 x1] _ rfl N4 Tryz.underlying76 rfl (by kernel_rfl)) rfl ?_
      exact ⟨by rw [HO.out]; rfl,NB⟩
     ·have HN:=Lib.hid (show ofR s of=(ak0,r3) by rw [HO.out]; simp [e4])
      refine wp_loop_rounds 6 ?_
      rw [rounds_succ]
      go_wp2_with fail
      rw [rounds_succ]
      go_wp2_with fail
      rw [rounds_succ]
      go_wp2_with fail
      rw [rounds_succ]
      go_wp2_with fail
      rw [rounds_succ]
      go_wp2_with fail
      have NB:Below w.heap.size w (((((((((v99.setCell ⟨w.heap.size+1,0,none⟩ (.bool false)).setCell ⟨w.heap.size+1,1,none⟩ (.int .i64 0)).setCell ⟨w.heap.size+1,2,none⟩ (.int .i64 0)).setCell ⟨w.heap.size+1,3,none⟩ (.int .i64 0)).setCell ⟨w.heap.size+1,4,none⟩ (.int .i64 0)).setCell ⟨w.heap.size+1,5,none⟩ (.int .i64 0)).setCell ⟨w.heap.size+1,6,none⟩ (.bool false)).setCell ⟨w.heap.size+1,7,none⟩ (.bool false)).setCell ⟨w.heap.size+1,8,none⟩ (.int .i64 0)):=(((((((((hB).setCell (p:=⟨w.heap.size+1,0,none⟩) (Nat.le_succ _) (.bool false)).setCell (p:=⟨w.heap.size+1,1,none⟩) (Nat.le_succ _) (.int .i64 0)).setCell (p:=⟨w.heap.size+1,2,none⟩) (Nat.le_succ _) (.int .i64 0)).setCell (p:=⟨w.heap.size+1,3,none⟩) (Nat.le_succ _) (.int .i64 0)).setCell (p:=⟨w.heap.size+1,4,none⟩) (Nat.le_succ _) (.int .i64 0)).setCell (p:=⟨w.heap.size+1,5,none⟩) (Nat.le_succ _) (.int .i64 0)).setCell (p:=⟨w.heap.size+1,6,none⟩) (Nat.le_succ _) (.bool false)).setCell (p:=⟨w.heap.size+1,7,none⟩) (Nat.le_succ _) (.bool false)).setCell (p:=⟨w.heap.size+1,8,none⟩) (Nat.le_succ _) (.int .i64 0)
      have N4:=(((((((((G4).set_ 0 (.bool false)).set_ 1 (.int .i64 0)).set_ 2 (.int .i64 0)).set_ 3 (.int .i64 0)).set_ 4 (.int .i64 0)).set_ 5 (.int .i64 0)).set_ 6 (.bool false)).set_ 7 (.bool false)).set_ 8 (.int .i64 0)
      simp only [zA,zB,zC] at N4
      refine bodyPost_ret (qle rfl _ _ (w.heap.size+1) 76 [.bool false,.int .i64 0,.int .i64 0,.int .i64 0,.int .i64 0,.int .i64 0,.bool false,.bool false,.int .i64 0] _ rfl N4 Tryz.underlying76 rfl (by kernel_rfl)) rfl ?_
      exact ⟨by rw [HN.out]; rfl,NB⟩
    ·have HN:=Lib.hid (show ofR s of=(ak0,l3) by rw [HO.out]; simp [e3])
     refine wp_loop_rounds 6 ?_
     rw [rounds_succ]
     go_wp2_with fail
     rw [rounds_succ]
     go_wp2_with fail
     rw [rounds_succ]
     go_wp2_with fail
     rw [rounds_succ]
     go_wp2_with fail
     have NB:Below w.heap.size w (((((((((v99.setCell ⟨w.heap.size+1,0,none⟩ (.bool false)).setCell ⟨w.heap.size+1,1,none⟩ (.int .i64 0)).setCell ⟨w.heap.size+1,2,none⟩ (.int .i64 0)).setCell ⟨w.heap.size+1,3,none⟩ (.int .i64 0)).setCell ⟨w.heap.size+1,4,none⟩ (.int .i64 0)).setCell ⟨w.heap.size+1,5,none⟩ (.int .i64 0)).setCell ⟨w.heap.size+1,6,none⟩ (.bool false)).setCell ⟨w.heap.size+1,7,none⟩ (.bool false)).setCell ⟨w.heap.size+1,8,none⟩ (.int .i64 0)):=(((((((((hB).setCell (p:=⟨w.heap.size+1,0,none⟩) (Nat.le_succ _) (.bool false)).setCell (p:=⟨w.heap.size+1,1,none⟩) (Nat.le_succ _) (.int .i64 0)).setCell (p:=⟨w.heap.size+1,2,none⟩) (Nat.le_succ _) (.int .i64 0)).setCell (p:=⟨w.heap.size+1,3,none⟩) (Nat.le_succ _) (.int .i64 0)).setCell (p:=⟨w.heap.size+1,4,none⟩) (Nat.le_succ _) (.int .i64 0)).setCell (p:=⟨w.heap.size+1,5,none⟩) (Nat.le_succ _) (.int .i64 0)).setCell (p:=⟨w.heap.size+1,6,none⟩) (Nat.le_succ _) (.bool false)).setCell (p:=⟨w.heap.size+1,7,none⟩) (Nat.le_succ _) (.bool false)).setCell (p:=⟨w.heap.size+1,8,none⟩) (Nat.le_succ _) (.int .i64 0)
     have N4:=(((((((((G4).set_ 0 (.bool false)).set_ 1 (.int .i64 0)).set_ 2 (.int .i64 0)).set_ 3 (.int .i64 0)).set_ 4 (.int .i64 0)).set_ 5 (.int .i64 0)).set_ 6 (.bool false)).set_ 7 (.bool false)).set_ 8 (.int .i64 0)
     simp only [zA,zB,zC] at N4
     refine bodyPost_ret (qle rfl _ _ (w.heap.size+1) 76 [.bool false,.int .i64 0,.int .i64 0,.int .i64 0,.int .i64 0,.int .i64 0,.bool false,.bool false,.int .i64 0] _ rfl N4 Tryz.underlying76 rfl (by kernel_rfl)) rfl ?_
     exact ⟨by rw [HN.out]; rfl,NB⟩
   ·have HN:=Lib.hid (show ofR s of=(ak0,y3) by rw [HO.out]; simp [e2])
    refine wp_loop_rounds 6 ?_
    rw [rounds_succ]
    go_wp2_with fail
    rw [rounds_succ]
    go_wp2_with fail
    rw [rounds_succ]
    go_wp2_with fail
    have NB:Below w.heap.size w (((((((((v99.setCell ⟨w.heap.size+1,0,none⟩ (.bool false)).setCell ⟨w.heap.size+1,1,none⟩ (.int .i64 0)).setCell ⟨w.heap.size+1,2,none⟩ (.int .i64 0)).setCell ⟨w.heap.size+1,3,none⟩ (.int .i64 0)).setCell ⟨w.heap.size+1,4,none⟩ (.int .i64 0)).setCell ⟨w.heap.size+1,5,none⟩ (.int .i64 0)).setCell ⟨w.heap.size+1,6,none⟩ (.bool false)).setCell ⟨w.heap.size+1,7,none⟩ (.bool false)).setCell ⟨w.heap.size+1,8,none⟩ (.int .i64 0)):=(((((((((hB).setCell (p:=⟨w.heap.size+1,0,none⟩) (Nat.le_succ _) (.bool false)).setCell (p:=⟨w.heap.size+1,1,none⟩) (Nat.le_succ _) (.int .i64 0)).setCell (p:=⟨w.heap.size+1,2,none⟩) (Nat.le_succ _) (.int .i64 0)).setCell (p:=⟨w.heap.size+1,3,none⟩) (Nat.le_succ _) (.int .i64 0)).setCell (p:=⟨w.heap.size+1,4,none⟩) (Nat.le_succ _) (.int .i64 0)).setCell (p:=⟨w.heap.size+1,5,none⟩) (Nat.le_succ _) (.int .i64 0)).setCell (p:=⟨w.heap.size+1,6,none⟩) (Nat.le_succ _) (.bool false)).setCell (p:=⟨w.heap.size+1,7,none⟩) (Nat.le_succ _) (.bool false)).setCell (p:=⟨w.heap.size+1,8,none⟩) (Nat.le_succ _) (.int .i64 0)
    have N4:=(((((((((G4).set_ 0 (.bool false)).set_ 1 (.int .i64 0)).set_ 2 (.int .i64 0)).set_ 3 (.int .i64 0)).set_ 4 (.int .i64 0)).set_ 5 (.int .i64 0)).set_ 6 (.bool false)).set_ 7 (.bool false)).set_ 8 (.int .i64 0)
    simp only [zA,zB,zC] at N4
    refine bodyPost_ret (qle rfl _ _ (w.heap.size+1) 76 [.bool false,.int .i64 0,.int .i64 0,.int .i64 0,.int .i64 0,.int .i64 0,.bool false,.bool false,.int .i64 0] _ rfl N4 Tryz.underlying76 rfl (by kernel_rfl)) rfl ?_
    exact ⟨by rw [HN.out]; rfl,NB⟩
  ·have HN:=Lib.hid (show ofR s of=(ak0,u3) by rw [HO.out]; simp [e1])
   refine wp_loop_rounds 6 ?_
   rw [rounds_succ]
   go_wp2_with fail
   rw [rounds_succ]
   go_wp2_with fail
   have NB:Below w.heap.size w (((((((((v99.setCell ⟨w.heap.size+1,0,none⟩ (.bool false)).setCell ⟨w.heap.size+1,1,none⟩ (.int .i64 0)).setCell ⟨w.heap.size+1,2,none⟩ (.int .i64 0)).setCell ⟨w.heap.size+1,3,none⟩ (.int .i64 0)).setCell ⟨w.heap.size+1,4,none⟩ (.int .i64 0)).setCell ⟨w.heap.size+1,5,none⟩ (.int .i64 0)).setCell ⟨w.heap.size+1,6,none⟩ (.bool false)).setCell ⟨w.heap.size+1,7,none⟩ (.bool false)).setCell ⟨w.heap.size+1,8,none⟩ (.int .i64 0)):=(((((((((hB).setCell (p:=⟨w.heap.size+1,0,none⟩) (Nat.le_succ _) (.bool false)).setCell (p:=⟨w.heap.size+1,1,none⟩) (Nat.le_succ _) (.int .i64 0)).setCell (p:=⟨w.heap.size+1,2,none⟩) (Nat.le_succ _) (.int .i64 0)).setCell (p:=⟨w.heap.size+1,3,none⟩) (Nat.le_succ _) (.int .i64 0)).setCell (p:=⟨w.heap.size+1,4,none⟩) (Nat.le_succ _) (.int .i64 0)).setCell (p:=⟨w.heap.size+1,5,none⟩) (Nat.le_succ _) (.int .i64 0)).setCell (p:=⟨w.heap.size+1,6,none⟩) (Nat.le_succ _) (.bool false)).setCell (p:=⟨w.heap.size+1,7,none⟩) (Nat.le_succ _) (.bool false)).setCell (p:=⟨w.heap.size+1,8,none⟩) (Nat.le_succ _) (.int .i64 0)
   have N4:=(((((((((G4).set_ 0 (.bool false)).set_ 1 (.int .i64 0)).set_ 2 (.int .i64 0)).set_ 3 (.int .i64 0)).set_ 4 (.int .i64 0)).set_ 5 (.int .i64 0)).set_ 6 (.bool false)).set_ 7 (.bool false)).set_ 8 (.int .i64 0)
   simp only [zA,zB,zC] at N4
   refine bodyPost_ret (qle rfl _ _ (w.heap.size+1) 76 [.bool false,.int .i64 0,.int .i64 0,.int .i64 0,.int .i64 0,.int .i64 0,.bool false,.bool false,.int .i64 0] _ rfl N4 Tryz.underlying76 rfl (by kernel_rfl)) rfl ?_
   exact ⟨by rw [HN.out]; rfl,NB⟩
 ·have HN:=Lib.hid (show ofR s of=(ak0,x3) by rw [HO.out]; simp [e0])
  refine wp_loop_rounds 6 ?_
  rw [rounds_succ]
  go_wp2_with fail
  have NB:Below w.heap.size w (((((((((v99.setCell ⟨w.heap.size+1,0,none⟩ (.bool false)).setCell ⟨w.heap.size+1,1,none⟩ (.int .i64 0)).setCell ⟨w.heap.size+1,2,none⟩ (.int .i64 0)).setCell ⟨w.heap.size+1,3,none⟩ (.int .i64 0)).setCell ⟨w.heap.size+1,4,none⟩ (.int .i64 0)).setCell ⟨w.heap.size+1,5,none⟩ (.int .i64 0)).setCell ⟨w.heap.size+1,6,none⟩ (.bool false)).setCell ⟨w.heap.size+1,7,none⟩ (.bool false)).setCell ⟨w.heap.size+1,8,none⟩ (.int .i64 0)):=(((((((((hB).setCell (p:=⟨w.heap.size+1,0,none⟩) (Nat.le_succ _) (.bool false)).setCell (p:=⟨w.heap.size+1,1,none⟩) (Nat.le_succ _) (.int .i64 0)).setCell (p:=⟨w.heap.size+1,2,none⟩) (Nat.le_succ _) (.int .i64 0)).setCell (p:=⟨w.heap.size+1,3,none⟩) (Nat.le_succ _) (.int .i64 0)).setCell (p:=⟨w.heap.size+1,4,none⟩) (Nat.le_succ _) (.int .i64 0)).setCell (p:=⟨w.heap.size+1,5,none⟩) (Nat.le_succ _) (.int .i64 0)).setCell (p:=⟨w.heap.size+1,6,none⟩) (Nat.le_succ _) (.bool false)).setCell (p:=⟨w.heap.size+1,7,none⟩) (Nat.le_succ _) (.bool false)).setCell (p:=⟨w.heap.size+1,8,none⟩) (Nat.le_succ _) (.int .i64 0)
  have N4:=(((((((((G4).set_ 0 (.bool false)).set_ 1 (.int .i64 0)).set_ 2 (.int .i64 0)).set_ 3 (.int .i64 0)).set_ 4 (.int .i64 0)).set_ 5 (.int .i64 0)).set_ 6 (.bool false)).set_ 7 (.bool false)).set_ 8 (.int .i64 0)
  simp only [zA,zB,zC] at N4
  refine bodyPost_ret (qle rfl _ _ (w.heap.size+1) 76 [.bool false,.int .i64 0,.int .i64 0,.int .i64 0,.int .i64 0,.int .i64 0,.bool false,.bool false,.int .i64 0] _ rfl N4 Tryz.underlying76 rfl (by kernel_rfl)) rfl ?_
  exact ⟨by rw [HN.out]; rfl,NB⟩
end Go.Proofs.YtlnekijhbnlclaaGreatDoor
