/-
  Walks: package inline: Place.
-/
import Derived.Test.YtlnekijhbnlclaaGreatDoorInline
import Derived.Test.YtlnekijhbnlclaaGreatDoorRunePlain
namespace Go.Proofs.YtlnekijhbnlclaaGreatDoor
open Go.RowKit Go.Shelf
set_option linter.unusedVariables false
set_option linter.unusedSimpArgs false
def psC (p:Int×Int):List Value:=[.int .i64 p.1,.int .i64 p.2]
def shPos:Shp (Int×Int):=⟨223,2,psC,fun _=>rfl,fun x u hu=>by
 unfold psC at hu
 simp only [List.mem_cons,List.not_mem_nil,or_false] at hu
 (repeat' (rcases hu with rfl | hu)) <;> first | rfl | (subst hu; rfl)⟩
theorem qwm:shPos.Ok Tryz.prog 219 16:=by
 refine ⟨Tryz.underlying219,?_,by decide,by decide⟩
 have h:(Tryz.prog.info? 223).map (fun i=>(i.zero,i.size,i.bytes))=some (some (.agg #[.int .i64 0,.int .i64 0]),2,16):=by kernel_rfl
 cases hi:Tryz.prog.info? 223 with
 | none=>rw [hi] at h; cases h
 | some i =>
  rw [hi] at h
  injection h with h
  injection h with h1 h2
  injection h2 with h2 h3
  exact ⟨i,_,hi,h1,h2,h3,rfl⟩
def qol (R:List (Int×Int)×Int×Int×Int) (w:World) (e:Ending) (w':World):Prop :=
 ∃ v,e=.returned (.tuple #[v,.int .i64 R.2.1,.int .i64 R.2.2.1,.int .i64 R.2.2.2])/\shPos.Owns w' w.heap.size v R.1/\Below w.heap.size w w'
theorem qso {l:List Sp} {up down width:Int} {lines:Nat} (h:2048 < l.length\/2 < lines):q3b l up down width lines=([],0,0,2):=if_pos h
theorem qno {l:List Sp} {up down width:Int} {lines:Nat} (h:¬ (2048 < l.length\/2 < lines)) (h2:l.any (fun s=>decide (2 < s.align))=true):q3b l up down width lines=([],0,0,2):=(if_neg h).trans (if_pos h2)
theorem qrt {l:List Sp} {up down width:Int} {lines:Nat} (h:¬ (2048 < l.length\/2 < lines)) (h2:l.any (fun s=>decide (2 < s.align))=false) (h3:((fit up && fit down && fit width) && l.all fitS)=false) :
  q3b l up down width lines=([],0,0,10):=by
 refine (if_neg h).trans ((if_neg (by rw [h2]; decide)).trans (if_pos fun k=>?_))
 rw [k.1,k.2.1,k.2.2.1,k.2.2.2] at h3
 cases h3
theorem qfr {l:List Sp} {up down width:Int} {lines:Nat} (h:¬ (2048 < l.length\/2 < lines)) (h2:l.any (fun s=>decide (2 < s.align))=false) (h3:((fit up && fit down && fit width) && l.all fitS)=true) :
  q3b l up down width lines=if (fit (lineH l up down) && fit (qub l up) && (posGo (lineH l up down) (qub l up) l (leadR (w64 (width - allW l)) lines)).all fun p=>fit p.1 && fit p.2)=true
   then (posGo (lineH l up down) (qub l up) l (leadR (w64 (width - allW l)) lines),lineH l up down,qub l up,0) else ([],0,0,10):=by
 simp only [Bool.and_eq_true] at h3
 exact (if_neg h).trans ((if_neg (by rw [h2]; decide)).trans (if_neg fun k=>k ⟨h3.1.1.1,h3.1.1.2,h3.1.2,h3.2⟩))
theorem qxs {l:List Sp} {k:Nat} (hk:k < l.length):allW (l.take (k+1))=w64 (allW (l.take k)+l[k].width):=by
 unfold allW
 rw [List.take_succ_eq_append_getElem hk,List.foldl_append,List.foldl_cons,List.foldl_nil]
def atGo:List Sp->Int->Int
 | [],a=>a
 | s :: r,a=>atGo r (w64 (a+s.width))
theorem q6j (h b:Int):∀ (l:List Sp) (a:Int) (s:Sp),posGo h b (l ++ [s]) a=posGo h b l a ++ [(atGo l a,spotY h b s)]
 | [],a,s=>rfl
 | x :: l,a,s=>by
  show _ :: posGo h b (l ++ [s]) _=_
  rw [q6j h b l _ s]
  rfl
theorem qco:∀ (l:List Sp) (a:Int) (s:Sp),atGo (l ++ [s]) a=w64 (atGo l a+s.width)
 | [],a,s=>rfl
 | x :: l,a,s=>qco l _ s
theorem qth (h b:Int):∀ (l:List Sp) (a:Int),(posGo h b l a).length=l.length
 | [],_=>rfl
 | x :: l,a=>by show _+1=_+1; rw [qth h b l]
def PlA (l:List Sp) (f0:Bool) (w:World) (ok all i:Value) (wr:World):Prop :=
 ∃ k:Nat,k<=l.length/\i=.int .i64 k/\ok=.bool (f0 && (l.take k).all fitS)/\all=.int .i64 (allW (l.take k))/\(l.take k).any (fun s=>decide (2 < s.align))=false/\Below w.heap.size w wr
def PlB (l:List Sp) (H b a0:Int) (f1:Bool) (X Y:Nat) (w:World) (ok out at_ i:Value) (wr:World):Prop :=
 ∃ k:Nat,k<=l.length/\i=.int .i64 k/\ok=.bool (f1 && (posGo H b (l.take k) a0).all fun p=>fit p.1 && fit p.2)/\at_=.int .i64 (atGo (l.take k) a0)/\Below w.heap.size w wr /\
  shPos.Owns wr (Y+1) out (posGo H b (l.take k) a0)/\Blk wr X 266 #[.int .i64 H,.int .i64 b]/\Blk wr Y 269 (wyC H b)
theorem q3m (a b c:Int) (t:TypeId) (w:World) :
  Calls Tryz.prog 37 #[.slice (some ⟨w.heap.size,0,none⟩) 3 3] (w.alloc (.cells #[.int .i64 a,.int .i64 b,.int .i64 c] t)) fun e w'=>e=.returned (.bool (fit a && fit b && fit c))/\w.alloc (.cells #[.int .i64 a,.int .i64 b,.int .i64 c] t)=w' :=
 (qhc [a,b,c] _ _ _ (Ints.built w [a,b,c] t) (by simp)).mono fun _ _ ⟨h1,h2⟩=>⟨by simpa [Bool.and_assoc] using h1,h2⟩
theorem Blk.keptG {W W':World} {g:Nat} {t:TypeId} {cs:Array Value} {row:Option Nat} (h:Blk W g t cs) (hg:W.grownBy W' row) (hne:some g≠row):Blk W' g t cs:=(hg.block g h.lt hne).trans h
set_option linter.unusedSimpArgs false
set_option linter.unusedVariables false
set_option maxRecDepth 100000 in
set_option maxHeartbeats 4000000 in
theorem qwp (l:List Sp) (up down width:Int) (lines:Nat) (v:Value) (B:Nat) (w:World) (h:shSp.In w B v l) (hB:B<=w.heap.size) (hm:l.length < 1000000) :
  Calls Tryz.prog 140 #[v,.int .i64 up,.int .i64 down,.int .i64 width,.int .u8 lines] w (qol (q3b l up down width lines) w):=by
 have hI:=h
 obtain ⟨A,c,rfl,hc,hr⟩:=h
 have H0:=Lib.hid (fun W (hW:Below w.heap.size w W)=>Shp.In.below (S:=shSp) hI (hW.mono hB))
 clear hr
 by_cases ha:2048 < l.length\/2 < lines
 ·have HR:=Lib.hid (qso (up:=up) (down:=down) (width:=width) ha)
  have h3:2048 < l.length\/(¬ 2048 < l.length/\2 < lines):=by omega
  clear ha
  rcases h3 with g1 | ⟨g1,g2⟩
  all_goals
   try have g3:(2:Int) < (lines:Int):=by omega
   go_enter Tryz.func140,Tryz.ntmps140
   go_wp2_with fail
   refine bodyPost_ret (qqc rfl _ _ _) rfl ?_
   exact ⟨_,by rw [HR.out]; rfl,by rw [HR.out]; exact Shp.Owns.nil _ _,Below.refl _ _⟩
 ·have n1:¬ 2048 < l.length:=fun h=>ha (.inl h)
  have n2:¬ (2:Int) < (lines:Int):=fun h=>ha (.inr (by omega))
  have HA:=Lib.hid ha
  clear ha
  have hf0:=q3m up down width 3 w
  obtain ⟨f0,hf0e⟩:∃ f0,(fit up && fit down && fit width)=f0:=⟨_,rfl⟩
  rw [hf0e] at hf0
  have HF0:=Lib.hid hf0e
  clear hf0e
  go_enter Tryz.func140,Tryz.ntmps140
  go_wp2_with fail
  refine hf0.mono ?_
  rintro e w2 ⟨rfl,rfl⟩
  go_wp2_with fail
  have hb0:Below w.heap.size w (w.alloc (.cells #[.int .i64 up,.int .i64 down,.int .i64 width] 3)):=(Below.refl _ _).alloc (Nat.le_refl _) _
  generalize w.alloc (.cells #[.int .i64 up,.int .i64 down,.int .i64 width] 3)=w2 at *
  go_loopw [14,15,39] (PlA l f0 w) (fun _ _ i _=>l.length - (intOf i).toNat)
  case atStart=>exact ⟨0,by omega,rfl,by simp,rfl,by simp,hb0⟩
  case round =>
   obtain ⟨k,hk,rfl,rfl,rfl,hany,hb⟩:=hrel
   have hbs:=hb.size
   obtain ⟨ok,hok⟩:∃ ok,(f0 && (l.take k).all fitS)=ok:=⟨_,rfl⟩
   rw [hok]
   by_cases hlt:k < l.length
   ·obtain ⟨b,o,rfl,hbB,c0,c1,c2,c3⟩:=qog (H0.out _ hb) hlt
    have HW:=Lib.hid (qxs hlt)
    have HT:=Lib.hid (List.take_succ_eq_append_getElem hlt)
    have HM:=Lib.hid (List.getElem_mem hlt)
    generalize l[k]=s at *
    obtain ⟨sw,su,sd,sa⟩:=s
    simp only at c0 c1 c2 c3
    generalize allW (l.take k)=aw at *
    by_cases hz:2 < sa
    ·have HR:=Lib.hid (qno (up:=up) (down:=down) (width:=width) HA.out (List.any_eq_true.2 ⟨_,HM.out,decide_eq_true hz⟩))
     have hzz:(2:Int) < (sa:Int):=by omega
     go_wp2_with fail
     refine bodyPost_ret (qqc rfl _ _ _) rfl ?_
     exact ⟨_,by rw [HR.out]; rfl,by rw [HR.out]; exact Shp.Owns.nil _ _,hb.alloc hbs _⟩
    ·have hzz:¬ (2:Int) < (sa:Int):=by omega
     have hany':=Lib.hid (show (l.take (k+1)).any (fun x=>decide (2 < x.align))=false by rw [HT.out,List.any_append,hany]; simp [hz])
     have hall':=Lib.hid (show (f0 && (l.take (k+1)).all fitS)=(ok && fitS ⟨sw,su,sd,sa⟩) by rw [HT.out,List.all_append,<-Bool.and_assoc,hok]; simp)
     have hf1:=q3m sw su sd 3 (wr.alloc (.cells #[.int .i64 sw,.int .i64 su,.int .i64 sd,.int .u8 sa] 191))
     rw [World.size_alloc] at hf1
     clear hany hok
     cases ok with
     | false =>
      go_wp2_with fail
      refine ⟨⟨k+1,by omega,by go_num,by rw [hall'.out]; rfl,by rw [HW.out],hany'.out,hb.alloc hbs _⟩,by simp [intOf]; omega⟩
     | true =>
      go_wp2_with fail
      refine hf1.mono ?_
      rintro e w3 ⟨rfl,rfl⟩
      go_wp2_with fail
      refine ⟨⟨k+1,by omega,by go_num,by rw [hall'.out]; rfl,by rw [HW.out],hany'.out,(hb.alloc hbs _).alloc (by simp; omega) _⟩,by simp [intOf]; omega⟩
   ·obtain rfl:k=l.length:=by omega
    rw [List.take_length] at hok hany ⊢
    rw [<-HF0.out] at hok
    cases ok with
    | false =>
     have HR:=Lib.hid (qrt HA.out hany hok)
     go_wp2_with fail
     refine bodyPost_ret (qqc rfl _ _ _) rfl ?_
     exact ⟨_,by rw [HR.out]; rfl,by rw [HR.out]; exact Shp.Owns.nil _ _,hb⟩
    | true =>
     have HR:=Lib.hid (qfr HA.out hany hok)
     have hof:=qks l up down (.slice A l.length c) B wr (H0.out _ hb) (by omega) hm
     generalize lineH l up down=H at *
     generalize qub l up=b at *
     generalize hAW:allW l=aw at *
     unfold lnV2 at hof
     have hwy:=fun W=>q7o H b W
     unfold lnV2 at hwy
     have hone:∀ v ∈ (wyC H b).toList,v.oneCell'=true:=by
      intro v hv
      simp only [wyC,List.mem_cons,List.not_mem_nil,or_false] at hv
      rcases hv with rfl | rfl | rfl <;> rfl
     have hinf:(Tryz.prog.info? 269).map (·.size)=some 3:=by kernel_rfl
     have Q:=Lib.hid (And.intro hone hinf)
     clear hone hinf
     go_wp2_with fail
     refine hof.mono ?_
     rintro e w3 ⟨rfl,hb3⟩
     have hB3:Below w.heap.size w w3:=hb.trans (hb3.mono hb.size)
     go_wp2_with fail
     have hX3:=Blk.new w3 266 #[.int .i64 H,.int .i64 b]
     have hB3':=hB3.alloc hB3.size (.cells #[.int .i64 H,.int .i64 b] 266)
     have hXw:w.heap.size<=w3.heap.size:=hB3.size
     generalize hX:w3.heap.size=X at *
     refine (hwy _).mono ?_
     rintro e w4 ⟨rfl,hb4⟩
     have hX4:=hX3.below hb4 hX3.lt
     have hB4:Below w.heap.size w w4:=hB3'.trans (hb4.mono hB3'.size)
     have hY4:=Blk.new w4 269 #[.nilFunc,.nilFunc,.nilFunc]
     have hXY:X < w4.heap.size:=hX4.lt
     obtain ⟨Y,hY⟩:∃ Y,w4.heap.size=Y:=⟨_,rfl⟩
     have HYW:=Lib.hid hY
     clear hY
     clear hb3 hb4 hof hwy
     go_upto_region 16 with (refine qmd rfl 269 _ _ rfl w4.heap.size 0 269 [.nilFunc,.nilFunc,.nilFunc] (wyC H b).toList rfl hY4 rfl (Nat.le_refl 3) Q.out.2 Q.out.1 ?_; intro w5 r2 r3 r4)
     rw [World.size_alloc] at r4
     rw [HYW.out] at r2 r3 r4 ⊢
     have hY5:Blk w5 Y 269 (wyC H b):=by rw [qjd (L:=[.nilFunc,.nilFunc,.nilFunc]) (r:=(wyC H b).toList) rfl] at r2; exact r2
     have k5:Kept [] w4 w5:=((Kept.refl [] w4).alloc _).fresh r3 (by have:=HYW.out; simp; omega)
     have hs5:w5.heap.size=Y+1:=r4
     have hX5:=hX4.kept k5 (by simp)
     have hB5:Below w.heap.size w w5:=hB4.trans (k5.to_below hB4.size (by simp))
     have HS5:=Lib.hid hs5
     have HXY:X < Y:=by rw [<-HYW.out]; exact hXY
     clear r2 r3 r4 hs5 hXY hY4 hX3 hX4 hB4 hB3' k5
     have x0:=hX5.cell 0
     have x1:=hX5.cell 1
     simp only [List.getElem?_toArray,List.getElem?_cons_zero,List.getElem?_cons_succ] at x0 x1
     have hf2:=qll H b 3 w5
     go_wp2_with fail
     refine hf2.mono ?_
     rintro e w6 ⟨rfl,rfl⟩
     have hld:=fun W=>qbx (w64 (width - aw)) lines W (by unfold w64 Go.RowKit.wrap64; omega)
     have hX6:=hX5.alloc (.cells #[.int .i64 H,.int .i64 b] 3)
     have hY6:=hY5.alloc (.cells #[.int .i64 H,.int .i64 b] 3)
     have hB6:=hB5.alloc hB5.size (.cells #[.int .i64 H,.int .i64 b] 3)
     have hs6:Y+1<=(w5.alloc (.cells #[.int .i64 H,.int .i64 b] 3)).heap.size:=by rw [World.size_alloc,HS5.out]; omega
     clear hf2 x0 x1
     generalize w5.alloc (.cells #[.int .i64 H,.int .i64 b] 3)=w6 at *
     obtain ⟨a0,ha0⟩:∃ a0,leadR (w64 (width - aw)) lines=a0:=⟨_,rfl⟩
     rw [ha0] at HR
     simp only [ha0] at hld
     have f1e:∃ f1,(fit H && fit b)=f1:=⟨_,rfl⟩
     obtain ⟨f1,hf1⟩:=f1e
     rw [hf1] at HR ⊢
     clear ha0 hf1
     go_wp2_with fail
     refine (hld _).mono ?_
     rintro e w7 ⟨rfl,rfl⟩
     go_wp2_with fail
     go_loopw [14,20,21,83] (PlB l H b a0 f1 X Y w) (fun _ _ _ i _=>l.length - (intOf i).toNat)
     case atStart=>exact ⟨0,by omega,rfl,by simp [posGo],rfl,hB6,Shp.Owns.nil _ _,hX6,hY6⟩
     case round =>
      obtain ⟨k,hk,rfl,rfl,rfl,hb,ho,hXr,hYr⟩:=hrel
      have hbs:=hb.size
      obtain ⟨ok,hok⟩:∃ ok,(f1 && (posGo H b (l.take k) a0).all fun p=>fit p.1 && fit p.2)=ok:=⟨_,rfl⟩
      rw [hok]
      have hYs:=hYr.lt
      by_cases hlt:k < l.length
      ·obtain ⟨bb,o,rfl,hbB,c0,c1,c2,c3⟩:=qog (H0.out _ hb) hlt
       have HT:=List.take_succ_eq_append_getElem hlt
       have HP:=Lib.hid (show posGo H b (l.take (k+1)) a0=posGo H b (l.take k) a0 ++ [(atGo (l.take k) a0,spotY H b l[k])] by rw [HT,q6j])
       have HG:=Lib.hid (show atGo (l.take (k+1)) a0=w64 (atGo (l.take k) a0+l[k].width) by rw [HT,qco])
       have hsa:l[k].align<=2:=by
        have:=List.any_eq_false.1 hany _ (List.getElem_mem hlt)
        simpa using this
       have hpl:=qth H b (l.take k) a0
       rw [List.length_take] at hpl
       have hpl':(posGo H b (l.take k) a0).length+1<=1000000000:=by omega
       clear HT hpl
       generalize l[k]=s at *
       obtain ⟨sw,su,sd,sa⟩:=s
       simp only at c0 c1 c2 c3 hsa
       generalize atGo (l.take k) a0=at_ at *
       generalize posGo H b (l.take k) a0=ps at *
       obtain ⟨y,hy⟩:∃ y,spotY H b ⟨sw,su,sd,sa⟩=y:=⟨_,rfl⟩
       rw [hy] at HP
       have HY:=Lib.hid hy
       clear hy
       go_upto_region 22 with fail
       have hb8:=hb.alloc hbs (.cells #[.int .i64 sw,.int .i64 su,.int .i64 sd,.int .u8 sa] 191)
       have ho8:=ho.alloc (.cells #[.int .i64 sw,.int .i64 su,.int .i64 sd,.int .u8 sa] 191)
       have hX8:=hXr.alloc (.cells #[.int .i64 sw,.int .i64 su,.int .i64 sd,.int .u8 sa] 191)
       have hY8:=hYr.alloc (.cells #[.int .i64 sw,.int .i64 su,.int .i64 sd,.int .u8 sa] 191)
       have hS8:=Blk.new wr 191 #[.int .i64 sw,.int .i64 su,.int .i64 sd,.int .u8 sa]
       have hnS:=fun k (hk:u20.ownBlock=some k)=>(ho.lt k hk).2
       generalize wr.alloc (.cells #[.int .i64 sw,.int .i64 su,.int .i64 sd,.int .u8 sa] 191)=w8 at *
       generalize wr.heap.size=Sb at *
       clear c0 c1 c2 c3 hb ho hXr hYr
       go_cut [24] (fun p wx=>∃ Pb,p=.pointer (some ⟨Pb,0,none⟩)/\Blk wx Pb 223 #[.int .i64 at_,.int .i64 y]/\Kept [] w8 wx/\w8.heap.size<=Pb)
       case first =>
        have s0:∀ V:BW w8.heap.size w8,V.val.cell? ⟨Sb,0,none⟩=some (.int .i64 sw):=fun V=>(hS8.below V.ok hS8.lt).cell 0
        have s1:∀ V:BW w8.heap.size w8,V.val.cell? ⟨Sb,1,none⟩=some (.int .i64 su):=fun V=>(hS8.below V.ok hS8.lt).cell 1
        have s2:∀ V:BW w8.heap.size w8,V.val.cell? ⟨Sb,2,none⟩=some (.int .i64 sd):=fun V=>(hS8.below V.ok hS8.lt).cell 2
        have s3:∀ V:BW w8.heap.size w8,V.val.cell? ⟨Sb,3,none⟩=some (.int .u8 sa):=fun V=>(hS8.below V.ok hS8.lt).cell 3
        have t0:∀ V:BW w8.heap.size w8,V.val.cell? ⟨Y,0,none⟩=some (.func (.func 197) #[.agg #[.int .i64 H,.int .i64 b]] #[]):=fun V=>(hY8.below V.ok hY8.lt).cell 0
        have t1:∀ V:BW w8.heap.size w8,V.val.cell? ⟨Y,1,none⟩=some (.func (.func 198) #[.agg #[.int .i64 H,.int .i64 b]] #[]):=fun V=>(hY8.below V.ok hY8.lt).cell 1
        have t2:∀ V:BW w8.heap.size w8,V.val.cell? ⟨Y,2,none⟩=some (.func (.func 199) #[.agg #[.int .i64 H,.int .i64 b]] #[]):=fun V=>(hY8.below V.ok hY8.lt).cell 2
        have h3:sa=0\/sa=1\/sa=2:=by omega
        rcases h3 with rfl | rfl | rfl
        ·obtain rfl:=HY.out
         clear HY HP
         refine q5d [9] [0,1,2,3,4,5] 4 (fun w'=>∃ V:BW (w8.heap.size) w8,w'=V.val) (by kernel_rfl) (by kernel_rfl) (fun c a d v w h=>by cases d <;> exact h) ⟨⟨w8.drew,(Below.refl _ _).drew⟩,rfl⟩ ?_
         simp only [pickD,List.map_cons,List.map_nil,List.getD_cons_zero,List.getD_cons_succ]
         repeat (go_big_quiet_step (fail))
         refine wpQuiet_nil ?_
         refine qba [6,8] (by kernel_rfl) fun i hi=>?_
         rcases (by simpa using hi:i=6\/i=8) with rfl | rfl
         ·skip
          refine qaa rfl fun K hK=>?_
          go_simp
          go_at_call 197
          refine (qjm H b ⟨sw,su,sd,0⟩ _).mono ?_
          rintro e w9 ⟨rfl,hb9⟩
          have hb9p:Below w8.heap.size w8 w9:=((Below.refl _ _).drew).trans hb9
          refine hK.out _ _ (.inr ⟨⟨_,hb9p⟩,rfl⟩) ?_
          clear hK K
          try simp only [Act.put,zA,zB,zC]
          refine qba [7,8] (by kernel_rfl) fun i hi=>?_
          rcases (by simpa using hi:i=7\/i=8) with rfl | rfl
          ·skip
           refine qaa rfl fun K hK=>?_
           go_simp
           refine hK.out _ _ (.inr ⟨⟨_,hb9p⟩,rfl⟩) ?_
           clear hK K
           try simp only [Act.put,zA,zB,zC]
           refine qba [8] (by kernel_rfl) fun i hi=>?_
           obtain rfl:i=8:=by simpa using hi
           refine qaa rfl fun K hK=>?_
           go_simp
           refine hK.out _ _ (.inr ⟨⟨_,(hb9p).alloc (by first | exact Nat.le_refl _ | exact hb9p.size) _⟩,rfl⟩) ?_
           clear hK K
           try simp only [Act.put,zA,zB,zC]
           refine qba [9] (by kernel_rfl) fun i hi=>?_
           obtain rfl:i=9:=by simpa using hi
           refine qaa rfl fun K hK=>?_
           go_simp
           refine hK.out _ _ (.inl (by decide)) ?_
           clear hK K
           try simp only [Act.put,zA,zB,zC]
           refine qma (by kernel_rfl) ?_
           go_wp2_with fail
           go_meet
           exact ⟨w9.heap.size,rfl,Blk.new _ _ _,(Kept.of_below hb9p).alloc _,hb9p.size⟩
          ·skip
           refine qaa rfl fun K hK=>?_
           go_simp
           refine hK.out _ _ (.inr ⟨⟨_,(hb9p).alloc (by first | exact Nat.le_refl _ | exact hb9p.size) _⟩,rfl⟩) ?_
           clear hK K
           try simp only [Act.put,zA,zB,zC]
           refine qba [7] (by kernel_rfl) fun i hi=>?_
           obtain rfl:i=7:=by simpa using hi
           refine qaa rfl fun K hK=>?_
           go_simp
           refine hK.out _ _ (.inr ⟨⟨_,(hb9p).alloc (by first | exact Nat.le_refl _ | exact hb9p.size) _⟩,rfl⟩) ?_
           clear hK K
           try simp only [Act.put,zA,zB,zC]
           refine qba [9] (by kernel_rfl) fun i hi=>?_
           obtain rfl:i=9:=by simpa using hi
           refine qaa rfl fun K hK=>?_
           go_simp
           refine hK.out _ _ (.inl (by decide)) ?_
           clear hK K
           try simp only [Act.put,zA,zB,zC]
           refine qma (by kernel_rfl) ?_
           go_wp2_with fail
           go_meet
           exact ⟨w9.heap.size,rfl,Blk.new _ _ _,(Kept.of_below hb9p).alloc _,hb9p.size⟩
         ·skip
          refine qaa rfl fun K hK=>?_
          go_simp
          refine hK.out _ _ (.inr ⟨⟨_,((Below.refl _ _).drew).alloc (by first | exact Nat.le_refl _ | exact hb9p.size) _⟩,rfl⟩) ?_
          clear hK K
          try simp only [Act.put,zA,zB,zC]
          refine qba [6] (by kernel_rfl) fun i hi=>?_
          obtain rfl:i=6:=by simpa using hi
          refine qaa rfl fun K hK=>?_
          go_simp
          go_at_call 197
          refine (qjm H b ⟨sw,su,sd,0⟩ _).mono ?_
          rintro e w9 ⟨rfl,hb9⟩
          have hb9p:Below w8.heap.size w8 w9:=(((Below.refl _ _).drew).alloc (Nat.le_refl _) (.cells #[.int .i64 0,.int .i64 0] 223)).trans (hb9.mono (by simp))
          have hP9:Blk w9 w8.heap.size 223 #[.int .i64 0,.int .i64 0]:=(Blk.new w8.drew 223 #[.int .i64 0,.int .i64 0]).below hb9 (by simp)
          have p0:=hP9.cell 0
          have p1:=hP9.cell 1
          have p2:=hP9.frozen
          simp only [List.getElem?_toArray,List.getElem?_cons_zero,List.getElem?_cons_succ] at p0 p1
          refine hK.out _ _ (.inr ⟨⟨_,hb9p⟩,rfl⟩) ?_
          clear hK K
          try simp only [Act.put,zA,zB,zC]
          refine qba [7] (by kernel_rfl) fun i hi=>?_
          obtain rfl:i=7:=by simpa using hi
          refine qaa rfl fun K hK=>?_
          go_simp
          refine hK.out _ _ (.inr ⟨⟨_,hb9p⟩,rfl⟩) ?_
          clear hK K
          try simp only [Act.put,zA,zB,zC]
          refine qba [9] (by kernel_rfl) fun i hi=>?_
          obtain rfl:i=9:=by simpa using hi
          refine qaa rfl fun K hK=>?_
          go_simp
          refine hK.out _ _ (.inl (by decide)) ?_
          clear hK K
          try simp only [Act.put,zA,zB,zC]
          refine qma (by kernel_rfl) ?_
          go_wp2_with fail
          go_meet
          have hP8:=(hP9.set_ 0 (.int .i64 at_)).set_ 1 (.int .i64 (w64 (b - su)))
          simp only [zA,zB,zC] at hP8
          exact ⟨w8.heap.size,rfl,hP8,Kept.setNew (Kept.setNew (Kept.of_below hb9p) (p:=⟨w8.heap.size,0,none⟩) (Nat.le_refl _) _) (p:=⟨w8.heap.size,1,none⟩) (Nat.le_refl _) _,Nat.le_refl _⟩
        ·obtain rfl:=HY.out
         clear HY HP
         refine q5d [9] [0,1,2,3,4,5] 4 (fun w'=>∃ V:BW (w8.heap.size) w8,w'=V.val) (by kernel_rfl) (by kernel_rfl) (fun c a d v w h=>by cases d <;> exact h) ⟨⟨w8.drew,(Below.refl _ _).drew⟩,rfl⟩ ?_
         simp only [pickD,List.map_cons,List.map_nil,List.getD_cons_zero,List.getD_cons_succ]
         repeat (go_big_quiet_step (fail))
         refine wpQuiet_nil ?_
         refine qba [6,8] (by kernel_rfl) fun i hi=>?_
         rcases (by simpa using hi:i=6\/i=8) with rfl | rfl
         ·skip
          refine qaa rfl fun K hK=>?_
          go_simp
          go_at_call 198
          refine (qhl H b ⟨sw,su,sd,1⟩ _).mono ?_
          rintro e w9 ⟨rfl,hb9⟩
          have hb9p:Below w8.heap.size w8 w9:=((Below.refl _ _).drew).trans hb9
          refine hK.out _ _ (.inr ⟨⟨_,hb9p⟩,rfl⟩) ?_
          clear hK K
          try simp only [Act.put,zA,zB,zC]
          refine qba [7,8] (by kernel_rfl) fun i hi=>?_
          rcases (by simpa using hi:i=7\/i=8) with rfl | rfl
          ·skip
           refine qaa rfl fun K hK=>?_
           go_simp
           refine hK.out _ _ (.inr ⟨⟨_,hb9p⟩,rfl⟩) ?_
           clear hK K
           try simp only [Act.put,zA,zB,zC]
           refine qba [8] (by kernel_rfl) fun i hi=>?_
           obtain rfl:i=8:=by simpa using hi
           refine qaa rfl fun K hK=>?_
           go_simp
           refine hK.out _ _ (.inr ⟨⟨_,(hb9p).alloc (by first | exact Nat.le_refl _ | exact hb9p.size) _⟩,rfl⟩) ?_
           clear hK K
           try simp only [Act.put,zA,zB,zC]
           refine qba [9] (by kernel_rfl) fun i hi=>?_
           obtain rfl:i=9:=by simpa using hi
           refine qaa rfl fun K hK=>?_
           go_simp
           refine hK.out _ _ (.inl (by decide)) ?_
           clear hK K
           try simp only [Act.put,zA,zB,zC]
           refine qma (by kernel_rfl) ?_
           go_wp2_with fail
           go_meet
           exact ⟨w9.heap.size,rfl,Blk.new _ _ _,(Kept.of_below hb9p).alloc _,hb9p.size⟩
          ·skip
           refine qaa rfl fun K hK=>?_
           go_simp
           refine hK.out _ _ (.inr ⟨⟨_,(hb9p).alloc (by first | exact Nat.le_refl _ | exact hb9p.size) _⟩,rfl⟩) ?_
           clear hK K
           try simp only [Act.put,zA,zB,zC]
           refine qba [7] (by kernel_rfl) fun i hi=>?_
           obtain rfl:i=7:=by simpa using hi
           refine qaa rfl fun K hK=>?_
           go_simp
           refine hK.out _ _ (.inr ⟨⟨_,(hb9p).alloc (by first | exact Nat.le_refl _ | exact hb9p.size) _⟩,rfl⟩) ?_
           clear hK K
           try simp only [Act.put,zA,zB,zC]
           refine qba [9] (by kernel_rfl) fun i hi=>?_
           obtain rfl:i=9:=by simpa using hi
           refine qaa rfl fun K hK=>?_
           go_simp
           refine hK.out _ _ (.inl (by decide)) ?_
           clear hK K
           try simp only [Act.put,zA,zB,zC]
           refine qma (by kernel_rfl) ?_
           go_wp2_with fail
           go_meet
           exact ⟨w9.heap.size,rfl,Blk.new _ _ _,(Kept.of_below hb9p).alloc _,hb9p.size⟩
         ·skip
          refine qaa rfl fun K hK=>?_
          go_simp
          refine hK.out _ _ (.inr ⟨⟨_,((Below.refl _ _).drew).alloc (by first | exact Nat.le_refl _ | exact hb9p.size) _⟩,rfl⟩) ?_
          clear hK K
          try simp only [Act.put,zA,zB,zC]
          refine qba [6] (by kernel_rfl) fun i hi=>?_
          obtain rfl:i=6:=by simpa using hi
          refine qaa rfl fun K hK=>?_
          go_simp
          go_at_call 198
          refine (qhl H b ⟨sw,su,sd,1⟩ _).mono ?_
          rintro e w9 ⟨rfl,hb9⟩
          have hb9p:Below w8.heap.size w8 w9:=(((Below.refl _ _).drew).alloc (Nat.le_refl _) (.cells #[.int .i64 0,.int .i64 0] 223)).trans (hb9.mono (by simp))
          have hP9:Blk w9 w8.heap.size 223 #[.int .i64 0,.int .i64 0]:=(Blk.new w8.drew 223 #[.int .i64 0,.int .i64 0]).below hb9 (by simp)
          have p0:=hP9.cell 0
          have p1:=hP9.cell 1
          have p2:=hP9.frozen
          simp only [List.getElem?_toArray,List.getElem?_cons_zero,List.getElem?_cons_succ] at p0 p1
          refine hK.out _ _ (.inr ⟨⟨_,hb9p⟩,rfl⟩) ?_
          clear hK K
          try simp only [Act.put,zA,zB,zC]
          refine qba [7] (by kernel_rfl) fun i hi=>?_
          obtain rfl:i=7:=by simpa using hi
          refine qaa rfl fun K hK=>?_
          go_simp
          refine hK.out _ _ (.inr ⟨⟨_,hb9p⟩,rfl⟩) ?_
          clear hK K
          try simp only [Act.put,zA,zB,zC]
          refine qba [9] (by kernel_rfl) fun i hi=>?_
          obtain rfl:i=9:=by simpa using hi
          refine qaa rfl fun K hK=>?_
          go_simp
          refine hK.out _ _ (.inl (by decide)) ?_
          clear hK K
          try simp only [Act.put,zA,zB,zC]
          refine qma (by kernel_rfl) ?_
          go_wp2_with fail
          go_meet
          have hP8:=(hP9.set_ 0 (.int .i64 at_)).set_ 1 (.int .i64 (0))
          simp only [zA,zB,zC] at hP8
          exact ⟨w8.heap.size,rfl,hP8,Kept.setNew (Kept.setNew (Kept.of_below hb9p) (p:=⟨w8.heap.size,0,none⟩) (Nat.le_refl _) _) (p:=⟨w8.heap.size,1,none⟩) (Nat.le_refl _) _,Nat.le_refl _⟩
        ·obtain rfl:=HY.out
         clear HY HP
         refine q5d [9] [0,1,2,3,4,5] 4 (fun w'=>∃ V:BW (w8.heap.size) w8,w'=V.val) (by kernel_rfl) (by kernel_rfl) (fun c a d v w h=>by cases d <;> exact h) ⟨⟨w8.drew,(Below.refl _ _).drew⟩,rfl⟩ ?_
         simp only [pickD,List.map_cons,List.map_nil,List.getD_cons_zero,List.getD_cons_succ]
         repeat (go_big_quiet_step (fail))
         refine wpQuiet_nil ?_
         refine qba [6,8] (by kernel_rfl) fun i hi=>?_
         rcases (by simpa using hi:i=6\/i=8) with rfl | rfl
         ·skip
          refine qaa rfl fun K hK=>?_
          go_simp
          go_at_call 199
          refine (qdl H b ⟨sw,su,sd,2⟩ _).mono ?_
          rintro e w9 ⟨rfl,hb9⟩
          have hb9p:Below w8.heap.size w8 w9:=((Below.refl _ _).drew).trans hb9
          refine hK.out _ _ (.inr ⟨⟨_,hb9p⟩,rfl⟩) ?_
          clear hK K
          try simp only [Act.put,zA,zB,zC]
          refine qba [7,8] (by kernel_rfl) fun i hi=>?_
          rcases (by simpa using hi:i=7\/i=8) with rfl | rfl
          ·skip
           refine qaa rfl fun K hK=>?_
           go_simp
           refine hK.out _ _ (.inr ⟨⟨_,hb9p⟩,rfl⟩) ?_
           clear hK K
           try simp only [Act.put,zA,zB,zC]
           refine qba [8] (by kernel_rfl) fun i hi=>?_
           obtain rfl:i=8:=by simpa using hi
           refine qaa rfl fun K hK=>?_
           go_simp
           refine hK.out _ _ (.inr ⟨⟨_,(hb9p).alloc (by first | exact Nat.le_refl _ | exact hb9p.size) _⟩,rfl⟩) ?_
           clear hK K
           try simp only [Act.put,zA,zB,zC]
           refine qba [9] (by kernel_rfl) fun i hi=>?_
           obtain rfl:i=9:=by simpa using hi
           refine qaa rfl fun K hK=>?_
           go_simp
           refine hK.out _ _ (.inl (by decide)) ?_
           clear hK K
           try simp only [Act.put,zA,zB,zC]
           refine qma (by kernel_rfl) ?_
           go_wp2_with fail
           go_meet
           exact ⟨w9.heap.size,rfl,Blk.new _ _ _,(Kept.of_below hb9p).alloc _,hb9p.size⟩
          ·skip
           refine qaa rfl fun K hK=>?_
           go_simp
           refine hK.out _ _ (.inr ⟨⟨_,(hb9p).alloc (by first | exact Nat.le_refl _ | exact hb9p.size) _⟩,rfl⟩) ?_
           clear hK K
           try simp only [Act.put,zA,zB,zC]
           refine qba [7] (by kernel_rfl) fun i hi=>?_
           obtain rfl:i=7:=by simpa using hi
           refine qaa rfl fun K hK=>?_
           go_simp
           refine hK.out _ _ (.inr ⟨⟨_,(hb9p).alloc (by first | exact Nat.le_refl _ | exact hb9p.size) _⟩,rfl⟩) ?_
           clear hK K
           try simp only [Act.put,zA,zB,zC]
           refine qba [9] (by kernel_rfl) fun i hi=>?_
           obtain rfl:i=9:=by simpa using hi
           refine qaa rfl fun K hK=>?_
           go_simp
           refine hK.out _ _ (.inl (by decide)) ?_
           clear hK K
           try simp only [Act.put,zA,zB,zC]
           refine qma (by kernel_rfl) ?_
           go_wp2_with fail
           go_meet
           exact ⟨w9.heap.size,rfl,Blk.new _ _ _,(Kept.of_below hb9p).alloc _,hb9p.size⟩
         ·skip
          refine qaa rfl fun K hK=>?_
          go_simp
          refine hK.out _ _ (.inr ⟨⟨_,((Below.refl _ _).drew).alloc (by first | exact Nat.le_refl _ | exact hb9p.size) _⟩,rfl⟩) ?_
          clear hK K
          try simp only [Act.put,zA,zB,zC]
          refine qba [6] (by kernel_rfl) fun i hi=>?_
          obtain rfl:i=6:=by simpa using hi
          refine qaa rfl fun K hK=>?_
          go_simp
          go_at_call 199
          refine (qdl H b ⟨sw,su,sd,2⟩ _).mono ?_
          rintro e w9 ⟨rfl,hb9⟩
          have hb9p:Below w8.heap.size w8 w9:=(((Below.refl _ _).drew).alloc (Nat.le_refl _) (.cells #[.int .i64 0,.int .i64 0] 223)).trans (hb9.mono (by simp))
          have hP9:Blk w9 w8.heap.size 223 #[.int .i64 0,.int .i64 0]:=(Blk.new w8.drew 223 #[.int .i64 0,.int .i64 0]).below hb9 (by simp)
          have p0:=hP9.cell 0
          have p1:=hP9.cell 1
          have p2:=hP9.frozen
          simp only [List.getElem?_toArray,List.getElem?_cons_zero,List.getElem?_cons_succ] at p0 p1
          refine hK.out _ _ (.inr ⟨⟨_,hb9p⟩,rfl⟩) ?_
          clear hK K
          try simp only [Act.put,zA,zB,zC]
          refine qba [7] (by kernel_rfl) fun i hi=>?_
          obtain rfl:i=7:=by simpa using hi
          refine qaa rfl fun K hK=>?_
          go_simp
          refine hK.out _ _ (.inr ⟨⟨_,hb9p⟩,rfl⟩) ?_
          clear hK K
          try simp only [Act.put,zA,zB,zC]
          refine qba [9] (by kernel_rfl) fun i hi=>?_
          obtain rfl:i=9:=by simpa using hi
          refine qaa rfl fun K hK=>?_
          go_simp
          refine hK.out _ _ (.inl (by decide)) ?_
          clear hK K
          try simp only [Act.put,zA,zB,zC]
          refine qma (by kernel_rfl) ?_
          go_wp2_with fail
          go_meet
          have hP8:=(hP9.set_ 0 (.int .i64 at_)).set_ 1 (.int .i64 (w64 (w64 (H - su) - sd)))
          simp only [zA,zB,zC] at hP8
          exact ⟨w8.heap.size,rfl,hP8,Kept.setNew (Kept.setNew (Kept.of_below hb9p) (p:=⟨w8.heap.size,0,none⟩) (Nat.le_refl _) _) (p:=⟨w8.heap.size,1,none⟩) (Nat.le_refl _) _,Nat.le_refl _⟩
       case rest =>
        obtain ⟨Pb,rfl,hP9,hk9,hP8⟩:=hcut
        have hX9:=hX8.kept hk9 (by simp)
        have hY9:=hY8.kept hk9 (by simp)
        have hS9:=hS8.kept hk9 (by simp)
        have ho9:=Shp.Owns.kept ho8 hk9 (by simp)
        have hB9:Below w.heap.size w wc:=hb8.trans (hk9.to_below hb8.size (by simp))
        have hS8l:=hb8.size
        clear hX8 hY8 hS8 ho8 hb8 hYs hbs HY
        generalize wc=w9 at *
        have s0:=hS9.cell 0
        have p0:=hP9.cell 0
        have p1:=hP9.cell 1
        simp only [List.getElem?_toArray,List.getElem?_cons_zero,List.getElem?_cons_succ] at s0 p0 p1
        have hall':=Lib.hid (show (f1 && (ps ++ [(at_,y)]).all fun p=>fit p.1 && fit p.2)=(ok && (fit at_ && fit y)) by rw [List.all_append,<-Bool.and_assoc,hok]; simp)
        have hY9l:=hY9.lt
        clear hok
        cases ok with
        | false =>
         go_wp2_with (at_builtin; refine qsd (v:=u20) (L:=ps) qwm w9 (at_,y) rfl _ _ rfl rfl ho9 rfl hpl' (by omega) ?_; intro v' wA hown' hgrow hloc; have s1:wA.cell? ⟨Sb,0,none⟩=some (.int .i64 sw):=((hS9.alloc (.cells (shPos.enc (at_,y)).toArray shPos.t)).keptG hgrow (fun e=>by have:=hnS Sb e.symm; omega)).cell 0)
         have hkA:Kept u20.ownBlock.toList w9 wA:=((Kept.refl _ w9).alloc _).grown hgrow fun g hg=>.inl (by rw [hg]; simp)
         have hnA:∀ g ∈ u20.ownBlock.toList,Y+1<=g:=fun g hg=>(ho9.lt g (by simpa using hg)).1
         refine ⟨⟨k+1,hlt,by go_num,by rw [HP.out,hall'.out]; rfl,by rw [HG.out],hB9.trans (hkA.to_below hB9.size fun g hg=>by have:=hnA g hg; omega),by rw [HP.out]; exact hown',hX9.kept hkA (fun hm=>by have:=hnA _ hm; omega),hY9.kept hkA (fun hm=>by have:=hnA _ hm; omega)⟩,by simp [intOf]; omega⟩
        | true =>
         have hf9:=qll at_ y 3 w9
         go_wp2_with fail
         refine hf9.mono ?_
         rintro e wB ⟨rfl,rfl⟩
         have hX9:=hX9.alloc (.cells #[.int .i64 at_,.int .i64 y] 3)
         have hY9:=hY9.alloc (.cells #[.int .i64 at_,.int .i64 y] 3)
         have ho9:=ho9.alloc (.cells #[.int .i64 at_,.int .i64 y] 3)
         have hP9:=hP9.alloc (.cells #[.int .i64 at_,.int .i64 y] 3)
         have hS9:=hS9.alloc (.cells #[.int .i64 at_,.int .i64 y] 3)
         have hB9:=hB9.alloc hB9.size (.cells #[.int .i64 at_,.int .i64 y] 3)
         clear hk9 hf9 s0 p0 p1 hY9l
         generalize w9.alloc (.cells #[.int .i64 at_,.int .i64 y] 3)=w9 at *
         have s0:=hS9.cell 0
         have p0:=hP9.cell 0
         have p1:=hP9.cell 1
         simp only [List.getElem?_toArray,List.getElem?_cons_zero,List.getElem?_cons_succ] at s0 p0 p1
         have hY9l:=hY9.lt
         go_wp2_with (at_builtin; refine qsd (v:=u20) (L:=ps) qwm w9 (at_,y) rfl _ _ rfl rfl ho9 rfl hpl' (by omega) ?_; intro v' wA hown' hgrow hloc; have s1:wA.cell? ⟨Sb,0,none⟩=some (.int .i64 sw):=((hS9.alloc (.cells (shPos.enc (at_,y)).toArray shPos.t)).keptG hgrow (fun e=>by have:=hnS Sb e.symm; omega)).cell 0)
         have hkA:Kept u20.ownBlock.toList w9 wA:=((Kept.refl _ w9).alloc _).grown hgrow fun g hg=>.inl (by rw [hg]; simp)
         have hnA:∀ g ∈ u20.ownBlock.toList,Y+1<=g:=fun g hg=>(ho9.lt g (by simpa using hg)).1
         refine ⟨⟨k+1,hlt,by go_num,by rw [HP.out,hall'.out]; rfl,by rw [HG.out],hB9.trans (hkA.to_below hB9.size fun g hg=>by have:=hnA g hg; omega),by rw [HP.out]; exact hown',hX9.kept hkA (fun hm=>by have:=hnA _ hm; omega),hY9.kept hkA (fun hm=>by have:=hnA _ hm; omega)⟩,by simp [intOf]; omega⟩
      ·obtain rfl:k=l.length:=by omega
       rw [List.take_length] at hok ho ⊢
       have HR:=HR.out
       rw [hok] at HR
       cases ok with
       | false =>
        rw [if_neg (by decide)] at HR
        have HR:=Lib.hid HR
        clear hok
        go_wp2_with fail
        refine bodyPost_ret (qqc rfl _ _ _) rfl ?_
        exact ⟨_,by rw [HR.out]; rfl,by rw [HR.out]; exact Shp.Owns.nil _ _,hb⟩
       | true =>
        rw [if_pos rfl] at HR
        have HR:=Lib.hid HR
        have e0:∀ V:BW wr.heap.size wr,V.val.cell? ⟨X,0,none⟩=some (.int .i64 H):=fun V=>(hXr.below V.ok hXr.lt).cell 0
        have e1:∀ V:BW wr.heap.size wr,V.val.cell? ⟨X,1,none⟩=some (.int .i64 b):=fun V=>(hXr.below V.ok hXr.lt).cell 1
        clear hok
        go_wp2_with fail
        refine qeb wr.heap.size (by kernel_rfl) (by kernel_rfl) ?_
        repeat (go_big_quiet_step (fail))
        refine wpQuiet_nil ?_
        intro w9 hw'
        obtain ⟨⟨_,hQ⟩,rfl⟩:=hw'
        go_wp2_with fail
        refine bodyPost_ret (qqc rfl _ _ _) rfl ?_
        have hYs':=hb.size
        exact ⟨_,by rw [HR.out]; rfl,by rw [HR.out]; exact Shp.Owns.base_le (Shp.Owns.below ho hQ) (by omega),hb.trans (hQ.mono hYs')⟩
end Go.Proofs.YtlnekijhbnlclaaGreatDoor
