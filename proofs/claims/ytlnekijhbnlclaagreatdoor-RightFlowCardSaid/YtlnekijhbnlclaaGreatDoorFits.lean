/-
  Walks: layout's page.frames (written by gen_frames.py).
-/
import Derived.Test.YtlnekijhbnlclaaGreatDoorOfW
import Derived.Test.YtlnekijhbnlclaaGreatDoorHit
set_option linter.unusedSimpArgs false
set_option linter.unusedVariables false
namespace Go.Proofs.YtlnekijhbnlclaaGreatDoor
open Go.RowKit Go.Shelf
def FrP (r:Option Fm) (w:World) (e:Ending) (w':World):Prop:=Below w.heap.size w w'/\(match r with
 | some f=>e=.returned (fmV f)
 | none=>e=.panicked overC)
theorem quw (ns:List Nd) (i:Nat) (x:Int) {a:Ak×Int} {t b:Int×Bool×Int} {u:Int×Int×Int} (h1:ofR (stAt ns i) x=a) (h2:qsa (stAt ns i).mT x=t) (h3:qsa (stAt ns i).mB x=b) (h4:qha (stAt ns i)=u) :
  q3a ns i x=if a.2=0 then if t.2.2=0 then if b.2.2=0 then if u.2.2=0 then some ⟨a.1,t.1,b.1,u.2.1⟩ else none else none else none else none:=by
 subst h1 h2 h3 h4
 unfold q3a must
 simp only
 by_cases q1:(ofR (stAt ns i) x).2=0 <;> by_cases q2:(qsa (stAt ns i).mT x).2.2=0 <;> by_cases q3:(qsa (stAt ns i).mB x).2.2=0 <;> by_cases q4:(qha (stAt ns i)).2.2=0 <;> simp [q1,q2,q3,q4]
set_option maxRecDepth 100000 in
set_option maxHeartbeats 8000000 in
theorem q6k (g B:Nat) (ns:List Nd) (next:Int) (i:Nat) (x:Int) (w:World) (h:PageAt w g B ns next) (hi:i < ns.length) :
  Calls Tryz.prog 49 #[.pointer (some ⟨g,0,none⟩),.int .i64 i,.int .i64 x] w (FrP (q3a ns i x) w):=by
 have hs:=fun W hW=>qce g B ns next i W (h.below (Below.mono hW h.lt)) hi
 have HS:=Lib.hid hs
 clear hs h
 have h1:=fun W=>qwt (stAt ns i) x W
 have h2:=fun W=>qaf (stAt ns i).mT.1 (stAt ns i).mT.2 x W
 have h3:=fun W=>qaf (stAt ns i).mB.1 (stAt ns i).mB.2 x W
 have h4:=fun W=>q1d (stAt ns i) W
 obtain ⟨a,ha⟩:∃ a,ofR (stAt ns i) x=a:=⟨_,rfl⟩
 obtain ⟨t,ht⟩:∃ t,qsa ((stAt ns i).mT.1,(stAt ns i).mT.2) x=t:=⟨_,rfl⟩
 obtain ⟨b,hb⟩:∃ b,qsa ((stAt ns i).mB.1,(stAt ns i).mB.2) x=b:=⟨_,rfl⟩
 obtain ⟨u,hu⟩:∃ u,qha (stAt ns i)=u:=⟨_,rfl⟩
 have HO:=Lib.hid (quw ns i x ha ht hb hu)
 simp only [ha,ht,hb,hu] at h1 h2 h3 h4
 clear ha ht hb hu
 generalize stAt ns i=s at *
 obtain ⟨⟨a0,a1,a2,a3,a4,a5,a6,a7,a8⟩,ae⟩:=a
 obtain ⟨t1,t2,t3⟩:=t
 obtain ⟨b1,b2,b3⟩:=b
 obtain ⟨u1,u2,u3⟩:=u
 unfold qgo akV at h1
 unfold Res3 at h2 h3
 simp only at h1 h2 h3 h4 HO
 go_enter Tryz.func49,Tryz.ntmps49
 go_wp2_with fail
 have hB0:Below w.heap.size w (w.alloc (.cells #[.bool false,.int .i64 0,.int .i64 0,.int .i64 0,.int .i64 0,.int .i64 0,.bool false,.bool false,.int .i64 0,.int .i64 0,.int .i64 0,.int .i64 0] 78)):=(Below.refl _ _).alloc (Nat.le_refl _) _
 have G0:=Blk.new w 78 #[.bool false,.int .i64 0,.int .i64 0,.int .i64 0,.int .i64 0,.int .i64 0,.bool false,.bool false,.int .i64 0,.int .i64 0,.int .i64 0,.int .i64 0]
 have hS:=HS.out _ hB0
 generalize w.alloc (.cells #[.bool false,.int .i64 0,.int .i64 0,.int .i64 0,.int .i64 0,.int .i64 0,.bool false,.bool false,.int .i64 0,.int .i64 0,.int .i64 0,.int .i64 0] 78)=v0 at *
 refine hS.mono ?_
 rintro e v1 ⟨rfl,hb⟩
 have G1:=G0.below hb G0.lt
 have hB1:=hB0.trans (hb.mono hB0.size)
 have hS1:w.heap.size < v1.heap.size:=G1.lt
 have gz:=Blk.new v1 33 (stC st0).toArray
 clear hS hb G0 hB0
 go_upto_region 2 with (refine qmd rfl 33 _ _ rfl v1.heap.size 0 33 (stC st0) (stC s) rfl gz rfl (by show (47:Nat)<=47; exact Nat.le_refl _) qoa (qve _) ?_; intro v2 r2 r3 r4)
 rw [qjd (L:=stC st0) (r:=stC s) rfl] at r2
 have k2:Kept [] v1 v2:=((Kept.refl [] v1).alloc _).fresh r3 (by simp)
 have G2:=G1.kept k2 (by simp)
 have hB2:Below w.heap.size w v2:=hB1.trans (k2.to_below hB1.size (by simp))
 have hs2:v2.heap.size=v1.heap.size+1:=by rw [r4,World.size_alloc]
 obtain ⟨S,hS⟩:∃ S,v1.heap.size=S:=⟨_,rfl⟩
 rw [hS] at r2 hs2 hS1 ⊢
 have HS2:=Lib.hid hs2
 clear hs2 hS r3 r4 k2 gz G1 hB1
 go_upto_region 4 with fail
 have G0:=G2.alloc (.cells #[.bool false,.int .i64 0,.int .i64 0,.int .i64 0,.int .i64 0,.int .i64 0,.bool false,.bool false,.int .i64 0,.int .i64 0,.int .i64 0,.int .i64 0] 78)
 have GS:=r2.alloc (.cells #[.bool false,.int .i64 0,.int .i64 0,.int .i64 0,.int .i64 0,.int .i64 0,.bool false,.bool false,.int .i64 0,.int .i64 0,.int .i64 0,.int .i64 0] 78)
 have GF:=Blk.new v2 78 #[.bool false,.int .i64 0,.int .i64 0,.int .i64 0,.int .i64 0,.int .i64 0,.bool false,.bool false,.int .i64 0,.int .i64 0,.int .i64 0,.int .i64 0]
 have hB:=hB2.alloc hB2.size (.cells #[.bool false,.int .i64 0,.int .i64 0,.int .i64 0,.int .i64 0,.int .i64 0,.bool false,.bool false,.int .i64 0,.int .i64 0,.int .i64 0,.int .i64 0] 78)
 rw [HS2.out] at GF
 simp only [HS2.out]
 generalize v2.alloc (.cells #[.bool false,.int .i64 0,.int .i64 0,.int .i64 0,.int .i64 0,.int .i64 0,.bool false,.bool false,.int .i64 0,.int .i64 0,.int .i64 0,.int .i64 0] 78)=v3 at *
 clear G2 r2 hB2 HS2
 go_wp2_with (refine qwa rfl 33 _ rfl S 0 33 (stC s) (stC s) _ rfl GS (q8a s) Tryz.underlying33 rfl qoa ?_)
 refine (h1 _).mono ?_
 rintro e v4 ⟨rfl,hb⟩
 have NG0:=G0.below hb G0.lt
 have NGS:=GS.below hb GS.lt
 have NGF:=GF.below hb GF.lt
 have NhB:=hB.trans (hb.mono hB.size)
 clear G0 GS GF hB
 have G0:=NG0
 have GS:=NGS
 have GF:=NGF
 have hB:=NhB
 clear NG0 NGS NGF NhB
 clear hb
 have f0:v4.cell? ⟨S+1,0,none⟩=some (.bool false):=GF.cell 0
 have f1:v4.cell? ⟨S+1,1,none⟩=some (.int .i64 0):=GF.cell 1
 have f2:v4.cell? ⟨S+1,2,none⟩=some (.int .i64 0):=GF.cell 2
 have f3:v4.cell? ⟨S+1,3,none⟩=some (.int .i64 0):=GF.cell 3
 have f4:v4.cell? ⟨S+1,4,none⟩=some (.int .i64 0):=GF.cell 4
 have f5:v4.cell? ⟨S+1,5,none⟩=some (.int .i64 0):=GF.cell 5
 have f6:v4.cell? ⟨S+1,6,none⟩=some (.bool false):=GF.cell 6
 have f7:v4.cell? ⟨S+1,7,none⟩=some (.bool false):=GF.cell 7
 have f8:v4.cell? ⟨S+1,8,none⟩=some (.int .i64 0):=GF.cell 8
 have ff:=GF.frozen
 go_upto_region 5 with fail
 clear ff f0 f1 f2 f3 f4 f5 f6 f7 f8
 have NG0:=(((((((((G0).far (p:=⟨S+1,0,none⟩) (by show w.heap.size≠S+1; omega) (.bool a0)).far (p:=⟨S+1,1,none⟩) (by show w.heap.size≠S+1; omega) (.int .i64 a1)).far (p:=⟨S+1,2,none⟩) (by show w.heap.size≠S+1; omega) (.int .i64 a2)).far (p:=⟨S+1,3,none⟩) (by show w.heap.size≠S+1; omega) (.int .i64 a3)).far (p:=⟨S+1,4,none⟩) (by show w.heap.size≠S+1; omega) (.int .i64 a4)).far (p:=⟨S+1,5,none⟩) (by show w.heap.size≠S+1; omega) (.int .i64 a5)).far (p:=⟨S+1,6,none⟩) (by show w.heap.size≠S+1; omega) (.bool a6)).far (p:=⟨S+1,7,none⟩) (by show w.heap.size≠S+1; omega) (.bool a7)).far (p:=⟨S+1,8,none⟩) (by show w.heap.size≠S+1; omega) (.int .i64 a8)
 have NGS:=(((((((((GS).far (p:=⟨S+1,0,none⟩) (by show S≠S+1; omega) (.bool a0)).far (p:=⟨S+1,1,none⟩) (by show S≠S+1; omega) (.int .i64 a1)).far (p:=⟨S+1,2,none⟩) (by show S≠S+1; omega) (.int .i64 a2)).far (p:=⟨S+1,3,none⟩) (by show S≠S+1; omega) (.int .i64 a3)).far (p:=⟨S+1,4,none⟩) (by show S≠S+1; omega) (.int .i64 a4)).far (p:=⟨S+1,5,none⟩) (by show S≠S+1; omega) (.int .i64 a5)).far (p:=⟨S+1,6,none⟩) (by show S≠S+1; omega) (.bool a6)).far (p:=⟨S+1,7,none⟩) (by show S≠S+1; omega) (.bool a7)).far (p:=⟨S+1,8,none⟩) (by show S≠S+1; omega) (.int .i64 a8)
 have NGF:=(((((((((GF).set_ 0 (.bool a0)).set_ 1 (.int .i64 a1)).set_ 2 (.int .i64 a2)).set_ 3 (.int .i64 a3)).set_ 4 (.int .i64 a4)).set_ 5 (.int .i64 a5)).set_ 6 (.bool a6)).set_ 7 (.bool a7)).set_ 8 (.int .i64 a8)
 have NhB:=(((((((((hB).setCell (p:=⟨S+1,0,none⟩) (by show w.heap.size<=S+1; omega) (.bool a0)).setCell (p:=⟨S+1,1,none⟩) (by show w.heap.size<=S+1; omega) (.int .i64 a1)).setCell (p:=⟨S+1,2,none⟩) (by show w.heap.size<=S+1; omega) (.int .i64 a2)).setCell (p:=⟨S+1,3,none⟩) (by show w.heap.size<=S+1; omega) (.int .i64 a3)).setCell (p:=⟨S+1,4,none⟩) (by show w.heap.size<=S+1; omega) (.int .i64 a4)).setCell (p:=⟨S+1,5,none⟩) (by show w.heap.size<=S+1; omega) (.int .i64 a5)).setCell (p:=⟨S+1,6,none⟩) (by show w.heap.size<=S+1; omega) (.bool a6)).setCell (p:=⟨S+1,7,none⟩) (by show w.heap.size<=S+1; omega) (.bool a7)).setCell (p:=⟨S+1,8,none⟩) (by show w.heap.size<=S+1; omega) (.int .i64 a8)
 simp only [zA,zB,zC] at NGF
 clear G0 GS GF hB
 have G0:=NG0
 have GS:=NGS
 have GF:=NGF
 have hB:=NhB
 clear NG0 NGS NGF NhB
 generalize (((((((((v4.setCell ⟨S+1,0,none⟩ (.bool a0)).setCell ⟨S+1,1,none⟩ (.int .i64 a1)).setCell ⟨S+1,2,none⟩ (.int .i64 a2)).setCell ⟨S+1,3,none⟩ (.int .i64 a3)).setCell ⟨S+1,4,none⟩ (.int .i64 a4)).setCell ⟨S+1,5,none⟩ (.int .i64 a5)).setCell ⟨S+1,6,none⟩ (.bool a6)).setCell ⟨S+1,7,none⟩ (.bool a7)).setCell ⟨S+1,8,none⟩ (.int .i64 a8))=v5 at *
 go_wp2_with fail
 rcases Decidable.em (ae=0) with hz | hz
 rotate_left
 ·refine (qyd ae hz _).mono ?_
  rintro e v ⟨rfl,rfl⟩
  have HN:=Lib.hid (show q3a ns i x=none by rw [HO.out]; simp [hz])
  refine ⟨rfl,hB,?_⟩
  rw [HN.out]
 subst hz
 refine (q7d _).mono ?_
 rintro e v5m ⟨rfl,rfl⟩
 have s0:v5m.cell? ⟨S,14,none⟩=some (.int .u8 s.mT.1):=GS.cell 14
 have s1:v5m.cell? ⟨S,15,none⟩=some (.int .i64 s.mT.2):=GS.cell 15
 go_wp2_with fail
 refine (h2 _).mono ?_
 rintro e v5ma ⟨rfl,hb⟩
 have NG0:=G0.below hb G0.lt
 have NGS:=GS.below hb GS.lt
 have NGF:=GF.below hb GF.lt
 have NhB:=hB.trans (hb.mono hB.size)
 clear G0 GS GF hB
 have G0:=NG0
 have GS:=NGS
 have GF:=NGF
 have hB:=NhB
 clear NG0 NGS NGF NhB
 clear hb
 clear s0 s1
 have f9:v5ma.cell? ⟨S+1,9,none⟩=some (.int .i64 0):=GF.cell 9
 have ff:=GF.frozen
 go_upto_region 7 with fail
 clear ff f9
 have NG0:=(G0).far (p:=⟨S+1,9,none⟩) (by show w.heap.size≠S+1; omega) (.int .i64 t1)
 have NGS:=(GS).far (p:=⟨S+1,9,none⟩) (by show S≠S+1; omega) (.int .i64 t1)
 have NGF:=(GF).set_ 9 (.int .i64 t1)
 have NhB:=(hB).setCell (p:=⟨S+1,9,none⟩) (by show w.heap.size<=S+1; omega) (.int .i64 t1)
 simp only [zA,zB,zC] at NGF
 clear G0 GS GF hB
 have G0:=NG0
 have GS:=NGS
 have GF:=NGF
 have hB:=NhB
 clear NG0 NGS NGF NhB
 generalize (v5ma.setCell ⟨S+1,9,none⟩ (.int .i64 t1))=v5mb at *
 go_wp2_with fail
 rcases Decidable.em (t3=0) with hz | hz
 rotate_left
 ·refine (qyd t3 hz _).mono ?_
  rintro e v ⟨rfl,rfl⟩
  have HN:=Lib.hid (show q3a ns i x=none by rw [HO.out]; simp [hz])
  refine ⟨rfl,hB,?_⟩
  rw [HN.out]
 subst hz
 refine (q7d _).mono ?_
 rintro e v5mbm ⟨rfl,rfl⟩
 have s0:v5mbm.cell? ⟨S,18,none⟩=some (.int .u8 s.mB.1):=GS.cell 18
 have s1:v5mbm.cell? ⟨S,19,none⟩=some (.int .i64 s.mB.2):=GS.cell 19
 go_wp2_with fail
 refine (h3 _).mono ?_
 rintro e v5mbma ⟨rfl,hb⟩
 have NG0:=G0.below hb G0.lt
 have NGS:=GS.below hb GS.lt
 have NGF:=GF.below hb GF.lt
 have NhB:=hB.trans (hb.mono hB.size)
 clear G0 GS GF hB
 have G0:=NG0
 have GS:=NGS
 have GF:=NGF
 have hB:=NhB
 clear NG0 NGS NGF NhB
 clear hb
 clear s0 s1
 have f10:v5mbma.cell? ⟨S+1,10,none⟩=some (.int .i64 0):=GF.cell 10
 have ff:=GF.frozen
 go_upto_region 9 with fail
 clear ff f10
 have NG0:=(G0).far (p:=⟨S+1,10,none⟩) (by show w.heap.size≠S+1; omega) (.int .i64 b1)
 have NGS:=(GS).far (p:=⟨S+1,10,none⟩) (by show S≠S+1; omega) (.int .i64 b1)
 have NGF:=(GF).set_ 10 (.int .i64 b1)
 have NhB:=(hB).setCell (p:=⟨S+1,10,none⟩) (by show w.heap.size<=S+1; omega) (.int .i64 b1)
 simp only [zA,zB,zC] at NGF
 clear G0 GS GF hB
 have G0:=NG0
 have GS:=NGS
 have GF:=NGF
 have hB:=NhB
 clear NG0 NGS NGF NhB
 generalize (v5mbma.setCell ⟨S+1,10,none⟩ (.int .i64 b1))=v5mbmb at *
 go_wp2_with fail
 rcases Decidable.em (b3=0) with hz | hz
 rotate_left
 ·refine (qyd b3 hz _).mono ?_
  rintro e v ⟨rfl,rfl⟩
  have HN:=Lib.hid (show q3a ns i x=none by rw [HO.out]; simp [hz])
  refine ⟨rfl,hB,?_⟩
  rw [HN.out]
 subst hz
 refine (q7d _).mono ?_
 rintro e v5mbmbm ⟨rfl,rfl⟩
 go_wp2_with (refine qwa rfl 33 _ rfl S 0 33 (stC s) (stC s) _ rfl GS (q8a s) Tryz.underlying33 rfl qoa ?_)
 refine (h4 _).mono ?_
 rintro e v5mbmbma ⟨rfl,hb⟩
 have NG0:=G0.below hb G0.lt
 have NGS:=GS.below hb GS.lt
 have NGF:=GF.below hb GF.lt
 have NhB:=hB.trans (hb.mono hB.size)
 clear G0 GS GF hB
 have G0:=NG0
 have GS:=NGS
 have GF:=NGF
 have hB:=NhB
 clear NG0 NGS NGF NhB
 clear hb
 have f11:v5mbmbma.cell? ⟨S+1,11,none⟩=some (.int .i64 0):=GF.cell 11
 have ff:=GF.frozen
 go_upto_region 11 with fail
 clear ff f11
 have NG0:=(G0).far (p:=⟨S+1,11,none⟩) (by show w.heap.size≠S+1; omega) (.int .i64 u2)
 have NGS:=(GS).far (p:=⟨S+1,11,none⟩) (by show S≠S+1; omega) (.int .i64 u2)
 have NGF:=(GF).set_ 11 (.int .i64 u2)
 have NhB:=(hB).setCell (p:=⟨S+1,11,none⟩) (by show w.heap.size<=S+1; omega) (.int .i64 u2)
 simp only [zA,zB,zC] at NGF
 clear G0 GS GF hB
 have G0:=NG0
 have GS:=NGS
 have GF:=NGF
 have hB:=NhB
 clear NG0 NGS NGF NhB
 generalize (v5mbmbma.setCell ⟨S+1,11,none⟩ (.int .i64 u2))=v5mbmbmb at *
 go_wp2_with fail
 rcases Decidable.em (u3=0) with hz | hz
 rotate_left
 ·refine (qyd u3 hz _).mono ?_
  rintro e v ⟨rfl,rfl⟩
  have HN:=Lib.hid (show q3a ns i x=none by rw [HO.out]; simp [hz])
  refine ⟨rfl,hB,?_⟩
  rw [HN.out]
 subst hz
 refine (q7d _).mono ?_
 rintro e v5mbmbmbm ⟨rfl,rfl⟩
 have f0:v5mbmbmbm.cell? ⟨S+1,0,none⟩=some (.bool a0):=GF.cell 0
 have f1:v5mbmbmbm.cell? ⟨S+1,1,none⟩=some (.int .i64 a1):=GF.cell 1
 have f2:v5mbmbmbm.cell? ⟨S+1,2,none⟩=some (.int .i64 a2):=GF.cell 2
 have f3:v5mbmbmbm.cell? ⟨S+1,3,none⟩=some (.int .i64 a3):=GF.cell 3
 have f4:v5mbmbmbm.cell? ⟨S+1,4,none⟩=some (.int .i64 a4):=GF.cell 4
 have f5:v5mbmbmbm.cell? ⟨S+1,5,none⟩=some (.int .i64 a5):=GF.cell 5
 have f6:v5mbmbmbm.cell? ⟨S+1,6,none⟩=some (.bool a6):=GF.cell 6
 have f7:v5mbmbmbm.cell? ⟨S+1,7,none⟩=some (.bool a7):=GF.cell 7
 have f8:v5mbmbmbm.cell? ⟨S+1,8,none⟩=some (.int .i64 a8):=GF.cell 8
 have f9:v5mbmbmbm.cell? ⟨S+1,9,none⟩=some (.int .i64 t1):=GF.cell 9
 have f10:v5mbmbmbm.cell? ⟨S+1,10,none⟩=some (.int .i64 b1):=GF.cell 10
 have f11:v5mbmbmbm.cell? ⟨S+1,11,none⟩=some (.int .i64 u2):=GF.cell 11
 have ff:=GF.frozen
 have r0:v5mbmbmbm.cell? ⟨w.heap.size,0,none⟩=some (.bool false):=G0.cell 0
 have r1:v5mbmbmbm.cell? ⟨w.heap.size,1,none⟩=some (.int .i64 0):=G0.cell 1
 have r2:v5mbmbmbm.cell? ⟨w.heap.size,2,none⟩=some (.int .i64 0):=G0.cell 2
 have r3:v5mbmbmbm.cell? ⟨w.heap.size,3,none⟩=some (.int .i64 0):=G0.cell 3
 have r4:v5mbmbmbm.cell? ⟨w.heap.size,4,none⟩=some (.int .i64 0):=G0.cell 4
 have r5:v5mbmbmbm.cell? ⟨w.heap.size,5,none⟩=some (.int .i64 0):=G0.cell 5
 have r6:v5mbmbmbm.cell? ⟨w.heap.size,6,none⟩=some (.bool false):=G0.cell 6
 have r7:v5mbmbmbm.cell? ⟨w.heap.size,7,none⟩=some (.bool false):=G0.cell 7
 have r8:v5mbmbmbm.cell? ⟨w.heap.size,8,none⟩=some (.int .i64 0):=G0.cell 8
 have r9:v5mbmbmbm.cell? ⟨w.heap.size,9,none⟩=some (.int .i64 0):=G0.cell 9
 have r10:v5mbmbmbm.cell? ⟨w.heap.size,10,none⟩=some (.int .i64 0):=G0.cell 10
 have r11:v5mbmbmbm.cell? ⟨w.heap.size,11,none⟩=some (.int .i64 0):=G0.cell 11
 have rf:=G0.frozen
 go_wp2_with fail
 have NB:=((((((((((((hB).setCell (p:=⟨w.heap.size,0,none⟩) (Nat.le_refl _) (.bool a0)).setCell (p:=⟨w.heap.size,1,none⟩) (Nat.le_refl _) (.int .i64 a1)).setCell (p:=⟨w.heap.size,2,none⟩) (Nat.le_refl _) (.int .i64 a2)).setCell (p:=⟨w.heap.size,3,none⟩) (Nat.le_refl _) (.int .i64 a3)).setCell (p:=⟨w.heap.size,4,none⟩) (Nat.le_refl _) (.int .i64 a4)).setCell (p:=⟨w.heap.size,5,none⟩) (Nat.le_refl _) (.int .i64 a5)).setCell (p:=⟨w.heap.size,6,none⟩) (Nat.le_refl _) (.bool a6)).setCell (p:=⟨w.heap.size,7,none⟩) (Nat.le_refl _) (.bool a7)).setCell (p:=⟨w.heap.size,8,none⟩) (Nat.le_refl _) (.int .i64 a8)).setCell (p:=⟨w.heap.size,9,none⟩) (Nat.le_refl _) (.int .i64 t1)).setCell (p:=⟨w.heap.size,10,none⟩) (Nat.le_refl _) (.int .i64 b1)).setCell (p:=⟨w.heap.size,11,none⟩) (Nat.le_refl _) (.int .i64 u2)
 have N4:=((((((((((((G0).set_ 0 (.bool a0)).set_ 1 (.int .i64 a1)).set_ 2 (.int .i64 a2)).set_ 3 (.int .i64 a3)).set_ 4 (.int .i64 a4)).set_ 5 (.int .i64 a5)).set_ 6 (.bool a6)).set_ 7 (.bool a7)).set_ 8 (.int .i64 a8)).set_ 9 (.int .i64 t1)).set_ 10 (.int .i64 b1)).set_ 11 (.int .i64 u2)
 simp only [zA,zB,zC] at N4
 refine bodyPost_ret (results_cell_row rfl _ _ w.heap.size 78 #[.bool a0,.int .i64 a1,.int .i64 a2,.int .i64 a3,.int .i64 a4,.int .i64 a5,.bool a6,.bool a7,.int .i64 a8,.int .i64 t1,.int .i64 b1,.int .i64 u2] (0,0) _ rfl N4 Tryz.underlying78 rfl (by kernel_rfl)) rfl ?_
 refine ⟨NB,?_⟩
 rw [HO.out]
 rfl
end Go.Proofs.YtlnekijhbnlclaaGreatDoor
namespace Go.Proofs.YtlnekijhbnlclaaGreatDoor
open Go.RowKit Go.Shelf
set_option linter.unusedSimpArgs false
set_option linter.unusedVariables false
theorem qit {P:Program} {ops:Array Oper} {op:Oper} {a:Act} {K:Act->World->Prop} {Q:Exit->Act->World->Prop} {E:Prop} {α:Type} {S:Shp α} {ts:TypeId} {bytes:Nat} (hS:S.Ok P ts bytes) (w:World) (x:α) (hgd:op.guard=none) (s y:Operand)
  (ho:op.op=.call { callee:=.builtin .append,args:=#[s,y],argTypes:=#[ts,ts] })
  {base:Nat} {v:Value} {L:List α} (hs:a.eval s=v) (hown:S.Owns w base v L) (hy:a.eval y=.slice (some ⟨w.heap.size,0,none⟩) 1 1)
  (h47:L.length+1<=1000000000) (hbase:base<=w.heap.size)
  (h:∀ v' w',S.Owns w' base v' (L ++ [x])->(w.alloc (.cells (S.enc x).toArray S.t)).grownBy w' v.ownBlock->(v'.ownBlock=v.ownBlock\/v'.ownBlock=some (w.alloc (.cells (S.enc x).toArray S.t)).heap.size)->K (a.put op.dst v') w') :
  if Region.wanted op (yielded ops a.tmps)=true then Oper.wp P op a (w.alloc (.cells (S.enc x).toArray S.t)) K Q else E:=by
 obtain ⟨i0,z,hi0,hz0,hz1,hz2,hz3⟩:=hS.info
 have hb:=Shp.In.built (B:=w.heap.size+1) S w [x] S.t (by omega)
 rw [Shp.row_one] at hb
 obtain ⟨A,c,e1,hc,hr⟩:=hb
 have e2:a.eval y=.slice A [x].length c:=hy.trans e1
 have h5:=hS.small
 have hbb:(L.length+1) * bytes<=1000000000 * 10000:=Nat.mul_le_mul h47 h5
 refine qnf _ hgd s y _ ho base S.t i0 z S.k bytes hS.under hi0 hz0 hz1 hz2 hz3 hS.pos v _ _ hs (hown.alloc _) _ A _ c (S.row [x]) e2 hr (S.row_oneCell [x]) (by simp only [maxLen,List.length_cons,List.length_nil]; omega) (by show (L.length+1) * bytes<=_; omega) (by simp; omega) ?_
 intro v' w' h1 h2 h3
 exact h v' w' (by unfold Shp.Owns; rw [List.length_append,S.row_append]; exact h1) h2 h3
theorem qdp:shSl.Ok Tryz.prog 108 24:=by
 refine ⟨Tryz.underlying108,?_,by decide,by decide⟩
 have h:(Tryz.prog.info? 47).map (fun i=>(i.zero,i.size,i.bytes))=some (some (.slice none 0 0),1,24):=by kernel_rfl
 cases hi:Tryz.prog.info? 47 with
 | none=>rw [hi] at h; cases h
 | some i =>
  rw [hi] at h
  injection h with h
  injection h with h1 h2
  injection h2 with h2 h3
  exact ⟨i,_,hi,h1,h2,h3,rfl⟩
theorem qbb {w:World} {b b':Nat} {e e':TypeId} {s s' n n':Nat} {v v':Value} {xs xs':List Value} (h:w.ownsRow b e s v n xs) (h':w.ownsRow b' e' s' v' n' xs') (he:e≠e'):∀ g,v.ownBlock=some g->v'.ownBlock≠some g:=by
 intro g hg hg'
 rcases h.2 with ⟨rfl,_⟩ | ⟨k,cap,cur,rfl,_,hk,_⟩
 ·cases hg
 ·rcases h'.2 with ⟨rfl,_⟩ | ⟨k',cap',cur',rfl,_,hk',_⟩
  ·cases hg'
  ·simp only [Value.ownBlock,Option.some.injEq] at hg hg'
   subst hg hg'
   rw [hk] at hk'
   injection hk' with hk'
   injection hk' with _ h2
   exact he h2
def kidV (ns:List Nd) (i:Nat):List Int:=(kidsN ns i).map fun j=>Int.ofNat j
def TuR (dv:Value) (next:Int) (ns:List Nd) (w:World) (i:Value) (wr:World):Prop :=
 ∃ (k:Nat) (kv:Value) (vs:List Sl),k<=ns.length/\i=.int .i64 k/\Below w.heap.size w wr/\Blk wr w.heap.size 24 #[dv,.int .i64 next]/\Blk wr (w.heap.size+1) 110 #[dv,.int .i64 next,kv] /\
  shSl.Owns wr (w.heap.size+2) kv vs/\vs.length=k/\∀ j (h:j < vs.length),Owns wr (w.heap.size+2) (slV vs[j]) (kidV ns j)
set_option maxRecDepth 100000 in
set_option maxHeartbeats 8000000 in
theorem qer (ns:List Nd) (dv:Value) (next:Int) (w:World) (h:DocIn w w.heap.size dv ns) (hm:ns.length < 1000000) (hd:∀ i,0<=(ndAt ns i).depth/\(ndAt ns i).depth < 16) :
  Calls Tryz.prog 48 #[docA dv next] w fun e w'=>∃ g,e=.returned (.pointer (some ⟨g,0,none⟩))/\PageAt w' g w'.heap.size ns next/\Below w.heap.size w w':=by
 have hI:=h
 obtain ⟨A,c,hv,hc,hr⟩:=h
 subst hv
 have HI:=Lib.hid hI
 clear hr hI
 unfold docA
 go_enter Tryz.func48,Tryz.ntmps48
 go_wp2_with fail
 go_loopw [11] (TuR (.slice A ns.length c) next ns w) (fun i _=>ns.length - (intOf i).toNat)
 case atStart =>
  have b0:=(Blk.new w 24 #[.slice A ns.length c,.int .i64 next]).alloc (.cells #[.slice A ns.length c,.int .i64 next,.slice none 0 0] 110)
  have b1:=Blk.new (w.alloc (.cells #[.slice A ns.length c,.int .i64 next] 24)) 110 #[.slice A ns.length c,.int .i64 next,.slice none 0 0]
  rw [World.size_alloc] at b1
  exact ⟨0,.slice none 0 0,[],by omega,rfl,((Below.refl _ _).alloc (Nat.le_refl _) _).alloc (by simp) _,b0,b1,Shp.Owns.nil _ _,rfl,fun j hj=>absurd hj (by simp)⟩
 case round =>
  obtain ⟨k,kv,vs,hk,rfl,hb,hD,hP,hO,hl,hR⟩:=hrel
  have HL:=Lib.hid hl
  have HR:=Lib.hid hR
  clear hl hR
  obtain ⟨A1,n1,c1,rfl⟩:=hO.slice_
  have hn0:w.heap.size+2<=wr.heap.size:=hP.lt
  have hvl:vs.length+1<=1000000000:=by have:=HL.out; omega
  by_cases hlt:k < ns.length
  ·have hkid:=fun W (hW:Below w.heap.size w W)=>q3o ns (.slice A ns.length c) next k w.heap.size W (HI.out.below hW) hW.size hlt hm hd
   obtain ⟨n0,hn0e⟩:∃ n0,w.heap.size+2=n0:=⟨_,rfl⟩
   have HN:=Lib.hid hn0e
   rw [hn0e] at hO hn0 HR
   clear hn0e
   have e0:∀ V:BW n0 wr,V.val.cell? ⟨w.heap.size,0,none⟩=some (.slice A ns.length c):=fun V=>(hD.below V.ok (by have:=HN.out; omega)).cell 0
   have e1:∀ V:BW n0 wr,V.val.cell? ⟨w.heap.size,1,none⟩=some (.int .i64 next):=fun V=>(hD.below V.ok (by have:=HN.out; omega)).cell 1
   have e2:∀ V:BW n0 wr,V.val.cell? ⟨w.heap.size+1,2,none⟩=some (.slice A1 n1 c1):=fun V=>(hP.below V.ok (by have:=HN.out; omega)).cell 2
   go_wp2_with fail
   refine qna [12] [0,1,2,3,4,5,6] [7,8,9,10,11,12] (fun w'=>∃ V:BW (n0) wr,w'=V.val) (by kernel_rfl) (by kernel_rfl) (fun c a d v w h=>by cases d <;> exact h) ⟨⟨wr.drew,(Below.refl _ _).drew⟩,rfl⟩ ?_
   simp only [pickD,List.map_cons,List.map_nil,List.getD_cons_zero,List.getD_cons_succ]
   repeat (go_big_quiet_step (fail))
   refine wpQuiet_nil ?_
   refine qca rfl fun K hK=>?_
   go_simp
   go_at_call 59
   refine (hkid wr.drew hb.drew).mono ?_
   rintro e w7 ⟨vk,rfl,hok,hb7⟩
   obtain ⟨Ak,nk,ck,rfl⟩:=q7j hok
   have h7s:wr.heap.size<=w7.heap.size:=hb7.size
   have hB7:Below n0 wr w7:=((Below.refl n0 wr).drew).trans (hb7.mono hn0)
   refine hK.out _ _ (.inr ⟨⟨_,hB7⟩,rfl⟩) ?_
   clear hK K
   try simp only [Act.put,zA,zB,zC]
   refine qca rfl fun K hK=>?_
   go_simp
   refine hK.out _ _ (.inr ⟨⟨_,(hB7).alloc (by first | exact hn0 | exact Nat.le_trans hn0 h7s) _⟩,rfl⟩) ?_
   clear hK K
   try simp only [Act.put,zA,zB,zC]
   refine qca rfl fun K hK=>?_
   have hO7:shSl.Owns w7 n0 (.slice A1 n1 c1) vs:=Shp.Owns.below (w:=wr.drew) hO hb7
   refine qit (v:=.slice A1 n1 c1) (L:=vs) qdp w7 (Ak,nk,ck) rfl _ _ rfl rfl hO7 rfl hvl (Nat.le_trans hn0 h7s) ?_
   intro v9 w9 hown9 hgrow9 hloc9
   obtain ⟨A9,n9,c9,rfl⟩:=hown9.slice_
   have hk9:Kept (Value.slice A1 n1 c1).ownBlock.toList w7 w9:=((Kept.refl _ w7).alloc _).grown hgrow9 fun g hg=>.inl (by rw [hg]; simp)
   have hO9:∀ g ∈ (Value.slice A1 n1 c1).ownBlock.toList,n0<=g:=fun g hg=>(hO7.lt g (by simpa using hg)).1
   have hB9:Below n0 wr w9:=hB7.trans (hk9.to_below (Nat.le_trans hn0 h7s) hO9)
   refine hK.out _ _ (.inr ⟨⟨_,hB9⟩,rfl⟩) ?_
   clear hK K
   try simp only [Act.put,zA,zB,zC]
   refine qca rfl fun K hK=>?_
   go_simp
   refine hK.out _ _ (.inr ⟨⟨_,hB9⟩,rfl⟩) ?_
   clear hK K
   try simp only [Act.put,zA,zB,zC]
   refine qca rfl fun K hK=>?_
   go_simp
   refine hK.out _ _ (.inr ⟨⟨_,hB9⟩,rfl⟩) ?_
   clear hK K
   try simp only [Act.put,zA,zB,zC]
   refine qca rfl fun K hK=>?_
   have hP9:=hP.below hB9 (by have:=HN.out; omega)
   have p9:=hP9.frozen
   have q9:w9.cell? ⟨w.heap.size+1,2,none⟩=some (.slice A1 n1 c1):=hP9.cell 2
   go_simp
   refine hK.out _ _ (.inl (by decide)) ?_
   clear hK K
   refine qla ?_
   go_wp2_with fail
   have HNo:=HN.out
   have hZ9:Kept [w.heap.size+1] w9 (w9.setCell ⟨w.heap.size+1,2,none⟩ (.slice A9 n9 c9)):=(Kept.refl _ _).setCell (p:=⟨w.heap.size+1,2,none⟩) (by simp) _
   have hPz:=hP9.set_ 2 (.slice A9 n9 c9)
   simp only [zA,zB,zC] at hPz
   have hDz:=(hD.below hB9 (by omega)).far (p:=⟨w.heap.size+1,2,none⟩) (by show w.heap.size≠w.heap.size+1; omega) (.slice A9 n9 c9)
   have hBz:Below w.heap.size w (w9.setCell ⟨w.heap.size+1,2,none⟩ (.slice A9 n9 c9)):=(hb.trans (hB9.mono (by omega))).setCell (p:=⟨w.heap.size+1,2,none⟩) (Nat.le_succ _) _
   have hOz:shSl.Owns (w9.setCell ⟨w.heap.size+1,2,none⟩ (.slice A9 n9 c9)) n0 (.slice A9 n9 c9) (vs ++ [(Ak,nk,ck)]):=Shp.Owns.kept hown9 hZ9 fun g hg=>by
    have:=(hown9.lt g hg).1
    simp
    omega
   have mv:∀ (x:Sl) (zs:List Int),Owns w7 n0 (slV x) zs->Owns (w9.setCell ⟨w.heap.size+1,2,none⟩ (.slice A9 n9 c9)) n0 (slV x) zs:=fun x zs hx=>by
    refine (hx.keptW hk9 fun g hg hm=>?_).keptW hZ9 fun g hg=>?_
    ·exact qbb hO7 hx (by decide) g (by simpa using hm) hg
    ·have:=(hx.lt g hg).1
     simp
     omega
   refine ⟨⟨k+1,_,vs ++ [(Ak,nk,ck)],hlt,by go_num,hBz,hDz,hPz,by rw [HNo]; exact hOz,by rw [List.length_append,HL.out]; rfl,fun j hj=>?_⟩,by simp [intOf]; omega⟩
   rw [HNo]
   rcases Nat.lt_or_ge j vs.length with h1 | h1
   ·rw [List.getElem_append_left h1]
    exact mv _ _ (Owns.below (w:=wr.drew) (HR.out j h1) hb7)
   ·have hj':j=vs.length:=by simp at hj; omega
    subst hj'
    rw [List.getElem_append_right (Nat.le_refl _)]
    simp only [Nat.sub_self,List.getElem_cons_zero]
    have hlk:vs.length=k:=HL.out
    rw [hlk]
    exact mv _ _ (Owns.base_le hok hn0)
  ·obtain rfl:k=ns.length:=by omega
   go_wp2_with fail
   go_ret
   exact ⟨_,rfl,⟨_,_,vs,hP,hP.lt,Nat.le_refl _,(HI.out.below hb).more hb.size,hO.in_,HL.out,fun i hi=>(HR.out i hi).ints⟩,hb⟩
end Go.Proofs.YtlnekijhbnlclaaGreatDoor
namespace Go.Proofs.YtlnekijhbnlclaaGreatDoor
open Go.RowKit Go.Shelf
set_option linter.unusedSimpArgs false
set_option linter.unusedVariables false
section
variable {P:Program} {ops:Array Oper} {rest:List Oper} {op:Oper} {a:Act} {w:World} {K:Act->World->Prop} {Q:Exit->Act->World->Prop}
theorem qei (hw:Region.wanted op (yielded ops a.tmps)=true) (h:∀ K:Act->World->Prop,(∀ a w,wpList P ops Q rest a w->K a w)->op.wp P a w K Q):wpList P ops Q (op :: rest) a w :=
 wpList_step fun K hK=>by rw [if_pos hw]; exact h K hK
theorem qxg (hw:Region.wanted op (yielded ops a.tmps)=true) (ty:TypeId) (x:Operand) (ho:op.op=.load ty x) (g o:Nat) (t:TypeId) (L cs:List Value) (d:TypeDesc) (hx:a.eval x=.pointer (some ⟨g,o,none⟩)) (hg:Blk w g t L.toArray)
  (hc:∀ j v,cs[j]?=some v->L[o+j]?=some v) (hu:P.underlying ty=some d) (hd:d.isRow=true) (hi:(P.info? ty).map (·.size)=some cs.length)
  (h:wpList P ops Q rest (a.put op.dst (.agg cs.toArray)) w):wpList P ops Q (op :: rest) a w :=
 qei hw fun _ hK=>q4m ty x ho g o t L cs d hx hg hc hu hd hi (hK _ _ h)
theorem q9q (t t':TypeId) (x y:Operand) (ho:op.op=.binOp .eql t x y t') (xs ys:Array Value) (hx:a.eval x=.agg xs) (hy:a.eval y=.agg ys) (hg:P.eqGuardType P.depth t=false) (r:Bool) (hr:(Op.equal t (.agg xs) (.agg ys)).run P w=.ok r w)
  (h:K (a.put op.dst (.bool r)) w):op.wp P a w K Q:=by
 have hE:(eqGuard .eql t x y (.agg xs) (.agg ys)).run P w=.ok () w:=by simp [eqGuard,hg]
 have hB:(binOp .eql t (.agg xs) (.agg ys)).run P w=.ok (.bool (r)) w:=by simp [binOp,hr]
 unfold Oper.wp execOp
 simp only [ho,hx,hy,Sem.run_bind,Sem.run_pure,hE,hB,Result.andThen_ok]
 exact h
theorem q7n (hw:Region.wanted op (yielded ops a.tmps)=true) (t t':TypeId) (x y:Operand) (ho:op.op=.binOp .eql t x y t') (xs ys:Array Value) (hx:a.eval x=.agg xs) (hy:a.eval y=.agg ys) (hg:P.eqGuardType P.depth t=false) (r:Bool) (hr:(Op.equal t (.agg xs) (.agg ys)).run P w=.ok r w)
  (h:wpList P ops Q rest (a.put op.dst (.bool r)) w):wpList P ops Q (op :: rest) a w :=
 qei hw fun _ hK=>q9q t t' x y ho xs ys hx hy hg r hr (hK _ _ h)
end
theorem qkr (b:ByteArray):b.toList.isEmpty=decide (b.size=0):=by
 rw [ByteArray.toList_eq]
 have h:b.data.toList.length=b.size:=by simp
 cases hb:b.data.toList with
 | nil =>
  rw [hb] at h
  have h':b.size=0:=h.symm
  rw [decide_eq_true h']
  rfl
 | cons x l =>
  rw [hb] at h
  have h':¬ b.size=0:=by simp at h; omega
  rw [decide_eq_false h']
  rfl
theorem q7v:(stC st0).all wfC=true:=by decide
set_option maxRecDepth 100000 in
set_option maxHeartbeats 8000000 in
theorem qsv (n:Nd) (next:Int) (w:World) (hn:(ndC n).all wfC=true) :
  Calls Tryz.prog 57 #[.agg (ndC n).toArray,.int .i64 next] w fun e w'=>e=.returned (.bool (fitsN n next))/\Below w.heap.size w w':=by
 have g0:=Blk.new w 35 (ndC n).toArray
 have hb:Below w.heap.size w (w.alloc (.cells (ndC n).toArray 35)):=(Below.refl _ _).alloc (Nat.le_refl _) _
 obtain ⟨W,hW⟩:∃ W,W=w.alloc (.cells (ndC n).toArray 35):=⟨_,rfl⟩
 rw [<-hW] at g0 hb
 have HF:=Lib.hid (show fitsN n next=if n.key < 1\/next<=n.key\/n.depth < 0\/16<=n.depth then false else if n.kind=0 then decide (n.text.size=0) else decide (n.kind=1) && decide (n.st=st0) && decide (n.text.size<=200) from rfl)
 have hst:(stC n.st).all wfC=true:=by
  unfold ndC at hn
  rw [List.all_append,List.all_append] at hn
  simp only [Bool.and_eq_true] at hn
  exact hn.2.1
 have hse:=qqp hst q7v W
 have c0:W.cell? ⟨w.heap.size,0,none⟩=some (.int .i64 n.key):=g0.cell 0
 have c1:W.cell? ⟨w.heap.size,1,none⟩=some (.int .i64 n.depth):=g0.cell 1
 have c2:W.cell? ⟨w.heap.size,2,none⟩=some (.int .u8 n.kind):=g0.cell 2
 have c3:W.cell? ⟨w.heap.size,50,none⟩=some (.string n.text):=g0.cell 50
 have hs0:∀ j v,(stC n.st)[j]?=some v->(ndC n)[3+j]?=some v:=nd_st n
 have HS0:=Lib.hid hs0
 have hW':=Lib.hid hW
 clear hs0 hn hst hW
 obtain ⟨key,depth,kind,st,text⟩:=n
 simp only at c0 c1 c2 c3 hse HF
 by_cases k1:key < 1
 ·have HR:=Lib.hid (HF.out.trans (if_pos (.inl k1)))
  go_enter Tryz.func57,Tryz.ntmps57
  go_upto_region 1 with fail
  change Code.wp _ _ _ _ (w.alloc (.cells (ndC ⟨key,depth,kind,st,text⟩).toArray 35))
  rw [<-hW'.out]
  clear hW'
  go_wp2_with fail
  go_ret
  exact ⟨by rw [HR.out]; rfl,hb⟩
 by_cases k2:next<=key
 ·have HR:=Lib.hid (HF.out.trans (if_pos (.inr (.inl k2))))
  go_enter Tryz.func57,Tryz.ntmps57
  go_upto_region 1 with fail
  change Code.wp _ _ _ _ (w.alloc (.cells (ndC ⟨key,depth,kind,st,text⟩).toArray 35))
  rw [<-hW'.out]
  clear hW'
  go_wp2_with fail
  go_ret
  exact ⟨by rw [HR.out]; rfl,hb⟩
 by_cases k3:depth < 0
 ·have HR:=Lib.hid (HF.out.trans (if_pos (.inr (.inr (.inl k3)))))
  go_enter Tryz.func57,Tryz.ntmps57
  go_upto_region 1 with fail
  change Code.wp _ _ _ _ (w.alloc (.cells (ndC ⟨key,depth,kind,st,text⟩).toArray 35))
  rw [<-hW'.out]
  clear hW'
  go_wp2_with fail
  go_ret
  exact ⟨by rw [HR.out]; rfl,hb⟩
 by_cases k4:16<=depth
 ·have HR:=Lib.hid (HF.out.trans (if_pos (.inr (.inr (.inr k4)))))
  go_enter Tryz.func57,Tryz.ntmps57
  go_upto_region 1 with fail
  change Code.wp _ _ _ _ (w.alloc (.cells (ndC ⟨key,depth,kind,st,text⟩).toArray 35))
  rw [<-hW'.out]
  clear hW'
  go_wp2_with fail
  go_ret
  exact ⟨by rw [HR.out]; rfl,hb⟩
 have HF:=Lib.hid (HF.out.trans (if_neg (show ¬ (key < 1\/next<=key\/depth < 0\/16<=depth) by omega)))
 by_cases k5:kind=0
 ·subst k5
  have HR:=Lib.hid (HF.out.trans (if_pos rfl))
  go_enter Tryz.func57,Tryz.ntmps57
  go_upto_region 1 with fail
  change Code.wp _ _ _ _ (w.alloc (.cells (ndC ⟨key,depth,0,st,text⟩).toArray 35))
  rw [<-hW'.out]
  clear hW'
  go_wp2_with fail
  go_ret
  refine ⟨?_,hb⟩
  rw [HR.out]
  show Ending.returned (.bool text.toList.isEmpty)=_
  rw [qkr]
 have HF:=Lib.hid (HF.out.trans (if_neg k5))
 have k5':¬ (kind:Int)=0:=by omega
 by_cases k6:kind=1
 ·subst k6
  have hte:decide (st=st0)=true\/decide (st=st0)=false:=by cases decide (st=st0) <;> simp
  obtain ⟨q,hq⟩:∃ q,decide (st=st0)=q:=⟨_,rfl⟩
  rw [hq] at hse HF
  clear hq hte
  cases q with
  | false =>
   have HR:=Lib.hid (show fitsN ⟨key,depth,1,st,text⟩ next=false from HF.out)
   go_enter Tryz.func57,Tryz.ntmps57
   go_upto_region 1 with fail
   change Code.wp _ _ _ _ (w.alloc (.cells (ndC ⟨key,depth,1,st,text⟩).toArray 35))
   rw [<-hW'.out]
   clear hW'
   go_wp2_with (first | (refine qxg (by rfl) 33 _ rfl w.heap.size 3 35 (ndC ⟨key,depth,1,st,text⟩) (stC st) _ rfl g0 HS0.out Tryz.underlying33 rfl qoa ?_) | (refine q7n (by rfl) 33 _ _ _ rfl _ _ rfl rfl (by kernel_rfl) _ hse ?_))
   go_ret
   exact ⟨by rw [HR.out]; rfl,hb⟩
  | true =>
   have HR:=Lib.hid (show fitsN ⟨key,depth,1,st,text⟩ next=decide (text.size<=200) from HF.out)
   go_enter Tryz.func57,Tryz.ntmps57
   go_upto_region 1 with fail
   change Code.wp _ _ _ _ (w.alloc (.cells (ndC ⟨key,depth,1,st,text⟩).toArray 35))
   rw [<-hW'.out]
   clear hW'
   go_wp2_with (first | (refine qxg (by rfl) 33 _ rfl w.heap.size 3 35 (ndC ⟨key,depth,1,st,text⟩) (stC st) _ rfl g0 HS0.out Tryz.underlying33 rfl qoa ?_) | (refine q7n (by rfl) 33 _ _ _ rfl _ _ rfl rfl (by kernel_rfl) _ hse ?_))
   go_ret
   exact ⟨by rw [HR.out]; simp; omega,hb⟩
 ·have HR:=Lib.hid (show fitsN ⟨key,depth,kind,st,text⟩ next=false by rw [HF.out]; simp [k6])
  have k6':¬ (kind:Int)=1:=by omega
  go_enter Tryz.func57,Tryz.ntmps57
  go_upto_region 1 with fail
  change Code.wp _ _ _ _ (w.alloc (.cells (ndC ⟨key,depth,kind,st,text⟩).toArray 35))
  rw [<-hW'.out]
  clear hW'
  go_wp2_with fail
  go_ret
  exact ⟨by rw [HR.out]; rfl,hb⟩
end Go.Proofs.YtlnekijhbnlclaaGreatDoor
