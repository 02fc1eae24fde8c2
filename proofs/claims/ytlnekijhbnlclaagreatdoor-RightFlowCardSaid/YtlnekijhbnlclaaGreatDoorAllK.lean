/-
  Walks: package layout: flow: a box of a part is moved down (the body of an inner loop).
-/
import Derived.Test.YtlnekijhbnlclaaGreatDoorRunI
import Derived.Test.YtlnekijhbnlclaaGreatDoorRangeK
import Derived.Test.YtlnekijhbnlclaaGreatDoorMetric2
namespace Go.Proofs.YtlnekijhbnlclaaGreatDoor
open Go.RowKit Go.Shelf
set_option linter.unusedSimpArgs false
set_option linter.unusedVariables false
def downF (n:Int) (f:Fg):Fg:={ f with y:=w64 (f.y+n) }
theorem q2r (n:Int) (b:BT):downB n b=(b.put b.x (w64 (b.y+n))).told (b.text.map (downF n)):=rfl
theorem Shp.Owns.few {α:Type} {S:Shp α} {w:World} {base:Nat} {v:Value} {L:List α} (h:S.Owns w base v L):L.length<=maxLen:=by
 rcases h.2 with ⟨_,h0⟩ | ⟨g,cap,cur,rfl,hg,hb,hc,hm,hs,ht⟩
 ·rw [h0]; exact Nat.zero_le _
 ·exact Nat.le_trans hc hm
theorem Shp.Owns.addr {α:Type} {S:Shp α} {w:World} {base n c:Nat} {A:Option Addr} {L:List α} (h:S.Owns w base (.slice A n c) L) (h0:0 < L.length):∃ g,A=some ⟨g,0,none⟩:=by
 rcases h.2 with ⟨_,h1⟩ | ⟨g,cap,cur,e,_⟩
 ·omega
 ·injection e with e
  exact ⟨g,e⟩
def FtR (tv:Value) (n0:Nat) (al:Int) (T:List Fg) (w:World) (q:Value) (W:World):Prop:=∃ t:Nat,t<=T.length/\q=.int .i64 t/\Kept (blkL tv) w W/\(shFg YT.frag).Owns W n0 tv ((T.take t).map (downF al) ++ T.drop t)
set_option maxRecDepth 100000 in
set_option maxHeartbeats 8000000 in
theorem qzr (ds:List Deferred) (d n0 n1 s5 hh q j k i:Nat) (x:Int) (L:List BT) (PP:List Nat) (fks:List (List Nat)) (b:BT) (p:Nat) (f:List Nat) (kv:Value) (ab ao an ac:Nat) (al:Int) (rb ro rn rc:Nat) (w1:World) (Q:Exit->Act->World->Prop)
  (hBX:BoxesAt YT w1 n0 d L PP fks) (hq:q < L.length) (hb:L[q]?=some b) (hp:PP[q]?=some p) (hf:fks[q]?=some f)
  (hO:Blk w1 s5 YT.box (btC (.mk i x 0 0 0 [] []) kv (.slice none 0 0)).toArray) (hs5:s5 < n0) (hkv:(shPt YT.ptr).Owns w1 n1 kv (PP.take q)) (hn1:∀ g ∈ fks.flatten,g < n1) (hn01:n0<=n1) (hn1w:n1<=w1.heap.size) (hPl:PP.length<=1000000)
  (hfor:∀ V:World,Kept (s5 :: (kv.ownBlock.toList ++ f)) w1 V->V.cell? ⟨hh,0,none⟩=some (.slice (some ⟨ab,ao,none⟩) an ac)/\V.cell? ⟨ab,ao+j,none⟩=some (.int .i64 al)) (hj:j < an)
  (hR:w1.cell? ⟨rb,ro+k,none⟩=some (.pointer (some ⟨p,0,none⟩))) (hk:k < rn)
  (v0 v1 v2 v3 v4 v5 v6 v7 v8 v9 v10 v11 v12 v13 v15 v16 v17 v18 v19 v20 v21 v22 v23 v24 v25 v26 v27 v28 v29 v30 v31 v33 v35 v36 v37 v38 v39 v40 v41 v42 v43 v44 v45 v46 v47 v48 v49 v50 v51 v52 v53 v54 v55 v56 v57 v58 v59 v60 v61 v62 v63 v64 v65 v66 v67 v68 v69 v70 v71 v72 v73 v74 v75 v76 v77 v78 v79 v80 v81 v82 v83 v84 v85 v86 v87 v88 v89 v90 v91 v92 v93 v94 v95 v96 v97 v98 v99 v100 v101 v102 v103 v104 v105 v106 v107 v108 v109 v110 v111 v112 v113 v114 v115 v116 v117 v118 v119 v120 v121 v122 v123 v124 v125 v126 v127 v128 v129 v130 v131 v132 v133 v134 v135 v136 v137 v138 v139 v140 v141 v142 v143 v144 v145 v146 v147 v148 v149 v150 v151 v152 v153 v155 v157 v158 v159 v160 v161 v162 v163 v164 v165 v166 v167 v168 v169 v170 v171 v172 v173 v174 v175 v176 v177 v178 v179 v180 v181 v182 v183 v184 v185 v186 v187 v188 v189 v190 v191 v192 v193 v194 v195 v196 v197 v198 v199 v200 v201 v202 v203 v204 v205 v206 v207 v208 v209 v210 v211 v212 v213 v214 v215 v216 v217 v218 v219 v220 v221 v222 v223 v224 v225:Value)
  (hP:∀ c a (e:Option Nat) v w,Q (.panic c) (Act.put a e v) w->Q (.panic c) a w)
  (hQ:∀ (x37 x38 x158 x159 x160 x161 x162 x163 x164 x165 x166 x167 x168 x169 x170 x171 x172 x173 x174 x175 x176 x177 x178 x179 x180 x181 x182 x183 x184 x185 x186 x187 x188 x189 x190 x191 x192 x193 x194 x195 x196 x197 x198 x199 x200 x201 x202 x203 x204 x205 x206:Value) (w2:World) (kv2:Value),BoxesAt YT w2 n0 d (L.set q (downB al b)) PP fks->Blk w2 s5 YT.box (btC (.mk i x 0 0 0 [] []) kv2 (.slice none 0 0)).toArray->(shPt YT.ptr).Owns w2 n1 kv2 (PP.take (q+1)) ->
   Kept (s5 :: (kv.ownBlock.toList ++ f)) w1 w2->Q .normal { tmps:=#[v0,v1,v2,v3,v4,v5,v6,v7,v8,v9,v10,v11,v12,v13,.pointer (some ⟨s5,0,none⟩),v15,v16,v17,v18,v19,v20,v21,v22,v23,v24,v25,v26,v27,v28,v29,v30,v31,.pointer (some ⟨hh,0,none⟩),v33,.int .i64 j,v35,v36,x37,x38,v39,v40,v41,v42,v43,v44,v45,v46,v47,v48,v49,v50,v51,v52,v53,v54,v55,v56,v57,v58,v59,v60,v61,v62,v63,v64,v65,v66,v67,v68,v69,v70,v71,v72,v73,v74,v75,v76,v77,v78,v79,v80,v81,v82,v83,v84,v85,v86,v87,v88,v89,v90,v91,v92,v93,v94,v95,v96,v97,v98,v99,v100,v101,v102,v103,v104,v105,v106,v107,v108,v109,v110,v111,v112,v113,v114,v115,v116,v117,v118,v119,v120,v121,v122,v123,v124,v125,v126,v127,v128,v129,v130,v131,v132,v133,v134,v135,v136,v137,v138,v139,v140,v141,v142,v143,v144,v145,v146,v147,v148,v149,v150,v151,v152,v153,.slice (some ⟨rb,ro,none⟩) rn rc,v155,.int .i64 k,v157,x158,x159,x160,x161,x162,x163,x164,x165,x166,x167,x168,x169,x170,x171,x172,x173,x174,x175,x176,x177,x178,x179,x180,x181,x182,x183,x184,x185,x186,x187,x188,x189,x190,x191,x192,x193,x194,x195,x196,x197,x198,x199,x200,x201,x202,x203,x204,x205,x206,v207,v208,v209,v210,v211,v212,v213,v214,v215,v216,v217,v218,v219,v220,v221,v222,v223,v224,v225],defers:=ds } w2) :
  (inBlock Tryz.f69 5).wp Tryz.prog Q { tmps:=#[v0,v1,v2,v3,v4,v5,v6,v7,v8,v9,v10,v11,v12,v13,.pointer (some ⟨s5,0,none⟩),v15,v16,v17,v18,v19,v20,v21,v22,v23,v24,v25,v26,v27,v28,v29,v30,v31,.pointer (some ⟨hh,0,none⟩),v33,.int .i64 j,v35,v36,v37,v38,v39,v40,v41,v42,v43,v44,v45,v46,v47,v48,v49,v50,v51,v52,v53,v54,v55,v56,v57,v58,v59,v60,v61,v62,v63,v64,v65,v66,v67,v68,v69,v70,v71,v72,v73,v74,v75,v76,v77,v78,v79,v80,v81,v82,v83,v84,v85,v86,v87,v88,v89,v90,v91,v92,v93,v94,v95,v96,v97,v98,v99,v100,v101,v102,v103,v104,v105,v106,v107,v108,v109,v110,v111,v112,v113,v114,v115,v116,v117,v118,v119,v120,v121,v122,v123,v124,v125,v126,v127,v128,v129,v130,v131,v132,v133,v134,v135,v136,v137,v138,v139,v140,v141,v142,v143,v144,v145,v146,v147,v148,v149,v150,v151,v152,v153,.slice (some ⟨rb,ro,none⟩) rn rc,v155,.int .i64 k,v157,v158,v159,v160,v161,v162,v163,v164,v165,v166,v167,v168,v169,v170,v171,v172,v173,v174,v175,v176,v177,v178,v179,v180,v181,v182,v183,v184,v185,v186,v187,v188,v189,v190,v191,v192,v193,v194,v195,v196,v197,v198,v199,v200,v201,v202,v203,v204,v205,v206,v207,v208,v209,v210,v211,v212,v213,v214,v215,v216,v217,v218,v219,v220,v221,v222,v223,v224,v225],defers:=ds } w1:=by
 obtain ⟨A6,n6,c6,rfl⟩:=hkv.slice_
 have hbq:=hBX.lenP
 have hbf:=hBX.lenF
 have hbx:=hBX.box q hq p f hp hf
 have hbe:L[q]=b:=by
  rw [List.getElem?_eq_getElem hq] at hb
  injection hb
 rw [hbe] at hbx
 have hff:∀ g ∈ f,g ∈ fks.flatten:=fun g hg=>qfd hf hg
 have hrt:=hbx.root
 obtain ⟨kv0,tv0,fB,-⟩:=hbx.own
 have hpf:p ∈ f:=hrt.1
 have hz1:(j:Int) < (an:Int):=by omega
 have hz2:(k:Int) < (rn:Int):=by omega
 have HB:=Lib.hid (And.intro hbx (And.intro hff hbe))
 conv in (inBlock _ _)=>whnf
 go_upto_region 28 with fail
 have a0:∀ V:KW [p] w1,V.val.cell? ⟨hh,0,none⟩=some (.slice (some ⟨ab,ao,none⟩) an ac):=fun V=>(hfor V.val (V.ok.more (by simp [hpf]))).1
 have a1:∀ V:KW [p] w1,V.val.cell? ⟨ab,ao+j,none⟩=some (.int .i64 al):=fun V=>(hfor V.val (V.ok.more (by simp [hpf]))).2
 have a2:∀ V:KW [] w1,V.val.cell? ⟨hh,0,none⟩=some (.slice (some ⟨ab,ao,none⟩) an ac):=fun V=>(hfor V.val (V.ok.more (by simp))).1
 have a3:∀ V:KW [] w1,V.val.cell? ⟨ab,ao+j,none⟩=some (.int .i64 al):=fun V=>(hfor V.val (V.ok.more (by simp))).2
 have a4:∀ V:KW [] w1,V.val.cell? ⟨p,4,none⟩=some (.int .i64 b.y):=fun V=>(fB.kept V.ok (by simp)).cell 4
 clear a0 a1
 refine qna [12] [0,1,2,3,4,5,6,7,8,9,10,11] [12] (fun w'=>∃ V:KW [] w1,w'=V.val) (by kernel_rfl) (by kernel_rfl) (fun c a d v w h=>hP c a d v w h) ⟨⟨w1.drew,(Kept.refl _ _).drew⟩,rfl⟩ ?_
 simp only [pickD,List.map_cons,List.map_nil,List.getD_cons_zero,List.getD_cons_succ]
 repeat (go_big_quiet_step (fail))
 refine wpQuiet_nil ?_
 refine qca rfl fun K hK=>?_
 have t0:=fB.frozen
 have t1:w1.cell? ⟨p,4,none⟩=some (.int .i64 b.y):=fB.cell 4
 go_simp
 refine hK.out _ _ (.inl (by decide)) ?_
 clear hK K
 refine qla ?_
 clear a2 a3 a4
 generalize hw2:World.drew (World.setCell w1 _ _)=w2
 have k2:Kept [p] w1 w2:=by rw [<-hw2]; exact ((Kept.refl [p] w1).setCell (p:=⟨p,4,none⟩) (by simp) _).drew
 have hbx2:BoxAt YT w2 n0 d (b.put b.x (w64 (b.y+al))) p f:=HB.out.1.put k2 fun kv tv h=>by
  rw [<-hw2]
  exact (h.set_ 4 (.int .i64 (w64 (b.y+al)))).drew
 clear hw2 fB kv0 tv0
 obtain ⟨kv1,tv,fB2,ht2,hpt,htf,hre,-⟩:=hbx2.retext
 have k2f:Kept (s5 :: ((Value.slice A6 n6 c6).ownBlock.toList ++ f)) w1 w2:=k2.more (by simp [hpf])
 obtain ⟨At,nt,ct,rfl⟩:=ht2.slice_
 obtain ⟨T,hT⟩:∃ T,T=b.text:=⟨_,rfl⟩
 have ht2':(shFg YT.frag).Owns w2 n0 (.slice At nt ct) T:=by rw [hT]; exact ht2
 have hnt:nt=T.length:=by
  rcases ht2'.2 with ⟨e,h0⟩ | ⟨g,cap,cur,e,_⟩
  ·injection e with _ e _; rw [e,h0]
  ·injection e
 subst hnt
 have hTm:T.length<=9223372036854775807:=by have h:=ht2'.few; unfold maxLen at h; omega
 have HR:=Lib.hid hre
 have HT:=Lib.hid hT
 clear hT ht2 hre
 have f6:w2.cell? ⟨p,6,none⟩=some (.slice At T.length ct):=fB2.cell 6
 go_wp2_with fail
 go_loopw [177] (FtR (.slice At T.length ct) n0 al T w2) (fun q _=>T.length - (intOf q).toNat)
 case atStart=>exact ⟨0,Nat.zero_le _,rfl,Kept.refl _ _,by simpa using ht2'⟩
 case round =>
  obtain ⟨t,htl,rfl,hkr,hor⟩:=hrel
  have hln:((T.take t).map (downF al) ++ T.drop t).length=T.length:=by simp; omega
  rcases Nat.lt_or_ge t T.length with hlt | hge
  ·as_aux_lemma =>
   have hz3:(t:Int) < (T.length:Int):=by omega
   obtain ⟨g,rfl⟩:=hor.addr (by rw [hln]; omega)
   have hget:((T.take t).map (downF al) ++ T.drop t)[t]'(by rw [hln]; exact hlt)=T[t]:=by
    rw [List.getElem_append_right (by simp; omega)]
    simp
    congr 1
    omega
   have hkf:Kept (s5 :: ((Value.slice A6 n6 c6).ownBlock.toList ++ f)) w1 wr:=k2f.trans (hkr.more fun z hz=>by
    have:=htf z hz
    simp [this])
   have hcy:wr.cell? ⟨g,t * 8+4,none⟩=some (.int .i64 T[t].y):=by
    have h:=hor.cellr (i:=t) (by rw [hln]; exact hlt) (j:=4) (show 4 < 8 by decide)
    rw [hget] at h
    exact h
   obtain ⟨cur,hcur,-,hgb,-⟩:=hor.blk
   have fBr:=fB2.kept hkr hpt
   have a2:∀ V:KW [] wr,V.val.cell? ⟨hh,0,none⟩=some (.slice (some ⟨ab,ao,none⟩) an ac):=fun V=>(hfor V.val (hkf.trans (V.ok.more (by simp)))).1
   have a3:∀ V:KW [] wr,V.val.cell? ⟨ab,ao+j,none⟩=some (.int .i64 al):=fun V=>(hfor V.val (hkf.trans (V.ok.more (by simp)))).2
   have a4:∀ V:KW [] wr,V.val.cell? ⟨p,6,none⟩=some (.slice (some ⟨g,0,none⟩) T.length ct):=fun V=>(fBr.kept V.ok (by simp)).cell 6
   have a5:∀ V:KW [] wr,V.val.cell? ⟨g,t * 8+4,none⟩=some (.int .i64 T[t].y):=fun V=>(World.cell?_of_block (a:=⟨g,t * 8+4,none⟩) (V.ok.block g hcur.lt (by simp))).trans hcy
   have HO:=Lib.hid hor
   have HG:=Lib.hid hget
   clear hor hget
   go_wp2_with fail
   refine qna [16] [0,1,2,3,4,5,6,7,8,9,10,11,12,13,14,15] [16] (fun w'=>∃ V:KW [] wr,w'=V.val) (by kernel_rfl) (by kernel_rfl) (fun c a d v w h=>hP c a d v w h) ⟨⟨wr.drew,(Kept.refl _ _).drew⟩,rfl⟩ ?_
   simp only [pickD,List.map_cons,List.map_nil,List.getD_cons_zero,List.getD_cons_succ]
   repeat (go_big_quiet_step (fail))
   refine wpQuiet_nil ?_
   refine qca rfl fun K hK=>?_
   have t0:=hcur.frozen
   have t1:=hcy
   go_simp
   refine hK.out _ _ (.inl (by decide)) ?_
   clear hK K
   refine qla ?_
   go_wp2_with fail
   have hcut:t+1<=9223372036854775807:=by omega
   refine ⟨⟨t+1,hlt,by go_num,(hkr.drew).setCell (p:=⟨g,t * 8+4,none⟩) (by simp [blkL,Value.ownBlock]) _,?_⟩,by simp [intOf]; omega⟩
   have hs:=HO.out.setc (i:=t) (by rw [hln]; exact hlt) (j:=4) (show 4 < 8 by decide) (x':=downF al T[t]) (u:=.int .i64 (w64 (T[t].y+al))) (by rw [HG.out]; rfl)
   have he:((T.take t).map (downF al) ++ T.drop t).set t (downF al T[t])=(T.take (t+1)).map (downF al) ++ T.drop (t+1):=by
    rw [List.set_append_right _ _ (by simp; omega),List.take_succ_eq_append_getElem hlt,List.map_append,List.append_assoc,List.drop_eq_getElem_cons hlt]
    congr 1
    have e0:t - (List.map (downF al) (List.take t T)).length=0:=by simp; omega
    rw [e0]
    rfl
   rw [he] at hs
   exact hs
  ·as_aux_lemma =>
   obtain rfl:t=T.length:=by omega
   have hz3:¬ (T.length:Int) < (T.length:Int):=by omega
   have hor':(shFg YT.frag).Owns wr n0 (.slice At T.length ct) (T.map (downF al)):=by simpa using hor
   have hkf:Kept (s5 :: ((Value.slice A6 n6 c6).ownBlock.toList ++ f)) w1 wr:=k2f.trans (hkr.more fun z hz=>by
    have:=htf z hz
    simp [this])
   have hkf2:Kept f w1 wr:=(k2.more (by simp [hpf])).trans (hkr.more htf)
   have hbx3:=HR.out wr _ hkr hor'
   have hpf1:p < n1:=hn1 _ (HB.out.2.1 _ hpf)
   have hfs:∀ z ∈ f,n0<=z/\z < n1:=fun z hz=>⟨(hbx2.mem_lt z hz).1,hn1 _ (HB.out.2.1 _ hz)⟩
   have hO3:=hO.kept hkf2 (fun hm=>by have:=(hfs _ hm).1; omega)
   have hkv3:=hkv.kept hkf2 (fun z hz hm=>by have h1:=(hkv.lt z hz).1; have:=(hfs _ hm).2; omega)
   have hBX3:BoxesAt YT wr n0 d (L.set q (downB al b)) PP fks:=by
    have h:=hBX.set (b':=downB al b) (f':=f) hq hp hf hkf2 (by rw [q2r,<-HT.out]; exact hbx3) (fun z hz=>.inl hz)
    have e:fks.set q f=fks:=by
     obtain ⟨h1,h2⟩:=List.getElem?_eq_some_iff.1 hf
     rw [<-h2]
     exact List.set_getElem_self ..
    rwa [e] at h
   have g0:wr.cell? ⟨s5,5,none⟩=some (.slice A6 n6 c6):=hO3.cell 5
   have hPq:(PP.take q).length+1<=1000000000:=by have:=List.length_take_le q PP; omega
   have hn1r:n1<=wr.heap.size:=Nat.le_trans hn1w hkf.size
   clear hor hor'
   go_wp2_with (at_builtin; refine qsd (v:=.slice A6 n6 c6) (L:=PP.take q) (base:=n1) qfn wr p rfl _ _ rfl rfl hkv3 rfl hPq hn1r ?_; intro v9 w9 ho9 hg9 hc9; obtain ⟨A9,n9,c9,rfl⟩:=ho9.slice_; have hO9:=(hO3.alloc (.cells #[.pointer (some ⟨p,0,none⟩)] 83)).kept ((Kept.refl (Value.slice A6 n6 c6).ownBlock.toList _).grown hg9 fun z hz=>.inl (by rw [hz]; simp)) (fun hm=>by have h1:=(hkv.lt s5 (by simpa using hm)).1; omega); have y0:=hO9.frozen; have y1:w9.cell? ⟨s5,5,none⟩=some (.slice A6 n6 c6):=hO9.cell 5)
   generalize hwJ:World.setCell w9 _ _=w4
   have k9:Kept (Value.slice A6 n6 c6).ownBlock.toList wr w9:=((Kept.refl _ wr).alloc _).grown hg9 fun z hz=>.inl (by rw [hz]; simp)
   have k4:Kept [s5] w9 w4:=by rw [<-hwJ]; exact (Kept.refl _ _).setCell (p:=⟨s5,5,none⟩) (by simp) _
   have k94:Kept (s5 :: (Value.slice A6 n6 c6).ownBlock.toList) wr w4:=(k9.more (by simp +contextual)).trans (k4.more (by simp))
   have hpn:PP.take q ++ [p]=PP.take (q+1):=by
    rw [List.take_add_one,hp]
    rfl
   refine hQ _ _ _ _ _ _ _ _ _ _ _ _ _ _ _ _ _ _ _ _ _ _ _ _ _ _ _ _ _ _ _ _ _ _ _ _ _ _ _ _ _ _ _ _ _ _ _ _ _ _ _ w4 (.slice A9 n9 c9) (hBX3.kept k94 fun z hz hm=>?_) ?_ ?_ (hkf.trans (k94.more (by simp +contextual)))
   ·have h1:=(hBX.mem_lt z hz).1
    have h2:=hn1 z hz
    rcases List.mem_cons.1 hm with e | hm
    ·omega
    ·have:=(hkv.lt z (by simpa using hm)).1
     omega
   ·rw [<-hwJ]
    exact hO9.set_ 5 (.slice A9 n9 c9)
   ·rw [hpn] at ho9
    exact ho9.kept k4 fun z hz hm=>by
     have:=(ho9.lt z hz).1
     simp at hm
     omega
end Go.Proofs.YtlnekijhbnlclaaGreatDoor
namespace Go.Proofs.YtlnekijhbnlclaaGreatDoor
open Go.RowKit Go.Shelf
theorem Kept.freshM {gs hs:List Nat} {W A B:World} (h:Kept gs W A) (k:Kept hs A B) (hm:∀ g ∈ hs,g ∈ gs\/W.heap.size<=g):Kept gs W B :=
 ⟨k.os.trans h.os,k.tape.trans h.tape,k.output.trans h.output,Nat.le_trans h.size k.size,fun i hi hn=>(k.block i (Nat.lt_of_lt_of_le hi h.size) fun hg=>by
  rcases hm i hg with h1 | h1
  ·exact hn h1
  ·omega).trans (h.block i hi hn)⟩
theorem qrn {α:Type}:∀ {l:List (List α)} {j k:Nat} (hj:j < l.length) (hk:k < l[j].length),l.flatten[(l.take j).flatten.length+k]?=some (l[j][k])
 | x :: l,0,k,_,hk=>by
  simp only [List.take_zero,List.flatten_nil,List.length_nil,Nat.zero_add,List.flatten_cons,List.getElem_cons_zero] at hk ⊢
  rw [List.getElem?_append_left hk,List.getElem?_eq_getElem hk]
 | x :: l,j+1,k,hj,hk=>by
  have hj':j < l.length:=by simpa using hj
  have hk':k < l[j].length:=by simpa using hk
  have ih:=qrn hj' hk'
  rw [List.take_succ_cons,List.flatten_cons,List.flatten_cons,List.length_append,List.getElem?_append_right (by omega),show x.length+(List.take j l).flatten.length+k - x.length=(l.take j).flatten.length+k by omega,ih]
  rfl
theorem q1f {α:Type} {S:Shp α} {w:World} {base n c:Nat} {A:Option Addr} {L:List α} (h:S.Owns w base (.slice A n c) L):n=L.length:=by
 rcases h.2 with ⟨e,h1⟩ | ⟨g,cap,cur,e,_⟩
 ·injection e with _ e _
  rw [e,h1]
 ·injection e
theorem q8u {α:Type} {S:Shp α} {w:World} {base b d:Nat} {v:Value} {L:List α} {bs:List BT} {ps:List Nat} {fks:List (List Nat)} (h:S.Owns w base v L) (hx:BoxesAt YT w b d bs ps fks) (h1:S.t≠YT.box) (h2:S.t≠YT.ptr) (h3:S.t≠YT.frag):∀ g,v.ownBlock=some g->g ∉ fks.flatten:=by
 intro g hg hm
 obtain ⟨f,hf,hg'⟩:=List.mem_flatten.1 hm
 obtain ⟨i,hi,rfl⟩:=List.getElem_of_mem hf
 have e1:=hx.lenP
 have e2:=hx.lenF
 obtain ⟨cs,t,fr,h4,h5⟩:=(hx.box i (by omega) (ps[i]'(by omega)) fks[i] (List.getElem?_eq_getElem _) (List.getElem?_eq_getElem _)).typ g hg'
 have:=qsb h hg h4
 subst this
 rcases h5 with e | e | e
 ·exact h1 e
 ·exact h2 e
 ·exact h3 e
theorem q1k {w:World} {b d D:Nat} {bs:List BT} {ps:List Nat} {fks:List (List Nat)} (hx:BoxesAt YT w b d bs ps fks) {l:List Deferred} (hD:w.heap[D]?=some (.deferred (some l))):D ∉ fks.flatten:=by
 intro hm
 obtain ⟨f,hf,hg'⟩:=List.mem_flatten.1 hm
 obtain ⟨i,hi,rfl⟩:=List.getElem_of_mem hf
 have e1:=hx.lenP
 have e2:=hx.lenF
 obtain ⟨cs,t,fr,h4,h5⟩:=(hx.box i (by omega) (ps[i]'(by omega)) fks[i] (List.getElem?_eq_getElem _) (List.getElem?_eq_getElem _)).typ D hg'
 rw [hD] at h4
 cases h4
def dnL (m:List (Kd×List BT)) (a:List Int) (j:Nat):List BT:=((m.zip a).take j).flatMap fun g=>g.1.2.map (downB g.2)
def restL (m:List (Kd×List BT)) (j:Nat):List BT:=((m.drop j).map (·.2)).flatten
theorem qhh {m:List (Kd×List BT)} {a:List Int} {j:Nat} (h:j < m.length) (h2:j < a.length):dnL m a (j+1)=dnL m a j ++ m[j].2.map (downB a[j]):=by
 have hz:j < (m.zip a).length:=by rw [List.length_zip]; omega
 unfold dnL
 rw [List.take_succ_eq_append_getElem hz,List.flatMap_append,List.flatMap_cons,List.flatMap_nil,List.append_nil,List.getElem_zip]
theorem qqr {m:List (Kd×List BT)} {j:Nat} (h:j < m.length):restL m j=m[j].2 ++ restL m (j+1):=by
 unfold restL
 rw [List.drop_eq_getElem_cons h,List.map_cons,List.flatten_cons]
theorem qvh {m:List (Kd×List BT)} {a:List Int} {pss:List (List Nat)} (h:a.length=m.length) (hp:pss.length=m.length) (hl:∀ i (h1:i < pss.length) (h2:i < m.length),pss[i].length=m[i].2.length):∀ j,j<=m.length->(dnL m a j).length=(pss.take j).flatten.length
 | 0,_=>by simp [dnL]
 | j+1,hj=>by
  rw [qhh (by omega) (by omega),List.length_append,List.length_map,qvh h hp hl j (by omega),List.take_succ_eq_append_getElem (by omega),List.flatten_append,List.length_append,List.flatten_cons,List.flatten_nil,List.append_nil,hl j (by omega) (by omega)]
theorem q3s {m:List (Kd×List BT)} {a:List Int} (h:a.length=m.length):dnL m a m.length=(m.zip a).flatMap fun g=>g.1.2.map (downB g.2):=by
 unfold dnL
 rw [List.take_of_length_le (by rw [List.length_zip]; omega)]
theorem q9w {m:List (Kd×List BT)}:restL m m.length=[]:=by
 unfold restL
 rw [List.drop_of_length_le (Nat.le_refl _)]
 rfl
theorem qeu (p:Pl) (k:Kd):(putK p k).at_.length=p.at_.length+1:=by
 unfold putK
 dsimp only
 split
 ·simp
 ·split <;> simp
theorem qpj:∀ (l:List Kd) (p:Pl),(l.foldl putK p).at_.length=p.at_.length+l.length
 | [],_=>rfl
 | k :: l,p=>by rw [List.foldl_cons,qpj l,qeu,List.length_cons]; omega
theorem qtu {l:List Kd} {a b:Bool} {P:Pl} (h:q0a l a b=(P,0)):P.at_.length=l.length:=by
 unfold q0a at h
 split at h
 ·rename_i h1
  injection h with _ h
  exact absurd h h1
 ·split at h
  ·injection h with h _
   rw [<-h]
   unfold qne endK
   have:=qpj l (pile0 a)
   have e0:(pile0 a).at_.length=0:=rfl
   split
   ·show (List.foldl putK (pile0 a) l).at_.length=_
    omega
   ·split
    ·show (List.foldl putK (pile0 a) l).at_.length=_
     omega
    ·show (List.foldl putK (pile0 a) l).at_.length=_
     omega
  ·injection h with _ h
   cases h
theorem q6t {ns:List Nd} {lay:Lay} {l:List Nat} {i:Nat} {font w:Int} {r:List BT×Int×Bool} (h:runL ns lay l i font w=some r):r.1.length<=l.length:=by
 unfold runL at h
 simp only [bind,Option.bind_eq_some_iff] at h
 obtain ⟨_,_,_,_,_,_,_,_,x,_,h⟩:=h
 injection h with h
 rw [<-h]
 exact List.length_filterMap_le _ _
theorem qpn {ns:List Nd} {lay:Lay} {i:Nat} {font w:Int}:∀ (gs:List (List Nat×Bool)) (m0 m:List (Kd×List BT)),(∀ g ∈ gs,g.2=false->g.1≠[])->gs.foldlM (q1a ns lay i font w) m0=some m ->
  ((m.map (·.2)).flatten).length<=((m0.map (·.2)).flatten).length+((gs.map (·.1)).flatten).length
 | [],m0,m,_,h=>by injection h with h; rw [h]; simp
 | g :: gs,m0,m,hg,h=>by
  rw [List.foldlM_cons] at h
  simp only [bind,Option.bind_eq_some_iff] at h
  obtain ⟨m1,h1,h2⟩:=h
  have ih:=qpn gs m1 m (fun x hx=>hg x (List.mem_cons_of_mem _ hx)) h2
  rw [List.map_cons,List.flatten_cons,List.length_append]
  unfold q1a at h1
  split at h1
  ·simp only [bind,Option.bind_eq_some_iff] at h1
   obtain ⟨r,hr,h1⟩:=h1
   have hc:=q6t hr
   injection h1 with h1
   rw [<-h1] at ih
   split at ih
   ·rw [List.map_append,List.flatten_append,List.length_append] at ih
    simp at ih ⊢
    omega
   ·omega
  ·rename_i hf
   have:=hg g List.mem_cons_self (by simpa using hf)
   have:=List.length_pos_iff.2 this
   simp only [bind,Option.bind_eq_some_iff] at h1
   obtain ⟨f,_,_,_,b,_,h1⟩:=h1
   injection h1 with h1
   rw [<-h1,List.map_append,List.flatten_append,List.length_append] at ih
   simp at ih ⊢
   omega
theorem q2g {ns:List Nd}:∀ (f:Nat) (l:List Nat),l.length<=f->((q6a ns f l).map (·.1)).flatten=l
 | f,[],_=>by cases f <;> rfl
 | f+1,k :: l,hl=>by
  rw [q6a]
  split
  ·have h1:(l.dropWhile (qfa ns)).length<=l.length:=(List.dropWhile_suffix _).length_le
   rw [List.map_cons,List.flatten_cons,q2g f _ (by simp at hl; omega),List.cons_append,List.takeWhile_append_dropWhile]
  ·rw [List.map_cons,List.flatten_cons,q2g f l (by simpa using hl)]
   rfl
theorem qbt {ns:List Nd} {lay:Lay} {i:Nat} {font w:Int} {m:List (Kd×List BT)} (h:(q2b ns i).foldlM (q1a ns lay i font w) []=some m):((m.map (·.2)).flatten).length<=(kidsN ns i).length:=by
 have h1:=qpn (q2b ns i) [] m (fun g hg hf=>by
  obtain ⟨k,hk,_⟩:=(qkf _ _ _ hg).2.2 hf
  rw [hk]
  simp) h
 have h2:(((q2b ns i).map (·.1)).flatten)=kidsN ns i:=q2g _ _ (Nat.le_refl _)
 rw [h2] at h1
 simpa using h1
def midL (bs:List BT) (n:Int) (k:Nat):List BT:=(bs.take k).map (downB n) ++ bs.drop k
theorem qho (bs:List BT) (n:Int) (k:Nat) (hk:k<=bs.length):(midL bs n k).length=bs.length:=by unfold midL; simp; omega
theorem qox {bs:List BT} {n:Int} {k:Nat} (hk:k < bs.length) (X Y:List BT):(X ++ (midL bs n k ++ Y))[X.length+k]?=some bs[k]:=by
 rw [List.getElem?_append_right (by omega),show X.length+k - X.length=k by omega,List.getElem?_append_left (by rw [qho _ _ _ (by omega)]; exact hk)]
 unfold midL
 rw [List.getElem?_append_right (by simp; omega),List.length_map,List.length_take,show k - min k bs.length=0 by omega,List.getElem?_drop]
 simp [hk]
theorem q1v {bs:List BT} {n:Int} {k:Nat} (hk:k < bs.length) (X Y:List BT):(X ++ (midL bs n k ++ Y)).set (X.length+k) (downB n bs[k])=X ++ (midL bs n (k+1) ++ Y):=by
 rw [List.set_append_right _ _ (by omega),show X.length+k - X.length=k by omega,List.set_append_left _ _ (by rw [qho _ _ _ (by omega)]; exact hk)]
 congr 2
 unfold midL
 rw [List.set_append_right _ _ (by simp; omega),List.length_map,List.length_take,show k - min k bs.length=0 by omega,List.drop_eq_getElem_cons hk,List.take_succ_eq_append_getElem hk,List.map_append,List.append_assoc]
 rfl
theorem qhs (bs:List BT) (n:Int):midL bs n 0=bs:=by simp [midL]
theorem q9u (bs:List BT) (n:Int):midL bs n bs.length=bs.map (downB n):=by simp [midL]
def FlS (W0:World) (n0 s5 d i:Nat) (x:Int) (PP:List Nat) (fks:List (List Nat)) (L:List BT) (cnt:Nat) (w:World):Prop :=
 ∃ kv,BoxesAt YT w n0 d L PP fks/\Blk w s5 YT.box (btC (.mk i x 0 0 0 [] []) kv (.slice none 0 0)).toArray/\(shPt YT.ptr).Owns w W0.heap.size kv (PP.take cnt)/\Kept (s5 :: fks.flatten) W0 w
def FpR (W0:World) (n0 s5 d i:Nat) (x:Int) (PP:List Nat) (fks:List (List Nat)) (m:List (Kd×List BT)) (a:List Int) (q:Value) (w:World):Prop :=
 ∃ j:Nat,j<=m.length/\q=.int .i64 j/\FlS W0 n0 s5 d i x PP fks (dnL m a j ++ restL m j) (dnL m a j).length w
def FqR (W0:World) (n0 s5 d i:Nat) (x:Int) (PP:List Nat) (fks:List (List Nat)) (X bs Y:List BT) (n:Int) (q:Value) (w:World):Prop :=
 ∃ k:Nat,k<=bs.length/\q=.int .i64 k/\FlS W0 n0 s5 d i x PP fks (X ++ (midL bs n k ++ Y)) (X.length+k) w
theorem qen {w:World} {base:Nat} {v:Value} {L:List Nat} (h:(shPt YT.ptr).Owns w base v L) (h0:0 < L.length):∃ g c,v=.slice (some ⟨g,0,none⟩) L.length c/\∀ k (hk:k < L.length),w.cell? ⟨g,0+k,none⟩=some (.pointer (some ⟨L[k],0,none⟩)):=by
 rcases h.2 with ⟨_,h1⟩ | ⟨g,cap,cur,rfl,hg,hb,hc,hm,hs,ht⟩
 ·omega
 ·refine ⟨g,cap,rfl,fun k hk=>?_⟩
  have:=Shp.Owns.cellr (S:=shPt YT.ptr) (L:=L) h hk (j:=0) (show 0 < 1 by decide)
  rw [show 0+k=k * (shPt YT.ptr).k+0 by show _=k * 1+0; omega]
  exact this
theorem qup {w:World} {base:Nat} {v:Value} {L:List Int} (h:Owns w base v L) (h0:0 < L.length):∃ g c,v=.slice (some ⟨g,0,none⟩) L.length c/\base<=g/\g < w.heap.size/\∀ k (hk:k < L.length),w.cell? ⟨g,0+k,none⟩=some (.int .i64 L[k]):=by
 have hlt:=h.lt
 rcases h.2 with ⟨_,h1⟩ | ⟨g,cap,cur,rfl,hg,hb,hc,hm,hs,ht⟩
 ·omega
 ·refine ⟨g,cap,rfl,hg,(hlt g rfl).2,fun k hk=>?_⟩
  have e1:(cur.toList.take (L.length * 1))[k]?=(L.map (Value.int .i64))[k]?:=by rw [ht]
  rw [List.getElem?_take_of_lt (by omega),Array.getElem?_toList] at e1
  rw [Nat.zero_add,(show Blk w g 3 cur from hb).cell,e1]
  simp [hk]
end Go.Proofs.YtlnekijhbnlclaaGreatDoor
namespace Go.Proofs.YtlnekijhbnlclaaGreatDoor
open Go.RowKit Go.Shelf
structure AllW (W:World) (bp bb bx by_ g p:Nat) (x y:Int):Prop where
 page:Blk W bp 73 #[.pointer (some ⟨g,0,none⟩)]
 box:Blk W bb 83 #[.pointer (some ⟨p,0,none⟩)]
 x:Blk W bx 3 #[.int .i64 x]
 y:Blk W by_ 3 #[.int .i64 y]
def AllRd (bp bb bx by_ g nb:Nat) (fp:List Nat) (k:Nat):Prop:=k=bp\/k=bb\/k=bx\/k=by_\/(k=g\/k=nb)\/k ∈ fp
structure PgN (W:World) (g nb no nc:Nat) (ns:List Nd):Prop where
 doc:W.cell? ⟨g,0,none⟩=some (.slice (some ⟨nb,no,none⟩) ns.length nc)
 cap:ns.length<=nc
 nodes:∀ i,i < ns.length->W.rangeAt nb (no+i * 51) (ndC (ndAt ns i))
 some_:0 < ns.length
theorem qjn {n:Nat} {W W':World} (h:IS [] n W W') {p:Addr} {v:Value} (hc:W.cell? p=some v):W'.cell? p=some v:=by
 obtain ⟨o,ho,hcell⟩:∃ o,W.heap[p.block]?=some o/\o.isCells=true:=by
  unfold World.cell? at hc
  cases ho:W.heap[p.block]? with
  | none=>rw [ho] at hc; simp at hc
  | some o =>
   rw [ho] at hc
   refine ⟨o,rfl,?_⟩
   cases o <;> simp_all [Obj.isCells]
 exact (World.cell?_of_block ((h.block _ o (by simp) ho (.inl hcell)).trans ho.symm)).trans hc
section
variable {W W':World} {g nb no nc:Nat} {ns:List Nd}
theorem PgN.lt (h:PgN W g nb no nc ns):g < W.heap.size/\nb < W.heap.size:=by
 refine ⟨World.block_lt_of_cell? W _ h.doc,?_⟩
 have h0:=h.nodes 0 h.some_ 0 (.int .i64 (ndAt ns 0).key) rfl
 exact World.block_lt_of_cell? W _ h0
theorem PgN.kept {gs:List Nat} (h:PgN W g nb no nc ns) (hk:Kept gs W W') (h1:g ∉ gs) (h2:nb ∉ gs):PgN W' g nb no nc ns :=
 ⟨(World.cell?_of_block (a:=⟨g,0,none⟩) (hk.block g h.lt.1 h1)).trans h.doc,h.cap,fun i hi k v hv=>(World.cell?_of_block (a:=⟨nb,no+i * 51+k,none⟩) (hk.block nb h.lt.2 h2)).trans (h.nodes i hi k v hv),h.some_⟩
theorem PgN.is {n:Nat} (h:PgN W g nb no nc ns) (hk:IS [] n W W'):PgN W' g nb no nc ns:=⟨qjn hk h.doc,h.cap,fun i hi k v hv=>qjn hk (h.nodes i hi k v hv),h.some_⟩
end
def qwb (bp bb bx by_ g nb:Nat) (fp:List Nat) (q5 k:Nat):Prop:=AllRd bp bb bx by_ g nb fp k\/k=q5
structure AllS (W:World) (bp bb bx by_ g p q5:Nat) (x y:Int) (nb no nc:Nat) (ns:List Nd) (base d:Nat) (b:BT) (fp:List Nat) (lp:Nat):Prop where
 cap:AllW W bp bb bx by_ g p x y
 pg:PgN W g nb no nc ns
 box:BoxAt YT W base d b p fp
 yb:Blk W q5 68 #[.func (.yield lp) #[] #[]]
section
variable {W W':World} {bp bb bx by_ g p q5:Nat} {x y:Int} {nb no nc:Nat} {ns:List Nd} {base d:Nat} {b:BT} {fp:List Nat} {lp:Nat}
theorem AllW.kept {gs:List Nat} (h:AllW W bp bb bx by_ g p x y) (hk:Kept gs W W') (hg:∀ q ∈ gs,¬ AllRd bp bb bx by_ g nb fp q):AllW W' bp bb bx by_ g p x y :=
 ⟨h.page.kept hk fun hm=>hg _ hm (.inl rfl),h.box.kept hk fun hm=>hg _ hm (.inr (.inl rfl)),h.x.kept hk fun hm=>hg _ hm (.inr (.inr (.inl rfl))),h.y.kept hk fun hm=>hg _ hm (.inr (.inr (.inr (.inl rfl))))⟩
theorem AllW.is {n:Nat} (h:AllW W bp bb bx by_ g p x y) (hk:IS [] n W W'):AllW W' bp bb bx by_ g p x y:=⟨h.page.is hk (by simp),h.box.is hk (by simp),h.x.is hk (by simp),h.y.is hk (by simp)⟩
theorem BoxAt.is_ {n:Nat} (h:BoxAt YT W base d b p fp) (hk:IS [] n W W'):BoxAt YT W' base d b p fp:=h.keep hk.size fun g hg=>by
 obtain ⟨cs,t,fr,h1,_⟩:=h.typ g hg
 exact (hk.block g _ (by simp) h1 (.inl rfl)).trans h1.symm
theorem AllS.kept {gs:List Nat} (h:AllS W bp bb bx by_ g p q5 x y nb no nc ns base d b fp lp) (hk:Kept gs W W') (hg:∀ q ∈ gs,¬ qwb bp bb bx by_ g nb fp q5 q):AllS W' bp bb bx by_ g p q5 x y nb no nc ns base d b fp lp :=
 ⟨h.cap.kept (nb:=nb) (fp:=fp) hk fun q hq hm=>hg q hq (.inl hm),h.pg.kept hk (fun hm=>hg _ hm (.inl (.inr (.inr (.inr (.inr (.inl (.inl rfl)))))))) (fun hm=>hg _ hm (.inl (.inr (.inr (.inr (.inr (.inl (.inr rfl)))))))),h.box.kept hk fun q hq hm=>hg q hm (.inl (.inr (.inr (.inr (.inr (.inr hq)))))),h.yb.kept hk fun hm=>hg _ hm (.inr rfl)⟩
theorem AllS.is {n:Nat} (h:AllS W bp bb bx by_ g p q5 x y nb no nc ns base d b fp lp) (hk:IS [] n W W'):AllS W' bp bb bx by_ g p q5 x y nb no nc ns base d b fp lp :=
 ⟨h.cap.is hk,h.pg.is hk,h.box.is_ hk,h.yb.is hk (by simp)⟩
theorem AllS.rd (h:AllS W bp bb bx by_ g p q5 x y nb no nc ns base d b fp lp):∀ k,qwb bp bb bx by_ g nb fp q5 k->k < W.heap.size:=by
 intro k hk
 rcases hk with (rfl | rfl | rfl | rfl | (rfl | rfl) | hk) | rfl
 ·exact h.cap.page.lt
 ·exact h.cap.box.lt
 ·exact h.cap.x.lt
 ·exact h.cap.y.lt
 ·exact h.pg.lt.1
 ·exact h.pg.lt.2
 ·exact (h.box.mem_lt k hk).2
 ·exact h.yb.lt
end
structure AllK (W:World) (bp bb bx by_ g p q5:Nat) (x y:Int) (nb no nc:Nat) (ns:List Nd) (base d:Nat) (b:BT) (fp:List Nat) (lp:Nat) (kv:Value) (ps:List Nat) (fks:List (List Nat)):Prop where
 s:AllS W bp bb bx by_ g p q5 x y nb no nc ns base (d+1) b fp lp
 row:(shPt YT.ptr).Owns W base kv ps
 kids:BoxesAt YT W base d b.kids ps fks
 rowIn:∀ q,kv.ownBlock=some q->q ∈ fp
 kidsIn:∀ q ∈ fks.flatten,q ∈ fp
section
variable {W W':World} {bp bb bx by_ g p q5:Nat} {x y:Int} {nb no nc:Nat} {ns:List Nd} {base d:Nat} {b:BT} {fp:List Nat} {lp:Nat} {kv:Value} {ps:List Nat} {fks:List (List Nat)}
theorem AllK.kept {gs:List Nat} (h:AllK W bp bb bx by_ g p q5 x y nb no nc ns base d b fp lp kv ps fks) (hk:Kept gs W W') (hg:∀ q ∈ gs,¬ qwb bp bb bx by_ g nb fp q5 q):AllK W' bp bb bx by_ g p q5 x y nb no nc ns base d b fp lp kv ps fks :=
 ⟨h.s.kept hk hg,h.row.kept hk fun q hq hm=>hg q hm (.inl (.inr (.inr (.inr (.inr (.inr (h.rowIn q hq))))))),h.kids.kept hk fun q hq hm=>hg q hm (.inl (.inr (.inr (.inr (.inr (.inr (h.kidsIn q hq))))))),h.rowIn,h.kidsIn⟩
theorem AllK.is {n:Nat} (h:AllK W bp bb bx by_ g p q5 x y nb no nc ns base d b fp lp kv ps fks) (hk:IS [] n W W'):AllK W' bp bb bx by_ g p q5 x y nb no nc ns base d b fp lp kv ps fks :=
 ⟨h.s.is hk,h.row.is hk (by simp),⟨h.kids.lenP,h.kids.lenF,fun i hi p' f' hp hf=>(h.kids.box i hi p' f' hp hf).is_ hk,h.kids.nodup⟩,h.rowIn,h.kidsIn⟩
end
theorem qeo (g p:Nat) (x y:Int) (w:World) :
  Calls Tryz.prog 53 #[.pointer (some ⟨g,0,none⟩),.pointer (some ⟨p,0,none⟩),.int .i64 x,.int .i64 y] w fun e w' =>
   e=.returned (.func (.func 70) #[] #[.pointer (some ⟨w.heap.size,0,none⟩),.pointer (some ⟨w.heap.size+1,0,none⟩),.pointer (some ⟨w.heap.size+1+1,0,none⟩),.pointer (some ⟨w.heap.size+1+1+1,0,none⟩)]) /\
   w'=(((w.alloc (.cells #[.pointer (some ⟨g,0,none⟩)] 73)).alloc (.cells #[.pointer (some ⟨p,0,none⟩)] 83)).alloc (.cells #[.int .i64 x] 3)).alloc (.cells #[.int .i64 y] 3):=by
 go_enter Tryz.func53,Tryz.ntmps53
 go_wp2_with fail
 go_ret
 exact ⟨rfl,rfl⟩
theorem qcj (g p:Nat) (x y:Int) (w:World):AllW ((((w.alloc (.cells #[.pointer (some ⟨g,0,none⟩)] 73)).alloc (.cells #[.pointer (some ⟨p,0,none⟩)] 83)).alloc (.cells #[.int .i64 x] 3)).alloc (.cells #[.int .i64 y] 3))
  w.heap.size (w.heap.size+1) (w.heap.size+1+1) (w.heap.size+1+1+1) g p x y:=by
 refine ⟨(((Blk.new w _ _).alloc _).alloc _).alloc _,?_,?_,?_⟩
 ·have h:=Blk.new (w.alloc (.cells #[.pointer (some ⟨g,0,none⟩)] 73)) 83 #[.pointer (some ⟨p,0,none⟩)]
  rw [World.size_alloc] at h
  exact (h.alloc _).alloc _
 ·have h:=Blk.new ((w.alloc (.cells #[.pointer (some ⟨g,0,none⟩)] 73)).alloc (.cells #[.pointer (some ⟨p,0,none⟩)] 83)) 3 #[.int .i64 x]
  simp only [World.size_alloc] at h
  exact h.alloc _
 ·have h:=Blk.new (((w.alloc (.cells #[.pointer (some ⟨g,0,none⟩)] 73)).alloc (.cells #[.pointer (some ⟨p,0,none⟩)] 83)).alloc (.cells #[.int .i64 x] 3)) 3 #[.int .i64 y]
  simp only [World.size_alloc] at h
  exact h
theorem q8b:(Tryz.prog.info? 42).map (·.size)=some 8:=by kernel_rfl
theorem qbe (f:Fg):∀ v ∈ fgC f,v.oneCell'=true:=(shFg 42).one f
theorem q5l {P:Program} {Q:Exit->Act->World->Prop} {id k l0:Nat} {a:Act} {w:World} {l:List Oper} (hN:q2e l.toArray=true) (hL:¬ LetsOut Q)
  (h:wpList P l.toArray Q l a w):(Code.region id l.toArray false).wpIn (Fence.wide.inRound l0) k P Q a w:=by
 refine wpIn_region ?_
 have h2:wpOps P l.toArray Q (List.range l.toArray.size) a w:=by
  rw [List.range_eq_range',show l.toArray.size=l.length from List.size_toArray ..,wpOps_eq_wpList l 0 (by simp)]
  exact h
 exact qvd hL (fun j o c ho=>qkg hN j o c ho) _ _ _ h2
theorem RoundIn.inRound {F:Fence} {n:Nat} {P:Program} {l:Nat} {f:FuncId} {tmps:Array Value} {assign body:Code} {w:World} {R:Ending->World->Prop} (l0:Nat) (h:RoundIn F n P l f tmps assign body w R):RoundIn (F.inRound l0) n P l f tmps assign body w R:=h
end Go.Proofs.YtlnekijhbnlclaaGreatDoor
namespace Go.Proofs.YtlnekijhbnlclaaGreatDoor
open Go.RowKit Go.Shelf
attribute [local go_sem] Oper.semAt_some
set_option linter.unusedSimpArgs false
set_option linter.unusedVariables false
def KiI (nn lp:Nat) (J:List Nat->List Fg->World->Prop) (PRE:List Fg) (F:BT->List Fg) (bp bb bx by_ g p q5:Nat) (x y X Y:Int) (nb no nc:Nat) (ns:List Nd) (base d:Nat) (b:BT) (fp:List Nat) (kv:Value) (ps:List Nat) (fks:List (List Nat)) (v0 v2 v3 v4 v6 v7 v8 v9 v10 v11 v14 v15 v16 v17 v18 v19 v20 v21 v22 v23 v24 v25 v26 v27 v28 v29 v30 v31 v32 v33 v34 v35 v36 v37 v38 v39 v40 v41 v42 v43 v44 v45 v46 v47 v48 v49 v50 v51 v52 v53 v54 v55 v56 v57 v58 v59 v60 v61 v62 v63 v64 v65 v66 v67 v68 v69 v70 v71 v72 v73 v74 v75 v76 v77 v78 v79 v80 v81 v82 v83 v84 v85 v86 v87 v88 v89 v90 v91 v92 v93 v94 v95 v96 v97 v98 v99 v100 v101 v102 v103 v104 v105 v106 v107 v108 v109 v110 v111 v112 v113 v114 v115 v116 v117 v118 v119 v120 v121 v122 v123 v124 v125 v126 v127 v128 v132 v133 v134 v135 v136 v137 v138 v139 v140 v141 v142 v143 v144 v145:Value) (a:Act) (w:World):Prop :=
 ∃ (ws:List Nat) (j:Nat) (ds:List Deferred) (x15 x132 x133 x134 x135 x136 x137 x138 x139 x145:Value),a={ tmps:=#[v0,.pointer (some ⟨bp,0,none⟩),v2,v3,v4,.pointer (some ⟨q5,0,none⟩),v6,v7,v8,v9,v10,v11,.int .i64 X,.int .i64 Y,v14,x15,v16,v17,v18,v19,v20,v21,v22,v23,v24,v25,v26,v27,v28,v29,v30,v31,v32,v33,v34,v35,v36,v37,v38,v39,v40,v41,v42,v43,v44,v45,v46,v47,v48,v49,v50,v51,v52,v53,v54,v55,v56,v57,v58,v59,v60,v61,v62,v63,v64,v65,v66,v67,v68,v69,v70,v71,v72,v73,v74,v75,v76,v77,v78,v79,v80,v81,v82,v83,v84,v85,v86,v87,v88,v89,v90,v91,v92,v93,v94,v95,v96,v97,v98,v99,v100,v101,v102,v103,v104,v105,v106,v107,v108,v109,v110,v111,v112,v113,v114,v115,v116,v117,v118,v119,v120,v121,v122,v123,v124,v125,v126,v127,v128,kv,.int .i64 ps.length,.int .i64 j,x132,x133,x134,x135,x136,x137,x138,x139,v140,v141,v142,v143,v144,x145],defers:=ds }/\Marks nn ds w/\(∀ D,{ target:=Target.collected D,args:=#[] } ∈ ds->D < w.heap.size/\D ∉ ws)/\j<=b.kids.length /\
  J ws (PRE ++ (b.kids.take j).flatMap F) w/\(∀ q ∈ ws,q < w.heap.size/\¬ qwb bp bb bx by_ g nb fp q5 q/\q≠lp)/\AllK w bp bb bx by_ g p q5 x y nb no nc ns base d b fp lp kv ps fks/\nn<=w.heap.size
theorem qfi {P:Program} {f:FuncId} {t:Operand} {x y:Code} {Q:Exit->Act->World->Prop} {a:Act} {w:World} (ht:a.eval t=.bool true) (h:wpF f P x Q a w):wpF f P (.cond t x y) Q a w:=qik (b:=true) ht (by simpa using h)
theorem q9g {P:Program} {f:FuncId} {t:Operand} {x y:Code} {Q:Exit->Act->World->Prop} {a:Act} {w:World} (ht:a.eval t=.bool false) (h:wpF f P y Q a w):wpF f P (.cond t x y) Q a w:=qik (b:=false) ht (by simpa using h)
theorem Marks.kept {n:Nat} {ds:List Deferred} {w w':World} {gs:List Nat} (h:Marks n ds w) (hk:Kept gs w w') (hg:∀ D,{ target:=Target.collected D,args:=#[] } ∈ ds->D < w.heap.size/\D ∉ gs):Marks n ds w':=by
 obtain ⟨Ds,rfl,h1,h2⟩:=h
 exact ⟨Ds,rfl,h1,fun D hD=>⟨(h2 D hD).1,(hk.block D (hg D (List.mem_map.2 ⟨D,hD,rfl⟩)).1 (hg D (List.mem_map.2 ⟨D,hD,rfl⟩)).2).trans (h2 D hD).2⟩⟩
theorem Marks.low {n D:Nat} {ds:List Deferred} {w:World} (h:Marks n ds w) (hD:{ target:=Target.collected D,args:=#[] } ∈ ds):n<=D:=by
 obtain ⟨Ds,rfl,h1,h2⟩:=h
 obtain ⟨D',hD',e⟩:=List.mem_map.1 hD
 injection e with e _
 injection e with e
 subst e
 exact (h2 D' hD').1
def KiJ (nn lp n4:Nat) (ds:List Deferred) (J:List Nat->List Fg->World->Prop) (PRE:List Fg) (bp bb bx by_ g p q5:Nat) (x y:Int) (nb no nc:Nat) (ns:List Nd) (base d:Nat) (b:BT) (fp:List Nat) (kv:Value) (ps:List Nat) (fks:List (List Nat)) (wr:List Nat) (pre:List Fg) (w:World):Prop :=
 ∃ ws,wr=lp :: ws/\J ws (PRE ++ pre) w/\(∀ q ∈ ws,q < w.heap.size/\¬ qwb bp bb bx by_ g nb fp q5 q/\q≠lp)/\AllK w bp bb bx by_ g p q5 x y nb no nc ns base d b fp lp kv ps fks/\Marks nn ds w/\(∀ D,{ target:=Target.collected D,args:=#[] } ∈ ds->D < n4/\D ∉ ws)/\n4<=w.heap.size
set_option maxRecDepth 100000 in
set_option maxHeartbeats 8000000 in
theorem qzo (nn lp n:Nat) (J:List Nat->List Fg->World->Prop) (Jx:World->Prop) (Jp:List PanicEntry->World->Prop) (PRE:List Fg) (bp bb bx by_ g p q5:Nat) (x y X Y:Int) (nb no nc:Nat) (ns:List Nd) (base d:Nat) (b:BT) (fp:List Nat) (kv:Value) (ps:List Nat) (fks:List (List Nat)) (W:World) (ws0:List Nat) (Q:Exit->Act->World->Prop)
  (hih:∀ (i:Nat) (hi:i < b.kids.length) (pc:Nat) (fc:List Nat) (cp cb cx cy:Nat) (w:World),BoxAt YT w base d b.kids[i] pc fc->AllW w cp cb cx cy g pc X Y->PgN w g nb no nc ns ->
   SeqK Tryz.prog 70 #[.pointer (some ⟨cp,0,none⟩),.pointer (some ⟨cb,0,none⟩),.pointer (some ⟨cx,0,none⟩),.pointer (some ⟨cy,0,none⟩)] (fun f=>#[.agg (fgC f).toArray]) (allL ns d b.kids[i] X Y) [] (AllRd cp cb cx cy g nb fc) w)
  (hJ:∀ wr pre A B,J wr pre A->IS [] nn A B->J wr pre B) (hJx:∀ A B,Jx A->IS [] nn A B->Jx B) (hJp:∀ ch A B,Jp ch A->IS [] nn A B->Jp ch B)
  (hY:∀ m wr pre x W1,J wr pre W1->pre ++ [x] <+: PRE ++ b.kids.flatMap (fun k=>allL ns d k X Y)->YieldAt Fence.wide m Tryz.prog lp #[.agg (fgC x).toArray] W1 fun e W' =>
   (e=.returned (.bool true)/\∃ wr',J wr' (pre ++ [x]) W'/\Kept wr W1 W'/\∀ g ∈ wr',(g ∈ wr\/W1.heap.size<=g)/\g < W'.heap.size)\/(e=.returned (.bool false)/\Jx W'/\Kept (lp :: wr) W1 W')\/(∃ ch,e=.panicked ch/\Jp ch W'/\Kept (lp :: wr) W1 W'))
  (hK:AllK W bp bb bx by_ g p q5 x y nb no nc ns base d b fp lp kv ps fks) (hj0:J ws0 PRE W) (hws:∀ q ∈ ws0,q < W.heap.size/\¬ qwb bp bb bx by_ g nb fp q5 q/\q≠lp) (hn:nn<=W.heap.size) (hlp:lp < nn) (hlq:¬ qwb bp bb bx by_ g nb fp q5 lp) (hps:ps.length<=9223372036854775807)
  (v0 v2 v3 v4 v6 v7 v8 v9 v10 v11 v14 v15 v16 v17 v18 v19 v20 v21 v22 v23 v24 v25 v26 v27 v28 v29 v30 v31 v32 v33 v34 v35 v36 v37 v38 v39 v40 v41 v42 v43 v44 v45 v46 v47 v48 v49 v50 v51 v52 v53 v54 v55 v56 v57 v58 v59 v60 v61 v62 v63 v64 v65 v66 v67 v68 v69 v70 v71 v72 v73 v74 v75 v76 v77 v78 v79 v80 v81 v82 v83 v84 v85 v86 v87 v88 v89 v90 v91 v92 v93 v94 v95 v96 v97 v98 v99 v100 v101 v102 v103 v104 v105 v106 v107 v108 v109 v110 v111 v112 v113 v114 v115 v116 v117 v118 v119 v120 v121 v122 v123 v124 v125 v126 v127 v128 v132 v133 v134 v135 v136 v137 v138 v139 v140 v141 v142 v143 v144 v145:Value)
  (hQ:∀ (a:Act) (w:World) (ws:List Nat),Marks nn a.defers w->J ws (PRE ++ b.kids.flatMap fun k=>allL ns d k X Y) w->Q (.exit 2) a w)
  (hQr:∀ (a:Act) (w:World),Marks nn a.defers w->Jx w->Q .ret a w)
  (hQp:∀ (ch:List PanicEntry) (a:Act) (w:World),Marks nn a.defers w->Jp ch w->Q (.panic ch) a w) :
  wpF 70 Tryz.prog (inBlock Tryz.f70 2) Q { tmps:=#[v0,.pointer (some ⟨bp,0,none⟩),v2,v3,v4,.pointer (some ⟨q5,0,none⟩),v6,v7,v8,v9,v10,v11,.int .i64 X,.int .i64 Y,v14,v15,v16,v17,v18,v19,v20,v21,v22,v23,v24,v25,v26,v27,v28,v29,v30,v31,v32,v33,v34,v35,v36,v37,v38,v39,v40,v41,v42,v43,v44,v45,v46,v47,v48,v49,v50,v51,v52,v53,v54,v55,v56,v57,v58,v59,v60,v61,v62,v63,v64,v65,v66,v67,v68,v69,v70,v71,v72,v73,v74,v75,v76,v77,v78,v79,v80,v81,v82,v83,v84,v85,v86,v87,v88,v89,v90,v91,v92,v93,v94,v95,v96,v97,v98,v99,v100,v101,v102,v103,v104,v105,v106,v107,v108,v109,v110,v111,v112,v113,v114,v115,v116,v117,v118,v119,v120,v121,v122,v123,v124,v125,v126,v127,v128,kv,.int .i64 ps.length,.int .i64 (0:Nat),v132,v133,v134,v135,v136,v137,v138,v139,v140,v141,v142,v143,v144,v145],defers:=[] } W:=by
 have HPL:=Lib.hid hK.kids.lenP
 conv in (inBlock _ _)=>whnf
 refine q5t (KiI nn lp J PRE (fun k=>allL ns d k X Y) bp bb bx by_ g p q5 x y X Y nb no nc ns base d b fp kv ps fks v0 v2 v3 v4 v6 v7 v8 v9 v10 v11 v14 v15 v16 v17 v18 v19 v20 v21 v22 v23 v24 v25 v26 v27 v28 v29 v30 v31 v32 v33 v34 v35 v36 v37 v38 v39 v40 v41 v42 v43 v44 v45 v46 v47 v48 v49 v50 v51 v52 v53 v54 v55 v56 v57 v58 v59 v60 v61 v62 v63 v64 v65 v66 v67 v68 v69 v70 v71 v72 v73 v74 v75 v76 v77 v78 v79 v80 v81 v82 v83 v84 v85 v86 v87 v88 v89 v90 v91 v92 v93 v94 v95 v96 v97 v98 v99 v100 v101 v102 v103 v104 v105 v106 v107 v108 v109 v110 v111 v112 v113 v114 v115 v116 v117 v118 v119 v120 v121 v122 v123 v124 v125 v126 v127 v128 v132 v133 v134 v135 v136 v137 v138 v139 v140 v141 v142 v143 v144 v145) (fun a _=>b.kids.length - (intOf (a.tmps.getD 131 undef)).toNat) ⟨ws0,0,[],_,_,_,_,_,_,_,_,_,_,rfl,Marks.nil _ _,by simp,Nat.zero_le _,by simpa using hj0,hws,hK,hn⟩ ?_
 rintro a wr ⟨ws,j,ds,x15,x132,x133,x134,x135,x136,x137,x138,x139,x145,rfl,hM,hMl,hjl,hj,hwq,hE,hnr⟩
 have hlt:=hE.s.rd
 have hlpr:lp < wr.heap.size:=by omega
 refine qea ?_
 rcases Nat.lt_or_ge j b.kids.length with hjt | hjt
 ·have hjp:j < ps.length:=by have:=HPL.out; omega
  have hz:(j:Int) < (ps.length:Int):=by omega
  obtain ⟨KG,KC,rfl,hkc⟩:=qen hE.row (by omega)
  have hjf:j < fks.length:=by rw [hE.kids.lenF]; exact hjt
  have c0:wr.cell? ⟨KG,j,none⟩=some (.pointer (some ⟨ps[j],0,none⟩)):=by
   have:=hkc j hjp
   rwa [Nat.zero_add] at this
  have c1:wr.cell? ⟨bp,0,none⟩=some (.pointer (some ⟨g,0,none⟩)):=hE.s.cap.page.cell 0
  clear hkc
  refine qda (n:=n) (wpIn_wide.2 ?_)
  go_wp2_with fail
  refine qea ?_
  refine qfi rfl ?_
  refine qda (n:=n) (wpIn_wide.2 ?_)
  go_wp2_with fail
  refine qea ?_
  refine qwd ?_
  refine qea ?_
  refine qda (n:=n) (wpIn_wide.2 ?_)
  go_wp2_with fail
  refine qea ?_
  have hc:=qeo g ps[j] X Y wr
  refine qda (n:=n) (wpIn_wide.2 ?_)
  go_wp2_with (go_at_call 53; refine hc.mono ?_; rintro e w4 ⟨rfl,hw4⟩; have HW4:=Lib.hid hw4; clear hw4)
  refine qwd ?_
  have hw4:=HW4.out
  have hk4:Kept [] wr w4:=by rw [hw4]; exact ((((Kept.refl [] wr).alloc _).alloc _).alloc _).alloc _
  have hcap:AllW w4 wr.heap.size (wr.heap.size+1) (wr.heap.size+1+1) (wr.heap.size+1+1+1) g ps[j] X Y:=by rw [hw4]; exact qcj g ps[j] X Y wr
  have hs4:w4.heap.size=wr.heap.size+4:=by rw [hw4]; simp
  have hE4:=hE.kept hk4 (by simp)
  have hbox:=hE4.kids.box j hjt ps[j] fks[j] (List.getElem?_eq_getElem _) (List.getElem?_eq_getElem _)
  have hsq:=hih j hjt ps[j] fks[j] _ _ _ _ w4 hbox hcap hE4.s.pg
  have hfin:∀ q,q ∈ fks[j]->q ∈ fp:=fun q hq=>hE.kidsIn q (qfd (List.getElem?_eq_getElem hjf) hq)
  have hM4:=hM.kept hk4 fun D hD=>⟨(hMl D hD).1,by simp⟩
  have hj4:=hJ _ _ _ _ hj (IS.of_kept hk4)
  have HS4:=Lib.hid hs4
  clear hw4 hc c0 c1 hs4
  have hFM:b.kids.flatMap (fun k=>allL ns d k X Y)=(b.kids.take j).flatMap (fun k=>allL ns d k X Y) ++ (allL ns d b.kids[j] X Y ++ (b.kids.drop (j+1)).flatMap fun k=>allL ns d k X Y):=by
   conv=>lhs; rw [<-List.take_append_drop j b.kids,List.drop_eq_getElem_cons hjt]
   rw [List.flatMap_append,List.flatMap_cons]
  have HFM:=Lib.hid hFM
  clear hFM
  refine q3n (f:=70) ⟨_,Tryz.func70⟩ (n:=n) (gf:=70) (lb:=#[.pointer (some ⟨wr.heap.size,0,none⟩),.pointer (some ⟨wr.heap.size+1,0,none⟩),.pointer (some ⟨wr.heap.size+1+1,0,none⟩),.pointer (some ⟨wr.heap.size+1+1+1,0,none⟩)]) rfl (enters_of Tryz.func70 (by kernel_rfl) rfl)
   hsq (Below.refl _ _) (fun _=>rfl) ?hrd (lp :: ws) ?hwr (KiJ nn lp w4.heap.size ds J (PRE ++ (b.kids.take j).flatMap fun k=>allL ns d k X Y) bp bb bx by_ g p q5 x y nb no nc ns base d b fp (.slice (some ⟨KG,0,none⟩) ps.length KC) ps fks)
   (fun c w=>c=.ret/\Jx w/\Marks nn ds w) (fun ch w=>Jp ch w/\Marks nn ds w) ?hI ?hIx ?hIp (by simp) ?h0 (fun f a' w'=>∃ q:Nat,a'={ tmps:=#[v0,.pointer (some ⟨bp,0,none⟩),v2,v3,v4,.pointer (some ⟨q5,0,none⟩),v6,v7,v8,v9,v10,v11,.int .i64 X,.int .i64 Y,v14,.pointer (some ⟨ps[j],0,none⟩),.pointer (some ⟨q,0,none⟩),v17,v18,v19,v20,v21,v22,v23,v24,v25,v26,v27,v28,v29,v30,v31,v32,v33,v34,v35,v36,v37,v38,v39,v40,v41,v42,v43,v44,v45,v46,v47,v48,v49,v50,v51,v52,v53,v54,v55,v56,v57,v58,v59,v60,v61,v62,v63,v64,v65,v66,v67,v68,v69,v70,v71,v72,v73,v74,v75,v76,v77,v78,v79,v80,v81,v82,v83,v84,v85,v86,v87,v88,v89,v90,v91,v92,v93,v94,v95,v96,v97,v98,v99,v100,v101,v102,v103,v104,v105,v106,v107,v108,v109,v110,v111,v112,v113,v114,v115,v116,v117,v118,v119,v120,v121,v122,v123,v124,v125,v126,v127,v128,.slice (some ⟨KG,0,none⟩) ps.length KC,.int .i64 ps.length,.int .i64 j,.bool true,.pointer (some ⟨KG,j,none⟩),.pointer (some ⟨ps[j],0,none⟩),.pointer (some ⟨g,0,none⟩),.pointer (some ⟨ps[j],0,none⟩),.int .i64 X,.int .i64 Y,.func (.func 70) #[] #[.pointer (some ⟨wr.heap.size,0,none⟩),.pointer (some ⟨wr.heap.size+1,0,none⟩),.pointer (some ⟨wr.heap.size+1+1,0,none⟩),.pointer (some ⟨wr.heap.size+1+1+1,0,none⟩)],.agg (fgC f).toArray,v141,v142,v143,v144,x145],defers:=[] }/\Blk w' q 42 (fgC f).toArray) ?hAx ?assign ?body ?done ?stop ?thrown
  case hrd =>
   intro k hk
   have:=HS4.out
   rcases hk with rfl | rfl | rfl | rfl | hk | hk
   ·omega
   ·omega
   ·omega
   ·omega
   ·have:=hlt k (.inl (.inr (.inr (.inr (.inr (.inl hk)))))); omega
   ·have:=hlt k (.inl (.inr (.inr (.inr (.inr (.inr (hfin k hk))))))); omega
  case hwr =>
   have hq:∀ q,q < wr.heap.size->¬ qwb bp bb bx by_ g nb fp q5 q->q < w4.heap.size/\¬ AllRd wr.heap.size (wr.heap.size+1) (wr.heap.size+1+1) (wr.heap.size+1+1+1) g nb fks[j] q:=fun q h1 h2=>by
    have:=HS4.out
    refine ⟨by omega,?_⟩
    rintro (h | h | h | h | h | h)
    ·omega
    ·omega
    ·omega
    ·omega
    ·exact h2 (.inl (.inr (.inr (.inr (.inr (.inl h))))))
    ·exact h2 (.inl (.inr (.inr (.inr (.inr (.inr (hfin q h)))))))
   intro q hm
   rcases List.mem_cons.1 hm with rfl | hm
   ·exact hq _ hlpr hlq
   ·exact hq _ (hwq q hm).1 (hwq q hm).2.1
  case hI =>
   rintro wr' pre A' B' ⟨ws',rfl,i1,i2,i3,i4,i5,i6⟩ hi'
   have hn4:nn<=w4.heap.size:=by have:=HS4.out; omega
   exact ⟨ws',rfl,hJ _ _ _ _ i1 (hi'.fewer hn4),fun q hq=>⟨Nat.lt_of_lt_of_le (i2 q hq).1 hi'.size,(i2 q hq).2⟩,i3.is hi',i4.is hi' (by simp) (fun D hD=>(i5 D hD).1),i5,Nat.le_trans i6 hi'.size⟩
  case hIx =>
   rintro c A' B' ⟨rfl,i1,i2⟩ hi'
   have hn4:nn<=w4.heap.size:=by have:=HS4.out; omega
   exact ⟨rfl,hJx _ _ i1 (hi'.fewer hn4),i2.is hi' (by simp) fun D hD=>by have:=(hMl D hD).1; have:=HS4.out; omega⟩
  case hIp =>
   rintro ch A' B' ⟨i1,i2⟩ hi'
   have hn4:nn<=w4.heap.size:=by have:=HS4.out; omega
   exact ⟨hJp _ _ _ i1 (hi'.fewer hn4),i2.is hi' (by simp) fun D hD=>by have:=(hMl D hD).1; have:=HS4.out; omega⟩
  case h0=>exact ⟨ws,rfl,by simpa using hj4,fun q hq=>⟨by have:=(hwq q hq).1; have:=HS4.out; omega,(hwq q hq).2⟩,hE4,hM4,fun D hD=>⟨by have:=(hMl D hD).1; have:=HS4.out; omega,(hMl D hD).2⟩,Nat.le_refl _⟩
  case hAx =>
   rintro f a' A' B' ⟨q,h1,h2⟩ hi'
   exact ⟨q,h1,h2.is hi' (by simp)⟩
  case assign =>
   rintro l wr' pre f w5 K hi hK
   refine q5l (by kernel_rfl) (by rintro ⟨_,_,h⟩; exact h) ?_
   go_wp2_with (refine qxa rfl 42 _ _ rfl w5.heap.size 42 (fgC ⟨0,0,0,0,0,0,0,ByteArray.empty⟩) (fgC f) rfl (Blk.new _ _ _) rfl rfl q8b (qbe f) ?_; intro w6 r6 k6 z6; simp only [Act.put])
   exact hK _ _ (((Kept.refl [] w5).alloc _).fresh k6 (by simp)) ⟨w5.heap.size,rfl,r6⟩
  case body =>
   rintro l wr' pre f a' w5 hl hlr hwl ⟨ws',rfl,i1,i2,i3,i4,i5,i6⟩ ⟨q16,rfl,hq16⟩ hpre
   have y0:w5.cell? ⟨q5,0,none⟩=some (.func (.yield lp) #[] #[]):=i3.s.yb.cell 0
   have hrg:w5.rangeAt q16 0 (fgC f):=fun k v hv=>by
    rw [Nat.zero_add,hq16.cell k]
    simpa using hv
   have hpre2:(PRE ++ (b.kids.take j).flatMap (fun k=>allL ns d k X Y) ++ pre) ++ [f] <+: PRE ++ b.kids.flatMap (fun k=>allL ns d k X Y):=by
    obtain ⟨r,hr⟩:=hpre
    refine ⟨r ++ (b.kids.drop (j+1)).flatMap fun k=>allL ns d k X Y,?_⟩
    rw [HFM.out,<-hr]
    simp
   obtain ⟨fn,tmps,assign,body,hy,hR⟩:=hY (n - 1) ws' _ f w5 i1 hpre2
   have HR:=Lib.hid hR
   have HP:=Lib.hid (And.intro i2 (And.intro i3 (And.intro i4 (And.intro i5 i6))))
   clear hR hpre hpre2 i2 i3 i4 i5 i6
   gi_wp2_with (refine qsh rfl 42 _ rfl q16 0 rfl (fgC f) _ hrg Tryz.underlying42 rfl q8b ?_)
   refine ⟨fun h=>absurd h (by decide),(RoundIn.inRound l HR.out).mono ?_⟩
   obtain ⟨i2,i3,i4,i5,i6⟩:=HP.out
   have hMk:∀ gs w6,Kept gs w5 w6->(∀ q ∈ gs,q=lp\/q ∈ ws')->Marks nn ds w6:=fun gs w6 hk hg=>i4.kept hk fun D hD=>⟨by have:=(i5 D hD).1; omega,fun hm=>by
    rcases hg D hm with e | hm
    ·have:=i4.low hD; omega
    ·exact (i5 D hD).2 hm⟩
   rintro e w6 (⟨rfl,ws3,hj3,hk3,hw3⟩ | ⟨rfl,hx3,hk3⟩ | ⟨ch,rfl,hp3,hk3⟩)
   ·gi_wp2
    refine ⟨lp :: ws3,⟨ws3,rfl,by rw [<-List.append_assoc]; exact hj3,fun q hq=>⟨(hw3 q hq).2,?_⟩,i3.kept hk3 fun q hq=>(i2 q hq).2.1,hMk _ _ hk3 fun q hq=>.inr hq,fun D hD=>⟨(i5 D hD).1,fun hm=>?_⟩,Nat.le_trans i6 hk3.size⟩,hk3.more (by simp +contextual),fun q hq=>?_⟩
    ·rcases (hw3 q hq).1 with h4 | h4
     ·exact (i2 q h4).2
     ·refine ⟨fun hc=>by have:=i3.s.rd q hc; omega,by have:=HS4.out; omega⟩
    ·rcases (hw3 D hm).1 with h4 | h4
     ·exact (i5 D hD).2 h4
     ·have:=(i5 D hD).1; omega
    ·rcases List.mem_cons.1 hq with rfl | hq
     ·exact ⟨.inl (by simp),by have:=HS4.out; have:=hk3.size; omega⟩
     ·exact ⟨(hw3 q hq).1.imp_left fun h=>List.mem_cons_of_mem _ h,(hw3 q hq).2⟩
   ·gi_wp2
    exact ⟨hk3,rfl,hx3,hMk _ _ hk3 fun q hq=>by simpa using hq⟩
   ·exact ⟨rfl,hk3,hp3,hMk _ _ hk3 fun q hq=>by simpa using hq⟩
  case done =>
   rintro D wr' w5 hD ⟨ws',rfl,i1,i2,i3,i4,i5,i6⟩ hd hDn
   have hMD:=i4.cons (D:=D) (by have:=HS4.out; omega) hd fun D' hD'=>by have:=(i5 D' hD').1; omega
   refine qda (n:=n) (wpIn_wide.2 ?_)
   go_wp2_with fail
   have hn5:wr.heap.size<=w5.heap.size:=by have:=HS4.out; omega
   refine ⟨⟨ws',j+1,_,_,_,_,_,_,_,_,_,_,_,rfl,hMD,fun D' hD'=>?_,hjt,?_,i2,i3,by omega⟩,?_⟩
   ·rcases List.mem_cons.1 hD' with e | hD'
    ·injection e with e _
     injection e with e
     subst e
     exact ⟨(Array.getElem?_eq_some_iff.1 hd).1,fun hm=>hDn _ (List.mem_cons_of_mem _ hm) rfl⟩
    ·exact ⟨by have:=(i5 D' hD').1; omega,(i5 D' hD').2⟩
   ·have e:PRE ++ (b.kids.take (j+1)).flatMap (fun k=>allL ns d k X Y)=PRE ++ (b.kids.take j).flatMap (fun k=>allL ns d k X Y) ++ allL ns d b.kids[j] X Y:=by
     rw [List.take_succ_eq_append_getElem hjt,List.flatMap_append]
     simp
    rw [e]
    exact i1
   ·simp [intOf]
    omega
  case stop =>
   rintro D c w5 hD ⟨rfl,hx,hM5⟩ hd
   have hMD:=hM5.cons (D:=D) (by have:=HS4.out; omega) hd fun D' hD'=>by have:=(hMl D' hD').1; have:=HS4.out; omega
   refine wpIn_wide.2 ?_
   go_wp2_with fail
   exact hQr _ _ hMD hx
  case thrown =>
   rintro D ch w5 hD ⟨hp,hM5⟩ hd
   have hMD:=hM5.cons (D:=D) (by have:=HS4.out; omega) hd fun D' hD'=>by have:=(hMl D' hD').1; have:=HS4.out; omega
   exact hQp ch _ _ hMD hp
 ·obtain rfl:j=b.kids.length:=by omega
  have hz:¬ ((b.kids.length:Nat):Int) < (ps.length:Int):=by have:=HPL.out; omega
  refine qda (n:=n) (wpIn_wide.2 ?_)
  go_wp2_with fail
  refine qea ?_
  refine q9g rfl ?_
  refine qda (n:=n) (wpIn_wide.2 ?_)
  go_wp2_with fail
  exact hQ _ _ ws hM (by simpa using hj)
end Go.Proofs.YtlnekijhbnlclaaGreatDoor
