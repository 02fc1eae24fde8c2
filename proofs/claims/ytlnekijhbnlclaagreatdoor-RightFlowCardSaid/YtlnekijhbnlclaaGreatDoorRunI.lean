/-
  Walks: package layout: run: a piece of a row.
-/
import Derived.Test.YtlnekijhbnlclaaGreatDoorLay
import Derived.Test.YtlnekijhbnlclaaGreatDoorCutPg
import Derived.Test.YtlnekijhbnlclaaGreatDoorPlace
import Derived.Test.YtlnekijhbnlclaaGreatDoorDocFacts
namespace Go.Proofs.YtlnekijhbnlclaaGreatDoor
open Go.RowKit Go.Shelf Go.Maps
set_option linter.unusedSimpArgs false
set_option linter.unusedVariables false
theorem q5f:(shFg YT.frag).Ok Tryz.prog 36 72:=by
 refine ⟨Tryz.underlying36,?_,by decide,by decide⟩
 have h:(Tryz.prog.info? 42).map (fun i=>(i.zero,i.size,i.bytes))=some (some (.agg #[.int .i64 0,.int .i64 0,.int .i64 0,.int .i64 0,.int .i64 0,.int .i64 0,.int .i64 0,.string ⟨#[]⟩]),8,72):=by kernel_rfl
 cases hi:Tryz.prog.info? 42 with
 | none=>exact absurd h (by rw [hi]; simp)
 | some i =>
  rw [hi] at h
  injection h with h
  injection h with h1 h2
  injection h2 with h2 h3
  exact ⟨i,_,hi,h1,h2,h3,rfl⟩
theorem qpb {P:Program} {ops:Array Oper} {op:Oper} {a:Act} {K:Act->World->Prop} {Q:Exit->Act->World->Prop} {E:Prop} {α:Type} {S:Shp α} {ts:TypeId} {bytes:Nat} (hS:S.Ok P ts bytes) {w:World} (hgd:op.guard=none) (s y:Operand)
  (ho:op.op=.call { callee:=.builtin .append,args:=#[s,y],argTypes:=#[ts,ts] })
  {base:Nat} {v:Value} {L:List α} (hs:a.eval s=v) (hown:S.Owns w base v L) {B:Nat} {u:Value} {M:List α} (hy:a.eval y=u) (hu:S.In w B u M)
  (h47:L.length+M.length<=1000000000) (hbase:base<=w.heap.size)
  (h:∀ v' w',S.Owns w' base v' (L ++ M)->w.grownBy w' v.ownBlock->(v'.ownBlock=v.ownBlock\/v'.ownBlock=some w.heap.size)->K (a.put op.dst v') w') :
  if Region.wanted op (yielded ops a.tmps)=true then Oper.wp P op a w K Q else E:=by
 obtain ⟨i0,z,hi0,hz0,hz1,hz2,hz3⟩:=hS.info
 obtain ⟨A,c,rfl,hc,hr⟩:=hu
 have h5:=hS.small
 have hbb:(L.length+M.length) * bytes<=1000000000 * 10000:=Nat.mul_le_mul h47 h5
 refine qnf w hgd s y _ ho base S.t i0 z S.k bytes hS.under hi0 hz0 hz1 hz2 hz3 hS.pos v _ _ hs hown B A _ c (S.row M) hy hr (S.row_oneCell M) (by simp only [maxLen]; omega) (by omega) hbase ?_
 intro v' w' h1 h2 h3
 exact h v' w' (by unfold Shp.Owns; rw [List.length_append,S.row_append]; exact h1) h2 h3
theorem Shp.In.one {α:Type} (S:Shp α) (w:World) (x:α):S.In (w.alloc (.cells (S.enc x).toArray S.t)) (w.heap.size+1) (.slice (some ⟨w.heap.size,0,none⟩) 1 1) [x]:=by
 have hb:=Shp.In.built (B:=w.heap.size+1) S w [x] S.t (by omega)
 rw [Shp.row_one] at hb
 exact hb
structure KW (gs:List Nat) (w0:World) where
 val:World
 ok:Kept gs w0 val
instance kwNonempty (gs:List Nat) (w0:World):Nonempty (KW gs w0):=⟨⟨w0,Kept.refl _ _⟩⟩
def BxT:List TypeId:=[93,83,42]
section
variable {ns:List Nd} {w w':World} {base d mb n:Nat} {f:Nat->Option Nat} {LB:List En} {G:Nat->Option BT} {M:List PiM}
theorem RB.mapNo (h:RB ns w base d mb n f LB G M) {cs:Array Value} {t:TypeId} {fr:Nat×Nat} (hb:w.heap[mb]?=some (Obj.cells cs t fr)):False:=by
 obtain ⟨D,⟨es,clock,h2,_⟩,_⟩:=h.map
 rw [hb] at h2
 cases h2
theorem RB.chg (h:RB ns w base d mb n f LB G M) {e:En} (he:e ∈ LB) (hmb:base<=mb) (hk:Kept (mb :: e.fp) w w'):Chg base BxT w w':=by
 refine Chg.of_kept hk (fun g hg=>?_) fun g hg cs t fr hb=>?_
 ·rcases List.mem_cons.1 hg with rfl | hg
  ·exact hmb
  ·exact ((h.box he).mem_lt g hg).1
 ·rcases List.mem_cons.1 hg with rfl | hg
  ·exact (h.mapNo hb).elim
  ·obtain ⟨cs',t',fr',h1,h2⟩:=(h.box he).typ g hg
   rw [hb] at h1
   injection h1 with h1
   injection h1 with _ h1
   subst h1
   unfold BxT
   rcases h2 with h2 | h2 | h2 <;> rw [h2] <;> simp [YT]
theorem RB.one (h:RB ns w base d mb n f LB G M) {e:En} (he:e ∈ LB) {b:BT} (hg:G e.key=some b):b=e.b:=by
 obtain ⟨e',he',h1,h2,_⟩:=h.got _ _ hg
 rw [q9i h.keys he' he h1] at h2
 exact h2.symm
end
structure RoundB (ns:List Nd) (d n0 mb c:Nat) (M:List PiM) (G:Nat->Option BT) (last2:Int) (wr w2:World):Prop where
 rb:∃ f n LB,RB ns w2 n0 d mb n f LB G M/\n<=c
 chg:Chg n0 BxT wr w2
 txb:TxB ns G c
 ok:OkG ns.length d G
 last:∀ q:Nat,last2=(q:Int)->∃ b,G q=some b/\b.text≠[]
def TextP (ns:List Nd) (d n0 mb:Nat) (M:List PiM) (nC:Nat) (fC:Nat->Option Nat) (G:Nat->Option BT) (ax p:Nat) (bC:BT) (q5 c:Nat) (T:List Fg) (pc:List Value) (wr wx:World):Prop :=
 ∃ (T0:List Fg) (f0:Fg) (LBD:List En) (eD:En),RB ns wx n0 d mb nC fC LBD (updF G ax (bC.told (T0 ++ [f0]))) M/\eD ∈ LBD/\eD.key=ax/\eD.p=p/\eD.b=bC.told (T0 ++ [f0])/\Blk wx q5 193 pc.toArray/\Chg n0 BxT wr wx /\
  T0.length<=c/\(∀ t ∈ T0 ++ [f0],t.text.size<=200 * c)/\T0 ++ [f0]=T
theorem Tryz.zeroBox (w:World):(zeroValue 83).run Tryz.prog w=.ok (.pointer none) w:=by kernel_rfl
theorem q1g {n:Nat} (h:n < 9000000000000000000):(Lit.int .i64 (n:Int)).wf=true:=by
 have h1:IntKind.i64.min=-9223372036854775808:=by decide
 have h2:IntKind.i64.max=9223372036854775807:=by decide
 show (decide (IntKind.i64.min<=(n:Int)) && decide ((n:Int)<=IntKind.i64.max))=true
 rw [h1,h2,decide_eq_true (by omega),decide_eq_true (by omega)]
 rfl
set_option maxRecDepth 100000 in
set_option maxHeartbeats 8000000 in
theorem qjp (g B:Nat) (ns:List Nd) (next:Int) (d n0 mb c:Nat) (M:List PiM) (y u1 d1 px py last:Int) (m5:Bx) (m4:PiM) (f5:Nat->Option Nat) (n5:Nat) (LB5:List En) (ab ao pn cp pb pz n1 c1 j:Nat) (wr:World) (Q:Exit->Act->World->Prop)
  (hpg:PgW wr g B ns next) (hBn:B<=n0) (hn0:n0<=wr.heap.size) (hmb:n0<=mb) (hd1:1<=d) (hRB:RB ns wr n0 d mb n5 f5 LB5 (getX m5) M) (hn5:n5<=c) (htx5:TxB ns (getX m5) c) (hok5:OkG ns.length d (getX m5)) (hlast:∀ q:Nat,last=(q:Int)->∃ b,getX m5 q=some b/\b.text≠[]) (hc:c < 5000000) (hns:ns.length<=1000000)
  (hmm:m4 ∈ M) (hkM:∀ z ∈ M,(∃ b0,z.x.box=some b0)↔(ndAt ns z.x.at_).kind=0) (hat:m4.x.at_ < ns.length) (htx:m4.x.text.size<=200) (hom:∀ b0,m4.x.box=some b0->okT ns.length d b0)
  (hrg:wr.rangeAt pb (pz+j * 11) (piC m4)) (hj1:j < n1) (hn1:n1<=c1) (hjp:j < pn) (hj3:j < 1000000)
  (hp0:wr.cell? ⟨ab,ao+j * 2,none⟩=some (.int .i64 px)) (hp1:wr.cell? ⟨ab,ao+j * 2+1,none⟩=some (.int .i64 py)) (hpty:∃ cs fr',wr.heap[ab]?=some (Obj.cells cs 223 fr'))
  (v1 v2 v3 v4 v5 v6 v7 v8 v9 v10 v11 v12 v13 v14 v15 v16 v17 v18 v19 v20 v21 v22 v27 v28 v29 v30 v31 v33 v34 v35 v37 v38 v39 v40 v41 v42 v43 v44 v45 v46 v47 v48 v49 v50 v51 v52 v53 v54 v55 v56 v57 v58 v59 v60 v61 v62 v63 v64 v65 v66 v67 v68 v69 v70 v71 v72 v73 v74 v75 v76 v77 v78 v79 v80 v81 v82 v83 v84 v85 v86 v87 v88 v89 v90 v91 v92 v93 v94 v95 v96 v97 v98 v99 v100 v101 v102 v103 v104 v105 v106 v107 v108 v109 v110 v111 v112 v113 v114 v115 v116 v117 v118 v119 v120 v121 v122 v123 v124 v125 v126 v127 v128 v129 v130 v131 v132 v133 v134 v135 v136 v137 v138 v139 v140 v141 v142 v143 v144 v145 v146 v147 v148 v149 v150 v151 v152 v153 v154 v155 v156 v157 v158 v159 v160 v162 v164 v165 v166 v167 v168 v169 v170 v171 v172 v173 v174 v175 v176 v177 v178 v179 v180 v181 v182 v183 v184 v185 v186 v187 v188 v189 v190 v191 v192 v193 v194 v195 v196 v197 v198 v199 v200 v201 v202 v203 v204 v205 v206 v207 v208 v209 v210 v211 v212 v213 v214 v215 v216 v217 v218 v219 v220 v221 v222 v223 v224 v225 v226 v227 v228 v229 v230 v231 v232 v233 v234 v235 v236 v237 v238 v239 v240 v241 v242 v243 v244 v245 v246 v247 v248 v249 v250 v251 v252 v253 v254 v255 v256 v257 v258 v259 v260 v261 v262 v263 v264 v265 v266 v267 v268 v269 v270 v271 v272 v273 v274 v275 v276 v277 v278 v279 v280 v281 v282 v283 v284 v285 v286 v287 v288 v289 v290 v291 v292 v293 v294 v295 v296 v297 v298 v299 v300 v301 v302 v303 v304 v305 v306 v307 v308 v309 v310 v311 v312 v313 v314 v315 v316 v317 v318 v319 v320 v321:Value)
  (hP:∀ c a (e:Option Nat) v w,Q (.panic c) (Act.put a e v) w->Q (.panic c) a w)
  (hQ:∀ (x37 x38 x39 x40 x41 x165 x166 x167 x168 x169 x170 x171 x172 x173 x174 x175 x176 x177 x178 x179 x180 x181 x182 x183 x184 x185 x186 x187 x188 x189 x190 x191 x192 x193 x194 x195 x196 x197 x198 x199 x200 x201 x202 x203 x204 x205 x206 x207 x208 x209 x210 x211 x212 x213 x214 x215 x216 x217 x218 x219 x220 x221 x222 x223 x224 x225 x226 x227 x228 x229 x230 x231 x232 x233 x234 x235 x236 x237 x238 x239 x240 x241 x242 x243 x244 x245 x246 x247 x248 x249 x250 x251 x252 x253 x254 x255 x256 x257 x258 x259 x260 x261 x262 x263 x264 x265 x266 x267 x268 x269 x270 x271 x272 x273 x274 x275 x276 x277 x278 x279 x280 x281 x282 x283 x284 x285 x286 x287 x288 x289 x290 x291 x292 x293 x294 x295:Value) (m6:Bx) (last2:Int) (w2:World),q9b ns y (w64 (u1+d1)) (m5,last) (m4.x,px,py)=(m6,last2)->RoundB ns d n0 mb (c+1) M (getX m6) last2 wr w2->Q .normal { tmps:=#[.pointer (some ⟨g,0,none⟩),v1,v2,v3,v4,v5,v6,v7,v8,v9,v10,v11,v12,v13,v14,v15,v16,v17,v18,v19,v20,v21,v22,.int .i64 u1,.int .i64 d1,.map (some mb),.int .i64 y,v27,v28,v29,v30,v31,.slice (some ⟨ab,ao,none⟩) pn cp,v33,v34,v35,.int .i64 last2,x37,x38,x39,x40,x41,v42,v43,v44,v45,v46,v47,v48,v49,v50,v51,v52,v53,v54,v55,v56,v57,v58,v59,v60,v61,v62,v63,v64,v65,v66,v67,v68,v69,v70,v71,v72,v73,v74,v75,v76,v77,v78,v79,v80,v81,v82,v83,v84,v85,v86,v87,v88,v89,v90,v91,v92,v93,v94,v95,v96,v97,v98,v99,v100,v101,v102,v103,v104,v105,v106,v107,v108,v109,v110,v111,v112,v113,v114,v115,v116,v117,v118,v119,v120,v121,v122,v123,v124,v125,v126,v127,v128,v129,v130,v131,v132,v133,v134,v135,v136,v137,v138,v139,v140,v141,v142,v143,v144,v145,v146,v147,v148,v149,v150,v151,v152,v153,v154,v155,v156,v157,v158,v159,v160,.slice (some ⟨pb,pz,none⟩) n1 c1,v162,.int .i64 j,v164,x165,x166,x167,x168,x169,x170,x171,x172,x173,x174,x175,x176,x177,x178,x179,x180,x181,x182,x183,x184,x185,x186,x187,x188,x189,x190,x191,x192,x193,x194,x195,x196,x197,x198,x199,x200,x201,x202,x203,x204,x205,x206,x207,x208,x209,x210,x211,x212,x213,x214,x215,x216,x217,x218,x219,x220,x221,x222,x223,x224,x225,x226,x227,x228,x229,x230,x231,x232,x233,x234,x235,x236,x237,x238,x239,x240,x241,x242,x243,x244,x245,x246,x247,x248,x249,x250,x251,x252,x253,x254,x255,x256,x257,x258,x259,x260,x261,x262,x263,x264,x265,x266,x267,x268,x269,x270,x271,x272,x273,x274,x275,x276,x277,x278,x279,x280,x281,x282,x283,x284,x285,x286,x287,x288,x289,x290,x291,x292,x293,x294,x295,v296,v297,v298,v299,v300,v301,v302,v303,v304,v305,v306,v307,v308,v309,v310,v311,v312,v313,v314,v315,v316,v317,v318,v319,v320,v321],defers:=[] } w2/\Q (.exit 9) { tmps:=#[.pointer (some ⟨g,0,none⟩),v1,v2,v3,v4,v5,v6,v7,v8,v9,v10,v11,v12,v13,v14,v15,v16,v17,v18,v19,v20,v21,v22,.int .i64 u1,.int .i64 d1,.map (some mb),.int .i64 y,v27,v28,v29,v30,v31,.slice (some ⟨ab,ao,none⟩) pn cp,v33,v34,v35,.int .i64 last2,x37,x38,x39,x40,x41,v42,v43,v44,v45,v46,v47,v48,v49,v50,v51,v52,v53,v54,v55,v56,v57,v58,v59,v60,v61,v62,v63,v64,v65,v66,v67,v68,v69,v70,v71,v72,v73,v74,v75,v76,v77,v78,v79,v80,v81,v82,v83,v84,v85,v86,v87,v88,v89,v90,v91,v92,v93,v94,v95,v96,v97,v98,v99,v100,v101,v102,v103,v104,v105,v106,v107,v108,v109,v110,v111,v112,v113,v114,v115,v116,v117,v118,v119,v120,v121,v122,v123,v124,v125,v126,v127,v128,v129,v130,v131,v132,v133,v134,v135,v136,v137,v138,v139,v140,v141,v142,v143,v144,v145,v146,v147,v148,v149,v150,v151,v152,v153,v154,v155,v156,v157,v158,v159,v160,.slice (some ⟨pb,pz,none⟩) n1 c1,v162,.int .i64 j,v164,x165,x166,x167,x168,x169,x170,x171,x172,x173,x174,x175,x176,x177,x178,x179,x180,x181,x182,x183,x184,x185,x186,x187,x188,x189,x190,x191,x192,x193,x194,x195,x196,x197,x198,x199,x200,x201,x202,x203,x204,x205,x206,x207,x208,x209,x210,x211,x212,x213,x214,x215,x216,x217,x218,x219,x220,x221,x222,x223,x224,x225,x226,x227,x228,x229,x230,x231,x232,x233,x234,x235,x236,x237,x238,x239,x240,x241,x242,x243,x244,x245,x246,x247,x248,x249,x250,x251,x252,x253,x254,x255,x256,x257,x258,x259,x260,x261,x262,x263,x264,x265,x266,x267,x268,x269,x270,x271,x272,x273,x274,x275,x276,x277,x278,x279,x280,x281,x282,x283,x284,x285,x286,x287,x288,x289,x290,x291,x292,x293,x294,x295,v296,v297,v298,v299,v300,v301,v302,v303,v304,v305,v306,v307,v308,v309,v310,v311,v312,v313,v314,v315,v316,v317,v318,v319,v320,v321],defers:=[] } w2) :
  (inBlock Tryz.f110 9).wp Tryz.prog Q { tmps:=#[.pointer (some ⟨g,0,none⟩),v1,v2,v3,v4,v5,v6,v7,v8,v9,v10,v11,v12,v13,v14,v15,v16,v17,v18,v19,v20,v21,v22,.int .i64 u1,.int .i64 d1,.map (some mb),.int .i64 y,v27,v28,v29,v30,v31,.slice (some ⟨ab,ao,none⟩) pn cp,v33,v34,v35,.int .i64 last,v37,v38,v39,v40,v41,v42,v43,v44,v45,v46,v47,v48,v49,v50,v51,v52,v53,v54,v55,v56,v57,v58,v59,v60,v61,v62,v63,v64,v65,v66,v67,v68,v69,v70,v71,v72,v73,v74,v75,v76,v77,v78,v79,v80,v81,v82,v83,v84,v85,v86,v87,v88,v89,v90,v91,v92,v93,v94,v95,v96,v97,v98,v99,v100,v101,v102,v103,v104,v105,v106,v107,v108,v109,v110,v111,v112,v113,v114,v115,v116,v117,v118,v119,v120,v121,v122,v123,v124,v125,v126,v127,v128,v129,v130,v131,v132,v133,v134,v135,v136,v137,v138,v139,v140,v141,v142,v143,v144,v145,v146,v147,v148,v149,v150,v151,v152,v153,v154,v155,v156,v157,v158,v159,v160,.slice (some ⟨pb,pz,none⟩) n1 c1,v162,.int .i64 j,v164,v165,v166,v167,v168,v169,v170,v171,v172,v173,v174,v175,v176,v177,v178,v179,v180,v181,v182,v183,v184,v185,v186,v187,v188,v189,v190,v191,v192,v193,v194,v195,v196,v197,v198,v199,v200,v201,v202,v203,v204,v205,v206,v207,v208,v209,v210,v211,v212,v213,v214,v215,v216,v217,v218,v219,v220,v221,v222,v223,v224,v225,v226,v227,v228,v229,v230,v231,v232,v233,v234,v235,v236,v237,v238,v239,v240,v241,v242,v243,v244,v245,v246,v247,v248,v249,v250,v251,v252,v253,v254,v255,v256,v257,v258,v259,v260,v261,v262,v263,v264,v265,v266,v267,v268,v269,v270,v271,v272,v273,v274,v275,v276,v277,v278,v279,v280,v281,v282,v283,v284,v285,v286,v287,v288,v289,v290,v291,v292,v293,v294,v295,v296,v297,v298,v299,v300,v301,v302,v303,v304,v305,v306,v307,v308,v309,v310,v311,v312,v313,v314,v315,v316,v317,v318,v319,v320,v321],defers:=[] } wr:=by
 have hab:ab < wr.heap.size:=World.block_lt_of_cell? wr _ hp0
 have hheld:=hRB.held _ hmm
 have hbare:=hRB.bare _ hmm
 have hkd:=hkM _ hmm
 have HRG:=Lib.hid hrg
 have HPG:=Lib.hid hpg
 have hzj:(j:Int) < (n1:Int):=by omega
 have hzp:(j:Int) < (pn:Int):=by omega
 clear hrg hpg
 conv in (inBlock _ _)=>whnf
 go_upto_region 40 with (first | (refine wpList_load_mid rfl 193 _ rfl pb (pz+j * 11) rfl (piC m4) _ HRG.out Tryz.underlying193 rfl q8d ?_) | (refine qxa rfl 193 _ _ rfl wr.heap.size 193 (piC ⟨⟨0,0,⟨0,0,0,0⟩,0,0,0,ByteArray.empty,none⟩,none⟩) (piC m4) rfl (Blk.new wr _ _) rfl rfl q8d (q0f _) ?_; intro w5 r5 k5 z5; simp only [Act.put]))
 have kw5:Kept [] wr w5:=((Kept.refl [] wr).alloc _).fresh k5 (by simp)
 have hRB5:=hRB.fresh_ kw5
 have hch5:Chg n0 BxT wr w5:=Chg.of_nil kw5
 have p0:w5.cell? ⟨ab,ao+j * 2,none⟩=some (.int .i64 px):=((kw5.to_below (Nat.le_refl _) (by simp)).cell (p:=⟨ab,ao+j * 2,none⟩) hab).trans hp0
 have p1:w5.cell? ⟨ab,ao+j * 2+1,none⟩=some (.int .i64 py):=((kw5.to_below (Nat.le_refl _) (by simp)).cell (p:=⟨ab,ao+j * 2+1,none⟩) hab).trans hp1
 have hab5:ab < w5.heap.size:=Nat.lt_of_lt_of_le hab kw5.size
 have hpty5:∃ cs fr',w5.heap[ab]?=some (Obj.cells cs 223 fr'):=by
  obtain ⟨cs,fr',h1⟩:=hpty
  exact ⟨cs,fr',(kw5.block ab hab (by simp)).trans h1⟩
 have hn5s:n0<=w5.heap.size:=Nat.le_trans hn0 kw5.size
 have hpg5:PgW w5 g B ns next:=HPG.out.below (kw5.to_below HPG.out.lt (by simp))
 have HPG5:=Lib.hid hpg5
 have HK5:=Lib.hid kw5
 clear k5 z5 hRB kw5 hpty hp0 hp1 hpg5
 generalize wr.heap.size=q5 at *
 obtain ⟨⟨kd,wd4,⟨sw,su,sd,sa⟩,ax,tp,lf,tx,bx⟩,pp⟩:=m4
 dsimp only at hheld hbare hkd hat htx hom
 have hq5T:q5 < w5.heap.size:=r5.lt
 cases bx with
 | some b0 =>
  obtain ⟨e,he,hek,hpp,bu,bv,hbv⟩:=hheld b0 rfl
  obtain rfl:pp=some e.p:=hpp
  have hbx:=hRB5.box he
  have hrt:=hbx.root
  obtain ⟨kv,tv,hblk,_,_,_,_⟩:=hbx.own
  have hpb2:e.p≠q5:=fun h=>by
   have h0:Blk w5 q5 YT.box (btC e.b kv tv).toArray:=h ▸ hblk
   have h1:=qvb h0 (show w5.heap[q5]?=some (Obj.cells _ 193 (0,0)) from r5)
   exact absurd h1 (by decide)
  have hpa2:e.p≠ab:=fun h=>by
   obtain ⟨cs,fr',h1⟩:=hpty5
   have h0:Blk w5 ab YT.box (btC e.b kv tv).toArray:=h ▸ hblk
   have h2:=qvb h0 h1
   exact absurd h2 (by decide)
  have f10:w5.cell? ⟨q5,10,none⟩=some (.pointer (some ⟨e.p,0,none⟩)):=r5.cell 10
  have f:=fun V:KW [e.p] w5=>r5.kept V.ok (by simpa using Ne.symm hpb2)
  have d10:∀ V:KW [e.p] w5,V.val.cell? ⟨q5,10,none⟩=some (.pointer (some ⟨e.p,0,none⟩)):=fun V=>(f V).cell 10
  have d8:∀ V:KW [e.p] w5,V.val.cell? ⟨q5,8,none⟩=some (.int .i64 lf):=fun V=>(f V).cell 8
  have d7:∀ V:KW [e.p] w5,V.val.cell? ⟨q5,7,none⟩=some (.int .i64 tp):=fun V=>(f V).cell 7
  have dp0:∀ V:KW [e.p] w5,V.val.cell? ⟨ab,ao+j * 2,none⟩=some (.int .i64 px):=fun V=>(World.cell?_of_block (a:=⟨ab,ao+j * 2,none⟩) (V.ok.block ab hab5 (by simpa using Ne.symm hpa2))).trans p0
  have dp1:∀ V:KW [e.p] w5,V.val.cell? ⟨ab,ao+j * 2+1,none⟩=some (.int .i64 py):=fun V=>(World.cell?_of_block (a:=⟨ab,ao+j * 2+1,none⟩) (V.ok.block ab hab5 (by simpa using Ne.symm hpa2))).trans p1
  go_wp2_with fail
  clear f f10
  refine qna [27] [0,1,2,3,4,5,6,7,8,9,10,11,12,13,14,15,16,17,18,19,20,21,22,23] [24,25,26,27] (fun w'=>∃ V:KW [e.p] w5,w'=V.val) (by kernel_rfl) (by kernel_rfl) (fun c a d v w h=>hP c a d v w h) ⟨⟨w5.drew,(Kept.refl _ _).drew⟩,rfl⟩ ?_
  simp only [pickD,List.map_cons,List.map_nil,List.getD_cons_zero,List.getD_cons_succ]
  repeat (go_big_quiet_step (fail))
  refine wpQuiet_nil ?_
  refine qca rfl fun K hK=>?_
  have t0:=hblk.frozen
  have t1:w5.cell? ⟨e.p,3,none⟩=some (.int .i64 e.b.x):=hblk.cell 3
  go_simp
  refine hK.out _ _ (.inr ⟨⟨_,((Kept.refl _ _).drew).setCell (p:=⟨e.p,3,none⟩) (by simp) _⟩,rfl⟩) ?_
  clear hK K
  try simp only [Act.put,zA,zB,zC]
  refine qca rfl fun K hK=>?_
  go_simp
  refine hK.out _ _ (.inr ⟨⟨_,((Kept.refl _ _).drew).setCell (p:=⟨e.p,3,none⟩) (by simp) _⟩,rfl⟩) ?_
  clear hK K
  try simp only [Act.put,zA,zB,zC]
  refine qca rfl fun K hK=>?_
  go_simp
  refine hK.out _ _ (.inr ⟨⟨_,((Kept.refl _ _).drew).setCell (p:=⟨e.p,3,none⟩) (by simp) _⟩,rfl⟩) ?_
  clear hK K
  try simp only [Act.put,zA,zB,zC]
  refine qca rfl fun K hK=>?_
  have t2:=((hblk.set_ 3 (.int .i64 (wrap64 (px+lf)))).drew).frozen
  have t3:(w5.setCell ⟨e.p,3,none⟩ (.int .i64 (wrap64 (px+lf)))).drew.cell? ⟨e.p,4,none⟩=some (.int .i64 e.b.y):=((hblk.set_ 3 (.int .i64 (wrap64 (px+lf)))).drew).cell 4
  go_simp
  refine hK.out _ _ (.inl (by decide)) ?_
  clear hK K
  refine qla ?_
  have kp:Kept [e.p] w5 ((w5.setCell ⟨e.p,3,none⟩ (.int .i64 (wrap64 (px+lf)))).setCell ⟨e.p,4,none⟩ (.int .i64 (wrap64 (wrap64 (y+py)+tp)))).drew:=(((Kept.refl _ _).setCell (p:=⟨e.p,3,none⟩) (by simp) _).setCell (p:=⟨e.p,4,none⟩) (by simp) _).drew
  have hbx2:=hbx.put (x:=wrap64 (px+lf)) (y:=wrap64 (wrap64 (y+py)+tp)) kp fun kv' tv' h=>((h.set_ 3 (.int .i64 (wrap64 (px+lf)))).set_ 4 (.int .i64 (wrap64 (wrap64 (y+py)+tp)))).drew
  have hmne:mb≠e.p:=fun h=>hRB5.nomap he (h ▸ hrt.1)
  have hmap:=hRB5.map.kept kp (by simpa using hmne)
  have r6:=r5.kept kp (by simpa using Ne.symm hpb2)
  clear d10 d8 d7 dp0 dp1 p0 p1
  generalize ((w5.setCell ⟨e.p,3,none⟩ (.int .i64 (wrap64 (px+lf)))).setCell ⟨e.p,4,none⟩ (.int .i64 (wrap64 (wrap64 (y+py)+tp)))).drew=w6 at *
  have g6:w6.cell? ⟨q5,6,none⟩=some (.int .i64 ax):=r6.cell 6
  have g10:w6.cell? ⟨q5,10,none⟩=some (.pointer (some ⟨e.p,0,none⟩)):=r6.cell 10
  have hnM:n5 < maxLen:=by
   have:(5000000:Nat) < maxLen:=by decide
   omega
  have hkey:keyOf Tryz.prog 3 (.int .i64 (ax:Int))=some (kyI ax):=keyOf_int_mk Tryz.underlying3 (q1g (by omega))
  go_wp2_with (at_mapUpdate; refine q8k rfl _ _ _ 215 rfl 83 Tryz.lawInt Tryz.underlying215 hnM rfl hmap ax e.p rfl rfl hkey ?_; intro w8 hm8 hk8; simp only [Act.put])
  have hK:Kept (mb :: e.fp) w5 w8:=(kp.more fun g hg=>by rw [List.mem_singleton.1 hg]; exact List.mem_cons_of_mem _ hrt.1).trans (hk8.more fun g hg=>by rw [List.mem_singleton.1 hg]; exact List.mem_cons_self)
  have hb8:=hbx2.kept hk8 fun g hg hm=>hRB5.nomap he (by rw [<-List.mem_singleton.1 hm]; exact hg)
  have hbe:e.b.put (wrap64 (px+lf)) (wrap64 (wrap64 (y+py)+tp))=b0.put (wrap64 (px+lf)) (wrap64 (wrap64 (y+py)+tp)):=by rw [hbv]; rfl
  rw [hbe] at hb8
  subst hek
  obtain ⟨LB',hRB8,-⟩:=hRB5.change he hK hb8 (fun g hg=>.inl hg) hm8 fun z hz b1 hb1 hk1=>by
   obtain ⟨e',he',hk2,_,u',v',h2⟩:=hRB5.held z hz b1 hb1
   rw [q9i hRB5.keys he' he (hk2.trans hk1)] at h2
   exact ⟨_,_,by rw [<-hbe,h2]; rfl⟩
  refine (hQ _ _ _ _ _ _ _ _ _ _ _ _ _ _ _ _ _ _ _ _ _ _ _ _ _ _ _ _ _ _ _ _ _ _ _ _ _ _ _ _ _ _ _ _ _ _ _ _ _ _ _ _ _ _ _ _ _ _ _ _ _ _ _ _ _ _ _ _ _ _ _ _ _ _ _ _ _ _ _ _ _ _ _ _ _ _ _ _ _ _ _ _ _ _ _ _ _ _ _ _ _ _ _ _ _ _ _ _ _ _ _ _ _ _ _ _ _ _ _ _ _ _ _ _ _ _ _ _ _ _ _ _ _ _ _ _ (putX m5 e.key (b0.put (wrap64 (px+lf)) (wrap64 (wrap64 (y+py)+tp)))) last w8 rfl ⟨⟨_,_,LB',by rw [qjc]; exact hRB8,by omega⟩,hch5.trans (hRB5.chg he hmb hK),?_,?_,?_⟩).2
  ·rw [qjc]
   intro q b hq hkq
   unfold updF at hq
   split at hq
   ·rename_i hqe
    exact absurd (hqe ▸ hkd.1 ⟨b0,rfl⟩) hkq
   ·exact (htx5.more (Nat.le_succ c)) q b hq hkq
  ·rw [qjc]
   exact hok5.upd (q3h (hom b0 rfl) _ _)
  ·intro q hq
   obtain ⟨b,hb,hbt⟩:=hlast q hq
   rw [qjc]
   unfold updF
   split
   ·rename_i hqe
    subst hqe
    have h1:=hRB5.one he hb
    refine ⟨_,rfl,?_⟩
    rw [h1,hbv] at hbt
    exact hbt
   ·exact ⟨b,hb,hbt⟩
 | none =>
  obtain rfl:pp=none:=hbare rfl
  have hk0:(ndAt ns ax).kind≠0:=fun h=>by
   obtain ⟨b0,hb0⟩:=hkd.2 h
   cases hb0
  have f10:w5.cell? ⟨q5,10,none⟩=some (.pointer none):=r5.cell 10
  have f6:w5.cell? ⟨q5,6,none⟩=some (.int .i64 ax):=r5.cell 6
  have hmap:=hRB5.map
  have hnM:n5 < maxLen:=by
   have:(5000000:Nat) < maxLen:=by decide
   omega
  have hkey:keyOf Tryz.prog 3 (.int .i64 (ax:Int))=some (kyI ax):=keyOf_int_mk Tryz.underlying3 (q1g (by omega))
  have HPO:=Lib.hid (And.intro p0 (And.intro p1 (And.intro hab5 hpty5)))
  clear p0 p1
  cases hG:getX m5 ax with
  | none =>
   have hf0:=hRB5.non ax hG
   go_upto_region 44 with (at_lookup; refine q6f rfl _ _ 215 rfl 83 Tryz.lawInt Tryz.underlying215 (Tryz.zeroBox _) rfl hmap ax rfl hkey ?_; rw [hf0]; simp only [ptrO])
   clear f10
   go_upto_region 46 with fail
   have rN:=Blk.new w5 93 (btC (.mk ax 0 0 0 0 [] []) (.slice none 0 0) (.slice none 0 0)).toArray
   have kN:Kept [] w5 (w5.alloc (.cells (btC (.mk ax 0 0 0 0 [] []) (.slice none 0 0) (.slice none 0 0)).toArray 93)):=(Kept.refl [] w5).alloc _
   have hbN:BoxAt YT (w5.alloc (.cells (btC (.mk ax 0 0 0 0 [] []) (.slice none 0 0) (.slice none 0 0)).toArray 93)) n0 d (.mk ax 0 0 0 0 [] []) w5.heap.size [w5.heap.size] :=
    BoxAt.deeper (d:=0+1) (BoxAt.mk_ (fks:=[]) (ps:=[]) (kv:=.slice none 0 0) (tv:=.slice none 0 0) rN (Shp.Owns.nil _ _) (Shp.Owns.nil _ _) (BoxesAt.nil _) (by simp [blkL,Value.ownBlock]) hn5s) hd1
   have hmapN:=hmap.kept kN (by simp)
   have f6N:(w5.alloc (.cells (btC (.mk ax 0 0 0 0 [] []) (.slice none 0 0) (.slice none 0 0)).toArray 93)).cell? ⟨q5,6,none⟩=some (.int .i64 ax):=(r5.kept kN (by simp)).cell 6
   have rqN:=r5.kept kN (by simp)
   change Code.wp _ _ _ _ (w5.alloc (.cells (btC (.mk ax 0 0 0 0 [] []) (.slice none 0 0) (.slice none 0 0)).toArray 93))
   obtain ⟨gN,hgN⟩:∃ gN,w5.heap.size=gN:=⟨_,rfl⟩
   rw [hgN] at hbN ⊢
   have HGN:=Lib.hid hgN
   clear hgN rN
   generalize w5.alloc (.cells (btC (.mk ax 0 0 0 0 [] []) (.slice none 0 0) (.slice none 0 0)).toArray 93)=w6 at *
   go_upto_region 47 with (at_mapUpdate; refine q8k rfl _ _ _ 215 rfl 83 Tryz.lawInt Tryz.underlying215 hnM rfl hmapN ax gN rfl rfl hkey ?_; intro w8 hm8 hk8; simp only [Act.put])
   have hK8:Kept [mb] w5 w8:=(kN.more (by simp)).trans hk8
   have hmbN:∀ {cs:Array Value} {t:TypeId} {fr:Nat×Nat},w6.heap[mb]?≠some (Obj.cells cs t fr):=fun h=>by
    obtain ⟨D,⟨es,clock,h2,_⟩,_⟩:=hmapN
    rw [h] at h2
    cases h2
   have rC:=rqN.kept hk8 (by
    rw [List.mem_singleton]
    rintro rfl
    exact hmbN rqN)
   have hbN8:=hbN.kept hk8 (by
    intro q hq hm
    rw [List.mem_singleton] at hq hm
    subst hq hm
    obtain ⟨kv,tv,h1,_⟩:=hbN.own
    exact hmbN h1)
   obtain ⟨LBC,hRBC,eC,heC,hkC,hpC,hbC⟩:=hRB5.new (Nat.le_of_eq HGN.out) hn5s hK8 hbN8 hm8 hG hk0
   have hfC:updF f5 ax gN ax=some eC.p:=by rw [hpC]; unfold updF; rw [if_pos rfl]
   have hchC:Chg n0 BxT wr w8:=hch5.trans (Chg.of_kept hK8 (fun q hq=>by rw [List.mem_singleton.1 hq]; exact hmb) (fun q hq cs t fr hb=>by
    rw [List.mem_singleton.1 hq] at hb
    exact (hRB5.mapNo hb).elim))
   have hch5C:Chg n0 BxT w5 w8:=Chg.of_kept hK8 (fun q hq=>by rw [List.mem_singleton.1 hq]; exact hmb) (fun q hq cs t fr hb=>by
    rw [List.mem_singleton.1 hq] at hb
    exact (hRB5.mapNo hb).elim)
   have hnC:n5+1<=c+1:=by omega
   have hbX:eC.b=(getX m5 ax).getD (.mk ax 0 0 0 0 [] []):=by rw [hG]; exact hbC
   have hbl:eC.b.text.length<=c/\∀ t ∈ eC.b.text,t.text.size<=200 * c:=by
    rw [hbC]
    exact ⟨Nat.zero_le _,fun t ht=>by cases ht⟩
   have hokC:okT ns.length d eC.b:=by
    rw [hbC]
    cases d with
    | zero=>omega
    | succ d=>exact ⟨hat,fun k hk=>by cases hk⟩
   rw [<-hbC] at hRBC
   have hchC:=hch5.trans hch5C
   subst hpC
   clear hbC hm8 hk8 hK8 hmbN hbN hbN8 hmapN rqN kN f6N f6 hmap hf0 hnM
   have HBX:=Lib.hid hbX
   clear hbX hG
   have hsC:=hch5C.size
   generalize updF f5 ax eC.p=fC at hRBC hfC
   obtain ⟨nC,hnCe⟩:∃ nC,n5+1=nC:=⟨_,rfl⟩
   rw [hnCe] at hRBC hnC
   clear hnCe
   have q0:w8.cell? ⟨ab,ao+j * 2,none⟩=some (.int .i64 px):=by
    obtain ⟨h1,h2,h3,cs,fr',h4⟩:=HPO.out
    exact (World.cell?_of_block (a:=⟨ab,ao+j * 2,none⟩) (hch5C.typ ab cs _ fr' h4 (by decide))).trans h1
   have q1:w8.cell? ⟨ab,ao+j * 2+1,none⟩=some (.int .i64 py):=by
    obtain ⟨h1,h2,h3,cs,fr',h4⟩:=HPO.out
    exact (World.cell?_of_block (a:=⟨ab,ao+j * 2+1,none⟩) (hch5C.typ ab cs _ fr' h4 (by decide))).trans h2
   have hpgC:PgW w8 g B ns next:=HPG5.out.below (hch5C.below hBn HPG5.out.lt)
   have g6:w8.cell? ⟨q5,6,none⟩=some (.int .i64 ax):=rC.cell 6
   obtain ⟨kv,tv,hblk,hown,hptv,hsub,hin,hgrow⟩:=(hRBC.box heC).retext
   have HR:=Lib.hid (And.intro hin hgrow)
   have HPC:=Lib.hid hpgC
   have HCC:=Lib.hid hchC
   have HC5:=Lib.hid hch5C
   clear hin hgrow hpgC hchC hch5C
   obtain ⟨kb,hkb⟩:∃ kb,(last != (ax:Int))=kb:=⟨_,rfl⟩
   have HKB:=Lib.hid hkb
   go_upto_if 219 with fail
   clear hkb
   go_cut [36,40] from 220 to 265 (fun lv _ wx=>lv=.int .i64 ax/\TextP ns d n0 mb M nC fC (getX m5) ax eC.p eC.b q5 c (if last=(ax:Int) then eC.b.text else eC.b.text ++ [⟨(ndAt ns ax).key,(eC.b.text.length:Int)+1,(ndAt ns ax).depth,px,w64 (y+py),0,w64 (u1+d1),ByteArray.empty⟩]) (piC ⟨⟨kd,wd4,⟨sw,su,sd,sa⟩,ax,tp,lf,tx,none⟩,none⟩) wr wx)
   case first =>
    cases kb with
    | false =>
     go_wp2_with fail
     go_meet
     have hla:last=(ax:Int):=by
      have:=HKB.out
      simpa using this
     have hne:eC.b.text≠[]:=by
      obtain ⟨b,hb,hbt⟩:=hlast ax hla
      rw [HBX.out,hb]
      exact hbt
     have htl:=List.dropLast_concat_getLast hne
     have htd:eC.b.told (eC.b.text.dropLast ++ [eC.b.text.getLast hne])=eC.b:=by rw [htl]; cases eC.b; rfl
     refine ⟨by rw [hla],eC.b.text.dropLast,eC.b.text.getLast hne,LBC,eC,by rw [htd]; exact hRBC,heC,hkC,rfl,htd.symm,rC,HCC.out,by rw [List.length_dropLast]; omega,fun t ht=>hbl.2 t (htl ▸ ht),by rw [if_pos hla,htl]⟩
    | true =>
     obtain ⟨nb,no,nc,hnd,hnc,hnb,hnr⟩:=HPC.out.pg.node hat
     have hzn:(ax:Int) < (ns.length:Int):=by omega
     have hBs:=HPC.out.lt
     have hgl:=HPC.out.pg.glt
     have a0:∀ V:KW [] w8,V.val.cell? ⟨g,0,none⟩=some (.slice (some ⟨nb,no,none⟩) ns.length nc):=fun V=>(World.cell?_of_block (a:=⟨g,0,none⟩) (V.ok.block g (by omega) (by simp))).trans hnd
     have a6:∀ V:KW [] w8,V.val.cell? ⟨q5,6,none⟩=some (.int .i64 ax):=fun V=>(rC.kept V.ok (by simp)).cell 6
     have HND:=Lib.hid (show ∀ V:KW [] w8,V.val.rangeAt nb (no+ax * 51) (ndC (ndAt ns ax)) from fun V k v hv=>(World.cell?_of_block (a:=⟨nb,no+ax * 51+k,none⟩) (V.ok.block nb (by omega) (by simp))).trans (hnr k v hv))
     clear hnr hnd
     obtain ⟨At,nt,ct,rfl⟩:=hown.slice_
     obtain rfl:nt=eC.b.text.length:=by
      obtain ⟨_,_,e,_⟩:=hown.in_
      injection e
     go_wp2_with fail
     refine qna [10] [0,1,2,3,4,5,6,7,8] [9,10] (fun w'=>∃ V:KW [] w8,w'=V.val) (by kernel_rfl) (by kernel_rfl) (fun c a d v w h=>hP c a d v w h) ⟨⟨w8.drew,(Kept.refl _ _).drew⟩,rfl⟩ ?_
     simp only [pickD,List.map_cons,List.map_nil,List.getD_cons_zero,List.getD_cons_succ]
     repeat (first | (refine q8f (by rfl) 35 _ rfl nb (no+ax * 51) (ndC (ndAt ns ax)) _ rfl (fun W hW=>by obtain ⟨V,rfl⟩:=hW; exact HND.out V) Tryz.underlying35 rfl qza ?_) | (go_big_quiet_step (fail)))
     refine wpQuiet_nil ?_
     refine qca rfl fun K hK=>?_
     go_simp
     refine hK.out _ _ (.inr ⟨⟨_,((Kept.refl _ _).drew).alloc _⟩,rfl⟩) ?_
     clear hK K
     try simp only [Act.put,zA,zB,zC]
     refine qca rfl fun K hK=>?_
     refine qoe rfl 35 _ _ rfl w8.heap.size 0 35 (ndC nd0) (ndC (ndAt ns ax)) (by rfl) (Blk.new w8.drew _ _) (by rfl) (by show (51:Nat)<=51; exact Nat.le_refl _) qza (qec _) ?_
     intro w9 r9 k9 z9
     refine hK.out _ _ (.inl (by decide)) ?_
     clear hK K
     refine qla ?_
     try simp only [Act.put,zA,zB,zC]
     have kw9:Kept [] w8 w9:=(((Kept.refl [] w8).drew).alloc _).fresh k9 (by simp)
     rw [qjd (L:=ndC nd0) (r:=ndC (ndAt ns ax)) rfl] at r9
     clear k9 z9 a0 a6
     obtain ⟨qn,hqn⟩:∃ qn,w8.heap.size=qn:=⟨_,rfl⟩
     rw [hqn] at r9 ⊢
     have hown9:(shFg YT.frag).Owns w9 n0 (.slice At eC.b.text.length ct) eC.b.text:=hown.kept kw9 (by simp)
     have hblk9:=hblk.kept kw9 (by simp)
     have rC9:=rC.kept kw9 (by simp)
     have hq5n:q5 < w8.heap.size:=rC.lt
     have hol:∀ g',(Value.slice At eC.b.text.length ct).ownBlock=some g'->g' < w8.heap.size:=fun g' hg=>(hown.lt g' hg).2
     have hqno:qn ∉ (Value.slice At eC.b.text.length ct).ownBlock.toList:=by
      simp only [Option.mem_toList]
      intro hm
      have:=hol qn hm
      omega
     have hqo:q5 ∉ (Value.slice At eC.b.text.length ct).ownBlock.toList:=by
      simp only [Option.mem_toList]
      intro hm
      have h1:=qsb hown9 hm (show w9.heap[q5]?=some (Obj.cells _ 193 (0,0)) from rC9)
      exact absurd h1 (by decide)
     have hpo9:eC.p ∉ (Value.slice At eC.b.text.length ct).ownBlock.toList:=hptv
     have hab8:∃ cs fr',w9.heap[ab]?=some (Obj.cells cs 223 fr'):=by
      obtain ⟨h1,h2,h3,cs,fr',h4⟩:=HPO.out
      have h5:=(HC5.out.typ ab cs _ fr' h4 (by decide)).trans h4
      exact ⟨cs,fr',(kw9.block ab (Array.getElem?_eq_some_iff.1 h5).1 (by simp)).trans h5⟩
     have hao:ab ∉ (Value.slice At eC.b.text.length ct).ownBlock.toList:=by
      simp only [Option.mem_toList]
      intro hm
      obtain ⟨cs,fr',h4⟩:=hab8
      have h1:=qsb hown9 hm h4
      exact absurd h1 (by decide)
     have hab9:ab < w8.heap.size:=World.block_lt_of_cell? w8 _ q0
     have b6:∀ V:KW (Value.slice At eC.b.text.length ct).ownBlock.toList w9,V.val.cell? ⟨eC.p,6,none⟩=some (.slice At eC.b.text.length ct):=fun V=>(hblk9.kept V.ok hpo9).cell 6
     have bk:∀ V:KW (Value.slice At eC.b.text.length ct).ownBlock.toList w9,V.val.cell? ⟨qn,0,none⟩=some (.int .i64 (ndAt ns ax).key):=fun V=>(r9.kept V.ok hqno).cell 0
     have bd:∀ V:KW (Value.slice At eC.b.text.length ct).ownBlock.toList w9,V.val.cell? ⟨qn,1,none⟩=some (.int .i64 (ndAt ns ax).depth):=fun V=>(r9.kept V.ok hqno).cell 1
     have b0:∀ V:KW (Value.slice At eC.b.text.length ct).ownBlock.toList w9,V.val.cell? ⟨ab,ao+j * 2,none⟩=some (.int .i64 px):=fun V=>(World.cell?_of_block (a:=⟨ab,ao+j * 2,none⟩) (V.ok.block ab (Nat.lt_of_lt_of_le hab9 kw9.size) hao)).trans ((World.cell?_of_block (a:=⟨ab,ao+j * 2,none⟩) (kw9.block ab hab9 (by simp))).trans q0)
     have b1:∀ V:KW (Value.slice At eC.b.text.length ct).ownBlock.toList w9,V.val.cell? ⟨ab,ao+j * 2+1,none⟩=some (.int .i64 py):=fun V=>(World.cell?_of_block (a:=⟨ab,ao+j * 2+1,none⟩) (V.ok.block ab (Nat.lt_of_lt_of_le hab9 kw9.size) hao)).trans ((World.cell?_of_block (a:=⟨ab,ao+j * 2+1,none⟩) (kw9.block ab hab9 (by simp))).trans q1)
     have htl:eC.b.text.length+1<=1000000000:=by omega
     have htl2:eC.b.text.length < 5000000:=by omega
     have hwr:IntKind.i64.wrap ((eC.b.text.length:Int)+1)=(eC.b.text.length:Int)+1:=by rw [IntKind.wrap_i64]; omega
     have hn9:n0<=w9.heap.size:=by have:=kw9.size; omega
     have HQN:=Lib.hid hqn
     clear hqn
     go_wp2_with fail
     refine qna [35] [0,1,2,3,4,5,6,7,8,9,10,13,14,15,16,17,18,19,20,21,22,23,24,25,26,27,28,29] [11,12,30,31,32,33,34,35] (fun w'=>∃ V:KW (Value.slice At eC.b.text.length ct).ownBlock.toList w9,w'=V.val) (by kernel_rfl) (by kernel_rfl) (fun c a d v w h=>hP c a d v w h) ⟨⟨w9.drew,(Kept.refl _ _).drew⟩,rfl⟩ ?_
     simp only [pickD,List.map_cons,List.map_nil,List.getD_cons_zero,List.getD_cons_succ]
     repeat (go_big_quiet_step (fail))
     refine wpQuiet_nil ?_
     refine qca rfl fun K hK=>?_
     go_simp
     refine hK.out _ _ (.inr ⟨⟨_,(Kept.refl _ _).drew⟩,rfl⟩) ?_
     clear hK K
     try simp only [Act.put,zA,zB,zC]
     refine qca rfl fun K hK=>?_
     go_simp
     refine hK.out _ _ (.inr ⟨⟨_,(Kept.refl _ _).drew⟩,rfl⟩) ?_
     clear hK K
     try simp only [Act.put,zA,zB,zC]
     refine qca rfl fun K hK=>?_
     go_simp
     refine hK.out _ _ (.inr ⟨⟨_,(Kept.refl _ _).drew⟩,rfl⟩) ?_
     clear hK K
     try simp only [Act.put,zA,zB,zC]
     refine qca rfl fun K hK=>?_
     go_simp
     refine hK.out _ _ (.inr ⟨⟨_,((Kept.refl _ _).drew).alloc _⟩,rfl⟩) ?_
     clear hK K
     try simp only [Act.put,zA,zB,zC]
     refine qca rfl fun K hK=>?_
     refine qpb (v:=.slice At eC.b.text.length ct) (L:=eC.b.text) (M:=[⟨(ndAt ns ax).key,(eC.b.text.length:Int)+1,(ndAt ns ax).depth,px,wrap64 (y+py),0,wrap64 (u1+d1),ByteArray.empty⟩]) (base:=n0) (u:=.slice (some ⟨w9.heap.size,0,none⟩) 1 1) q5f rfl _ _ rfl (by rfl) (hown9.alloc _) (by rfl) (Shp.In.one (shFg YT.frag) w9 ⟨(ndAt ns ax).key,(eC.b.text.length:Int)+1,(ndAt ns ax).depth,px,wrap64 (y+py),0,wrap64 (u1+d1),ByteArray.empty⟩) htl (by simp; omega) ?_
     intro v10 w10 hown10 hgrow10 hloc10
     obtain ⟨A10,n10,c10,rfl⟩:=hown10.slice_
     have K10:Kept (Value.slice At eC.b.text.length ct).ownBlock.toList w9 w10:=(((Kept.refl _ w9).alloc _).drew).grown hgrow10 fun g hg=>.inl (by rw [hg]; simp)
     refine hK.out _ _ (.inr ⟨⟨_,K10⟩,rfl⟩) ?_
     clear hK K
     try simp only [Act.put,zA,zB,zC]
     refine qca rfl fun K hK=>?_
     go_simp
     refine hK.out _ _ (.inr ⟨⟨_,K10⟩,rfl⟩) ?_
     clear hK K
     try simp only [Act.put,zA,zB,zC]
     refine qca rfl fun K hK=>?_
     go_simp
     refine hK.out _ _ (.inr ⟨⟨_,K10⟩,rfl⟩) ?_
     clear hK K
     try simp only [Act.put,zA,zB,zC]
     refine qca rfl fun K hK=>?_
     have hb10:=hblk9.kept K10 hpo9
     have t0:=hb10.frozen
     have t1:w10.cell? ⟨eC.p,6,none⟩=some (.slice At eC.b.text.length ct):=hb10.cell 6
     go_simp
     refine hK.out _ _ (.inl (by decide)) ?_
     clear hK K
     refine qla ?_
     try simp only [Act.put,zA,zB,zC]
     obtain ⟨NF,hNF⟩:∃ NF:Fg,(⟨(ndAt ns ax).key,(eC.b.text.length:Int)+1,(ndAt ns ax).depth,px,w64 (y+py),0,w64 (u1+d1),ByteArray.empty⟩:Fg)=NF:=⟨_,rfl⟩
     have hown10:(shFg YT.frag).Owns w10 n0 (.slice A10 n10 c10) (eC.b.text ++ [NF]):=by rw [<-hNF]; exact hown10
     have hb10:=hblk9.kept K10 hpo9
     have hploc:∀ g',(Value.slice A10 n10 c10).ownBlock=some g'->g' ∈ blkL (Value.slice At eC.b.text.length ct)\/w8.heap.size<=g':=fun g' hg=>by
      rcases hloc10 with e | e
      ·rw [e] at hg
       exact .inl (mem_blkL.2 hg)
      ·rw [e] at hg
       injection hg with hg
       right
       have h9:=kw9.size
       rw [<-hg]
       show w8.heap.size<=(w9.alloc _).heap.size
       rw [World.size_alloc]
       omega
     have hpl:eC.p < w8.heap.size:=((hRBC.box heC).root).2.2
     have k11:Kept [eC.p] w10 (w10.setCell ⟨eC.p,6,none⟩ (.slice A10 n10 c10)):=(Kept.refl _ _).setCell (p:=⟨eC.p,6,none⟩) (by simp) _
     have hb11:Blk (w10.setCell ⟨eC.p,6,none⟩ (.slice A10 n10 c10)) eC.p YT.box (btC (eC.b.told (eC.b.text ++ [NF])) kv (.slice A10 n10 c10)).toArray:=hb10.set_ 6 _
     have hn11:(shFg YT.frag).Owns (w10.setCell ⟨eC.p,6,none⟩ (.slice A10 n10 c10)) n0 (.slice A10 n10 c10) (eC.b.text ++ [NF]):=hown10.kept k11 fun g' hg hm=>by
      rw [List.mem_singleton.1 hm] at hg
      rcases hploc _ hg with h1 | h1
      ·exact hptv h1
      ·omega
     have hKp:Kept (eC.p :: blkL (Value.slice At eC.b.text.length ct)) w8 (w10.setCell ⟨eC.p,6,none⟩ (.slice A10 n10 c10)) :=
      ((kw9.more (by simp)).trans (K10.more fun q hq=>List.mem_cons_of_mem _ hq)).trans (k11.more fun q hq=>by rw [List.mem_singleton.1 hq]; exact List.mem_cons_self)
     have hq5p:q5≠eC.p:=fun h=>by
      have h0:Blk w9 q5 YT.box (btC eC.b kv (.slice At eC.b.text.length ct)).toArray:=h ▸ hblk9
      have h1:=qvb h0 (show w9.heap[q5]?=some (Obj.cells _ 193 (0,0)) from rC9)
      exact absurd h1 (by decide)
     have rC11:=(rC9.kept K10 hqo).kept k11 (by simpa using hq5p)
     clear b6 bk bd b0 b1 hb10 hown10 k11
     generalize w10.setCell ⟨eC.p,6,none⟩ (.slice A10 n10 c10)=w11 at *
     obtain ⟨fp',hbx,hfp⟩:=HR.out.2 w11 _ _ hKp hb11 hn11 (fun g' hg=>hploc g' (mem_blkL.1 hg))
     have hKK:Kept (mb :: eC.fp) w8 w11:=hKp.more fun q hq=>by
      rcases List.mem_cons.1 hq with rfl | hq
      ·exact List.mem_cons_of_mem _ ((hRBC.box heC).root).1
      ·exact List.mem_cons_of_mem _ (hsub q hq)
     have hfe:fC eC.key=some eC.p:=by rw [hkC]; exact hfC
     have hmbn:mb ∉ eC.p :: blkL (Value.slice At eC.b.text.length ct):=fun hq=>by
      rcases List.mem_cons.1 hq with h1 | h1
      ·exact hRBC.nomap heC (h1 ▸ ((hRBC.box heC).root).1)
      ·exact hRBC.nomap heC (hsub _ h1)
     have hmC:PtrMap Tryz.prog 3 w11 mb nC (updF fC eC.key eC.p):=by
      rw [qbd hfe]
      exact hRBC.map.kept hKp hmbn
     obtain ⟨LBF,hRBF,eF,heF,hkF,hpF,hbF,-⟩:=hRBC.change heC hKK hbx hfp hmC fun z hz b1 hb1 hk1=>by
      have h1:=(hkM z hz).1 ⟨b1,hb1⟩
      rw [hk1,hkC] at h1
      exact absurd h1 hk0
     rw [qbd hfe,hkC,qsf] at hRBF
     have HF:=Lib.hid (And.intro hRBF (And.intro heF (And.intro hkF (And.intro hpF hbF))))
     have hchF:Chg n0 BxT wr w11:=HCC.out.trans (hRBC.chg heC hmb hKK)
     have g6b:w11.cell? ⟨q5,6,none⟩=some (.int .i64 ax):=rC11.cell 6
     have HNF:=Lib.hid hNF
     clear hwr
     clear hRBF heF hkF hpF hbF hNF
     go_wp2_with fail
     go_meet
     have hla:¬ last=(ax:Int):=by
      have:=HKB.out
      simpa using this
     obtain ⟨h1,h2,h3,h4,h5⟩:=HF.out
     refine ⟨rfl,eC.b.text,NF,LBF,eF,h1,h2,h3.trans hkC,h4,h5,rC11,hchF,hbl.1,fun t ht=>?_,by rw [if_neg hla,HNF.out]⟩
     rcases List.mem_append.1 ht with ht | ht
     ·exact hbl.2 t ht
     ·rw [List.mem_singleton.1 ht,<-HNF.out]
      exact Nat.zero_le _
   case rest =>
    obtain ⟨rfl,T0,f0,LBD,eD,hRBD,heD,hkD,hpD,hbD,rD,hchD,hT0,hTs,hTT⟩:=hcut
    rw [<-hpD]
    have HPD:=Lib.hid hpD
    clear hpD
    obtain ⟨kvD,tvD,hblkD,hownD,hptD,hsubD,hinD,hgrD⟩:=(hRBD.box heD).retext
    have hroot:=(hRBD.box heD).root
    have htxD:eD.b.text=T0 ++ [f0]:=by rw [hbD]; rfl
    rw [htxD] at hownD
    obtain ⟨At,nt,ct,rfl⟩:=hownD.slice_
    obtain ⟨tb,rfl⟩:∃ tb,At=some ⟨tb,0,none⟩:=by
     rcases hownD.2 with ⟨e,h0⟩ | ⟨g9,cap9,cur9,e,_⟩
     ·rw [List.length_append] at h0
      simp at h0
     ·injection e with e1
      exact ⟨g9,e1⟩
    obtain ⟨cur,hcur,hnt,htb,-⟩:=hownD.blk
    have hlt:T0.length < (T0 ++ [f0]).length:=by simp
    have hel:(T0 ++ [f0])[T0.length]'hlt=f0:=by simp
    have hc:=fun jj (hj:jj < 8)=>hownD.cellr hlt (j:=jj) hj
    rw [hel] at hc
    have hntl:nt=T0.length+1:=by rw [hnt]; simp
    subst hntl
    have hqe:∀ V:BW wc.heap.size wc,V.val.cell? ⟨eD.p,6,none⟩=some (.slice (some ⟨tb,0,none⟩) (T0.length+1) ct):=fun V=>(hblkD.below V.ok hblkD.lt).cell 6
    have hzt:((T0.length:Int)) < ((T0.length+1:Nat):Int):=by omega
    have hT0c:T0.length < 5000000:=by omega
    clear hnt
    go_wp2_with fail
    refine qeb wc.heap.size (by kernel_rfl) (by kernel_rfl) ?_
    repeat (go_big_quiet_step (fail))
    refine wpQuiet_nil ?_
    intro w9 hw'
    obtain ⟨⟨_,hQ9⟩,rfl⟩:=hw'
    have k9:Kept [] wc w9:=Kept.of_below hQ9
    have hown9:=hownD.kept k9 (by simp)
    have hcur9:Blk w9 tb YT.frag cur:=hcur.kept k9 (by simp)
    have rD9:=rD.kept k9 (by simp)
    have hne:tb≠q5:=fun h=>by
     have h0:Blk w9 q5 YT.frag cur:=h ▸ hcur9
     have h1:=qvb h0 (show w9.heap[q5]?=some (Obj.cells _ 193 (0,0)) from rD9)
     exact absurd h1 (by decide)
    have hc9:=fun jj (hj:jj < 8)=>hown9.cellr hlt (j:=jj) hj
    rw [hel] at hc9
    have c5:w9.cell? ⟨tb,T0.length * 8+5,none⟩=some (.int .i64 f0.w):=hc9 5 (by decide)
    have d5:∀ V:KW [] w9,V.val.cell? ⟨q5,1,none⟩=some (.int .i64 wd4):=fun V=>(rD9.kept V.ok (by simp)).cell 1
    have e5:∀ V:KW [] w9,V.val.cell? ⟨tb,T0.length * 8+5,none⟩=some (.int .i64 f0.w):=fun V=>(World.cell?_of_block (a:=⟨tb,T0.length * 8+5,none⟩) (V.ok.block tb hcur9.lt (by simp))).trans c5
    clear hqe hc hc9
    go_wp2_with fail
    refine qna [10] [0,1,2,3,4,5,6,7,8,9] [10] (fun w'=>∃ V:KW [] w9,w'=V.val) (by kernel_rfl) (by kernel_rfl) (fun c a d v w h=>hP c a d v w h) ⟨⟨w9.drew,(Kept.refl _ _).drew⟩,rfl⟩ ?_
    simp only [pickD,List.map_cons,List.map_nil,List.getD_cons_zero,List.getD_cons_succ]
    repeat (go_big_quiet_step (fail))
    refine wpQuiet_nil ?_
    refine qca rfl fun K hK=>?_
    have t0:=hcur9.frozen
    have t1:=c5
    go_simp
    refine hK.out _ _ (.inl (by decide)) ?_
    clear hK K
    refine qla ?_
    have hownE:=(Shp.Owns.setc hown9 hlt (j:=5) (by decide) (x':={ f0 with w:=wrap64 (f0.w+wd4) }) (u:=.int .i64 (wrap64 (f0.w+wd4))) (by rw [hel]; rfl))
    have hsetE:(T0 ++ [f0]).set T0.length { f0 with w:=wrap64 (f0.w+wd4) }=T0 ++ [{ f0 with w:=wrap64 (f0.w+wd4) }]:=by simp
    rw [hsetE] at hownE
    have k10:Kept [tb] w9 (w9.setCell ⟨tb,T0.length * 8+5,none⟩ (.int .i64 (wrap64 (f0.w+wd4)))).drew:=((Kept.refl _ _).setCell (p:=⟨tb,T0.length * 8+5,none⟩) (by simp) _).drew
    have hownE:(shFg YT.frag).Owns (w9.setCell ⟨tb,T0.length * 8+5,none⟩ (.int .i64 (wrap64 (f0.w+wd4)))).drew n0 (.slice (some ⟨tb,0,none⟩) (T0.length+1) ct) (T0 ++ [{ f0 with w:=wrap64 (f0.w+wd4) }]):=hownE
    have rD10:=rD9.kept k10 (by simpa using Ne.symm hne)
    clear c5 d5 e5 hown9 hsetE
    generalize (w9.setCell ⟨tb,T0.length * 8+5,none⟩ (.int .i64 (wrap64 (f0.w+wd4)))).drew=w10 at *
    obtain ⟨cur2,hcur10,-,-,-⟩:=hownE.blk
    have hlt2:T0.length < (T0 ++ [{ f0 with w:=wrap64 (f0.w+wd4) }]).length:=by simp
    have hel2:(T0 ++ [{ f0 with w:=wrap64 (f0.w+wd4) }])[T0.length]'hlt2={ f0 with w:=wrap64 (f0.w+wd4) }:=by simp
    have c7:w10.cell? ⟨tb,T0.length * 8+7,none⟩=some (.string f0.text):=by
     have:=hownE.cellr hlt2 (j:=7) (by decide)
     rw [hel2] at this
     exact this
    have d7:∀ V:KW [] w10,V.val.cell? ⟨q5,9,none⟩=some (.string tx):=fun V=>(rD10.kept V.ok (by simp)).cell 9
    have e7:∀ V:KW [] w10,V.val.cell? ⟨tb,T0.length * 8+7,none⟩=some (.string f0.text):=fun V=>(World.cell?_of_block (a:=⟨tb,T0.length * 8+7,none⟩) (V.ok.block tb hcur10.lt (by simp))).trans c7
    have hz1:f0.text.size<=1000000000:=by have:=hTs f0 (by simp); omega
    have hz2:f0.text.size+tx.size<=1000000200:=by omega
    go_wp2_with fail
    refine qna [9] [0,1,2,3,4,5,6,7,8] [9] (fun w'=>∃ V:KW [] w10,w'=V.val) (by kernel_rfl) (by kernel_rfl) (fun c a d v w h=>hP c a d v w h) ⟨⟨w10.drew,(Kept.refl _ _).drew⟩,rfl⟩ ?_
    simp only [pickD,List.map_cons,List.map_nil,List.getD_cons_zero,List.getD_cons_succ]
    repeat (go_big_quiet_step (fail))
    refine wpQuiet_nil ?_
    refine qca rfl fun K hK=>?_
    have t0:=hcur10.frozen
    have t1:=c7
    go_simp
    refine hK.out _ _ (.inl (by decide)) ?_
    clear hK K
    refine qla ?_
    have hownF:=(Shp.Owns.setc hownE hlt2 (j:=7) (by decide) (x':={ f0 with w:=wrap64 (f0.w+wd4),text:=f0.text ++ tx }) (u:=.string (f0.text ++ tx)) (by rw [hel2]; rfl))
    have hsetF:(T0 ++ [{ f0 with w:=wrap64 (f0.w+wd4) }]).set T0.length { f0 with w:=wrap64 (f0.w+wd4),text:=f0.text ++ tx }=T0 ++ [{ f0 with w:=wrap64 (f0.w+wd4),text:=f0.text ++ tx }]:=by simp
    rw [hsetF] at hownF
    have k11:Kept [tb] w10 (w10.setCell ⟨tb,T0.length * 8+7,none⟩ (.string (f0.text ++ tx))).drew:=((Kept.refl _ _).setCell (p:=⟨tb,T0.length * 8+7,none⟩) (by simp) _).drew
    have hownF:(shFg YT.frag).Owns (w10.setCell ⟨tb,T0.length * 8+7,none⟩ (.string (f0.text ++ tx))).drew n0 (.slice (some ⟨tb,0,none⟩) (T0.length+1) ct) (T0 ++ [{ f0 with w:=wrap64 (f0.w+wd4),text:=f0.text ++ tx }]):=hownF
    clear c7 d7 e7 hownE hsetF
    generalize (w10.setCell ⟨tb,T0.length * 8+7,none⟩ (.string (f0.text ++ tx))).drew=w11 at *
    have hK:Kept [tb] wc w11:=((k9.more (by simp)).trans k10).trans k11
    have hbx:=hinD w11 _ hK hownF
    have htbm:tb ∈ eD.fp:=hsubD tb (by simp [blkL,Value.ownBlock])
    have hKK:Kept (mb :: eD.fp) wc w11:=hK.more fun q hq=>by rw [List.mem_singleton.1 hq]; exact List.mem_cons_of_mem _ htbm
    have hmt:mb≠tb:=fun h=>hRBD.nomap heD (h ▸ htbm)
    have hfD:fC eD.key=some eD.p:=by rw [hkD,HPD.out]; exact hfC
    have hmD:PtrMap Tryz.prog 3 w11 mb nC (updF fC eD.key eD.p):=by
     rw [qbd hfD]
     exact hRBD.map.kept hK (by simpa using hmt)
    obtain ⟨LBF,hRBF,-⟩:=hRBD.change heD hKK hbx (fun q hq=>.inl hq) hmD fun z hz b1 hb1 hk1=>by
     have h1:=(hkM z hz).1 ⟨b1,hb1⟩
     rw [hk1,hkD] at h1
     exact absurd h1 hk0
    rw [qbd hfD,hkD,qsf,hbD,q2m] at hRBF
    have hstep:q9b ns y (w64 (u1+d1)) (m5,last) (⟨kd,wd4,⟨sw,su,sd,sa⟩,ax,tp,lf,tx,none⟩,px,py)=(putX m5 ax (eC.b.told (T0 ++ [{ f0 with w:=wrap64 (f0.w+wd4),text:=f0.text ++ tx }])),(ax:Int)):=by
     have h1:q9b ns y (w64 (u1+d1)) (m5,last) (⟨kd,wd4,⟨sw,su,sd,sa⟩,ax,tp,lf,tx,none⟩,px,py)=(putX m5 ax (((getX m5 ax).getD (.mk ax 0 0 0 0 [] [])).told (qsc (if last=(ax:Int) then ((getX m5 ax).getD (.mk ax 0 0 0 0 [] [])).text else ((getX m5 ax).getD (.mk ax 0 0 0 0 [] [])).text ++ [⟨(ndAt ns ax).key,(((getX m5 ax).getD (.mk ax 0 0 0 0 [] [])).text.length:Int)+1,(ndAt ns ax).depth,px,w64 (y+py),0,w64 (u1+d1),ByteArray.empty⟩]) wd4 tx)),(ax:Int)):=rfl
     rw [h1,<-HBX.out,<-hTT,qck]
    refine (hQ _ _ _ _ _ _ _ _ _ _ _ _ _ _ _ _ _ _ _ _ _ _ _ _ _ _ _ _ _ _ _ _ _ _ _ _ _ _ _ _ _ _ _ _ _ _ _ _ _ _ _ _ _ _ _ _ _ _ _ _ _ _ _ _ _ _ _ _ _ _ _ _ _ _ _ _ _ _ _ _ _ _ _ _ _ _ _ _ _ _ _ _ _ _ _ _ _ _ _ _ _ _ _ _ _ _ _ _ _ _ _ _ _ _ _ _ _ _ _ _ _ _ _ _ _ _ _ _ _ _ _ _ _ _ _ _ _ _ w11 hstep ⟨⟨fC,nC,LBF,by rw [qjc]; exact hRBF,hnC⟩,hchD.trans (hRBD.chg heD hmb hKK),?_,?_,?_⟩).1
    ·rw [qjc]
     refine htx5.upd ?_ fun t ht=>?_
     ·show (T0 ++ [_]).length<=c+1
      rw [List.length_append]
      simpa using hT0
     ·rcases List.mem_append.1 ht with ht | ht
      ·have:=hTs t (List.mem_append_left _ ht)
       omega
      ·rw [List.mem_singleton.1 ht]
       show (f0.text ++ tx).size<=_
       have:=hTs f0 (by simp)
       rw [ByteArray.size_append]
       omega
    ·rw [qjc]
     exact hok5.upd (q6l hokC _)
    ·intro q hq
     obtain rfl:ax=q:=by omega
     rw [qjc]
     exact ⟨_,by unfold updF; rw [if_pos rfl],by show T0 ++ [_]≠[]; simp⟩
  | some bC =>
   obtain ⟨eC,heC,hkC,hbC,hfC⟩:=hRB5.got ax bC hG
   go_upto_region 44 with (at_lookup; refine q6f rfl _ _ 215 rfl 83 Tryz.lawInt Tryz.underlying215 (Tryz.zeroBox _) rfl hmap ax rfl hkey ?_; rw [hfC]; simp only [ptrO,ptrV])
   clear f10
   go_upto_region 47 with fail
   have hch5C:Chg n0 BxT w5 w5:=Chg.refl _ _ _
   have hnC:n5<=c+1:=by omega
   have hbX:eC.b=(getX m5 ax).getD (.mk ax 0 0 0 0 [] []):=by rw [hG]; exact hbC
   have hbl:eC.b.text.length<=c/\∀ t ∈ eC.b.text,t.text.size<=200 * c:=by
    rw [hbC]
    exact htx5 ax bC hG hk0
   have hokC:okT ns.length d eC.b:=by
    rw [hbC]
    exact hok5 ax bC hG
   have hRBC:RB ns w5 n0 d mb n5 f5 LB5 (updF (getX m5) ax eC.b) M:=by
    rw [qbd (by rw [hbC]; exact hG)]
    exact hRB5
   have hchC:=hch5
   have rC:=r5
   clear hbC hmap hnM f6
   have HBX:=Lib.hid hbX
   clear hbX hG
   have hsC:=hch5C.size
   have q0:w5.cell? ⟨ab,ao+j * 2,none⟩=some (.int .i64 px):=by
    obtain ⟨h1,h2,h3,cs,fr',h4⟩:=HPO.out
    exact (World.cell?_of_block (a:=⟨ab,ao+j * 2,none⟩) (hch5C.typ ab cs _ fr' h4 (by decide))).trans h1
   have q1:w5.cell? ⟨ab,ao+j * 2+1,none⟩=some (.int .i64 py):=by
    obtain ⟨h1,h2,h3,cs,fr',h4⟩:=HPO.out
    exact (World.cell?_of_block (a:=⟨ab,ao+j * 2+1,none⟩) (hch5C.typ ab cs _ fr' h4 (by decide))).trans h2
   have hpgC:PgW w5 g B ns next:=HPG5.out.below (hch5C.below hBn HPG5.out.lt)
   have g6:w5.cell? ⟨q5,6,none⟩=some (.int .i64 ax):=rC.cell 6
   obtain ⟨kv,tv,hblk,hown,hptv,hsub,hin,hgrow⟩:=(hRBC.box heC).retext
   have HR:=Lib.hid (And.intro hin hgrow)
   have HPC:=Lib.hid hpgC
   have HCC:=Lib.hid hchC
   have HC5:=Lib.hid hch5C
   clear hin hgrow hpgC hchC hch5C
   obtain ⟨kb,hkb⟩:∃ kb,(last != (ax:Int))=kb:=⟨_,rfl⟩
   have HKB:=Lib.hid hkb
   go_upto_if 219 with fail
   clear hkb
   go_cut [36,40] from 220 to 265 (fun lv _ wx=>lv=.int .i64 ax/\TextP ns d n0 mb M n5 f5 (getX m5) ax eC.p eC.b q5 c (if last=(ax:Int) then eC.b.text else eC.b.text ++ [⟨(ndAt ns ax).key,(eC.b.text.length:Int)+1,(ndAt ns ax).depth,px,w64 (y+py),0,w64 (u1+d1),ByteArray.empty⟩]) (piC ⟨⟨kd,wd4,⟨sw,su,sd,sa⟩,ax,tp,lf,tx,none⟩,none⟩) wr wx)
   case first =>
    cases kb with
    | false =>
     go_wp2_with fail
     go_meet
     have hla:last=(ax:Int):=by
      have:=HKB.out
      simpa using this
     have hne:eC.b.text≠[]:=by
      obtain ⟨b,hb,hbt⟩:=hlast ax hla
      rw [HBX.out,hb]
      exact hbt
     have htl:=List.dropLast_concat_getLast hne
     have htd:eC.b.told (eC.b.text.dropLast ++ [eC.b.text.getLast hne])=eC.b:=by rw [htl]; cases eC.b; rfl
     refine ⟨by rw [hla],eC.b.text.dropLast,eC.b.text.getLast hne,LB5,eC,by rw [htd]; exact hRBC,heC,hkC,rfl,htd.symm,rC,HCC.out,by rw [List.length_dropLast]; omega,fun t ht=>hbl.2 t (htl ▸ ht),by rw [if_pos hla,htl]⟩
    | true =>
     obtain ⟨nb,no,nc,hnd,hnc,hnb,hnr⟩:=HPC.out.pg.node hat
     have hzn:(ax:Int) < (ns.length:Int):=by omega
     have hBs:=HPC.out.lt
     have hgl:=HPC.out.pg.glt
     have a0:∀ V:KW [] w5,V.val.cell? ⟨g,0,none⟩=some (.slice (some ⟨nb,no,none⟩) ns.length nc):=fun V=>(World.cell?_of_block (a:=⟨g,0,none⟩) (V.ok.block g (by omega) (by simp))).trans hnd
     have a6:∀ V:KW [] w5,V.val.cell? ⟨q5,6,none⟩=some (.int .i64 ax):=fun V=>(rC.kept V.ok (by simp)).cell 6
     have HND:=Lib.hid (show ∀ V:KW [] w5,V.val.rangeAt nb (no+ax * 51) (ndC (ndAt ns ax)) from fun V k v hv=>(World.cell?_of_block (a:=⟨nb,no+ax * 51+k,none⟩) (V.ok.block nb (by omega) (by simp))).trans (hnr k v hv))
     clear hnr hnd
     obtain ⟨At,nt,ct,rfl⟩:=hown.slice_
     obtain rfl:nt=eC.b.text.length:=by
      obtain ⟨_,_,e,_⟩:=hown.in_
      injection e
     go_wp2_with fail
     refine qna [10] [0,1,2,3,4,5,6,7,8] [9,10] (fun w'=>∃ V:KW [] w5,w'=V.val) (by kernel_rfl) (by kernel_rfl) (fun c a d v w h=>hP c a d v w h) ⟨⟨w5.drew,(Kept.refl _ _).drew⟩,rfl⟩ ?_
     simp only [pickD,List.map_cons,List.map_nil,List.getD_cons_zero,List.getD_cons_succ]
     repeat (first | (refine q8f (by rfl) 35 _ rfl nb (no+ax * 51) (ndC (ndAt ns ax)) _ rfl (fun W hW=>by obtain ⟨V,rfl⟩:=hW; exact HND.out V) Tryz.underlying35 rfl qza ?_) | (go_big_quiet_step (fail)))
     refine wpQuiet_nil ?_
     refine qca rfl fun K hK=>?_
     go_simp
     refine hK.out _ _ (.inr ⟨⟨_,((Kept.refl _ _).drew).alloc _⟩,rfl⟩) ?_
     clear hK K
     try simp only [Act.put,zA,zB,zC]
     refine qca rfl fun K hK=>?_
     refine qoe rfl 35 _ _ rfl w5.heap.size 0 35 (ndC nd0) (ndC (ndAt ns ax)) (by rfl) (Blk.new w5.drew _ _) (by rfl) (by show (51:Nat)<=51; exact Nat.le_refl _) qza (qec _) ?_
     intro w9 r9 k9 z9
     refine hK.out _ _ (.inl (by decide)) ?_
     clear hK K
     refine qla ?_
     try simp only [Act.put,zA,zB,zC]
     have kw9:Kept [] w5 w9:=(((Kept.refl [] w5).drew).alloc _).fresh k9 (by simp)
     rw [qjd (L:=ndC nd0) (r:=ndC (ndAt ns ax)) rfl] at r9
     clear k9 z9 a0 a6
     obtain ⟨qn,hqn⟩:∃ qn,w5.heap.size=qn:=⟨_,rfl⟩
     rw [hqn] at r9 ⊢
     have hown9:(shFg YT.frag).Owns w9 n0 (.slice At eC.b.text.length ct) eC.b.text:=hown.kept kw9 (by simp)
     have hblk9:=hblk.kept kw9 (by simp)
     have rC9:=rC.kept kw9 (by simp)
     have hq5n:q5 < w5.heap.size:=rC.lt
     have hol:∀ g',(Value.slice At eC.b.text.length ct).ownBlock=some g'->g' < w5.heap.size:=fun g' hg=>(hown.lt g' hg).2
     have hqno:qn ∉ (Value.slice At eC.b.text.length ct).ownBlock.toList:=by
      simp only [Option.mem_toList]
      intro hm
      have:=hol qn hm
      omega
     have hqo:q5 ∉ (Value.slice At eC.b.text.length ct).ownBlock.toList:=by
      simp only [Option.mem_toList]
      intro hm
      have h1:=qsb hown9 hm (show w9.heap[q5]?=some (Obj.cells _ 193 (0,0)) from rC9)
      exact absurd h1 (by decide)
     have hpo9:eC.p ∉ (Value.slice At eC.b.text.length ct).ownBlock.toList:=hptv
     have hab8:∃ cs fr',w9.heap[ab]?=some (Obj.cells cs 223 fr'):=by
      obtain ⟨h1,h2,h3,cs,fr',h4⟩:=HPO.out
      have h5:=(HC5.out.typ ab cs _ fr' h4 (by decide)).trans h4
      exact ⟨cs,fr',(kw9.block ab (Array.getElem?_eq_some_iff.1 h5).1 (by simp)).trans h5⟩
     have hao:ab ∉ (Value.slice At eC.b.text.length ct).ownBlock.toList:=by
      simp only [Option.mem_toList]
      intro hm
      obtain ⟨cs,fr',h4⟩:=hab8
      have h1:=qsb hown9 hm h4
      exact absurd h1 (by decide)
     have hab9:ab < w5.heap.size:=World.block_lt_of_cell? w5 _ q0
     have b6:∀ V:KW (Value.slice At eC.b.text.length ct).ownBlock.toList w9,V.val.cell? ⟨eC.p,6,none⟩=some (.slice At eC.b.text.length ct):=fun V=>(hblk9.kept V.ok hpo9).cell 6
     have bk:∀ V:KW (Value.slice At eC.b.text.length ct).ownBlock.toList w9,V.val.cell? ⟨qn,0,none⟩=some (.int .i64 (ndAt ns ax).key):=fun V=>(r9.kept V.ok hqno).cell 0
     have bd:∀ V:KW (Value.slice At eC.b.text.length ct).ownBlock.toList w9,V.val.cell? ⟨qn,1,none⟩=some (.int .i64 (ndAt ns ax).depth):=fun V=>(r9.kept V.ok hqno).cell 1
     have b0:∀ V:KW (Value.slice At eC.b.text.length ct).ownBlock.toList w9,V.val.cell? ⟨ab,ao+j * 2,none⟩=some (.int .i64 px):=fun V=>(World.cell?_of_block (a:=⟨ab,ao+j * 2,none⟩) (V.ok.block ab (Nat.lt_of_lt_of_le hab9 kw9.size) hao)).trans ((World.cell?_of_block (a:=⟨ab,ao+j * 2,none⟩) (kw9.block ab hab9 (by simp))).trans q0)
     have b1:∀ V:KW (Value.slice At eC.b.text.length ct).ownBlock.toList w9,V.val.cell? ⟨ab,ao+j * 2+1,none⟩=some (.int .i64 py):=fun V=>(World.cell?_of_block (a:=⟨ab,ao+j * 2+1,none⟩) (V.ok.block ab (Nat.lt_of_lt_of_le hab9 kw9.size) hao)).trans ((World.cell?_of_block (a:=⟨ab,ao+j * 2+1,none⟩) (kw9.block ab hab9 (by simp))).trans q1)
     have htl:eC.b.text.length+1<=1000000000:=by omega
     have htl2:eC.b.text.length < 5000000:=by omega
     have hwr:IntKind.i64.wrap ((eC.b.text.length:Int)+1)=(eC.b.text.length:Int)+1:=by rw [IntKind.wrap_i64]; omega
     have hn9:n0<=w9.heap.size:=by have:=kw9.size; omega
     have HQN:=Lib.hid hqn
     clear hqn
     go_wp2_with fail
     refine qna [35] [0,1,2,3,4,5,6,7,8,9,10,13,14,15,16,17,18,19,20,21,22,23,24,25,26,27,28,29] [11,12,30,31,32,33,34,35] (fun w'=>∃ V:KW (Value.slice At eC.b.text.length ct).ownBlock.toList w9,w'=V.val) (by kernel_rfl) (by kernel_rfl) (fun c a d v w h=>hP c a d v w h) ⟨⟨w9.drew,(Kept.refl _ _).drew⟩,rfl⟩ ?_
     simp only [pickD,List.map_cons,List.map_nil,List.getD_cons_zero,List.getD_cons_succ]
     repeat (go_big_quiet_step (fail))
     refine wpQuiet_nil ?_
     refine qca rfl fun K hK=>?_
     go_simp
     refine hK.out _ _ (.inr ⟨⟨_,(Kept.refl _ _).drew⟩,rfl⟩) ?_
     clear hK K
     try simp only [Act.put,zA,zB,zC]
     refine qca rfl fun K hK=>?_
     go_simp
     refine hK.out _ _ (.inr ⟨⟨_,(Kept.refl _ _).drew⟩,rfl⟩) ?_
     clear hK K
     try simp only [Act.put,zA,zB,zC]
     refine qca rfl fun K hK=>?_
     go_simp
     refine hK.out _ _ (.inr ⟨⟨_,(Kept.refl _ _).drew⟩,rfl⟩) ?_
     clear hK K
     try simp only [Act.put,zA,zB,zC]
     refine qca rfl fun K hK=>?_
     go_simp
     refine hK.out _ _ (.inr ⟨⟨_,((Kept.refl _ _).drew).alloc _⟩,rfl⟩) ?_
     clear hK K
     try simp only [Act.put,zA,zB,zC]
     refine qca rfl fun K hK=>?_
     refine qpb (v:=.slice At eC.b.text.length ct) (L:=eC.b.text) (M:=[⟨(ndAt ns ax).key,(eC.b.text.length:Int)+1,(ndAt ns ax).depth,px,wrap64 (y+py),0,wrap64 (u1+d1),ByteArray.empty⟩]) (base:=n0) (u:=.slice (some ⟨w9.heap.size,0,none⟩) 1 1) q5f rfl _ _ rfl (by rfl) (hown9.alloc _) (by rfl) (Shp.In.one (shFg YT.frag) w9 ⟨(ndAt ns ax).key,(eC.b.text.length:Int)+1,(ndAt ns ax).depth,px,wrap64 (y+py),0,wrap64 (u1+d1),ByteArray.empty⟩) htl (by simp; omega) ?_
     intro v10 w10 hown10 hgrow10 hloc10
     obtain ⟨A10,n10,c10,rfl⟩:=hown10.slice_
     have K10:Kept (Value.slice At eC.b.text.length ct).ownBlock.toList w9 w10:=(((Kept.refl _ w9).alloc _).drew).grown hgrow10 fun g hg=>.inl (by rw [hg]; simp)
     refine hK.out _ _ (.inr ⟨⟨_,K10⟩,rfl⟩) ?_
     clear hK K
     try simp only [Act.put,zA,zB,zC]
     refine qca rfl fun K hK=>?_
     go_simp
     refine hK.out _ _ (.inr ⟨⟨_,K10⟩,rfl⟩) ?_
     clear hK K
     try simp only [Act.put,zA,zB,zC]
     refine qca rfl fun K hK=>?_
     go_simp
     refine hK.out _ _ (.inr ⟨⟨_,K10⟩,rfl⟩) ?_
     clear hK K
     try simp only [Act.put,zA,zB,zC]
     refine qca rfl fun K hK=>?_
     have hb10:=hblk9.kept K10 hpo9
     have t0:=hb10.frozen
     have t1:w10.cell? ⟨eC.p,6,none⟩=some (.slice At eC.b.text.length ct):=hb10.cell 6
     go_simp
     refine hK.out _ _ (.inl (by decide)) ?_
     clear hK K
     refine qla ?_
     try simp only [Act.put,zA,zB,zC]
     obtain ⟨NF,hNF⟩:∃ NF:Fg,(⟨(ndAt ns ax).key,(eC.b.text.length:Int)+1,(ndAt ns ax).depth,px,w64 (y+py),0,w64 (u1+d1),ByteArray.empty⟩:Fg)=NF:=⟨_,rfl⟩
     have hown10:(shFg YT.frag).Owns w10 n0 (.slice A10 n10 c10) (eC.b.text ++ [NF]):=by rw [<-hNF]; exact hown10
     have hb10:=hblk9.kept K10 hpo9
     have hploc:∀ g',(Value.slice A10 n10 c10).ownBlock=some g'->g' ∈ blkL (Value.slice At eC.b.text.length ct)\/w5.heap.size<=g':=fun g' hg=>by
      rcases hloc10 with e | e
      ·rw [e] at hg
       exact .inl (mem_blkL.2 hg)
      ·rw [e] at hg
       injection hg with hg
       right
       have h9:=kw9.size
       rw [<-hg]
       show w5.heap.size<=(w9.alloc _).heap.size
       rw [World.size_alloc]
       omega
     have hpl:eC.p < w5.heap.size:=((hRBC.box heC).root).2.2
     have k11:Kept [eC.p] w10 (w10.setCell ⟨eC.p,6,none⟩ (.slice A10 n10 c10)):=(Kept.refl _ _).setCell (p:=⟨eC.p,6,none⟩) (by simp) _
     have hb11:Blk (w10.setCell ⟨eC.p,6,none⟩ (.slice A10 n10 c10)) eC.p YT.box (btC (eC.b.told (eC.b.text ++ [NF])) kv (.slice A10 n10 c10)).toArray:=hb10.set_ 6 _
     have hn11:(shFg YT.frag).Owns (w10.setCell ⟨eC.p,6,none⟩ (.slice A10 n10 c10)) n0 (.slice A10 n10 c10) (eC.b.text ++ [NF]):=hown10.kept k11 fun g' hg hm=>by
      rw [List.mem_singleton.1 hm] at hg
      rcases hploc _ hg with h1 | h1
      ·exact hptv h1
      ·omega
     have hKp:Kept (eC.p :: blkL (Value.slice At eC.b.text.length ct)) w5 (w10.setCell ⟨eC.p,6,none⟩ (.slice A10 n10 c10)) :=
      ((kw9.more (by simp)).trans (K10.more fun q hq=>List.mem_cons_of_mem _ hq)).trans (k11.more fun q hq=>by rw [List.mem_singleton.1 hq]; exact List.mem_cons_self)
     have hq5p:q5≠eC.p:=fun h=>by
      have h0:Blk w9 q5 YT.box (btC eC.b kv (.slice At eC.b.text.length ct)).toArray:=h ▸ hblk9
      have h1:=qvb h0 (show w9.heap[q5]?=some (Obj.cells _ 193 (0,0)) from rC9)
      exact absurd h1 (by decide)
     have rC11:=(rC9.kept K10 hqo).kept k11 (by simpa using hq5p)
     clear b6 bk bd b0 b1 hb10 hown10 k11
     generalize w10.setCell ⟨eC.p,6,none⟩ (.slice A10 n10 c10)=w11 at *
     obtain ⟨fp',hbx,hfp⟩:=HR.out.2 w11 _ _ hKp hb11 hn11 (fun g' hg=>hploc g' (mem_blkL.1 hg))
     have hKK:Kept (mb :: eC.fp) w5 w11:=hKp.more fun q hq=>by
      rcases List.mem_cons.1 hq with rfl | hq
      ·exact List.mem_cons_of_mem _ ((hRBC.box heC).root).1
      ·exact List.mem_cons_of_mem _ (hsub q hq)
     have hfe:f5 eC.key=some eC.p:=by rw [hkC]; exact hfC
     have hmbn:mb ∉ eC.p :: blkL (Value.slice At eC.b.text.length ct):=fun hq=>by
      rcases List.mem_cons.1 hq with h1 | h1
      ·exact hRBC.nomap heC (h1 ▸ ((hRBC.box heC).root).1)
      ·exact hRBC.nomap heC (hsub _ h1)
     have hmC:PtrMap Tryz.prog 3 w11 mb n5 (updF f5 eC.key eC.p):=by
      rw [qbd hfe]
      exact hRBC.map.kept hKp hmbn
     obtain ⟨LBF,hRBF,eF,heF,hkF,hpF,hbF,-⟩:=hRBC.change heC hKK hbx hfp hmC fun z hz b1 hb1 hk1=>by
      have h1:=(hkM z hz).1 ⟨b1,hb1⟩
      rw [hk1,hkC] at h1
      exact absurd h1 hk0
     rw [qbd hfe,hkC,qsf] at hRBF
     have HF:=Lib.hid (And.intro hRBF (And.intro heF (And.intro hkF (And.intro hpF hbF))))
     have hchF:Chg n0 BxT wr w11:=HCC.out.trans (hRBC.chg heC hmb hKK)
     have g6b:w11.cell? ⟨q5,6,none⟩=some (.int .i64 ax):=rC11.cell 6
     have HNF:=Lib.hid hNF
     clear hwr
     clear hRBF heF hkF hpF hbF hNF
     go_wp2_with fail
     go_meet
     have hla:¬ last=(ax:Int):=by
      have:=HKB.out
      simpa using this
     obtain ⟨h1,h2,h3,h4,h5⟩:=HF.out
     refine ⟨rfl,eC.b.text,NF,LBF,eF,h1,h2,h3.trans hkC,h4,h5,rC11,hchF,hbl.1,fun t ht=>?_,by rw [if_neg hla,HNF.out]⟩
     rcases List.mem_append.1 ht with ht | ht
     ·exact hbl.2 t ht
     ·rw [List.mem_singleton.1 ht,<-HNF.out]
      exact Nat.zero_le _
   case rest =>
    obtain ⟨rfl,T0,f0,LBD,eD,hRBD,heD,hkD,hpD,hbD,rD,hchD,hT0,hTs,hTT⟩:=hcut
    rw [<-hpD]
    have HPD:=Lib.hid hpD
    clear hpD
    obtain ⟨kvD,tvD,hblkD,hownD,hptD,hsubD,hinD,hgrD⟩:=(hRBD.box heD).retext
    have hroot:=(hRBD.box heD).root
    have htxD:eD.b.text=T0 ++ [f0]:=by rw [hbD]; rfl
    rw [htxD] at hownD
    obtain ⟨At,nt,ct,rfl⟩:=hownD.slice_
    obtain ⟨tb,rfl⟩:∃ tb,At=some ⟨tb,0,none⟩:=by
     rcases hownD.2 with ⟨e,h0⟩ | ⟨g9,cap9,cur9,e,_⟩
     ·rw [List.length_append] at h0
      simp at h0
     ·injection e with e1
      exact ⟨g9,e1⟩
    obtain ⟨cur,hcur,hnt,htb,-⟩:=hownD.blk
    have hlt:T0.length < (T0 ++ [f0]).length:=by simp
    have hel:(T0 ++ [f0])[T0.length]'hlt=f0:=by simp
    have hc:=fun jj (hj:jj < 8)=>hownD.cellr hlt (j:=jj) hj
    rw [hel] at hc
    have hntl:nt=T0.length+1:=by rw [hnt]; simp
    subst hntl
    have hqe:∀ V:BW wc.heap.size wc,V.val.cell? ⟨eD.p,6,none⟩=some (.slice (some ⟨tb,0,none⟩) (T0.length+1) ct):=fun V=>(hblkD.below V.ok hblkD.lt).cell 6
    have hzt:((T0.length:Int)) < ((T0.length+1:Nat):Int):=by omega
    have hT0c:T0.length < 5000000:=by omega
    clear hnt
    go_wp2_with fail
    refine qeb wc.heap.size (by kernel_rfl) (by kernel_rfl) ?_
    repeat (go_big_quiet_step (fail))
    refine wpQuiet_nil ?_
    intro w9 hw'
    obtain ⟨⟨_,hQ9⟩,rfl⟩:=hw'
    have k9:Kept [] wc w9:=Kept.of_below hQ9
    have hown9:=hownD.kept k9 (by simp)
    have hcur9:Blk w9 tb YT.frag cur:=hcur.kept k9 (by simp)
    have rD9:=rD.kept k9 (by simp)
    have hne:tb≠q5:=fun h=>by
     have h0:Blk w9 q5 YT.frag cur:=h ▸ hcur9
     have h1:=qvb h0 (show w9.heap[q5]?=some (Obj.cells _ 193 (0,0)) from rD9)
     exact absurd h1 (by decide)
    have hc9:=fun jj (hj:jj < 8)=>hown9.cellr hlt (j:=jj) hj
    rw [hel] at hc9
    have c5:w9.cell? ⟨tb,T0.length * 8+5,none⟩=some (.int .i64 f0.w):=hc9 5 (by decide)
    have d5:∀ V:KW [] w9,V.val.cell? ⟨q5,1,none⟩=some (.int .i64 wd4):=fun V=>(rD9.kept V.ok (by simp)).cell 1
    have e5:∀ V:KW [] w9,V.val.cell? ⟨tb,T0.length * 8+5,none⟩=some (.int .i64 f0.w):=fun V=>(World.cell?_of_block (a:=⟨tb,T0.length * 8+5,none⟩) (V.ok.block tb hcur9.lt (by simp))).trans c5
    clear hqe hc hc9
    go_wp2_with fail
    refine qna [10] [0,1,2,3,4,5,6,7,8,9] [10] (fun w'=>∃ V:KW [] w9,w'=V.val) (by kernel_rfl) (by kernel_rfl) (fun c a d v w h=>hP c a d v w h) ⟨⟨w9.drew,(Kept.refl _ _).drew⟩,rfl⟩ ?_
    simp only [pickD,List.map_cons,List.map_nil,List.getD_cons_zero,List.getD_cons_succ]
    repeat (go_big_quiet_step (fail))
    refine wpQuiet_nil ?_
    refine qca rfl fun K hK=>?_
    have t0:=hcur9.frozen
    have t1:=c5
    go_simp
    refine hK.out _ _ (.inl (by decide)) ?_
    clear hK K
    refine qla ?_
    have hownE:=(Shp.Owns.setc hown9 hlt (j:=5) (by decide) (x':={ f0 with w:=wrap64 (f0.w+wd4) }) (u:=.int .i64 (wrap64 (f0.w+wd4))) (by rw [hel]; rfl))
    have hsetE:(T0 ++ [f0]).set T0.length { f0 with w:=wrap64 (f0.w+wd4) }=T0 ++ [{ f0 with w:=wrap64 (f0.w+wd4) }]:=by simp
    rw [hsetE] at hownE
    have k10:Kept [tb] w9 (w9.setCell ⟨tb,T0.length * 8+5,none⟩ (.int .i64 (wrap64 (f0.w+wd4)))).drew:=((Kept.refl _ _).setCell (p:=⟨tb,T0.length * 8+5,none⟩) (by simp) _).drew
    have hownE:(shFg YT.frag).Owns (w9.setCell ⟨tb,T0.length * 8+5,none⟩ (.int .i64 (wrap64 (f0.w+wd4)))).drew n0 (.slice (some ⟨tb,0,none⟩) (T0.length+1) ct) (T0 ++ [{ f0 with w:=wrap64 (f0.w+wd4) }]):=hownE
    have rD10:=rD9.kept k10 (by simpa using Ne.symm hne)
    clear c5 d5 e5 hown9 hsetE
    generalize (w9.setCell ⟨tb,T0.length * 8+5,none⟩ (.int .i64 (wrap64 (f0.w+wd4)))).drew=w10 at *
    obtain ⟨cur2,hcur10,-,-,-⟩:=hownE.blk
    have hlt2:T0.length < (T0 ++ [{ f0 with w:=wrap64 (f0.w+wd4) }]).length:=by simp
    have hel2:(T0 ++ [{ f0 with w:=wrap64 (f0.w+wd4) }])[T0.length]'hlt2={ f0 with w:=wrap64 (f0.w+wd4) }:=by simp
    have c7:w10.cell? ⟨tb,T0.length * 8+7,none⟩=some (.string f0.text):=by
     have:=hownE.cellr hlt2 (j:=7) (by decide)
     rw [hel2] at this
     exact this
    have d7:∀ V:KW [] w10,V.val.cell? ⟨q5,9,none⟩=some (.string tx):=fun V=>(rD10.kept V.ok (by simp)).cell 9
    have e7:∀ V:KW [] w10,V.val.cell? ⟨tb,T0.length * 8+7,none⟩=some (.string f0.text):=fun V=>(World.cell?_of_block (a:=⟨tb,T0.length * 8+7,none⟩) (V.ok.block tb hcur10.lt (by simp))).trans c7
    have hz1:f0.text.size<=1000000000:=by have:=hTs f0 (by simp); omega
    have hz2:f0.text.size+tx.size<=1000000200:=by omega
    go_wp2_with fail
    refine qna [9] [0,1,2,3,4,5,6,7,8] [9] (fun w'=>∃ V:KW [] w10,w'=V.val) (by kernel_rfl) (by kernel_rfl) (fun c a d v w h=>hP c a d v w h) ⟨⟨w10.drew,(Kept.refl _ _).drew⟩,rfl⟩ ?_
    simp only [pickD,List.map_cons,List.map_nil,List.getD_cons_zero,List.getD_cons_succ]
    repeat (go_big_quiet_step (fail))
    refine wpQuiet_nil ?_
    refine qca rfl fun K hK=>?_
    have t0:=hcur10.frozen
    have t1:=c7
    go_simp
    refine hK.out _ _ (.inl (by decide)) ?_
    clear hK K
    refine qla ?_
    have hownF:=(Shp.Owns.setc hownE hlt2 (j:=7) (by decide) (x':={ f0 with w:=wrap64 (f0.w+wd4),text:=f0.text ++ tx }) (u:=.string (f0.text ++ tx)) (by rw [hel2]; rfl))
    have hsetF:(T0 ++ [{ f0 with w:=wrap64 (f0.w+wd4) }]).set T0.length { f0 with w:=wrap64 (f0.w+wd4),text:=f0.text ++ tx }=T0 ++ [{ f0 with w:=wrap64 (f0.w+wd4),text:=f0.text ++ tx }]:=by simp
    rw [hsetF] at hownF
    have k11:Kept [tb] w10 (w10.setCell ⟨tb,T0.length * 8+7,none⟩ (.string (f0.text ++ tx))).drew:=((Kept.refl _ _).setCell (p:=⟨tb,T0.length * 8+7,none⟩) (by simp) _).drew
    have hownF:(shFg YT.frag).Owns (w10.setCell ⟨tb,T0.length * 8+7,none⟩ (.string (f0.text ++ tx))).drew n0 (.slice (some ⟨tb,0,none⟩) (T0.length+1) ct) (T0 ++ [{ f0 with w:=wrap64 (f0.w+wd4),text:=f0.text ++ tx }]):=hownF
    clear c7 d7 e7 hownE hsetF
    generalize (w10.setCell ⟨tb,T0.length * 8+7,none⟩ (.string (f0.text ++ tx))).drew=w11 at *
    have hK:Kept [tb] wc w11:=((k9.more (by simp)).trans k10).trans k11
    have hbx:=hinD w11 _ hK hownF
    have htbm:tb ∈ eD.fp:=hsubD tb (by simp [blkL,Value.ownBlock])
    have hKK:Kept (mb :: eD.fp) wc w11:=hK.more fun q hq=>by rw [List.mem_singleton.1 hq]; exact List.mem_cons_of_mem _ htbm
    have hmt:mb≠tb:=fun h=>hRBD.nomap heD (h ▸ htbm)
    have hfD:f5 eD.key=some eD.p:=by rw [hkD,HPD.out]; exact hfC
    have hmD:PtrMap Tryz.prog 3 w11 mb n5 (updF f5 eD.key eD.p):=by
     rw [qbd hfD]
     exact hRBD.map.kept hK (by simpa using hmt)
    obtain ⟨LBF,hRBF,-⟩:=hRBD.change heD hKK hbx (fun q hq=>.inl hq) hmD fun z hz b1 hb1 hk1=>by
     have h1:=(hkM z hz).1 ⟨b1,hb1⟩
     rw [hk1,hkD] at h1
     exact absurd h1 hk0
    rw [qbd hfD,hkD,qsf,hbD,q2m] at hRBF
    have hstep:q9b ns y (w64 (u1+d1)) (m5,last) (⟨kd,wd4,⟨sw,su,sd,sa⟩,ax,tp,lf,tx,none⟩,px,py)=(putX m5 ax (eC.b.told (T0 ++ [{ f0 with w:=wrap64 (f0.w+wd4),text:=f0.text ++ tx }])),(ax:Int)):=by
     have h1:q9b ns y (w64 (u1+d1)) (m5,last) (⟨kd,wd4,⟨sw,su,sd,sa⟩,ax,tp,lf,tx,none⟩,px,py)=(putX m5 ax (((getX m5 ax).getD (.mk ax 0 0 0 0 [] [])).told (qsc (if last=(ax:Int) then ((getX m5 ax).getD (.mk ax 0 0 0 0 [] [])).text else ((getX m5 ax).getD (.mk ax 0 0 0 0 [] [])).text ++ [⟨(ndAt ns ax).key,(((getX m5 ax).getD (.mk ax 0 0 0 0 [] [])).text.length:Int)+1,(ndAt ns ax).depth,px,w64 (y+py),0,w64 (u1+d1),ByteArray.empty⟩]) wd4 tx)),(ax:Int)):=rfl
     rw [h1,<-HBX.out,<-hTT,qck]
    refine (hQ _ _ _ _ _ _ _ _ _ _ _ _ _ _ _ _ _ _ _ _ _ _ _ _ _ _ _ _ _ _ _ _ _ _ _ _ _ _ _ _ _ _ _ _ _ _ _ _ _ _ _ _ _ _ _ _ _ _ _ _ _ _ _ _ _ _ _ _ _ _ _ _ _ _ _ _ _ _ _ _ _ _ _ _ _ _ _ _ _ _ _ _ _ _ _ _ _ _ _ _ _ _ _ _ _ _ _ _ _ _ _ _ _ _ _ _ _ _ _ _ _ _ _ _ _ _ _ _ _ _ _ _ _ _ _ _ _ _ w11 hstep ⟨⟨f5,n5,LBF,by rw [qjc]; exact hRBF,hnC⟩,hchD.trans (hRBD.chg heD hmb hKK),?_,?_,?_⟩).1
    ·rw [qjc]
     refine htx5.upd ?_ fun t ht=>?_
     ·show (T0 ++ [_]).length<=c+1
      rw [List.length_append]
      simpa using hT0
     ·rcases List.mem_append.1 ht with ht | ht
      ·have:=hTs t (List.mem_append_left _ ht)
       omega
      ·rw [List.mem_singleton.1 ht]
       show (f0.text ++ tx).size<=_
       have:=hTs f0 (by simp)
       rw [ByteArray.size_append]
       omega
    ·rw [qjc]
     exact hok5.upd (q6l hokC _)
    ·intro q hq
     obtain rfl:ax=q:=by omega
     rw [qjc]
     exact ⟨_,by unfold updF; rw [if_pos rfl],by show T0 ++ [_]≠[]; simp⟩
end Go.Proofs.YtlnekijhbnlclaaGreatDoor
