/-
  Walks: package tree: May.
-/
import Derived.Test.YtlnekijhbnlclaaGreatDoorFits
import Derived.Maps.OwnOps
import Derived.Maps.OwnSet
namespace Go.Proofs.YtlnekijhbnlclaaGreatDoor
open Go.RowKit Go.Shelf Go.Maps
set_option linter.unusedSimpArgs false
set_option linter.unusedVariables false
theorem Tryz.lawInt:Keyed Tryz.prog 3:=int_keyed Tryz.underlying3
theorem Tryz.zeroInt (w:World):(zeroValue 3).run Tryz.prog w=.ok (.int .i64 0) w:=by kernel_rfl
theorem q2d {H:Type} {P:Program} (w:World) {ops:Array Oper} {rest:List Oper} {o:Oper} {a:Act} {Q:Exit->Act->World->Prop}
  (hw:Region.wanted o (yielded ops a.tmps)=true) (m x:Operand) (t:TypeId) (hop:o.op=Op.lookup t m x false)
  (k e:TypeId) (q:IntKind) (K:Keyed P k) (ht:P.underlying t=some (.map k e)) (he:P.underlying e=some (.int q)) (hz:(zeroValue e).run P w=.ok (.int q 0) w) (b n:Nat) (D:DataW H)
  (hm:a.eval m=.map (some b)) (hown:w.ownsMap P k (plainElem P e) b n D) (key:Value) (kl:Lit) (hx:a.eval x=key) (hkey:keyOf P k key=some kl)
  (hK:∀ c:Int,D.atKey kl (.lit (.int q 0))=.lit (.int q c)->(Lit.int q c).wf=true->wpList P ops Q rest (a.put o.dst (.int q c)) w) :
  wpList P ops Q (o :: rest) a w:=by
 refine qei hw fun K' hK'=>?_
 obtain ⟨c,hrun,hat,hwc⟩:=hown.lookup_int K ht he hz hkey
 unfold Oper.wp
 simp [execOp,hop,hm,hx,hrun,Result.andThen]
 exact hK' _ _ (hK c hat hwc)
theorem Kept.grownN {w w':World} (h:Kept [] w w'):w.grownBy w' none:=⟨h.os,h.tape,h.output,h.size,fun i hi _=>h.block i hi (by simp)⟩
theorem Kept.of_grown {w w':World} {b:Nat} (h:w.grownBy w' (some b)):Kept [b] w w':=⟨h.os,h.tape,h.output,h.size,fun i hi hn=>h.block i hi (fun e=>hn (by simp at e; simp [e]))⟩
theorem qee {P:Program} {ops:Array Oper} {rest:List Oper} {op:Oper} {a:Act} {w:World} {Q:Exit->Act->World->Prop} (hgd:op.guard=none) (t:TypeId) (ps:Array (Nat×Operand)) (ho:op.op=.build t ps) (v:Value)
  (hr:(Instr.build t (ps.map fun (i,x)=>(i,a.eval x))).run P w=.ok v w) (h:wpList P ops Q rest (a.put op.dst v) w):wpList P ops Q (op :: rest) a w :=
 wpList_plain hgd fun _ hK=>by
  unfold Oper.wp execOp
  simp only [ho]
  have:(do let x <-Instr.build t (ps.map fun (i,x)=>(i,a.eval x)); pure (Next.value x):Sem Next).run P w=.ok (.value v) w:=by
   simp [hr,Result.andThen]
  rw [this]
  exact hK _ _ h
theorem qxa {P:Program} {ops:Array Oper} {rest:List Oper} {op:Oper} {a:Act} {w:World} {Q:Exit->Act->World->Prop} (hgd:op.guard=none) (ty:TypeId) (x y:Operand) (ho:op.op=.store ty x y) (g:Nat) (t:TypeId) (L cs:List Value) (hx:a.eval x=.pointer (some ⟨g,0,none⟩)) (hg:Blk w g t L.toArray)
  (hy:a.eval y=.agg cs.toArray) (hl:L.length=cs.length) (hi:(P.info? ty).map (·.size)=some cs.length) (h1:∀ v ∈ cs,v.oneCell'=true)
  (h:∀ w',Blk w' g t cs.toArray->Kept [g] w w'->w'.heap.size=w.heap.size->wpList P ops Q rest (a.put op.dst undef) w'):wpList P ops Q (op :: rest) a w :=
 qmd hgd ty x y ho g 0 t L cs hx hg hy (by omega) hi h1 fun w' h2 h3 h4=>h w' (by rw [qjd hl] at h2; exact h2) h3 h4
theorem Kept.grown1 {w w':World} {b:Nat} (h:Kept [b] w w'):w.grownBy w' (some b):=⟨h.os,h.tape,h.output,h.size,fun i hi hn=>h.block i hi (fun e=>hn (by rw [List.mem_singleton.1 e]))⟩
theorem qbk {n:Nd} {next:Int} (h:fitsN n next=true):0<=n.depth/\n.depth < 16/\n.text.size<=200:=by
 unfold fitsN at h
 split at h
 ·cases h
 ·split at h
  ·have:=of_decide_eq_true h
   omega
  ·simp only [Bool.and_eq_true,decide_eq_true_eq] at h
   omega
def ndm1:Nd:=⟨0,-1,0,st0,ByteArray.empty⟩
abbrev DU:=DataW Unit
def kyI (y:Int):Lit:=.int .i64 y
def cntD (D:DU) (met:List Int):Prop:=IsMap D/\∀ y,(Lit.int .i64 y).wf=true->D.atKey (kyI y) (.lit (.int .i64 0))=.lit (.int .i64 (if y ∈ met then 1 else 0))
theorem qci {D:DU} {met:List Int} {y c:Int} (h:cntD D met) (hy:(Lit.int .i64 y).wf=true) (hn:y ∉ met) (hc:D.atKey (kyI y) (.lit (.int .i64 0))=.lit (.int .i64 c)):cntD (D.put (kyI y) (.lit (.int .i64 (c+1)))) (y :: met)/\c=0:=by
 have h1:=h.2 y hy
 rw [if_neg hn,hc] at h1
 have hc0:c=0:=by injection h1 with h1; injection h1 with _ h1
 refine ⟨⟨h.1.put _ _,fun z hz=>?_⟩,hc0⟩
 by_cases e:z=y
 ·subst e
  rw [atKey_put_same h.1 (by trivial),hc0,if_pos List.mem_cons_self]
  rfl
 ·rw [atKey_put_other (fun h=>e (by injection h)),h.2 z hz]
  simp [e]
theorem qhf (next:Int) (n:Nd) (r:List Nd) (met:List Int) (d:Int) (kd:Nat):qdb next (n :: r) met d kd =
  (fitsN n next && !met.contains n.key && !decide (d+1 < n.depth) && !(decide (d < n.depth) && decide (kd=1)) && (decide (n.depth=0) == decide (d < 0)) && qdb next r (n.key :: met) n.depth n.kind):=rfl
def MyR (ns:List Nd) (dv:Value) (next:Int) (w:World) (bytes i:Value) (wr:World):Prop :=
 ∃ (k:Nat) (D:DU) (met:List Int) (x:Nd),k<=ns.length/\i=.int .i64 k/\bytes=.int .i64 (qzb (ns.take k):Nat)/\qzb (ns.take k)<=200 * k/\Below w.heap.size w wr/\Blk wr w.heap.size 24 #[dv,.int .i64 next] /\
  wr.ownsMap Tryz.prog 3 (plainElem Tryz.prog 3) (w.heap.size+1) k D/\cntD D met/\Blk wr (w.heap.size+2) 35 (ndC x).toArray/\-1<=x.depth/\x.depth < 16 /\
  qdb next ns [] (-1) 0=qdb next (ns.drop k) met x.depth x.kind/\w.heap.size+3<=wr.heap.size
theorem qut (w:World) (L:Array Value):∃ W,W=((w.alloc (.cells L 24)).alloc (.map #[] 0))/\Blk W w.heap.size 24 L/\Below w.heap.size w W/\W.ownsMap Tryz.prog 3 (plainElem (H:=Unit) Tryz.prog 3) (w.heap.size+1) 0 (.map [])/\W.heap.size=w.heap.size+2:=by
 have hm0:=World.ownsMap_made (H:=Unit) (w.alloc (.cells L 24)) Tryz.prog 3 (plainElem Tryz.prog 3)
 rw [World.size_alloc] at hm0
 exact ⟨_,rfl,(Blk.new w _ _).below ((Below.refl _ _).alloc (Nat.le_refl _) _) (by rw [World.size_alloc]; omega),((Below.refl _ _).alloc (Nat.le_refl _) _).alloc (by rw [World.size_alloc]; omega) _,hm0,by rw [World.size_alloc,World.size_alloc]⟩
set_option maxRecDepth 100000 in
set_option maxHeartbeats 8000000 in
theorem qlq (ns:List Nd) (dv:Value) (next:Int) (B:Nat) (w:World) (h:DocIn w B dv ns) (hB:B<=w.heap.size) (hw:∀ n ∈ ns,(ndC n).all wfC=true) (ht9:∀ n ∈ ns,n.text.size<=140737488355328) :
  Calls Tryz.prog 44 #[docA dv next] w fun e w'=>e=.returned (.bool (q9a ns next))/\Below w.heap.size w w':=by
 have hI:=h
 obtain ⟨A,c,hv,hc,hr⟩:=h
 subst hv
 have HI:=Lib.hid hI
 clear hr hI
 unfold docA
 by_cases ha:ns.length < 1\/300 < ns.length\/1073741825 < next
 ·have HR:=Lib.hid (show q9a ns next=false by unfold q9a; rcases ha with h | h | h <;> simp <;> omega)
  have h3:ns.length < 1\/(¬ ns.length < 1/\300 < ns.length)\/(¬ ns.length < 1/\¬ 300 < ns.length/\1073741825 < next):=by omega
  clear ha
  rcases h3 with g1 | ⟨g1,g2⟩ | ⟨g1,g2,g3⟩
  all_goals
   go_enter Tryz.func44,Tryz.ntmps44
   go_wp2_with fail
   go_ret
   exact ⟨by rw [HR.out]; rfl,(Below.refl _ _).alloc (Nat.le_refl _) _⟩
 ·have n1:¬ ns.length < 1:=fun h=>ha (.inl h)
  have n2:¬ 300 < ns.length:=fun h=>ha (.inr (.inl h))
  have n3:¬ 1073741825 < next:=fun h=>ha (.inr (.inr h))
  have HS:=Lib.hid (show q9a ns next=(qdb next ns [] (-1) 0 && decide ((ndAt ns 0).kind=0) && decide (qzb ns<=1500)) by
   unfold q9a
   rw [decide_eq_true (show 1<=ns.length by omega),decide_eq_true (show ns.length<=300 by omega),decide_eq_true (show next<=1073741825 by omega)]
   simp)
  clear ha
  have hmm:=@run_makeMap Tryz.prog
  go_enter Tryz.func44,Tryz.ntmps44
  go_upto_region 4 with fail
  obtain ⟨w1,hw1,g0,hb0,hm0,hz0⟩:=qut w #[.slice A ns.length c,.int .i64 next]
  change Code.wp _ _ _ _ ((w.alloc (.cells #[.slice A ns.length c,.int .i64 next] 24)).alloc (.map #[] 0))
  rw [<-hw1]
  have HZ:=Lib.hid hz0
  clear hw1 hz0
  go_upto_region 5 with (first | (refine qee rfl 35 _ rfl (.agg (ndC ndm1).toArray) (by kernel_rfl) ?_) | (refine qxa rfl 35 _ _ rfl w1.heap.size 35 (ndC nd0) (ndC ndm1) rfl (Blk.new w1 _ _) rfl rfl qza (qec _) ?_; intro w2 r2 r3 r4))
  have k2:Kept [] w1 w2:=((Kept.refl [] w1).alloc _).fresh r3 (by simp)
  have z2:w2.heap.size=w.heap.size+3:=by rw [r4,World.size_alloc,HZ.out]
  clear r3 r4
  rw [HZ.out] at r2 ⊢
  have hb2:Below w.heap.size w w2:=hb0.trans (k2.to_below (by rw [HZ.out]; omega) (by simp))
  have gd2:=g0.kept k2 (by simp)
  have hm2:=hm0.kept k2.grownN (by simp)
  have HZ2:=Lib.hid z2
  clear z2 hm0 g0 hb0 k2
  have c0:w2.cell? ⟨w.heap.size,0,none⟩=some (.slice A ns.length c):=gd2.cell 0
  go_wp2_with fail
  clear c0
  go_loopw [5,28] (MyR ns (.slice A ns.length c) next w) (fun _ i _=>ns.length - (intOf i).toNat)
  case atStart=>exact ⟨0,_,[],ndm1,Nat.zero_le _,rfl,rfl,Nat.zero_le _,hb2,gd2,hm2,⟨⟨_,rfl⟩,fun y hy=>rfl⟩,r2,by decide,by decide,rfl,by rw [HZ2.out]; omega⟩
  case round =>
   obtain ⟨k,D,met,x,hk,rfl,rfl,hby,hbr,gd,hm,hcnt,gl,hx0,hx1,hsh,hsz⟩:=hrel
   have HH:=Lib.hid (And.intro hsh (And.intro hcnt (And.intro hby (And.intro hx0 (And.intro hx1 (And.intro hsz hb2))))))
   clear hsh hcnt hby hx0 hx1 hsz hb2 gd2 hm2 r2
   by_cases hlt:k < ns.length
   ·obtain ⟨b,o,rfl,hb,hcell⟩:=Shp.In.at_ (S:=shNd) HI.out (by decide) (by omega)
    have hrg:wr.rangeAt b (o+k * 51) (ndC (ns[k])):=fun j v hv=>by
     have hj:j < 51:=(List.getElem?_eq_some_iff.1 hv).1
     have:=hcell k hlt j hj
     rw [Nat.add_assoc]
     exact ((hbr.cell (p:=⟨b,o+(k * 51+j),none⟩) (by show b < _; omega)).trans this).trans hv
    have HR:=Lib.hid hrg
    have HN:=Lib.hid (hw _ (List.getElem_mem hlt))
    have htx:=ht9 _ (List.getElem_mem hlt)
    have HT:=Lib.hid (show ns.drop k=ns[k] :: ns.drop (k+1) from List.drop_eq_getElem_cons hlt)
    have HB:=Lib.hid (show qzb (ns.take (k+1))=qzb (ns.take k)+(ns[k]).text.size by
     unfold qzb
     rw [List.take_succ_eq_append_getElem hlt,List.map_append,List.sum_append]
     simp)
    generalize ns[k]=n at *
    clear hrg hcell hw ht9
    have hz:(k:Int) < (ns.length:Int):=by omega
    have HG:=Lib.hid (And.intro gd (And.intro hm gl))
    clear gd hm gl
    have HBR:=Lib.hid hbr
    clear hbr
    go_upto_region 9 with (first | (refine wpList_load_mid rfl 35 _ rfl b (o+k * 51) rfl (ndC n) _ HR.out Tryz.underlying35 rfl qza ?_) | (refine qxa rfl 35 _ _ rfl wr.heap.size 35 (ndC nd0) (ndC n) rfl (Blk.new wr _ _) rfl rfl qza (qec _) ?_; intro w3 r3 r4 r5))
    have kw:Kept [] wr w3:=((Kept.refl [] wr).alloc _).fresh r4 (by simp)
    have zs:w3.heap.size=wr.heap.size+1:=by rw [r5,World.size_alloc]
    have gd3:=HG.out.1.kept kw (by simp)
    have hm3:=HG.out.2.1.kept kw.grownN (by simp)
    have gl3:=HG.out.2.2.kept kw (by simp)
    have hb3:Below w.heap.size w w3:=HBR.out.trans (kw.to_below HBR.out.size (by simp))
    have hgs:=HH.out.2.2.2.2.2.1
    have HZ3:=Lib.hid zs
    clear zs r4 r5 kw
    generalize wr.heap.size=g at *
    clear HG HBR
    obtain ⟨key,depth,kind,st,text⟩:=n
    have c0:w3.cell? ⟨g,0,none⟩=some (.int .i64 key):=r3.cell 0
    obtain ⟨q,hq⟩:∃ q:Int,q=if key ∈ met then 1 else 0:=⟨_,rfl⟩
    have hq0:0<=q:=by rw [hq]; split <;> decide
    have hq1:q<=1:=by rw [hq]; split <;> decide
    have HQ:=Lib.hid hq
    clear hq
    have hwk:(Lit.int .i64 key).wf=true:=by
     have:=HN.out
     unfold ndC at this
     simp only [List.cons_append,List.all_cons,Bool.and_eq_true] at this
     exact this.1
    have hKEY:keyOf Tryz.prog 3 (.int .i64 key)=some (kyI key):=keyOf_int_mk Tryz.underlying3 hwk
    have hqa:D.atKey (kyI key) (.lit (.int .i64 0))=.lit (.int .i64 q):=by rw [HQ.out]; exact HH.out.2.1.2 key hwk
    have hval:plainElem (H:=Unit) Tryz.prog 3 (.int .i64 (q+1))=some (.lit (.int .i64 (q+1)),[]):=plainElem_int Tryz.underlying3 (by
     have:q=0\/q=1:=by omega
     rcases this with h | h <;> rw [h] <;> rfl)
    have hkm:k < maxLen:=by
     have:(300:Nat) < maxLen:=by decide
     omega
    have HV:=Lib.hid hval
    have HK:=Lib.hid hKEY
    have HW:=Lib.hid hwk
    have HA:=Lib.hid hqa
    clear hval hKEY hwk hqa
    go_upto_region 10 with (first
     | (at_lookup; refine wpList_lookup_own_int _ rfl _ _ 102 rfl 3 3 .i64 Tryz.lawInt Tryz.underlying102 Tryz.underlying3 (Tryz.zeroInt _) (w.heap.size+1) k D rfl hm3 _ _ rfl HK.out ?_; intro cc hat hwc; obtain rfl:q=cc:=(by (have e:=HA.out.symm.trans hat); injection e with e; injection e); clear hat hwc)
     | (at_mapUpdate; refine wpList_mapUpdate_own _ rfl _ _ _ 102 rfl 3 3 Tryz.lawInt Tryz.underlying102 (plainElem Tryz.prog 3) (w.heap.size+1) k D rfl hm3 hkm _ _ (kyI key) rfl rfl HK.out (.lit (.int .i64 (q+1))) [] HV.out ?_; intro w4 hm4 hg4))
    have kg:Kept [w.heap.size+1] w3 w4:=Kept.of_grown hg4
    have r4:=r3.kept kg (by simp; omega)
    have gd4:=gd3.kept kg (by simp)
    have gl4:=gl3.kept kg (by simp)
    have hb4:Below w.heap.size w w4:=hb3.trans (kg.to_below hb3.size (by simp))
    have hby:=HH.out.2.2.1
    simp only at htx
    have c1:w4.cell? ⟨g,50,none⟩=some (.string text):=r4.cell 50
    have HM4:=Lib.hid (And.intro hm4 (And.intro hb4 hb3))
    clear hm4 hb3 hb4 kg hg4 gd3 gl3 r3 c0 hm3
    have hby2:qzb (ns.take k)<=60000:=by omega
    clear hby
    generalize qzb (ns.take k)=by_ at *
    go_upto_region 11 with fail
    clear c1
    have hf:=qsv ⟨key,depth,kind,st,text⟩ next w4 HN.out
    have hcn:w4.cell? ⟨w.heap.size,1,none⟩=some (.int .i64 next):=gd4.cell 1
    obtain ⟨F,hF⟩:∃ F,fitsN ⟨key,depth,kind,st,text⟩ next=F:=⟨_,rfl⟩
    rw [hF] at hf
    have HF:=Lib.hid hF
    clear hF
    go_wp2_with (refine qwa rfl 35 _ rfl g 0 35 (ndC ⟨key,depth,kind,st,text⟩) (ndC ⟨key,depth,kind,st,text⟩) _ rfl r4 (fun j v hv=>by rw [Nat.zero_add]; exact hv) Tryz.underlying35 rfl qza ?_)
    clear hcn
    refine hf.mono ?_
    rintro e w5 ⟨rfl,hb5⟩
    have hB5:Below w.heap.size w w5:=HM4.out.2.1.trans (hb5.mono HM4.out.2.1.size)
    have hm5:w5.ownsMap Tryz.prog 3 (plainElem (H:=Unit) Tryz.prog 3) (w.heap.size+1) (k+1) (D.put (kyI key) (.lit (.int .i64 (q+1)))):=HM4.out.1.kept (Kept.of_below hb5).grownN (by simp)
    have gd5:=gd4.below hb5 gd4.lt
    have gl5:=gl4.below hb5 gl4.lt
    have r5:=r4.below hb5 r4.lt
    have d0:w5.cell? ⟨g,0,none⟩=some (.int .i64 key):=r5.cell 0
    have d1:w5.cell? ⟨g,1,none⟩=some (.int .i64 depth):=r5.cell 1
    have d2:w5.cell? ⟨w.heap.size+2,1,none⟩=some (.int .i64 x.depth):=gl5.cell 1
    have d3:w5.cell? ⟨w.heap.size+2,2,none⟩=some (.int .u8 x.kind):=gl5.cell 2
    have hqa:(D.put (kyI key) (.lit (.int .i64 (q+1)))).atKey (kyI key) (.lit (.int .i64 0))=.lit (.int .i64 (q+1)):=atKey_put_same HH.out.2.1.1 (by trivial) _ _
    have HQA:=Lib.hid hqa
    have HP:=Lib.hid (show q9a ns next=((F && !met.contains key && !decide (x.depth+1 < depth) && !(decide (x.depth < depth) && decide (x.kind=1)) && (decide (depth=0) == decide (x.depth < 0)) && qdb next (ns.drop (k+1)) (key :: met) depth kind) && decide ((ndAt ns 0).kind=0) && decide (qzb ns<=1500)) by
     rw [HS.out,HH.out.1,HT.out,qhf,HF.out])
    have hx0:-1<=x.depth:=HH.out.2.2.2.1
    have hx1:x.depth < 16:=HH.out.2.2.2.2.1
    have HX:=Lib.hid (And.intro hb5 (And.intro gd5 gl5))
    clear hqa hb5 gd5 gl5 gd4 gl4 r4 hf
    have HB5:=Lib.hid hB5
    clear hB5
    cases F with
    | false =>
     have HP:=Lib.hid (HP.out.trans (by rfl:_=false))
     go_wp2_with fail
     go_ret
     exact ⟨by rw [HP.out]; rfl,HB5.out⟩
    | true =>
     by_cases hmem:key ∈ met
     ·obtain rfl:q=1:=by rw [HQ.out,if_pos hmem]
      have HP:=Lib.hid (show q9a ns next=false by rw [HP.out,List.contains_iff_mem.2 hmem]; simp)
      clear hmem
      go_wp2_with (at_lookup; refine q2d _ (by rfl) _ _ 102 rfl 3 3 .i64 Tryz.lawInt Tryz.underlying102 Tryz.underlying3 (Tryz.zeroInt _) (w.heap.size+1) (k+1) _ rfl hm5 _ _ rfl HK.out ?_; intro cc hat hwc; obtain rfl:cc=2:=(by (have e:=hat.symm.trans HQA.out); injection e with e; injection e); clear hat hwc)
      go_ret
      exact ⟨by rw [HP.out]; rfl,HB5.out⟩
     have hcm:met.contains key=false:=by
      cases h:met.contains key with
      | false=>rfl
      | true=>exact absurd (List.contains_iff_mem.1 h) hmem
     obtain rfl:q=0:=by rw [HQ.out,if_neg hmem]
     have HP:=Lib.hid (HP.out.trans (by rw [hcm]; simp only [Bool.not_false,Bool.true_and,Bool.and_true]:_=((!decide (x.depth+1 < depth) && !(decide (x.depth < depth) && decide (x.kind=1)) && (decide (depth=0) == decide (x.depth < 0)) && qdb next (ns.drop (k+1)) (key :: met) depth kind) && decide ((ndAt ns 0).kind=0) && decide (qzb ns<=1500))))
     have HE:=Lib.hid hmem
     clear hcm hmem
     by_cases j1:x.depth+1 < depth
     ·have HP:=Lib.hid (show q9a ns next=false by rw [HP.out]; simp [j1])
      go_wp2_with (at_lookup; refine q2d _ (by rfl) _ _ 102 rfl 3 3 .i64 Tryz.lawInt Tryz.underlying102 Tryz.underlying3 (Tryz.zeroInt _) (w.heap.size+1) (k+1) _ rfl hm5 _ _ rfl HK.out ?_; intro cc hat hwc; obtain rfl:cc=1:=(by (have e:=hat.symm.trans HQA.out); injection e with e; injection e); clear hat hwc)
      go_ret
      exact ⟨by rw [HP.out]; rfl,HB5.out⟩
     have j1':(!decide (x.depth+1 < depth))=true:=by simp; omega
     by_cases j2:x.depth < depth/\x.kind=1
     ·obtain ⟨j2,j3⟩:=j2
      have j4:(x.kind:Int)=1:=by omega
      have HP:=Lib.hid (show q9a ns next=false by rw [HP.out]; simp [j2,j3])
      go_wp2_with (first | (at_lookup; refine q2d _ (by rfl) _ _ 102 rfl 3 3 .i64 Tryz.lawInt Tryz.underlying102 Tryz.underlying3 (Tryz.zeroInt _) (w.heap.size+1) (k+1) _ rfl hm5 _ _ rfl HK.out ?_; intro cc hat hwc; obtain rfl:cc=1:=(by (have e:=hat.symm.trans HQA.out); injection e with e; injection e); clear hat hwc) | fail)
      go_ret
      exact ⟨by rw [HP.out]; rfl,HB5.out⟩
     have j5:¬ x.depth < depth\/(x.depth < depth/\¬ (x.kind:Int)=1):=by omega
     have j1n:¬ x.depth+1 < depth:=j1
     clear j2 j1'
     have hN:=qbk HF.out
     simp only at hN
     obtain ⟨hN0,hN1,hN2⟩:=hN
     have HBY:=Lib.hid HH.out.2.2.1
     rcases j5 with j5 | ⟨j5,j6⟩
     ·by_cases e1:depth=0
      ·by_cases e2:x.depth < 0
       ·exfalso; omega
       ·have HP:=Lib.hid (show q9a ns next=false by rw [HP.out]; simp [j1n,j5,e1,e2])
        go_wp2_with (first | (at_lookup; refine q2d _ (by rfl) _ _ 102 rfl 3 3 .i64 Tryz.lawInt Tryz.underlying102 Tryz.underlying3 (Tryz.zeroInt _) (w.heap.size+1) (k+1) _ rfl hm5 _ _ rfl HK.out ?_; intro cc hat hwc; obtain rfl:cc=1:=(by (have e:=hat.symm.trans HQA.out); injection e with e; injection e); clear hat hwc) | fail)
        go_ret
        exact ⟨by rw [HP.out]; rfl,HB5.out⟩
      ·have e1b:(depth == 0)=false:=beq_false_of_ne e1
       by_cases e2:x.depth < 0
       ·exfalso; omega
       ·go_wp2_with (first
         | (at_lookup; refine q2d _ (by rfl) _ _ 102 rfl 3 3 .i64 Tryz.lawInt Tryz.underlying102 Tryz.underlying3 (Tryz.zeroInt _) (w.heap.size+1) (k+1) _ rfl hm5 _ _ rfl HK.out ?_; intro cc hat hwc; obtain rfl:cc=1:=(by (have e:=hat.symm.trans HQA.out); injection e with e; injection e); clear hat hwc)
         | (refine qwa rfl 35 _ rfl g 0 35 (ndC ⟨key,depth,kind,st,text⟩) (ndC ⟨key,depth,kind,st,text⟩) _ rfl r5 (fun j v hv=>by rw [Nat.zero_add]; exact hv) Tryz.underlying35 rfl qza ?_)
         | (refine qxa rfl 35 _ _ rfl (w.heap.size+2) 35 (ndC x) (ndC ⟨key,depth,kind,st,text⟩) rfl HX.out.2.2 rfl rfl qza (qec _) ?_; intro w6 r6 k6 z6))
        have hb:=HB.out
        try simp only at hb
        exact ⟨⟨k+1,_,key :: met,⟨key,depth,kind,st,text⟩,hlt,by go_num,by rw [hb]; simp,by have:=HBY.out; rw [hb]; omega,HB5.out.trans (k6.to_below HB5.out.size (by simp)),HX.out.2.1.kept k6 (by simp),hm5.kept k6.grown1 (by simp),(qci HH.out.2.1 HW.out HE.out HA.out).1,r6,by show -1<=depth; omega,hN1,by rw [HH.out.1,HT.out,qhf,HF.out]; simp [HE.out,j1n,j5,e1,e2],by rw [z6]; have:=r5.lt; omega⟩,by simp [intOf]; omega⟩
     ·have j6n:¬ x.kind=1:=by omega
      have j6b:((x.kind:Int) == 1)=false:=beq_false_of_ne j6
      have j6c:(x.kind == 1)=false:=beq_false_of_ne j6n
      by_cases e1:depth=0
      ·subst e1
       by_cases e2:x.depth < 0
       ·go_wp2_with (first
         | (at_lookup; refine q2d _ (by rfl) _ _ 102 rfl 3 3 .i64 Tryz.lawInt Tryz.underlying102 Tryz.underlying3 (Tryz.zeroInt _) (w.heap.size+1) (k+1) _ rfl hm5 _ _ rfl HK.out ?_; intro cc hat hwc; obtain rfl:cc=1:=(by (have e:=hat.symm.trans HQA.out); injection e with e; injection e); clear hat hwc)
         | (refine qwa rfl 35 _ rfl g 0 35 (ndC ⟨key,0,kind,st,text⟩) (ndC ⟨key,0,kind,st,text⟩) _ rfl r5 (fun j v hv=>by rw [Nat.zero_add]; exact hv) Tryz.underlying35 rfl qza ?_)
         | (refine qxa rfl 35 _ _ rfl (w.heap.size+2) 35 (ndC x) (ndC ⟨key,0,kind,st,text⟩) rfl HX.out.2.2 rfl rfl qza (qec _) ?_; intro w6 r6 k6 z6))
        have hb:=HB.out
        try simp only at hb
        exact ⟨⟨k+1,_,key :: met,⟨key,0,kind,st,text⟩,hlt,by go_num,by rw [hb]; simp,by have:=HBY.out; rw [hb]; omega,HB5.out.trans (k6.to_below HB5.out.size (by simp)),HX.out.2.1.kept k6 (by simp),hm5.kept k6.grown1 (by simp),(qci HH.out.2.1 HW.out HE.out HA.out).1,r6,by show (-1:Int)<=0; decide,hN1,by rw [HH.out.1,HT.out,qhf,HF.out]; simp [HE.out,j1n,j5,j6n,e2],by rw [z6]; have:=r5.lt; omega⟩,by simp [intOf]; omega⟩
       ·exfalso; omega
      ·have e1b:(depth == 0)=false:=beq_false_of_ne e1
       by_cases e2:x.depth < 0
       ·exfalso; omega
       ·go_wp2_with (first
         | (at_lookup; refine q2d _ (by rfl) _ _ 102 rfl 3 3 .i64 Tryz.lawInt Tryz.underlying102 Tryz.underlying3 (Tryz.zeroInt _) (w.heap.size+1) (k+1) _ rfl hm5 _ _ rfl HK.out ?_; intro cc hat hwc; obtain rfl:cc=1:=(by (have e:=hat.symm.trans HQA.out); injection e with e; injection e); clear hat hwc)
         | (refine qwa rfl 35 _ rfl g 0 35 (ndC ⟨key,depth,kind,st,text⟩) (ndC ⟨key,depth,kind,st,text⟩) _ rfl r5 (fun j v hv=>by rw [Nat.zero_add]; exact hv) Tryz.underlying35 rfl qza ?_)
         | (refine qxa rfl 35 _ _ rfl (w.heap.size+2) 35 (ndC x) (ndC ⟨key,depth,kind,st,text⟩) rfl HX.out.2.2 rfl rfl qza (qec _) ?_; intro w6 r6 k6 z6))
        have hb:=HB.out
        try simp only at hb
        exact ⟨⟨k+1,_,key :: met,⟨key,depth,kind,st,text⟩,hlt,by go_num,by rw [hb]; simp,by have:=HBY.out; rw [hb]; omega,HB5.out.trans (k6.to_below HB5.out.size (by simp)),HX.out.2.1.kept k6 (by simp),hm5.kept k6.grown1 (by simp),(qci HH.out.2.1 HW.out HE.out HA.out).1,r6,by show -1<=depth; omega,hN1,by rw [HH.out.1,HT.out,qhf,HF.out]; simp [HE.out,j1n,j5,j6n,e1,e2],by rw [z6]; have:=r5.lt; omega⟩,by simp [intOf]; omega⟩
   ·obtain rfl:k=ns.length:=by omega
    obtain ⟨b,o,rfl,hb,hcell⟩:=Shp.In.at_ (S:=shNd) HI.out (by decide) (by omega)
    have hk2:wr.cell? ⟨b,o+2,none⟩=some (.int .u8 (ndAt ns 0).kind):=by
     have:=hcell 0 (by omega) 2 (by decide)
     rw [Nat.zero_mul,Nat.zero_add] at this
     refine (hbr.cell (p:=⟨b,o+2,none⟩) (by show b < _; omega)).trans (this.trans ?_)
     rw [qxb (show 0 < ns.length by omega)]
     rfl
    have cd:wr.cell? ⟨w.heap.size,0,none⟩=some (.slice (some ⟨b,o,none⟩) ns.length c):=gd.cell 0
    have HP:=Lib.hid (show q9a ns next=(decide ((ndAt ns 0).kind=0) && decide (qzb ns<=1500)) by
     rw [HS.out,HH.out.1,List.drop_length]
     rfl)
    have hpos:0 < ns.length:=by omega
    have hposi:(0:Int) < (ns.length:Int):=by omega
    rw [List.take_length]
    have HBR:=Lib.hid hbr
    clear hcell hw ht9 hbr gd gl hm
    generalize (ndAt ns 0).kind=kd at *
    generalize qzb ns=bs at *
    by_cases e1:kd=0
    ·subst e1
     go_wp2_with fail
     go_ret
     refine ⟨?_,HBR.out⟩
     rw [HP.out]
     show Ending.returned (.bool (decide ((bs:Int)<=1500)))=_
     by_cases h:bs<=1500
     ·rw [decide_eq_true h,decide_eq_true (show (bs:Int)<=1500 by omega)]; rfl
     ·rw [decide_eq_false h,decide_eq_false (show ¬ (bs:Int)<=1500 by omega)]; rfl
    ·have e2:¬ (kd:Int)=0:=by omega
     have e3:((kd:Int) == 0)=false:=beq_false_of_ne e2
     have e4:(kd == 0)=false:=beq_false_of_ne e1
     go_wp2_with fail
     go_ret
     exact ⟨by rw [HP.out,decide_eq_false e1]; rfl,HBR.out⟩
end Go.Proofs.YtlnekijhbnlclaaGreatDoor
