/-
  Laws: a whole row of cells read at a fenced walk. No program.
-/
import Derived.Test.YtlnekijhbnlclaaGreatDoorRangeP
import Derived.Test.YtlnekijhbnlclaaGreatDoorRunePlain
import Derived.Test.YtlnekijhbnlclaaGreatDoorFlowPlain
import Derived.Deep.MidRow
import Derived.TacticsIn
import Derived.OwnWalkIn
namespace Go.Proofs.YtlnekijhbnlclaaGreatDoor
open Go.RowKit
section
variable {P:Program} {F:Fence} {n:Nat} {ops:Array Oper} {rest:List Oper} {op:Oper} {a:Act} {w:World} {Q:Exit->Act->World->Prop}
theorem qsh (hgd:op.guard=none) (ty:TypeId) (x:Operand) (ho:op.op=.load ty x)
  (b o:Nat) (hx:a.eval x=.pointer (some ⟨b,o,none⟩)) (cs:List Value) (d:TypeDesc) (hc:w.rangeAt b o cs)
  (hu:P.underlying ty=some d) (hd:d.isRow=true) (hi:(P.info? ty).map (·.size)=some cs.length)
  (h:wpListIn F n P ops Q rest (a.put op.dst (.agg cs.toArray)) w):wpListIn F n P ops Q (op :: rest) a w :=
 wpListIn_plain hgd fun K hK=>by
  have hr:(execOp a.eval op).run P w=.ok (.value (.agg cs.toArray)) w:=by
   unfold execOp
   simp only [ho,hx,Instr.loadAt,Instr.sureAddr,Sem.run_bind,Sem.run_pure,Result.andThen_ok,run_loadVar_mid w b o ty cs d hc hu hd hi]
  unfold Oper.wpIn
  refine ⟨fun f hf=>?_,?_⟩
  ·simp [Oper.about,ho] at hf
  ·rw [Oper.semAt_plain F a.eval op (fun c=>by rw [ho]; exact fun h=>by cases h),hr]
   exact hK _ _ h
theorem qsu (hgd:op.guard=none) (ty:TypeId) (x y:Operand) (ho:op.op=.store ty x y) (g o:Nat) (t:TypeId) (L cs:List Value) (hx:a.eval x=.pointer (some ⟨g,o,none⟩)) (hg:Blk w g t L.toArray)
  (hy:a.eval y=.agg cs.toArray) (hs:o+cs.length<=L.length) (hi:(P.info? ty).map (·.size)=some cs.length) (h1:∀ v ∈ cs,v.oneCell'=true)
  (h:∀ w',Blk w' g t (setL L o cs).toArray->Kept [g] w w'->w'.heap.size=w.heap.size->wpListIn F n P ops Q rest (a.put op.dst undef) w'):wpListIn F n P ops Q (op :: rest) a w :=
 wpListIn_plain hgd fun K hK=>by
  obtain ⟨h2,h3,h4⟩:=q0h cs w g o t L hg
  have hr:(execOp a.eval op).run P w=.ok .skip (w.setCells g o cs):=by
   unfold execOp
   simp only [ho,hx,hy,Instr.storeAt,Instr.sureAddr,Sem.run_bind,Sem.run_pure,Result.andThen_ok,run_storeVar_mid w g o ty cs.toArray (qkm hg (by simpa using hs)) (by simpa using hi) (all_oneCell_toArray h1)]
  unfold Oper.wpIn
  refine ⟨fun f hf=>?_,?_⟩
  ·simp [Oper.about,ho] at hf
  ·rw [Oper.semAt_plain F a.eval op (fun c=>by rw [ho]; exact fun h=>by cases h),hr]
   exact hK _ _ (h _ h2 h3 h4)
theorem qrx (hgd:op.guard=none) (ty:TypeId) (x y:Operand) (ho:op.op=.store ty x y) (g:Nat) (t:TypeId) (L cs:List Value) (hx:a.eval x=.pointer (some ⟨g,0,none⟩)) (hg:Blk w g t L.toArray)
  (hy:a.eval y=.agg cs.toArray) (hl:L.length=cs.length) (hi:(P.info? ty).map (·.size)=some cs.length) (h1:∀ v ∈ cs,v.oneCell'=true)
  (h:∀ w',Blk w' g t cs.toArray->Kept [g] w w'->w'.heap.size=w.heap.size->wpListIn F n P ops Q rest (a.put op.dst undef) w'):wpListIn F n P ops Q (op :: rest) a w :=
 qsu hgd ty x y ho g 0 t L cs hx hg hy (by omega) hi h1 fun w' h2 h3 h4=>h w' (by rw [qjd hl] at h2; exact h2) h3 h4
theorem qyi (hgd:op.guard=none) (s x:Operand) (t:TypeId)
  (ho:op.op=.call { callee:=.builtin .append,args:=#[s,x],argTypes:=#[t,t] })
  (base:Nat) (e:TypeId) (i:TypeInfo) (z:Value) (size bytes:Nat) (ht:P.underlying t=some (.slice e)) (hi:P.info? e=some i) (hz:i.zero=some z)
  (hsize:i.size=size) (hby:i.bytes=bytes) (hzs:z.cells.size=size) (hsz:0 < size)
  (v:Value) (k:Nat) (xs:List Value) (hs:a.eval s=v) (hown:w.ownsRow base e size v k xs)
  (B:Nat) (A:Option Addr) (m c:Nat) (news:List Value) (hx:a.eval x=.slice A m c) (hr:Reads w B size A m news) (h1:∀ u ∈ news,u.oneCell'=true)
  (h63:k+m<=maxLen) (hbytes:(k+m) * bytes<=140737488355328) (hbase:base<=w.heap.size)
  (h:∀ v' w',w'.ownsRow base e size v' (k+m) (xs ++ news)->w.grownBy w' v.ownBlock->(v'.ownBlock=v.ownBlock\/v'.ownBlock=some w.heap.size)->wpListIn F n P ops Q rest (a.put op.dst v') w'):wpListIn F n P ops Q (op :: rest) a w :=
 wpListIn_plain hgd fun K hK=>by
  obtain ⟨v',w',hrun,h2,h3,h4⟩:=q5k (P:=P) w base t op.type e i z size bytes ht hi hz hsize hby hzs hsz v k xs hown B A m c news hr h1 h63 hbytes hbase
  have hr:(execOp a.eval op).run P w=.ok (.value v') w':=by
   unfold execOp
   simp only [ho,resolve,invoke,builtin,Sem.run_bind,Sem.run_pure,Result.andThen_ok,List.map_toArray,List.map_cons,List.map_nil,hs,hx,hrun]
  unfold Oper.wpIn
  refine ⟨?_,?_⟩
  ·simp [Oper.about,ho,resolve,Target.leads,Sem.run_pure]
  ·rw [Oper.semAt_plain F a.eval op (fun c=>by rw [ho]; exact fun h=>by cases h),hr]
   exact hK _ _ (h _ _ h2 h3 h4)
theorem q4r {α:Type} {S:Shp α} {ts:TypeId} {bytes:Nat} (hS:S.Ok P ts bytes) (w:World) (x:α) (hgd:op.guard=none) (s y:Operand)
  (ho:op.op=.call { callee:=.builtin .append,args:=#[s,y],argTypes:=#[ts,ts] })
  {base:Nat} {v:Value} {L:List α} (hs:a.eval s=v) (hown:S.Owns w base v L) (hy:a.eval y=.slice (some ⟨w.heap.size,0,none⟩) 1 1)
  (h47:L.length+1<=1000000000) (hbase:base<=w.heap.size)
  (h:∀ v' w',S.Owns w' base v' (L ++ [x])->(w.alloc (.cells (S.enc x).toArray S.t)).grownBy w' v.ownBlock->(v'.ownBlock=v.ownBlock\/v'.ownBlock=some (w.alloc (.cells (S.enc x).toArray S.t)).heap.size)->wpListIn F n P ops Q rest (a.put op.dst v') w') :
  wpListIn F n P ops Q (op :: rest) a (w.alloc (.cells (S.enc x).toArray S.t)):=by
 obtain ⟨i0,z,hi0,hz0,hz1,hz2,hz3⟩:=hS.info
 have hb:=Shp.In.built (B:=w.heap.size+1) S w [x] S.t (by omega)
 rw [Shp.row_one] at hb
 obtain ⟨A,c,e1,hc,hr⟩:=hb
 have e2:a.eval y=.slice A [x].length c:=hy.trans e1
 have h5:=hS.small
 have hbb:(L.length+1) * bytes<=1000000000 * 10000:=Nat.mul_le_mul h47 h5
 refine qyi hgd s y _ ho base S.t i0 z S.k bytes hS.under hi0 hz0 hz1 hz2 hz3 hS.pos v _ _ hs (hown.alloc _) _ A _ c (S.row [x]) e2 hr (S.row_oneCell [x]) (by simp only [maxLen,List.length_cons,List.length_nil]; omega) (by show (L.length+1) * bytes<=_; omega) (by simp; omega) ?_
 intro v' w' h1 h2 h3
 exact h v' w' (by unfold Shp.Owns; rw [List.length_append,S.row_append]; exact h1) h2 h3
theorem qsd {α:Type} {S:Shp α} {ts:TypeId} {bytes:Nat} (hS:S.Ok P ts bytes) (w:World) (x:α) (hgd:op.guard=none) (s y:Operand)
  (ho:op.op=.call { callee:=.builtin .append,args:=#[s,y],argTypes:=#[ts,ts] })
  {base:Nat} {v:Value} {L:List α} (hs:a.eval s=v) (hown:S.Owns w base v L) (hy:a.eval y=.slice (some ⟨w.heap.size,0,none⟩) 1 1)
  (h47:L.length+1<=1000000000) (hbase:base<=w.heap.size)
  (h:∀ v' w',S.Owns w' base v' (L ++ [x])->(w.alloc (.cells (S.enc x).toArray S.t)).grownBy w' v.ownBlock->(v'.ownBlock=v.ownBlock\/v'.ownBlock=some (w.alloc (.cells (S.enc x).toArray S.t)).heap.size)->wpList P ops Q rest (a.put op.dst v') w') :
  wpList P ops Q (op :: rest) a (w.alloc (.cells (S.enc x).toArray S.t)):=by
 obtain ⟨i0,z,hi0,hz0,hz1,hz2,hz3⟩:=hS.info
 have hb:=Shp.In.built (B:=w.heap.size+1) S w [x] S.t (by omega)
 rw [Shp.row_one] at hb
 obtain ⟨A,c,e1,hc,hr⟩:=hb
 have e2:a.eval y=.slice A [x].length c:=hy.trans e1
 have h5:=hS.small
 have hbb:(L.length+1) * bytes<=1000000000 * 10000:=Nat.mul_le_mul h47 h5
 refine qig _ hgd s y _ ho base S.t i0 z S.k bytes hS.under hi0 hz0 hz1 hz2 hz3 hS.pos v _ _ hs (hown.alloc _) _ A _ c (S.row [x]) e2 hr (S.row_oneCell [x]) (by simp only [maxLen,List.length_cons,List.length_nil]; omega) (by show (L.length+1) * bytes<=_; omega) (by simp; omega) ?_
 intro v' w' h1 h2 h3
 exact h v' w' (by unfold Shp.Owns; rw [List.length_append,S.row_append]; exact h1) h2 h3
end
theorem IS.below {ws:List Nat} {n s:Nat} {A B:World} (h:IS ws n A B) (hs:s<=n) (hA:s<=A.heap.size) (hw:∀ g ∈ ws,s<=g):Below s A B :=
 ⟨h.os,h.tape,h.output,h.size,fun k hk=>by
  have hl:k < A.heap.size:=Nat.lt_of_lt_of_le hk hA
  rw [Array.getElem?_eq_getElem hl]
  exact h.block k _ (fun hm=>by have:=hw k hm; omega) (Array.getElem?_eq_getElem hl) (.inr (by omega))⟩
theorem Shp.Owns.is {α:Type} {S:Shp α} {ws:List Nat} {n:Nat} {A B:World} {base:Nat} {v:Value} {L:List α} (h:S.Owns A base v L) (hk:IS ws n A B) (hw:∀ g,v.ownBlock=some g->g ∉ ws):S.Owns B base v L:=by
 obtain ⟨h1,h2⟩:=h
 refine ⟨h1,?_⟩
 rcases h2 with h2 | ⟨g,cap,cur,e,hg,hb,r⟩
 ·exact .inl h2
 ·exact .inr ⟨g,cap,cur,e,hg,hk.block g _ (hw g (by rw [e]; rfl)) hb (.inl rfl),r⟩
theorem qji {W w1:World} {o:Obj} {bl:Nat} {v v' u:Value} (hgr:(W.alloc o).grownBy w1 v.ownBlock) (hloc:v'.ownBlock=v.ownBlock\/v'.ownBlock=some (W.alloc o).heap.size)
  (hlt:∀ k,v'.ownBlock=some k->k < w1.heap.size) (hbl:bl < W.heap.size) :
  Kept (bl :: v.ownBlock.toList) W (w1.setCell ⟨bl,0,none⟩ u)/\∀ g ∈ bl :: v'.ownBlock.toList,(g ∈ bl :: v.ownBlock.toList\/W.heap.size<=g)/\g < (w1.setCell ⟨bl,0,none⟩ u).heap.size:=by
 have hs:(w1.setCell ⟨bl,0,none⟩ u).heap.size=w1.heap.size:=by simp [World.setCell]
 refine ⟨(((Kept.refl _ W).alloc o).grown hgr fun g hg=>.inl (by simp [hg])).setCell (p:=⟨bl,0,none⟩) (by simp) u,fun g hg=>?_⟩
 rw [hs]
 have h1:=hgr.size
 rw [World.size_alloc] at h1
 rcases List.mem_cons.1 hg with rfl | hg
 ·exact ⟨.inl List.mem_cons_self,by omega⟩
 ·have hg':v'.ownBlock=some g:=by simpa using hg
  refine ⟨?_,hlt g hg'⟩
  rcases hloc with h | h
  ·exact .inl (List.mem_cons_of_mem _ (by rw [h] at hg; exact hg))
  ·rw [h] at hg'
   cases hg'
   exact .inr (by rw [World.size_alloc]; omega)
theorem Kept.fresh {gs:List Nat} {W A B:World} (h:Kept [] W A) (k:Kept gs A B) (hg:∀ g ∈ gs,W.heap.size<=g):Kept [] W B :=
 ⟨k.os.trans h.os,k.tape.trans h.tape,k.output.trans h.output,Nat.le_trans h.size k.size,fun i hi _=>(k.block i (Nat.lt_of_lt_of_le hi h.size) (fun hm=>by have:=hg i hm; omega)).trans (h.block i hi (by simp))⟩
end Go.Proofs.YtlnekijhbnlclaaGreatDoor
namespace Go.Proofs.YtlnekijhbnlclaaGreatDoor
open Go.RowKit
theorem qxb {ns:List Nd} {i:Nat} (h:i < ns.length):ndAt ns i=ns[i]:=by unfold ndAt; rw [List.getD_eq_getElem?_getD,List.getElem?_eq_getElem h]; rfl
theorem deepN_iff {ns:List Nd} {a i:Nat}:deepN ns a i=true↔(ndAt ns a).depth < (ndAt ns i).depth:=by
 unfold deepN
 exact decide_eq_true_iff
def docA (dv:Value) (next:Int):Value:=.agg #[dv,.int .i64 next]
set_option linter.unusedSimpArgs false
set_option linter.unusedVariables false
set_option maxRecDepth 100000 in
set_option maxHeartbeats 4000000 in
theorem q1r (ns:List Nd) (dv:Value) (next i:Int) (B:Nat) (w:World) (h:DocIn w B dv ns) :
  Calls Tryz.prog 84 #[docA dv next,.int .i64 i] w fun e w'=>e=.returned (.bool (decide (0<=i) && decide (i < ns.length)))/\Below w.heap.size w w':=by
 obtain ⟨A,c,rfl,hc,hr⟩:=h
 clear hr
 unfold docA
 by_cases h1:0<=i
 ·by_cases h2:i < (ns.length:Int)
  ·go_enter Tryz.func84,Tryz.ntmps84
   go_wp2_with fail
   go_ret
   exact ⟨by simp [h1,h2],(Below.refl _ _).alloc (Nat.le_refl _) _⟩
  ·go_enter Tryz.func84,Tryz.ntmps84
   go_wp2_with fail
   go_ret
   exact ⟨by simp [h1,h2],(Below.refl _ _).alloc (Nat.le_refl _) _⟩
 ·go_enter Tryz.func84,Tryz.ntmps84
  go_wp2_with fail
  go_ret
  exact ⟨by rw [decide_eq_false (show ¬ 0<=i by omega)]; rfl,(Below.refl _ _).alloc (Nat.le_refl _) _⟩
theorem qgq (dv:Value) (next:Int) (a:Nat) (w:World) :
  Calls Tryz.prog 85 #[docA dv next,.int .i64 a] w fun e w'=>e=.returned (.func (.func 115) #[] #[.pointer (some ⟨w.heap.size+1,0,none⟩),.pointer (some ⟨w.heap.size,0,none⟩)]) /\
   w'=(w.alloc (.cells #[dv,.int .i64 next] 24)).alloc (.cells #[.int .i64 a] 3):=by
 unfold docA
 go_enter Tryz.func85,Tryz.ntmps85
 go_wp2_with fail
 go_ret
 exact ⟨rfl,rfl⟩
structure BelowW (W:World) (ba bd B:Nat) (dv:Value) (next:Int) (ns:List Nd) (a:Nat):Prop where
 doc:Blk W bd 24 #[dv,.int .i64 next]
 at_:Blk W ba 3 #[.int .i64 a]
 nodes:DocIn W B dv ns
theorem BelowW.kept {W W':World} {ba bd B:Nat} {dv:Value} {next:Int} {ns:List Nd} {a:Nat} {gs:List Nat} (h:BelowW W ba bd B dv next ns a) (hk:Kept gs W W') (hB:B<=W.heap.size) (h1:ba ∉ gs) (h2:bd ∉ gs) (h5:∀ k ∈ gs,B<=k):BelowW W' ba bd B dv next ns a :=
 ⟨h.doc.kept hk h2,h.at_.kept hk h1,h.nodes.below (hk.to_below hB h5)⟩
def q7e (ba bd B k:Nat):Prop:=k=ba\/k=bd\/k < B
def BwR (ba bd B:Nat) (dv:Value) (next:Int) (ns:List Nd) (a m:Nat) (J:List Nat->List Nat->World->Prop) (n:Nat) (i:Value) (wr:World):Prop :=
 ∃ (ws:List Nat) (j:Nat),i=.int .i64 ((a+1+j:Nat):Int)/\J ws (List.range' (a+1) j) wr/\(∀ k ∈ ws,k < wr.heap.size/\¬ q7e ba bd B k)/\j<=m/\BelowW wr ba bd B dv next ns a/\n<=wr.heap.size
set_option maxRecDepth 100000 in
set_option maxHeartbeats 4000000 in
theorem qdr (ns:List Nd) (dv:Value) (next:Int) (a ba bd B:Nat) (w:World) (h:BelowW w ba bd B dv next ns a) (ha:a < ns.length) (hB:B<=w.heap.size) (hm:ns.length < 1000000) :
  SeqP Tryz.prog 115 #[.pointer (some ⟨ba,0,none⟩),.pointer (some ⟨bd,0,none⟩)] (fun i=>#[.int .i64 (i:Nat),ndV (ndAt ns i)]) (qcb ns a) [] (q7e ba bd B) w:=by
 intro lp n J Jx Jp W wr0 hbW hwr0 hJ hJx hJp hY hj0
 have h0:BelowW W ba bd B dv next ns a:=h.kept (gs:=[]) ⟨hbW.os,hbW.tape,hbW.output,hbW.size,fun k hk _=>hbW.block k hk⟩ hB (by simp) (by simp) (by simp)
 obtain ⟨m,m1,m2,m3⟩:=qgm ns a ha
 rw [qyn m1 m2 m3] at hY ⊢
 refine callsIn_wide.2 ?_
 have d0:W.cell? ⟨ba,0,none⟩=some (.int .i64 a):=h0.at_.cell 0
 go_enter Tryz.func115,Tryz.ntmps115
 go_wp2_with fail
 go_loopw [4] (BwR ba bd B dv next ns a m J W.heap.size) (fun i _=>a+1+m - (intOf i).toNat)
 case atStart=>exact ⟨wr0,0,rfl,hj0,hwr0,by omega,h0,Nat.le_refl _⟩
 case round =>
  obtain ⟨ws,j,rfl,hj,hws,hjm,hE,hn⟩:=hrel
  have hE':=hE
  obtain ⟨hd,hat,A,c,rfl,hc,hr⟩:=hE'
  have hnl:a+1+j<=ns.length:=by omega
  obtain ⟨b,o,rfl,hb,hcell⟩:=Shp.In.at_ (S:=shNd) (⟨A,c,rfl,hc,hr⟩:shNd.In wr B (.slice A ns.length c) ns) (by decide) (by omega)
  have hBw:B<=wr.heap.size:=Nat.le_trans hB (Nat.le_trans hbW.size hn)
  have e0:∀ V:BW wr.heap.size wr,V.val.cell? ⟨bd,0,none⟩=some (.slice (some ⟨b,o,none⟩) ns.length c):=fun V=>(hd.below V.ok hd.lt).cell 0
  have e1:∀ V:BW wr.heap.size wr,V.val.cell? ⟨ba,0,none⟩=some (.int .i64 a):=fun V=>(hat.below V.ok hat.lt).cell 0
  have e2:∀ V:BW wr.heap.size wr,V.val.cell? ⟨b,o+a * 51+1,none⟩=some (.int .i64 (ndAt ns a).depth):=fun V=>(V.ok.cell (p:=⟨b,o+a * 51+1,none⟩) (by show b < _; omega)).trans (by rw [qxb ha,Nat.add_assoc]; exact hcell a ha 1 (by decide))
  rcases Nat.lt_or_ge j m with hlt | hge
  ·have hlt':a+1+j < ns.length:=by omega
   have e3:∀ V:BW wr.heap.size wr,V.val.cell? ⟨b,o+(a+1+j) * 51+1,none⟩=some (.int .i64 (ndAt ns (a+1+j)).depth):=fun V=>(V.ok.cell (p:=⟨b,o+(a+1+j) * 51+1,none⟩) (by show b < _; omega)).trans (by rw [qxb hlt',Nat.add_assoc]; exact hcell (a+1+j) hlt' 1 (by decide))
   have hdeep:=deepN_iff.1 (m2 j hlt)
   have z1:((a+1+j:Nat):Int) < (ns.length:Int):=by omega
   obtain ⟨i,hi⟩:∃ i,i=a+1+j:=⟨_,rfl⟩
   rw [<-hi] at e3 hdeep z1 hlt' ⊢
   have HI:=Lib.hid hi
   clear hi
   go_wp2_with fail
   refine qeb wr.heap.size (by kernel_rfl) (by kernel_rfl) ?_
   repeat (go_big_quiet_step (fail))
   refine wpQuiet_nil ?_
   intro w3 hw'
   obtain ⟨⟨_,hQ⟩,rfl⟩:=hw'
   go_upto_region 3 with fail
   refine (wpIn_wide (n:=n)).1 ?_
   have hkq:Kept [] wr w3:=Kept.of_below hQ
   have hEq:=hE.kept hkq hBw (by simp) (by simp) (by simp)
   have q0:w3.cell? ⟨bd,0,none⟩=some (.slice (some ⟨b,o,none⟩) ns.length c):=hEq.doc.cell 0
   have hrg:w3.rangeAt b (o+i * 51) (ndC (ndAt ns i)):=fun k v hv=>by
    have hk:k < 51:=(List.getElem?_eq_some_iff.1 hv).1
    refine (hQ.cell (p:=⟨b,o+i * 51+k,none⟩) (by show b < _; omega)).trans ?_
    rw [Nat.add_assoc]
    exact (hcell i hlt' k hk).trans (by rw [<-hv,qxb hlt']; rfl)
   have hpre:List.range' (a+1) j ++ [i]=List.range' (a+1) (j+1):=by rw [HI.out,List.range'_1_concat]
   obtain ⟨fn,tmps,assign,body,hy,hR⟩:=hY (n - 1) ws (List.range' (a+1) j) i w3 (hJ _ _ _ _ hj (IS.of_kept hkq)) (by
    rw [hpre]
    exact ⟨List.range' (a+1+(j+1)) (m - (j+1)),by rw [List.range'_append_1,show j+1+(m - (j+1))=m by omega]⟩)
   rw [hpre] at hR
   dsimp only [ndV] at hy
   gi_wp2_with (refine qsh rfl 35 _ rfl b (o+i * 51) rfl (ndC (ndAt ns i)) _ hrg Tryz.underlying35 rfl qza ?_)
   refine ⟨fun h=>absurd h (by decide),hR.mono ?_⟩
   rintro e W3 (⟨rfl,ws',hj3,hk3,hw3⟩ | ⟨rfl,hx3⟩ | ⟨ch,rfl,hp3⟩)
   ·gi_wp2
    go_wp2_with fail
    have hIo:=HI.out
    have hsz:=hk3.size
    have hn3:=hQ.size
    have hlb:=hEq.at_.lt
    have hld:=hEq.doc.lt
    refine ⟨⟨ws',j+1,congrArg (Value.int IntKind.i64) (by omega),hj3,fun k hk=>⟨(hw3 k hk).2,?_⟩,hlt,?_,by omega⟩,?_⟩
    ·rcases (hw3 k hk).1 with h4 | h4
     ·exact (hws k h4).2
     ·unfold q7e
      omega
    ·exact hEq.kept hk3 (by omega) (fun h=>(hws _ h).2 (.inl rfl)) (fun h=>(hws _ h).2 (.inr (.inl rfl))) (fun k hk=>by
      have:=(hws k hk).2
      unfold q7e at this
      omega)
    ·simp only [intOf]
     omega
   ·gi_wp2
    go_wp2_with fail
    refine bodyPost_ret (results_none rfl _ _ _) rfl ?_
    exact .inl ⟨_,rfl,.inr hx3⟩
   ·exact ⟨rfl,.inr ⟨ch,rfl,hp3⟩⟩
  ·have hjm':j=m:=by omega
   subst hjm'
   rcases Nat.lt_or_ge (a+1+j) ns.length with hl | hl
   ·have e3:∀ V:BW wr.heap.size wr,V.val.cell? ⟨b,o+(a+1+j) * 51+1,none⟩=some (.int .i64 (ndAt ns (a+1+j)).depth):=fun V=>(V.ok.cell (p:=⟨b,o+(a+1+j) * 51+1,none⟩) (by show b < _; omega)).trans (by rw [qxb hl,Nat.add_assoc]; exact hcell (a+1+j) hl 1 (by decide))
    have hdeep:¬ (ndAt ns a).depth < (ndAt ns (a+1+j)).depth:=fun h=>by
     have:=m3 hl
     rw [deepN_iff.2 h] at this
     cases this
    have z1:((a+1+j:Nat):Int) < (ns.length:Int):=by omega
    obtain ⟨i,hi⟩:∃ i,i=a+1+j:=⟨_,rfl⟩
    rw [<-hi] at e3 hdeep z1 hl ⊢
    clear hi m3 m2 m1 hnl
    go_wp2_with fail
    refine qeb wr.heap.size (by kernel_rfl) (by kernel_rfl) ?_
    repeat (go_big_quiet_step (fail))
    refine wpQuiet_nil ?_
    intro w3 hw'
    obtain ⟨⟨_,hQ⟩,rfl⟩:=hw'
    go_wp2_with fail
    go_end0
    exact .inl ⟨_,rfl,.inl ⟨ws,hJ _ _ _ _ hj (IS.of_kept (Kept.of_below hQ))⟩⟩
   ·have z1:¬ ((a+1+j:Nat):Int) < (ns.length:Int):=by omega
    obtain ⟨i,hi⟩:∃ i,i=a+1+j:=⟨_,rfl⟩
    rw [<-hi] at z1 ⊢
    have z2:decide (i < ns.length)=false:=decide_eq_false (by omega)
    have z3:decide ((i:Int) < (ns.length:Int))=false:=decide_eq_false z1
    clear hi m3 m2 m1 hnl
    go_wp2_with fail
    refine qeb wr.heap.size (by kernel_rfl) (by kernel_rfl) ?_
    repeat (go_big_quiet_step (fail))
    refine wpQuiet_nil ?_
    intro w3 hw'
    obtain ⟨⟨_,hQ⟩,rfl⟩:=hw'
    go_wp2_with fail
    go_end0
    exact .inl ⟨_,rfl,.inl ⟨ws,hJ _ _ _ _ hj (IS.of_kept (Kept.of_below hQ))⟩⟩
end Go.Proofs.YtlnekijhbnlclaaGreatDoor
namespace Go.Proofs.YtlnekijhbnlclaaGreatDoor
open Go.RowKit
section
variable {P:Program}
theorem qik {f:FuncId} {t:Operand} {x y:Code} {b:Bool} {Q:Exit->Act->World->Prop} {a:Act} {w:World} (ht:a.eval t=.bool b) (h:wpF f P (if b then x else y) Q a w):wpF f P (.cond t x y) Q a w :=
 fun fr k cs hro hb=>let ⟨e,a',w',q,r⟩:=h fr k cs hro hb; ⟨e,a',w',q,.of_steps (.one (fenced_wide P _) (stepR_cond ht)) r⟩
theorem q5t {f:FuncId} {c:Code} {Q:Exit->Act->World->Prop} {a:Act} {w:World} (I:Act->World->Prop) (μ:Act->World->Nat) (h₀:I a w)
  (round:∀ a w,I a w->wpF f P c (Exit.then (fun a' w'=>I a' w'/\μ a' w' < μ a w) Q) a w):wpF f P (.loop c) Q a w:=by
 intro b k cs hro hb
 have h0:∀ m:Machine,m.fenced P Fence.wide:=fun m=>fenced_wide P m
 have key:∀ j a w,μ a w=j->I a w ->
   ∃ e a' w',Q e a' w'/\ArrivesIn (Machine.fenced P Fence.wide) P (lone (b.atR a (.code c :: .inLoop c :: k)) cs w) b k cs e a' w':=by
  intro j
  induction j using Nat.strongRecOn with
  | _ j ih =>
   intro a w hn hI
   obtain ⟨e,a₁,w₁,hq,harr⟩:=round a w hI b (.inLoop c :: k) cs hro hb
   cases e with
   | normal =>
    obtain ⟨hI₁,hlt⟩:=hq
    obtain ⟨e₂,a₂,w₂,hq₂,harr₂⟩:=ih (μ a₁ w₁) (hn ▸ hlt) a₁ w₁ rfl hI₁
    exact ⟨e₂,a₂,w₂,hq₂,.of_steps (StepsIn.trans harr (.one (h0 _) stepR_inLoop)) harr₂⟩
   | exit id=>exact ⟨_,a₁,w₁,hq,.pass (x:=.inLoop c) rfl (fun _ _=>.inl (by simp)) harr⟩
   | goto l=>exact ⟨_,a₁,w₁,hq,.pass (x:=.inLoop c) rfl (fun _ _=>.inl (by simp)) harr⟩
   | ret=>exact ⟨_,a₁,w₁,hq,.pass (x:=.inLoop c) rfl (fun _ _=>.inl (by simp)) harr⟩
   | panic ch=>exact ⟨_,a₁,w₁,hq,.pass (x:=.inLoop c) rfl (fun _ _=>.inl (by simp)) harr⟩
   | outgrown=>exact ⟨_,a₁,w₁,hq,.pass (x:=.inLoop c) rfl (fun _ _=>.inl (by simp)) harr⟩
 obtain ⟨e,a',w',hq,harr⟩:=key _ a w rfl h₀
 exact ⟨e,a',w',hq,.of_steps (.one (h0 _) stepR_loop) harr⟩
def Marks (n:Nat) (ds:List Deferred) (w:World):Prop:=∃ Ds:List Nat,ds=Ds.map (fun D=>{ target:=.collected D,args:=#[] })/\Ds.Nodup/\∀ D ∈ Ds,n<=D/\w.heap[D]?=some (.deferred (some []))
theorem Marks.nil (n:Nat) (w:World):Marks n [] w:=⟨[],rfl,by simp,by simp⟩
theorem Marks.cons {n D:Nat} {ds:List Deferred} {w:World} (h:Marks n ds w) (hD:n<=D) (hd:w.heap[D]?=some (.deferred (some []))) (hn:∀ D',{ target:=Target.collected D',args:=#[] } ∈ ds->D'≠D):Marks n ({ target:=.collected D,args:=#[] } :: ds) w:=by
 obtain ⟨Ds,rfl,h1,h2⟩:=h
 refine ⟨D :: Ds,rfl,List.nodup_cons.2 ⟨fun hm=>hn D (List.mem_map.2 ⟨D,hm,rfl⟩) rfl,h1⟩,fun D' hD'=>?_⟩
 rcases List.mem_cons.1 hD' with rfl | hD'
 ·exact ⟨hD,hd⟩
 ·exact h2 D' hD'
theorem Marks.is {n m:Nat} {ds:List Deferred} {w w':World} {gs:List Nat} (h:Marks n ds w) (hk:IS gs m w w') (hg:∀ g ∈ gs,g < n) (hm:∀ D,{ target:=Target.collected D,args:=#[] } ∈ ds->D < m):Marks n ds w':=by
 obtain ⟨Ds,rfl,h1,h2⟩:=h
 exact ⟨Ds,rfl,h1,fun D hD=>⟨(h2 D hD).1,hk.block D _ (fun hm'=>by have:=hg D hm'; have:=(h2 D hD).1; omega) (h2 D hD).2 (.inr (hm D (List.mem_map.2 ⟨D,hD,rfl⟩)))⟩⟩
theorem qqf {fn:Func} {tmps:Array Value} {R:Ending->World->Prop} {n m:Nat} {u:FrameMode} (hu:u≠.run):∀ (ds:List Deferred) (w:World),Marks n ds w ->
  (∀ w',w'.heap.size=w.heap.size->w'.os=w.os->w'.tape=w.tape->w'.output=w.output->(∀ k:Nat,k < n->w'.heap[k]?=w.heap[k]?)->(∀ (k:Nat) (o:Obj),w.heap[k]?=some o->(∀ l,o≠Obj.deferred l)->w'.heap[k]?=some o)->LeavesIn Fence.wide m P fn tmps R [] u w')->LeavesInM Fence.wide m P fn tmps R ds u w
 | [],w,_,h=>h w rfl rfl rfl rfl (fun _ _=>rfl) (fun _ _ ho _=>ho)
 | d :: ds,w,hM,h=>by
  obtain ⟨Ds,e,h1,h2⟩:=hM
  cases Ds with
  | nil=>cases e
  | cons D Ds =>
   injection e with e1 e2
   subst e1 e2
   have hd:=(h2 D List.mem_cons_self).2
   have hnD:=(h2 D List.mem_cons_self).1
   refine ⟨hu,.inl ⟨D,_,rfl,run_takeDeferred hd,?_⟩⟩
   generalize hw1:World.putObj w D _=w1
   have hoth:∀ k,k≠D->w1.heap[k]?=w.heap[k]?:=fun k hk=>by rw [<-hw1]; exact World.putObj_heap_other hk
   have hs1:w1.heap.size=w.heap.size:=by rw [<-hw1]; exact q1c _ _ _
   rw [List.nodup_cons] at h1
   refine qqf (n:=n) hu _ w1 ⟨Ds,rfl,h1.2,fun D' hD'=>⟨(h2 D' (List.mem_cons_of_mem _ hD')).1,(hoth D' (fun e=>h1.1 (e ▸ hD'))).trans (h2 D' (List.mem_cons_of_mem _ hD')).2⟩⟩ fun w' a1 a2 a3 a4 a5 a6=>h w' (a1.trans hs1) (a2.trans (by rw [<-hw1]; rfl)) (a3.trans (by rw [<-hw1]; rfl)) (a4.trans (by rw [<-hw1]; rfl)) (fun k hk=>(a5 k hk).trans (hoth k (by omega))) fun k o ho hne=>a6 k o ((hoth k (fun e=>by
     subst e
     rw [hd] at ho
     injection ho with ho
     exact hne _ ho.symm)).trans ho) hne
end
end Go.Proofs.YtlnekijhbnlclaaGreatDoor
namespace Go.Proofs.YtlnekijhbnlclaaGreatDoor
open Go.RowKit
section
variable {P:Program}
def SeqK {α:Type} (P:Program) (g:Nat) (lb:Array Value) (encs:α->Array Value) (xs:List α) (ws:List Nat) (rd:Nat->Prop) (w:World):Prop :=
 ∀ (l n:Nat) (J:List Nat->List α->World->Prop) (Jx:World->Prop) (Jp:List PanicEntry->World->Prop) (W:World) (wr0:List Nat),
  Below w.heap.size w W->l < W.heap.size->¬ rd l->(∀ g ∈ wr0,g < W.heap.size/\¬ rd g/\g≠l) ->
  (∀ wr pre A B,J wr pre A->IS ws W.heap.size A B->J wr pre B)->(∀ A B,Jx A->IS ws W.heap.size A B->Jx B)->(∀ ch A B,Jp ch A->IS ws W.heap.size A B->Jp ch B) ->
  (∀ m wr pre x W1,J wr pre W1->pre ++ [x] <+: xs->YieldAt Fence.wide m P l (encs x) W1 fun e W' =>
   (e=.returned (.bool true)/\∃ wr',J wr' (pre ++ [x]) W'/\Kept wr W1 W'/\∀ g ∈ wr',(g ∈ wr\/W1.heap.size<=g)/\g < W'.heap.size)\/(e=.returned (.bool false)/\Jx W'/\Kept (l :: wr) W1 W')\/(∃ ch,e=.panicked ch/\Jp ch W'/\Kept (l :: wr) W1 W')) ->
  J wr0 [] W ->
  CallsIn Fence.wide n P g (#[.func (.yield l) #[] #[]] ++ lb) W fun e W'=>(∃ v,e=.returned v/\((∃ wr,J wr xs W')\/Jx W'))\/(∃ ch,e=.panicked ch/\Jp ch W')
theorem q3n {α:Type} {f:FuncId} (hf:∃ fn,P.funcs[f]?=some fn) {n:Nat} {g:Operand} {ps:Array Tmp} {assign body:Code} {Q:Exit->Act->World->Prop} {a:Act} {w:World}
  {gf:Nat} {lb:Array Value} (hg:a.eval g=.func (.func gf) #[] lb) (eg:∀ args w,(callFunc gf args).run P w=.ok (.enter gf args) w)
  {encs:α->Array Value} {xs:List α} {ws:List Nat} {rd:Nat->Prop} {w0:World} (hseq:SeqK P gf lb encs xs ws rd w0) (hb0:Below w0.heap.size w0 w) (hps:∀ x,(encs x).size=ps.size)
  (hrd:∀ k,rd k->k < w.heap.size) (wr0:List Nat) (hwr:∀ g ∈ wr0,g < w.heap.size/\¬ rd g)
  (I:List Nat->List α->World->Prop) (Ix:Code->World->Prop) (Ip:List PanicEntry->World->Prop)
  (hI:∀ wr pre A B,I wr pre A->IS ws w.heap.size A B->I wr pre B) (hIx:∀ c A B,Ix c A->IS ws w.heap.size A B->Ix c B) (hIp:∀ ch A B,Ip ch A->IS ws w.heap.size A B->Ip ch B) (hws:∀ g ∈ ws,g < w.heap.size)
  (h0:I wr0 [] w) (Ax:α->Act->World->Prop) (hAx:∀ x a' A B,Ax x a' A->IS [] w.heap.size A B->Ax x a' B)
  (hassign:∀ (l:Nat) (wr:List Nat) (pre:List α) (x:α) (W:World) (K:Act->World->Prop),I wr pre W->(∀ a' W',Kept [] W W'->Ax x a' W'->K a' W') ->
   assign.wpIn (Fence.wide.inRound l) n P (Exit.then K (fun _ _ _=>False)) { tmps:=(ps.zip (encs x)).foldl (fun t (p,v)=>t.setIfInBounds p v) a.tmps,defers:=[] } W)
  (hbody:∀ (l:Nat) (wr:List Nat) (pre:List α) (x:α) (a':Act) (W:World),w.heap.size<=l->(∃ r,W.heap[l]?=some (.loop r))->(∀ g ∈ wr,g < W.heap.size/\g≠l)->I wr pre W->Ax x a' W->pre ++ [x] <+: xs ->
   body.wpIn (Fence.wide.inRound l) n P (q1m I Ix Ip wr (pre ++ [x]) W) a' W)
  (hdone:∀ (D:Nat) (wr:List Nat) (W:World),w.heap.size<=D->I wr xs W->W.heap[D]?=some (.deferred (some []))->(∀ g ∈ wr,g≠D)->Q .normal { a with defers:={ target:=.collected D,args:=#[] } :: a.defers } W)
  (hstop:∀ (D:Nat) (c:Code) (W:World),w.heap.size<=D->Ix c W->W.heap[D]?=some (.deferred (some []))->c.wpIn Fence.wide n P Q { a with defers:={ target:=.collected D,args:=#[] } :: a.defers } W)
  (hthrown:∀ (D:Nat) (ch:List PanicEntry) (W:World),w.heap.size<=D->Ip ch W->W.heap[D]?=some (.deferred (some []))->Q (.panic ch) { a with defers:={ target:=.collected D,args:=#[] } :: a.defers } W) :
  wpF f P (Code.rangeFunc g ps assign body) Q a w:=by
 intro b k cs hro hb
 obtain ⟨rec,hrec⟩:∃ rec:LoopState->Option Code->Loop,rec=fun st pe=>{ state:=st,pending:=pe,fn:=f,tmps:=a.tmps,params:=ps,assign,body,defers:=w.heap.size }:=⟨_,rfl⟩
 obtain ⟨W1,hW1⟩:∃ W1,(w.alloc (.deferred (some []))).alloc (.loop (rec .ready none))=W1:=⟨_,rfl⟩
 have hs1:W1.heap.size=w.heap.size+2:=by rw [<-hW1]; simp
 have hL1:W1.heap[w.heap.size+1]?=some (.loop (rec .ready none)):=by
  rw [<-hW1]; have:=World.alloc_heap_new (w.alloc (.deferred (some []))) (.loop (rec .ready none)); rwa [World.size_alloc] at this
 have hK1:W1.heap[w.heap.size]?=some (.deferred (some [])):=by
  rw [<-hW1]; exact (Below.heap_alloc _ _ _ (by simp)).trans (World.alloc_heap_new w _)
 have hk1:Kept [] w W1:=by rw [<-hW1]; exact ((Kept.refl [] w).alloc _).alloc _
 have hI1:I wr0 [] W1:=hI _ _ _ _ h0 (IS.of_kept (hk1.more (by simp)))
 have hb1:Below w0.heap.size w0 W1:=hb0.trans (hk1.to_below hb0.size (by simp))
 have he:(Instr.enterLoop b.fn a.tmps ps assign body b.roundOf).run P w=.ok (w.heap.size+1,[{ target:=.collected w.heap.size,args:=#[] }]) W1:=by
  rw [<-hW1,hrec,hb,hro]; exact run_enterLoop_outer _ _ _ _ _
 have hres:(resolve a.eval (rangeCall g (w.heap.size+1)) 0).run P W1=.ok { target:=.fn (.func gf) lb,args:=#[.func (.yield (w.heap.size+1)) #[] #[]] } W1:=by
  simp only [resolve,hg]
  simp [go_sem]
 have hinv:(invoke (.fn (.func gf) lb) #[.func (.yield (w.heap.size+1)) #[] #[]]).run P W1=.ok (.enter gf (#[.func (.yield (w.heap.size+1)) #[] #[]] ++ lb)) W1:=by simp [invoke,go_sem,eg]
 have henter:=stepR_rangeFunc (P:=P) (b:=b) (a:=a) (k:=k) (cs:=cs) (w:=w) he hres hinv
 have hcall:CallsIn Fence.wide n P gf (#[.func (.yield (w.heap.size+1)) #[] #[]] ++ lb) W1 (rangePost Fence.wide n P (w.heap.size+1) Q { a with defers:={ target:=.collected w.heap.size,args:=#[] } :: a.defers }):=by
  refine (hseq (w.heap.size+1) n
   (fun wr pre W=>I wr pre W/\W.heap[w.heap.size+1]?=some (.loop (rec .ready none))/\W.heap[w.heap.size]?=some (.deferred (some []))/\∀ g ∈ wr,g < W.heap.size/\g≠w.heap.size+1/\g≠w.heap.size)
   (fun W=>∃ c,Ix c W/\W.heap[w.heap.size+1]?=some (.loop (rec .done (some c)))/\W.heap[w.heap.size]?=some (.deferred (some [])))
   (fun ch W=>Ip ch W/\W.heap[w.heap.size]?=some (.deferred (some [])))
   W1 wr0 hb1 (by omega) (fun h=>by have:=hrd _ h; omega) (fun g hg=>⟨by have:=(hwr g hg).1; omega,(hwr g hg).2,by have:=(hwr g hg).1; omega⟩)
   (fun wr pre A B hs hi=>⟨hI _ _ _ _ hs.1 (hi.fewer (by omega)),hi.block _ _ (fun h=>by have:=hws _ h; omega) hs.2.1 (.inr (by omega)),hi.block _ _ (fun h=>by have:=hws _ h; omega) hs.2.2.1 (.inr (by omega)),fun g hg=>⟨Nat.lt_of_lt_of_le (hs.2.2.2 g hg).1 hi.size,(hs.2.2.2 g hg).2⟩⟩)
   (fun A B hs hi=>by
    obtain ⟨c,hc,hl,hk⟩:=hs
    exact ⟨c,hIx c _ _ hc (hi.fewer (by omega)),hi.block _ _ (fun h=>by have:=hws _ h; omega) hl (.inr (by omega)),hi.block _ _ (fun h=>by have:=hws _ h; omega) hk (.inr (by omega))⟩)
   (fun ch A B hs hi=>⟨hIp _ _ _ hs.1 (hi.fewer (by omega)),hi.block _ _ (fun h=>by have:=hws _ h; omega) hs.2 (.inr (by omega))⟩)
   ?_ ⟨hI1,hL1,hK1,fun g hg=>by have:=(hwr g hg).1; omega⟩).mono ?_
  ·
   rintro m wr pre x W ⟨hi,hl,hk,hwn⟩ hpre
   have hlt:w.heap.size+1 < W.heap.size:=(Array.getElem?_eq_some_iff.1 hl).1
   have hy:=run_yield (P:=P) (args:=encs x) hl (by rw [hrec]; exact hps x)
   rw [hrec] at hy
   refine ⟨f,_,assign,body,hy,?_⟩
   suffices hh:RoundIn Fence.wide n P (w.heap.size+1) f ((ps.zip (encs x)).foldl (fun t (p,v)=>t.setIfInBounds p v) a.tmps) assign body W (fun e W' =>
     (e=.returned (.bool true)/\∃ wr',(I wr' (pre ++ [x]) W'/\W'.heap[w.heap.size+1]?=some (.loop (rec .ready none))/\W'.heap[w.heap.size]?=some (.deferred (some []))/\∀ g ∈ wr',g < W'.heap.size/\g≠w.heap.size+1/\g≠w.heap.size)/\Kept wr W W'/\∀ g ∈ wr',(g ∈ wr\/W.heap.size<=g)/\g < W'.heap.size) \/
     (e=.returned (.bool false)/\(∃ c,Ix c W'/\W'.heap[w.heap.size+1]?=some (.loop (rec .done (some c)))/\W'.heap[w.heap.size]?=some (.deferred (some [])))/\Kept ((w.heap.size+1) :: wr) W W') \/
     (∃ ch,e=.panicked ch/\(Ip ch W'/\W'.heap[w.heap.size]?=some (.deferred (some [])))/\Kept ((w.heap.size+1) :: wr) W W')) from ⟨hh.1,fun c cs _=>hh.2 c cs (room_wide _)⟩
   refine qcl hf (hassign _ wr pre x W _ hi ?_)
   clear hy
   intro a' Wa hka hax
   have hla:Wa.heap[w.heap.size+1]?=some (.loop (rec .ready none)):=(hka.block _ hlt (by simp)).trans hl
   have hda:Wa.heap[w.heap.size]?=some (.deferred (some [])):=(hka.block _ (by omega) (by simp)).trans hk
   have hia:I wr pre Wa:=hI _ _ _ _ hi (IS.of_kept (hka.more (by simp)))
   have hlta:w.heap.size+1 < Wa.heap.size:=Nat.lt_of_lt_of_le hlt hka.size
   refine ⟨_,run_beginRound hla (by rw [hrec]),?_⟩
   obtain ⟨Wb,hWb⟩:∃ Wb,Wb=Wa.putObj (w.heap.size+1) (.loop { rec .ready none with state:=.busy }):=⟨_,rfl⟩
   rw [<-hWb]
   have hl2:Wb.heap[w.heap.size+1]?=some (.loop { rec .ready none with state:=.busy }):=by rw [hWb]; exact World.putObj_heap_same hlta
   have hk2:Wb.heap[w.heap.size]?=some (.deferred (some [])):=by rw [hWb]; exact (World.putObj_heap_other (by omega)).trans hda
   have his:∀ vs,IS vs w.heap.size Wa Wb:=fun vs=>by rw [hWb]; exact IS.putObj hla rfl (by omega)
   have hsb:Wb.heap.size=Wa.heap.size:=by rw [hWb]; simp
   have hother:∀ k,k≠w.heap.size+1->Wb.heap[k]?=Wa.heap[k]?:=fun k hk=>by rw [hWb]; exact World.putObj_heap_other hk
   have hbos:Wb.os=Wa.os/\Wb.tape=Wa.tape/\Wb.output=Wa.output:=by rw [hWb]; exact ⟨rfl,rfl,rfl⟩
   have hwnb:∀ g ∈ wr,g < Wb.heap.size/\g≠w.heap.size+1:=fun g hg=>⟨by have:=(hwn g hg).1; have:=hka.size; omega,(hwn g hg).2.1⟩
   refine wpIn_mono (hbody _ wr pre x a' Wb (by omega) ⟨_,hl2⟩ hwnb (hI _ _ _ _ hia (his ws)) (hAx _ _ _ _ hax (his [])) hpre) ?_
   have fin:∀ (jump:Option Code) (W3:World),Kept wr Wb W3 ->
     (Instr.endRound (w.heap.size+1) jump).run P W3=.ok (.bool jump.isNone) (W3.putObj (w.heap.size+1) (.loop (rec (if jump.isNone then .ready else .done) jump))) /\
     W3.heap[w.heap.size+1]?=some (.loop { rec .ready none with state:=.busy })/\W3.heap[w.heap.size]?=some (.deferred (some [])) /\
     (W3.putObj (w.heap.size+1) (.loop (rec (if jump.isNone then .ready else .done) jump))).heap[w.heap.size+1]?=some (.loop (rec (if jump.isNone then .ready else .done) jump)) /\
     (W3.putObj (w.heap.size+1) (.loop (rec (if jump.isNone then .ready else .done) jump))).heap[w.heap.size]?=some (.deferred (some [])):=fun jump W3 hk3=>by
    have hl3:=(hk3.block _ (by omega) (fun hm=>(hwn _ hm).2.1 rfl)).trans hl2
    have hd3:=(hk3.block _ (by omega) (fun hm=>(hwn _ hm).2.2 rfl)).trans hk2
    have:=run_endRound (P:=P) jump hl3
    rw [hrec] at this ⊢
    exact ⟨this,by rw [hrec] at hl3; exact hl3,hd3,World.putObj_heap_same (Array.getElem?_eq_some_iff.1 hl3).1,(World.putObj_heap_other (by omega)).trans hd3⟩
   have kfin:∀ (W3:World) (o:Obj),Kept wr Wb W3->Kept ((w.heap.size+1) :: wr) W (W3.putObj (w.heap.size+1) o):=fun W3 o hk3 =>
    ⟨hk3.os.trans (hbos.1.trans hka.os),hk3.tape.trans (hbos.2.1.trans hka.tape),hk3.output.trans (hbos.2.2.trans hka.output),by rw [q1c]; have:=hka.size; have:=hk3.size; omega,fun k hk0 hn=>by
     have e1:k≠w.heap.size+1:=fun e=>hn (by rw [e]; exact List.mem_cons_self)
     have e2:k ∉ wr:=fun e=>hn (List.mem_cons_of_mem _ e)
     exact (World.putObj_heap_other e1).trans ((hk3.block k (by have:=hka.size; omega) e2).trans ((hother k e1).trans (hka.block k hk0 (by simp))))⟩
   have kfin2:∀ (W3:World),Kept wr Wb W3->Kept ((w.heap.size+1) :: wr) W W3:=fun W3 hk3 =>
    ⟨hk3.os.trans (hbos.1.trans hka.os),hk3.tape.trans (hbos.2.1.trans hka.tape),hk3.output.trans (hbos.2.2.trans hka.output),by have:=hka.size; have:=hk3.size; omega,fun k hk0 hn=>by
     have e1:k≠w.heap.size+1:=fun e=>hn (by rw [e]; exact List.mem_cons_self)
     have e2:k ∉ wr:=fun e=>hn (List.mem_cons_of_mem _ e)
     exact (hk3.block k (by have:=hka.size; omega) e2).trans ((hother k e1).trans (hka.block k hk0 (by simp)))⟩
   rintro e a3 W3 hp
   cases e with
   | normal =>
    obtain ⟨wr',hi3,hk3,hw3⟩:=hp
    obtain ⟨hr,hl3,hd3,hl4,hk4⟩:=fin none W3 hk3
    have hsz3:=hk3.size
    refine ⟨_,_,hr,.inl ⟨rfl,wr',⟨hI _ _ _ _ hi3 (IS.putObj hl3 rfl (by omega)),hl4,hk4,fun g hg=>?_⟩,⟨?_,?_,?_,?_,?_⟩,fun g hg=>⟨(hw3 g hg).1.imp_right fun h=>by have:=hka.size; omega,by rw [q1c]; exact (hw3 g hg).2⟩⟩⟩
    ·refine ⟨by rw [q1c]; exact (hw3 g hg).2,?_⟩
     rcases (hw3 g hg).1 with h | h
     ·exact (hwn g h).2
     ·omega
    ·exact hk3.os.trans (hbos.1.trans hka.os)
    ·exact hk3.tape.trans (hbos.2.1.trans hka.tape)
    ·exact hk3.output.trans (hbos.2.2.trans hka.output)
    ·rw [q1c]; have:=hka.size; omega
    ·intro k hk0 hn
     by_cases e:k=w.heap.size+1
     ·subst e; exact hl4.trans hl.symm
     ·exact (World.putObj_heap_other e).trans ((hk3.block k (by have:=hka.size; omega) hn).trans ((hother k e).trans (hka.block k hk0 (by simp))))
   | ret =>
    obtain ⟨hk3,hi3⟩:=hp
    obtain ⟨hr,hl3,hd3,hl4,hk4⟩:=fin (some .ret) W3 hk3
    exact ⟨_,_,hr,.inr (.inl ⟨rfl,⟨.ret,hIx _ _ _ hi3 (IS.putObj hl3 rfl (by omega)),hl4,hk4⟩,kfin _ _ hk3⟩)⟩
   | exit id =>
    obtain ⟨hk3,hi3⟩:=hp
    obtain ⟨hr,hl3,hd3,hl4,hk4⟩:=fin (some (.exit id)) W3 hk3
    exact ⟨_,_,hr,.inr (.inl ⟨rfl,⟨.exit id,hIx _ _ _ hi3 (IS.putObj hl3 rfl (by omega)),hl4,hk4⟩,kfin _ _ hk3⟩)⟩
   | goto t =>
    obtain ⟨hk3,hi3⟩:=hp
    obtain ⟨hr,hl3,hd3,hl4,hk4⟩:=fin (some (.goto t)) W3 hk3
    exact ⟨_,_,hr,.inr (.inl ⟨rfl,⟨.goto t,hIx _ _ _ hi3 (IS.putObj hl3 rfl (by omega)),hl4,hk4⟩,kfin _ _ hk3⟩)⟩
   | panic ch =>
    obtain ⟨hd,hk3,hi3⟩:=hp
    obtain ⟨hr,hl3,hd3,hl4,hk4⟩:=fin none W3 hk3
    exact ⟨hd,.inr (.inr ⟨ch,rfl,⟨hi3,hd3⟩,kfin2 _ hk3⟩)⟩
   | outgrown=>exact hp.elim
  ·
   rintro e W2 (⟨v,rfl,(⟨wr,hi,hl,hk,hwn⟩ | ⟨c,hi,hl,hk⟩)⟩ | ⟨ch,rfl,hi,hk⟩)
   ·exact ⟨none,_,by have:=run_endLoop (P:=P) hl (by rw [hrec]; simp); rw [hrec] at this; exact this,hdone _ wr _ (Nat.le_refl _) (hI _ _ _ _ hi (IS.putObj hl rfl (by omega))) ((World.putObj_heap_other (by omega)).trans hk) fun g hg=>(hwn g hg).2.2⟩
   ·exact ⟨some c,_,by have:=run_endLoop (P:=P) hl (by rw [hrec]; simp); rw [hrec] at this; exact this,hstop _ c _ (Nat.le_refl _) (hIx _ _ _ hi (IS.putObj hl rfl (by omega))) ((World.putObj_heap_other (by omega)).trans hk)⟩
   ·exact hthrown _ ch _ (Nat.le_refl _) hi hk
 obtain ⟨e,w₃,fr,hR,hsteps,hfn,hleave⟩:=hcall.2 (b.atR { a with defers:=[{ target:=.collected w.heap.size,args:=#[] }] ++ a.defers } (.inRangeFunc (w.heap.size+1) :: k) :: cs) (room_wide _)
 have h0:∀ m:Machine,m.fenced P Fence.wide:=fun m=>fenced_wide P m
 cases e with
 | outgrown =>
  obtain ⟨a₀,w₀,hq⟩:=hR
  exact ⟨.outgrown,a₀,w₀,hq,.inr (Outgrown.of_steps (.one henter) hsteps)⟩
 | returned v =>
  obtain ⟨jump,w₄,hend,hj⟩:=hR
  have sback:StepsIn (Machine.fenced P Fence.wide) P (lone (b.atR a (.code (.rangeFunc g ps assign body) :: k)) cs w) (lone (b.atR { a with defers:=[{ target:=.collected w.heap.size,args:=#[] }] ++ a.defers } ((jump.map Item.code).toList ++ k)) cs w₄):=by
   refine .head (h0 _) henter (StepsIn.trans hsteps (.head (h0 _) ?_ (.one (h0 _) (stepR_endRangeFunc hend))))
   rw [<-finish_atR_inRangeFunc (w.heap.size+1) v]; exact step_leave_returned hleave
  cases jump with
  | none=>exact ⟨.normal,_,w₄,hj,sback⟩
  | some c =>
   obtain ⟨e',a'',w₅,hq,harr⟩:=hj b k cs hro trivial (room_wide _)
   exact ⟨e',a'',w₅,hq,.of_steps sback harr⟩
 | panicked chain =>
  refine ⟨.panic chain,_,w₃,hR,.inRangeFunc (w.heap.size+1) :: k,.head (h0 _) henter (StepsIn.trans hsteps (.one (h0 _) ?_))⟩
  rw [<-Frame.raise_atR]; exact step_leave_panicked hleave
end
end Go.Proofs.YtlnekijhbnlclaaGreatDoor
