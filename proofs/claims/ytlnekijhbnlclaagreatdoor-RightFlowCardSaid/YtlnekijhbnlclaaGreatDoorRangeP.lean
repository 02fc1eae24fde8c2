/-
  Laws: a range over a function whose body may panic; what the body owns is told to the iterator. No program.
-/
import Derived.Test.YtlnekijhbnlclaaGreatDoorFlowPlain
import Derived.RangeFuncNested
import Derived.RangeFuncBound
import Derived.RangeFuncLeaves
namespace Go.Proofs.YtlnekijhbnlclaaGreatDoor
open Go.RowKit
structure IS (ws:List Nat) (n:Nat) (A B:World):Prop where
 os:B.os=A.os
 tape:B.tape=A.tape
 output:B.output=A.output
 size:A.heap.size<=B.heap.size
 block:∀ k o,k ∉ ws->A.heap[k]?=some o->(o.isCells=true\/k < n)->B.heap[k]?=some o
section
variable {ws:List Nat} {n:Nat} {A B C:World}
theorem IS.refl (ws:List Nat) (n:Nat) (A:World):IS ws n A A:=⟨rfl,rfl,rfl,Nat.le_refl _,fun _ _ _ h _=>h⟩
theorem IS.trans (h:IS ws n A B) (k:IS ws n B C):IS ws n A C :=
 ⟨k.os.trans h.os,k.tape.trans h.tape,k.output.trans h.output,Nat.le_trans h.size k.size,fun i o hi ha hc=>k.block i o hi (h.block i o hi ha hc) hc⟩
theorem IS.of_kept (h:Kept ws A B):IS ws n A B :=
 ⟨h.os,h.tape,h.output,h.size,fun k _ hk ha _=>(h.block k (Array.getElem?_eq_some_iff.1 ha).1 hk).trans ha⟩
theorem IS.fewer {m:Nat} (h:IS ws n A B) (hm:m<=n):IS ws m A B:=⟨h.os,h.tape,h.output,h.size,fun k o hk ha hc=>h.block k o hk ha (hc.imp_right fun h=>Nat.lt_of_lt_of_le h hm)⟩
theorem IS.more {vs:List Nat} (h:IS ws n A B) (hv:∀ g ∈ ws,g ∈ vs):IS vs n A B:=⟨h.os,h.tape,h.output,h.size,fun k o hk ha hc=>h.block k o (fun hm=>hk (hv k hm)) ha hc⟩
theorem IS.putObj {l:Nat} {o o':Obj} (hl:A.heap[l]?=some o) (ho:o.isCells=false) (hn:n<=l):IS ws n A (A.putObj l o') :=
 ⟨rfl,rfl,rfl,by simp,fun k o2 _ ha hc=>by
  refine (World.putObj_heap_other fun e=>?_).trans ha
  subst e
  rw [hl] at ha
  cases ha
  rcases hc with hc | hc
  ·rw [ho] at hc; cases hc
  ·omega⟩
theorem IS.at_ {k:Nat} {o:Obj} (h:IS ws n A B) (hk:k ∉ ws) (ha:A.heap[k]?=some o) (hc:o.isCells=true\/k < n):B.heap[k]?=A.heap[k]?:=(h.block k o hk ha hc).trans ha.symm
theorem Blk.is {g:Nat} {t:TypeId} {cs:Array Value} (h:Blk A g t cs) (hk:IS ws n A B) (hg:g ∉ ws):Blk B g t cs:=hk.block g _ hg h (.inl rfl)
end
theorem q1c (w:World) (l:Nat) (o:Obj):(w.putObj l o).heap.size=w.heap.size:=by simp
section
variable {P:Program}
def wpF (f:FuncId) (P:Program) (c:Code) (Q:Exit->Act->World->Prop) (a:Act) (w:World):Prop :=
 ∀ (b:Frame) (k:List Item) (cs:List Frame),b.roundOf=none->b.fn=f ->
  ∃ e a' w',Q e a' w'/\ArrivesIn (Machine.fenced P Fence.wide) P (lone (b.atR a (.code c :: k)) cs w) b k cs e a' w'
theorem qda {f:FuncId} {n:Nat} {c:Code} {Q:Exit->Act->World->Prop} {a:Act} {w:World} (h:c.wpIn Fence.wide n P Q a w):wpF f P c Q a w :=
 fun b k cs hro _=>h b k cs hro trivial (room_wide _)
theorem qea {f:FuncId} {x y:Code} {Q:Exit->Act->World->Prop} {a:Act} {w:World} (h:wpF f P x (Exit.then (fun a w=>wpF f P y Q a w) Q) a w):wpF f P (.seq x y) Q a w:=by
 intro b k cs hro hb
 have h0:(lone (b.atR a (.code (.seq x y) :: k)) cs w).fenced P Fence.wide:=fenced_wide P _
 obtain ⟨e,a₁,w₁,hq,harr⟩:=h b (.code y :: k) cs hro hb
 cases e with
 | normal =>
  obtain ⟨e₂,a₂,w₂,hq₂,harr₂⟩:=hq b k cs hro hb
  exact ⟨e₂,a₂,w₂,hq₂,.of_steps (.head h0 stepR_seq harr) harr₂⟩
 | exit id=>exact ⟨_,a₁,w₁,hq,.of_steps (.one h0 stepR_seq) (.pass (x:=.code y) rfl (fun _ _=>.inl (by simp)) harr)⟩
 | goto l=>exact ⟨_,a₁,w₁,hq,.of_steps (.one h0 stepR_seq) (.pass (x:=.code y) rfl (fun _ _=>.inl (by simp)) harr)⟩
 | ret=>exact ⟨_,a₁,w₁,hq,.of_steps (.one h0 stepR_seq) (.pass (x:=.code y) rfl (fun _ _=>.inl (by simp)) harr)⟩
 | panic ch=>exact ⟨_,a₁,w₁,hq,.of_steps (.one h0 stepR_seq) (.pass (x:=.code y) rfl (fun _ _=>.inl (by simp)) harr)⟩
 | outgrown=>exact ⟨_,a₁,w₁,hq,.of_steps (.one h0 stepR_seq) (.pass (x:=.code y) rfl (fun _ _=>.inl (by simp)) harr)⟩
theorem qwd {f:FuncId} {id:Nat} {c:Code} {Q:Exit->Act->World->Prop} {a:Act} {w:World} (h:wpF f P c (Exit.inBlock id Q) a w):wpF f P (.block id c) Q a w:=by
 intro b k cs hro hb
 have h0:∀ m:Machine,m.fenced P Fence.wide:=fun m=>fenced_wide P m
 obtain ⟨e,a₁,w₁,hq,harr⟩:=h b (.inBlock id :: k) cs hro hb
 cases e with
 | normal=>exact ⟨.normal,a₁,w₁,hq,.head (h0 _) stepR_block (StepsIn.trans harr (.one (h0 _) stepR_inBlock))⟩
 | exit id' =>
  by_cases hid:id'=id
  ·simp only [Exit.inBlock,hid,if_true] at hq
   exact ⟨.normal,a₁,w₁,hq,.head (h0 _) stepR_block (harr.1 k (by simp [exitTo,hid]))⟩
  ·simp only [Exit.inBlock,hid,if_false] at hq
   have this:(id == id')=false:=by simp; exact fun h=>hid h.symm
   have hx:exitTo id' (.inBlock id :: k)=exitTo id' k:=by simp [exitTo,this]
   exact ⟨.exit id',a₁,w₁,hq,fun k' hk=>.head (h0 _) stepR_block (harr.1 k' (by rw [hx]; exact hk)),
    fun hr' hk=>let ⟨k₁,h1,h2⟩:=harr.2 hr' (by rw [hx]; exact hk); ⟨k₁,h1,.head (h0 _) stepR_block h2⟩⟩
 | goto l =>
  have hx:gotoIn l (.inBlock id :: k)=gotoIn l k:=by simp [gotoIn]
  exact ⟨_,a₁,w₁,hq,fun k' hk=>.head (h0 _) stepR_block (harr.1 k' (by rw [hx]; exact hk)),
   fun hr' hk=>let ⟨k₁,h1,h2⟩:=harr.2 hr' (by rw [hx]; exact hk); ⟨k₁,h1,.head (h0 _) stepR_block h2⟩⟩
 | ret=>exact ⟨_,a₁,w₁,hq,.of_steps (.one (h0 _) stepR_block) harr⟩
 | panic ch=>exact ⟨_,a₁,w₁,hq,.of_steps (.one (h0 _) stepR_block) harr⟩
 | outgrown=>exact ⟨_,a₁,w₁,hq,.of_steps (.one (h0 _) stepR_block) harr⟩
theorem qef {f:FuncId} {n:Nat} {fn:Func} {c:Code} {args:Array Value} {w:World} {R:Ending->World->Prop} (hf:P.funcs[f]?=some fn) (hb:fn.body=some c)
  (h:wpF f P c (bodyPostM Fence.wide n P fn R) { tmps:=args ++ Array.replicate (fn.ntmps - args.size) undef,defers:=[] } w):CallsIn Fence.wide n P f args w R:=by
 refine ⟨trivial,fun cs hr=>?_⟩
 let b:Frame:={ (default:Frame) with fn:=f,kind:=.normal,roundOf:=none }
 have henter:Frame.enter P f args .normal=b.atR { tmps:=args ++ Array.replicate (fn.ntmps - args.size) undef,defers:=[] } [.code c]:=by
  simp [Frame.enter,Frame.atR,hf,hb,b]
 obtain ⟨e,a',w',hq,harr⟩:=h b [] cs rfl rfl
 rw [<-henter] at harr
 cases e with
 | normal =>
  obtain ⟨e',w'',fr',hR,hs,hfn,hl⟩:=leaves_stepsInM a'.defers .returning w' { b.atR a' [] with mode:=.returning } cs rfl rfl rfl hf rfl trivial hr hq
  exact ⟨e',w'',fr',hR,ComesIn.of_steps (StepsIn.trans harr (.one (fenced_calm (fr:=b.atR a' []) (F:=Fence.wide) trivial hr rfl) (stepR_end rfl))) hs,hfn,hl⟩
 | ret =>
  obtain ⟨todo,hs₀⟩:=harr.1 rfl
  obtain ⟨e',w'',fr',hR,hs,hfn,hl⟩:=leaves_stepsInM a'.defers .returning w' { b.atR a' todo with mode:=.returning } cs rfl rfl rfl hf rfl trivial hr hq
  exact ⟨e',w'',fr',hR,ComesIn.of_steps hs₀ hs,hfn,hl⟩
 | panic chain =>
  obtain ⟨todo,hs₀⟩:=harr
  obtain ⟨e',w'',fr',hR,hs,hfn,hl⟩:=leaves_stepsInM a'.defers (.panicking chain) w' { b.atR a' todo with mode:=.panicking chain } cs rfl rfl rfl hf rfl trivial hr hq
  exact ⟨e',w'',fr',hR,ComesIn.of_steps hs₀ hs,hfn,hl⟩
 | exit id=>exact hq.elim
 | goto l=>exact hq.elim
 | outgrown=>exact ⟨.outgrown,w',b,hq,harr.resolve_left (by simp [b]),rfl,trivial⟩
def qau (P:Program) (l:Nat) (R:Ending->World->Prop):Exit->Act->World->Prop
 | .panic ch,a,w=>a.defers=[]/\R (.panicked ch) w
 | e,a,w=>roundPost P l R e a w
theorem qcl {n:Nat} {l:Nat} {f:FuncId} (hf:∃ fn,P.funcs[f]?=some fn) {tmps:Array Value} {assign body:Code} {w:World} {R:Ending->World->Prop}
  (h:assign.wpIn (Fence.wide.inRound l) n P (Exit.then (fun a₁ w₁=>∃ w₂,(Instr.beginRound l).run P w₁=.ok () w₂/\body.wpIn (Fence.wide.inRound l) n P (qau P l R) a₁ w₂) (fun _ _ _=>False))
   { tmps:=tmps,defers:=[] } w):RoundIn Fence.wide n P l f tmps assign body w R:=by
 refine ⟨trivial,fun c cs hr=>?_⟩
 let b:Frame:={ (default:Frame) with fn:=f,kind:=.normal,roundOf:=some l }
 have hb0:Frame.round l f tmps assign body .normal=b.atR { tmps:=tmps,defers:=[] } [.code assign,.beginRound,.code body]:=by
  simp [Frame.round,Frame.atR,b]
 have hr':(Fence.wide.inRound l).room ((c :: cs).length+1+n):=hr
 have hF':(Fence.wide.inRound l).fn b.fn:=trivial
 obtain ⟨e,a₁,w₁,hq,harr⟩:=h b [.beginRound,.code body] (c :: cs) rfl hF' hr'
 rw [<-hb0] at harr
 cases e with
 | normal =>
  obtain ⟨w₂,hbr,hbody⟩:=hq
  have s1:StepsIn (Machine.fenced P (Fence.wide.inRound l)) P (lone (b.atR a₁ [.beginRound,.code body]) (c :: cs) w₁) (lone (b.atR a₁ [.code body]) (c :: cs) w₂) :=
   .one (fenced_calm (fr:=b.atR a₁ [.beginRound,.code body]) hF' hr' rfl) (stepR_beginRound rfl hbr)
  obtain ⟨e₂,a₂,w₃,hq₂,harr₂⟩:=hbody b [] (c :: cs) rfl hF' hr'
  cases e₂ with
  | normal =>
   obtain ⟨v,w₄,hend,hR⟩:=hq₂
   exact ⟨.returned v,w₄,hR,(StepsIn.trans harr s1).trans (StepsIn.trans harr₂ (.one (fenced_calm (fr:=b.atR a₂ []) hF' hr' rfl) (stepR_round_end rfl rfl hend)))⟩
  | ret =>
   obtain ⟨v,w₄,hend,hR⟩:=hq₂
   obtain ⟨k₁,hs⟩:=harr₂.2 rfl
   exact ⟨.returned v,w₄,hR,(StepsIn.trans harr s1).trans (StepsIn.trans hs (.one (fenced_calm (fr:=b.atR a₂ (.code .ret :: k₁)) hF' hr' rfl) (stepR_round_ret rfl rfl hend)))⟩
  | exit id =>
   obtain ⟨v,w₄,hend,hR⟩:=hq₂
   obtain ⟨k₁,hk,hs⟩:=harr₂.2 rfl rfl
   exact ⟨.returned v,w₄,hR,(StepsIn.trans harr s1).trans (StepsIn.trans hs (.one (fenced_calm (fr:=b.atR a₂ (.code (.exit id) :: k₁)) hF' hr' rfl) (stepR_round_exit rfl rfl hk hend)))⟩
  | goto t =>
   obtain ⟨v,w₄,hend,hR⟩:=hq₂
   obtain ⟨k₁,hk,hs⟩:=harr₂.2 rfl rfl
   exact ⟨.returned v,w₄,hR,(StepsIn.trans harr s1).trans (StepsIn.trans hs (.one (fenced_calm (fr:=b.atR a₂ (.code (.goto t) :: k₁)) hF' hr' rfl) (stepR_round_goto rfl rfl hk hend)))⟩
  | panic chain =>
   obtain ⟨hd,hR⟩:=hq₂
   obtain ⟨todo,hs⟩:=harr₂
   have hl:Frame.leaving P { b.atR a₂ todo with mode:=.panicking chain } w₃ (.panicked chain):=⟨rfl,hd,hf⟩
   exact ⟨.panicked chain,w₃,hR,(StepsIn.trans harr s1).trans (StepsIn.trans hs (.one (fenced_wide P _) (step_leave_panicked hl)))⟩
  | outgrown=>exact hq₂.elim
 | exit id=>exact hq.elim
 | goto t=>exact hq.elim
 | ret=>exact hq.elim
 | panic chain=>exact hq.elim
 | outgrown=>exact hq.elim
def SeqP {α:Type} (P:Program) (g:Nat) (lb:Array Value) (encs:α->Array Value) (xs:List α) (ws:List Nat) (rd:Nat->Prop) (w:World):Prop :=
 ∀ (l n:Nat) (J:List Nat->List α->World->Prop) (Jx:World->Prop) (Jp:List PanicEntry->World->Prop) (W:World) (wr0:List Nat),
  Below w.heap.size w W->(∀ g ∈ wr0,g < W.heap.size/\¬ rd g) ->
  (∀ wr pre A B,J wr pre A->IS ws W.heap.size A B->J wr pre B)->(∀ A B,Jx A->IS ws W.heap.size A B->Jx B)->(∀ ch A B,Jp ch A->IS ws W.heap.size A B->Jp ch B) ->
  (∀ m wr pre x W1,J wr pre W1->pre ++ [x] <+: xs->YieldAt Fence.wide m P l (encs x) W1 fun e W' =>
   (e=.returned (.bool true)/\∃ wr',J wr' (pre ++ [x]) W'/\Kept wr W1 W'/\∀ g ∈ wr',(g ∈ wr\/W1.heap.size<=g)/\g < W'.heap.size)\/(e=.returned (.bool false)/\Jx W')\/(∃ ch,e=.panicked ch/\Jp ch W')) ->
  J wr0 [] W ->
  CallsIn Fence.wide n P g (#[.func (.yield l) #[] #[]] ++ lb) W fun e W'=>(∃ v,e=.returned v/\((∃ wr,J wr xs W')\/Jx W'))\/(∃ ch,e=.panicked ch/\Jp ch W')
def q1m {α:Type} (I:List Nat->List α->World->Prop) (Ix:Code->World->Prop) (Ip:List PanicEntry->World->Prop) (wr:List Nat) (xs:List α) (W:World):Exit->Act->World->Prop
 | .normal,_,W'=>∃ wr',I wr' xs W'/\Kept wr W W'/\∀ g ∈ wr',(g ∈ wr\/W.heap.size<=g)/\g < W'.heap.size
 | .ret,_,W'=>Kept wr W W'/\Ix .ret W'
 | .exit id,_,W'=>Kept wr W W'/\Ix (.exit id) W'
 | .goto t,_,W'=>Kept wr W W'/\Ix (.goto t) W'
 | .panic ch,a,W'=>a.defers=[]/\Kept wr W W'/\Ip ch W'
 | .outgrown,_,_=>False
theorem qdh {α:Type} {f:FuncId} (hf:∃ fn,P.funcs[f]?=some fn) {n:Nat} {g:Operand} {ps:Array Tmp} {assign body:Code} {Q:Exit->Act->World->Prop} {a:Act} {w:World}
  {gf:Nat} {lb:Array Value} (hg:a.eval g=.func (.func gf) #[] lb) (eg:∀ args w,(callFunc gf args).run P w=.ok (.enter gf args) w)
  {encs:α->Array Value} {xs:List α} {ws:List Nat} {rd:Nat->Prop} {w0:World} (hseq:SeqP P gf lb encs xs ws rd w0) (hb0:Below w0.heap.size w0 w) (hps:∀ x,(encs x).size=ps.size)
  (wr0:List Nat) (hwr:∀ g ∈ wr0,g < w.heap.size/\¬ rd g)
  (I:List Nat->List α->World->Prop) (Ix:Code->World->Prop) (Ip:List PanicEntry->World->Prop)
  (hI:∀ wr pre A B,I wr pre A->IS ws w.heap.size A B->I wr pre B) (hIx:∀ c A B,Ix c A->IS ws w.heap.size A B->Ix c B) (hIp:∀ ch A B,Ip ch A->IS ws w.heap.size A B->Ip ch B) (hws:∀ g ∈ ws,g < w.heap.size)
  (h0:I wr0 [] w) (Ax:α->Act->World->Prop) (hAx:∀ x a' A B,Ax x a' A->IS [] w.heap.size A B->Ax x a' B)
  (hassign:∀ (l:Nat) (wr:List Nat) (pre:List α) (x:α) (W:World) (K:Act->World->Prop),I wr pre W->(∀ a' W',Kept [] W W'->Ax x a' W'->K a' W') ->
   assign.wpIn (Fence.wide.inRound l) n P (Exit.then K (fun _ _ _=>False)) { tmps:=(ps.zip (encs x)).foldl (fun t (p,v)=>t.setIfInBounds p v) a.tmps,defers:=[] } W)
  (hbody:∀ (l:Nat) (wr:List Nat) (pre:List α) (x:α) (a':Act) (W:World),w.heap.size<=l->(∃ r,W.heap[l]?=some (.loop r))->(∀ g ∈ wr,g < W.heap.size/\g≠l)->I wr pre W->Ax x a' W->pre ++ [x] <+: xs ->
   body.wpIn (Fence.wide.inRound l) n P (q1m I Ix Ip wr (pre ++ [x]) W) a' W)
  (hdone:∀ (D:Nat) (wr:List Nat) (W:World),w.heap.size<=D->I wr xs W->W.heap[D]?=some (.deferred (some []))->Q .normal { a with defers:={ target:=.collected D,args:=#[] } :: a.defers } W)
  (hstop:∀ (D:Nat) (c:Code) (W:World),w.heap.size<=D->Ix c W->W.heap[D]?=some (.deferred (some []))->c.wpIn Fence.wide n P Q { a with defers:={ target:=.collected D,args:=#[] } :: a.defers } W)
  (hthrown:∀ (D:Nat) (ch:List PanicEntry) (W:World),w.heap.size<=D->Ip ch W->W.heap[D]?=some (.deferred (some []))->Q (.panic ch) { a with defers:={ target:=.collected D,args:=#[] } :: a.defers } W) :
  wpF f P (Code.rangeFunc g ps assign body) Q a w:=by
 intro b k cs hro hb
 obtain ⟨rec,hrec⟩:∃ rec:LoopState->Option Code->Loop,rec=fun st pe=>{ state:=st,pending:=pe,fn:=f,tmps:=a.tmps,params:=ps,assign,body,defers:=w.heap.size }:=⟨_,rfl⟩
 obtain ⟨W1,hW1⟩:∃ W1,(w.alloc (.deferred (some []))).alloc (.loop (rec .ready none))=W1:=⟨_,rfl⟩
 have hs1:W1.heap.size=w.heap.size+2:=by rw [<-hW1]; simp
 have hL1:W1.heap[w.heap.size+1]?=some (.loop (rec .ready none)):=by
  rw [<-hW1]; have:=World.alloc_heap_new (w.alloc (.deferred (some []))) (.loop (rec .ready none)); rwa [World.size_alloc] at this
 have hK1:W1.heap[w.heap.size]?=some (.deferred (some [])):=by
  rw [<-hW1]; exact (Below.heap_alloc _ _ _ (by simp)).trans (World.alloc_heap_new w _)
 have hk1:Kept [] w W1:=by rw [<-hW1]; exact ((Kept.refl [] w).alloc _).alloc _
 have hI1:I wr0 [] W1:=hI _ _ _ _ h0 (IS.of_kept (hk1.more (by simp)))
 have hb1:Below w0.heap.size w0 W1:=hb0.trans (hk1.to_below hb0.size (by simp))
 have he:(Instr.enterLoop b.fn a.tmps ps assign body b.roundOf).run P w=.ok (w.heap.size+1,[{ target:=.collected w.heap.size,args:=#[] }]) W1:=by
  rw [<-hW1,hrec,hb,hro]; exact run_enterLoop_outer _ _ _ _ _
 have hres:(resolve a.eval (rangeCall g (w.heap.size+1)) 0).run P W1=.ok { target:=.fn (.func gf) lb,args:=#[.func (.yield (w.heap.size+1)) #[] #[]] } W1:=by
  simp only [resolve,hg]
  simp [go_sem]
 have hinv:(invoke (.fn (.func gf) lb) #[.func (.yield (w.heap.size+1)) #[] #[]]).run P W1=.ok (.enter gf (#[.func (.yield (w.heap.size+1)) #[] #[]] ++ lb)) W1:=by simp [invoke,go_sem,eg]
 have henter:=stepR_rangeFunc (P:=P) (b:=b) (a:=a) (k:=k) (cs:=cs) (w:=w) he hres hinv
 have hcall:CallsIn Fence.wide n P gf (#[.func (.yield (w.heap.size+1)) #[] #[]] ++ lb) W1 (rangePost Fence.wide n P (w.heap.size+1) Q { a with defers:={ target:=.collected w.heap.size,args:=#[] } :: a.defers }):=by
  refine (hseq (w.heap.size+1) n
   (fun wr pre W=>I wr pre W/\W.heap[w.heap.size+1]?=some (.loop (rec .ready none))/\W.heap[w.heap.size]?=some (.deferred (some []))/\∀ g ∈ wr,g < W.heap.size/\g≠w.heap.size+1/\g≠w.heap.size)
   (fun W=>∃ c,Ix c W/\W.heap[w.heap.size+1]?=some (.loop (rec .done (some c)))/\W.heap[w.heap.size]?=some (.deferred (some [])))
   (fun ch W=>Ip ch W/\W.heap[w.heap.size]?=some (.deferred (some [])))
   W1 wr0 hb1 (fun g hg=>⟨by have:=(hwr g hg).1; omega,(hwr g hg).2⟩)
   (fun wr pre A B hs hi=>⟨hI _ _ _ _ hs.1 (hi.fewer (by omega)),hi.block _ _ (fun h=>by have:=hws _ h; omega) hs.2.1 (.inr (by omega)),hi.block _ _ (fun h=>by have:=hws _ h; omega) hs.2.2.1 (.inr (by omega)),fun g hg=>⟨Nat.lt_of_lt_of_le (hs.2.2.2 g hg).1 hi.size,(hs.2.2.2 g hg).2⟩⟩)
   (fun A B hs hi=>by
    obtain ⟨c,hc,hl,hk⟩:=hs
    exact ⟨c,hIx c _ _ hc (hi.fewer (by omega)),hi.block _ _ (fun h=>by have:=hws _ h; omega) hl (.inr (by omega)),hi.block _ _ (fun h=>by have:=hws _ h; omega) hk (.inr (by omega))⟩)
   (fun ch A B hs hi=>⟨hIp _ _ _ hs.1 (hi.fewer (by omega)),hi.block _ _ (fun h=>by have:=hws _ h; omega) hs.2 (.inr (by omega))⟩)
   ?_ ⟨hI1,hL1,hK1,fun g hg=>by have:=(hwr g hg).1; omega⟩).mono ?_
  ·
   rintro m wr pre x W ⟨hi,hl,hk,hwn⟩ hpre
   have hlt:w.heap.size+1 < W.heap.size:=(Array.getElem?_eq_some_iff.1 hl).1
   have hy:=run_yield (P:=P) (args:=encs x) hl (by rw [hrec]; exact hps x)
   rw [hrec] at hy
   refine ⟨f,_,assign,body,hy,?_⟩
   suffices hh:RoundIn Fence.wide n P (w.heap.size+1) f ((ps.zip (encs x)).foldl (fun t (p,v)=>t.setIfInBounds p v) a.tmps) assign body W (fun e W' =>
     (e=.returned (.bool true)/\∃ wr',(I wr' (pre ++ [x]) W'/\W'.heap[w.heap.size+1]?=some (.loop (rec .ready none))/\W'.heap[w.heap.size]?=some (.deferred (some []))/\∀ g ∈ wr',g < W'.heap.size/\g≠w.heap.size+1/\g≠w.heap.size)/\Kept wr W W'/\∀ g ∈ wr',(g ∈ wr\/W.heap.size<=g)/\g < W'.heap.size) \/
     (e=.returned (.bool false)/\∃ c,Ix c W'/\W'.heap[w.heap.size+1]?=some (.loop (rec .done (some c)))/\W'.heap[w.heap.size]?=some (.deferred (some []))) \/
     (∃ ch,e=.panicked ch/\Ip ch W'/\W'.heap[w.heap.size]?=some (.deferred (some [])))) from ⟨hh.1,fun c cs _=>hh.2 c cs (room_wide _)⟩
   refine qcl hf (hassign _ wr pre x W _ hi ?_)
   clear hy
   intro a' Wa hka hax
   have hla:Wa.heap[w.heap.size+1]?=some (.loop (rec .ready none)):=(hka.block _ hlt (by simp)).trans hl
   have hda:Wa.heap[w.heap.size]?=some (.deferred (some [])):=(hka.block _ (by omega) (by simp)).trans hk
   have hia:I wr pre Wa:=hI _ _ _ _ hi (IS.of_kept (hka.more (by simp)))
   have hlta:w.heap.size+1 < Wa.heap.size:=Nat.lt_of_lt_of_le hlt hka.size
   refine ⟨_,run_beginRound hla (by rw [hrec]),?_⟩
   obtain ⟨Wb,hWb⟩:∃ Wb,Wb=Wa.putObj (w.heap.size+1) (.loop { rec .ready none with state:=.busy }):=⟨_,rfl⟩
   rw [<-hWb]
   have hl2:Wb.heap[w.heap.size+1]?=some (.loop { rec .ready none with state:=.busy }):=by rw [hWb]; exact World.putObj_heap_same hlta
   have hk2:Wb.heap[w.heap.size]?=some (.deferred (some [])):=by rw [hWb]; exact (World.putObj_heap_other (by omega)).trans hda
   have his:∀ vs,IS vs w.heap.size Wa Wb:=fun vs=>by rw [hWb]; exact IS.putObj hla rfl (by omega)
   have hsb:Wb.heap.size=Wa.heap.size:=by rw [hWb]; simp
   have hother:∀ k,k≠w.heap.size+1->Wb.heap[k]?=Wa.heap[k]?:=fun k hk=>by rw [hWb]; exact World.putObj_heap_other hk
   have hbos:Wb.os=Wa.os/\Wb.tape=Wa.tape/\Wb.output=Wa.output:=by rw [hWb]; exact ⟨rfl,rfl,rfl⟩
   have hwnb:∀ g ∈ wr,g < Wb.heap.size/\g≠w.heap.size+1:=fun g hg=>⟨by have:=(hwn g hg).1; have:=hka.size; omega,(hwn g hg).2.1⟩
   refine wpIn_mono (hbody _ wr pre x a' Wb (by omega) ⟨_,hl2⟩ hwnb (hI _ _ _ _ hia (his ws)) (hAx _ _ _ _ hax (his [])) hpre) ?_
   have fin:∀ (jump:Option Code) (W3:World),Kept wr Wb W3 ->
     (Instr.endRound (w.heap.size+1) jump).run P W3=.ok (.bool jump.isNone) (W3.putObj (w.heap.size+1) (.loop (rec (if jump.isNone then .ready else .done) jump))) /\
     W3.heap[w.heap.size+1]?=some (.loop { rec .ready none with state:=.busy })/\W3.heap[w.heap.size]?=some (.deferred (some [])) /\
     (W3.putObj (w.heap.size+1) (.loop (rec (if jump.isNone then .ready else .done) jump))).heap[w.heap.size+1]?=some (.loop (rec (if jump.isNone then .ready else .done) jump)) /\
     (W3.putObj (w.heap.size+1) (.loop (rec (if jump.isNone then .ready else .done) jump))).heap[w.heap.size]?=some (.deferred (some [])):=fun jump W3 hk3=>by
    have hl3:=(hk3.block _ (by omega) (fun hm=>(hwn _ hm).2.1 rfl)).trans hl2
    have hd3:=(hk3.block _ (by omega) (fun hm=>(hwn _ hm).2.2 rfl)).trans hk2
    have:=run_endRound (P:=P) jump hl3
    rw [hrec] at this ⊢
    exact ⟨this,by rw [hrec] at hl3; exact hl3,hd3,World.putObj_heap_same (Array.getElem?_eq_some_iff.1 hl3).1,(World.putObj_heap_other (by omega)).trans hd3⟩
   rintro e a3 W3 hp
   cases e with
   | normal =>
    obtain ⟨wr',hi3,hk3,hw3⟩:=hp
    obtain ⟨hr,hl3,hd3,hl4,hk4⟩:=fin none W3 hk3
    have hsz3:=hk3.size
    refine ⟨_,_,hr,.inl ⟨rfl,wr',⟨hI _ _ _ _ hi3 (IS.putObj hl3 rfl (by omega)),hl4,hk4,fun g hg=>?_⟩,⟨?_,?_,?_,?_,?_⟩,fun g hg=>⟨(hw3 g hg).1.imp_right fun h=>by have:=hka.size; omega,by rw [q1c]; exact (hw3 g hg).2⟩⟩⟩
    ·refine ⟨by rw [q1c]; exact (hw3 g hg).2,?_⟩
     rcases (hw3 g hg).1 with h | h
     ·exact (hwn g h).2
     ·omega
    ·exact hk3.os.trans (hbos.1.trans hka.os)
    ·exact hk3.tape.trans (hbos.2.1.trans hka.tape)
    ·exact hk3.output.trans (hbos.2.2.trans hka.output)
    ·rw [q1c]; have:=hka.size; omega
    ·intro k hk0 hn
     by_cases e:k=w.heap.size+1
     ·subst e; exact hl4.trans hl.symm
     ·exact (World.putObj_heap_other e).trans ((hk3.block k (by have:=hka.size; omega) hn).trans ((hother k e).trans (hka.block k hk0 (by simp))))
   | ret =>
    obtain ⟨hk3,hi3⟩:=hp
    obtain ⟨hr,hl3,hd3,hl4,hk4⟩:=fin (some .ret) W3 hk3
    exact ⟨_,_,hr,.inr (.inl ⟨rfl,.ret,hIx _ _ _ hi3 (IS.putObj hl3 rfl (by omega)),hl4,hk4⟩)⟩
   | exit id =>
    obtain ⟨hk3,hi3⟩:=hp
    obtain ⟨hr,hl3,hd3,hl4,hk4⟩:=fin (some (.exit id)) W3 hk3
    exact ⟨_,_,hr,.inr (.inl ⟨rfl,.exit id,hIx _ _ _ hi3 (IS.putObj hl3 rfl (by omega)),hl4,hk4⟩)⟩
   | goto t =>
    obtain ⟨hk3,hi3⟩:=hp
    obtain ⟨hr,hl3,hd3,hl4,hk4⟩:=fin (some (.goto t)) W3 hk3
    exact ⟨_,_,hr,.inr (.inl ⟨rfl,.goto t,hIx _ _ _ hi3 (IS.putObj hl3 rfl (by omega)),hl4,hk4⟩)⟩
   | panic ch =>
    obtain ⟨hd,hk3,hi3⟩:=hp
    obtain ⟨hr,hl3,hd3,hl4,hk4⟩:=fin none W3 hk3
    exact ⟨hd,.inr (.inr ⟨ch,rfl,hi3,hd3⟩)⟩
   | outgrown=>exact hp.elim
  ·
   rintro e W2 (⟨v,rfl,(⟨wr,hi,hl,hk,_⟩ | ⟨c,hi,hl,hk⟩)⟩ | ⟨ch,rfl,hi,hk⟩)
   ·exact ⟨none,_,by have:=run_endLoop (P:=P) hl (by rw [hrec]; simp); rw [hrec] at this; exact this,hdone _ wr _ (Nat.le_refl _) (hI _ _ _ _ hi (IS.putObj hl rfl (by omega))) ((World.putObj_heap_other (by omega)).trans hk)⟩
   ·exact ⟨some c,_,by have:=run_endLoop (P:=P) hl (by rw [hrec]; simp); rw [hrec] at this; exact this,hstop _ c _ (Nat.le_refl _) (hIx _ _ _ hi (IS.putObj hl rfl (by omega))) ((World.putObj_heap_other (by omega)).trans hk)⟩
   ·exact hthrown _ ch _ (Nat.le_refl _) hi hk
 obtain ⟨e,w₃,fr,hR,hsteps,hfn,hleave⟩:=hcall.2 (b.atR { a with defers:=[{ target:=.collected w.heap.size,args:=#[] }] ++ a.defers } (.inRangeFunc (w.heap.size+1) :: k) :: cs) (room_wide _)
 have h0:∀ m:Machine,m.fenced P Fence.wide:=fun m=>fenced_wide P m
 cases e with
 | outgrown =>
  obtain ⟨a₀,w₀,hq⟩:=hR
  exact ⟨.outgrown,a₀,w₀,hq,.inr (Outgrown.of_steps (.one henter) hsteps)⟩
 | returned v =>
  obtain ⟨jump,w₄,hend,hj⟩:=hR
  have sback:StepsIn (Machine.fenced P Fence.wide) P (lone (b.atR a (.code (.rangeFunc g ps assign body) :: k)) cs w) (lone (b.atR { a with defers:=[{ target:=.collected w.heap.size,args:=#[] }] ++ a.defers } ((jump.map Item.code).toList ++ k)) cs w₄):=by
   refine .head (h0 _) henter (StepsIn.trans hsteps (.head (h0 _) ?_ (.one (h0 _) (stepR_endRangeFunc hend))))
   rw [<-finish_atR_inRangeFunc (w.heap.size+1) v]; exact step_leave_returned hleave
  cases jump with
  | none=>exact ⟨.normal,_,w₄,hj,sback⟩
  | some c =>
   obtain ⟨e',a'',w₅,hq,harr⟩:=hj b k cs hro trivial (room_wide _)
   exact ⟨e',a'',w₅,hq,.of_steps sback harr⟩
 | panicked chain =>
  refine ⟨.panic chain,_,w₃,hR,.inRangeFunc (w.heap.size+1) :: k,.head (h0 _) henter (StepsIn.trans hsteps (.one (h0 _) ?_))⟩
  rw [<-Frame.raise_atR]; exact step_leave_panicked hleave
end
end Go.Proofs.YtlnekijhbnlclaaGreatDoor
