/-
  Walks: package block: Stack.
-/
import Derived.Test.YtlnekijhbnlclaaGreatDoorStack
set_option linter.unusedSimpArgs false
set_option linter.unusedVariables false
namespace Go.Proofs.YtlnekijhbnlclaaGreatDoor
open Go.RowKit Go.Shelf
theorem qtg {P:Program} {fn:Func} {p b:Tmp} {ty:TypeId} (h:fn.results=#[.cell p ty,.tmp b]) (tmps:Array Value) (w:World) (g:Nat) (t:TypeId) (cs:Array Value) (fr:Nat×Nat) (d:TypeDesc)
  (hp:tmps.getD p undef=.pointer (some ⟨g,0,none⟩)) (hg:w.heap[g]?=some (.cells cs t fr))
  (hu:P.underlying ty=some d) (hd:(match d with | .struct _ | .array _ _=>true | _=>false)=true) (hi:(P.info? ty).map (·.size)=some cs.size) :
  (results fn tmps).run P w=.ok (.tuple #[.agg cs,tmps.getD b undef]) w:=by
 have hp':tmps[p]?.getD undef=.pointer (some ⟨g,0,none⟩):=by simpa using hp
 simp [results,h,hp',asAddr,run_loadVar_row w g t ty cs fr d hg hu hd hi]
theorem qqq {w:World} {base b2:Nat} {v:Value} {zs:List Int} (h:Owns w base v zs) (hb:b2<=base):Owns w b2 v zs:=by
 obtain ⟨h1,h2⟩:=h
 refine ⟨h1,?_⟩
 rcases h2 with h2 | ⟨g,cap,cur,e,hg,r⟩
 ·exact .inl h2
 ·exact .inr ⟨g,cap,cur,e,by omega,r⟩
theorem qxv (p:Pl) (b:Bool):(endK p b).at_=p.at_:=by
 unfold endK
 split
 ·rfl
 ·split <;> rfl
def q7k (r:Pl×Int) (w:World) (e:Ending) (w':World):Prop :=
 ∃ av,e=.returned (.tuple #[.agg (skC r.1 av).toArray,.int .i64 r.2])/\Below w.heap.size w w'/\Owns w' w.heap.size av r.1.at_
def pileN (l:List Kd) (above:Bool) (k:Nat):Pl:=(l.take k).foldl putK (pile0 above)
theorem q1t (p:Pl) (k:Kd):(putK p k).at_.length=p.at_.length+1:=by
 unfold putK
 dsimp only
 split
 ·simp
 ·split <;> simp
theorem q6m:∀ (l:List Kd) (p:Pl),(l.foldl putK p).at_.length=p.at_.length+l.length
 | [],p=>by simp
 | k :: l,p=>by
  rw [List.foldl_cons,q6m l,q1t,List.length_cons]
  omega
theorem qyo (l:List Kd) (above:Bool) (k:Nat):(pileN l above k).at_.length<=k:=by
 unfold pileN
 rw [q6m,List.length_take]
 simp only [pile0,List.length_nil]
 omega
theorem q1u (l:List Kd) (above:Bool) (k:Nat) (hk:k < l.length):pileN l above (k+1)=putK (pileN l above k) l[k]:=by
 unfold pileN
 rw [List.take_succ_eq_append_getElem hk,List.foldl_append,List.foldl_cons,List.foldl_nil]
def Pils (l:List Kd) (above:Bool) (g:Nat) (w0 wb:World) (i:Value) (wr:World):Prop :=
 ∃ (k:Nat) (av:Value),k<=l.length/\i=.int .i64 k/\Below w0.heap.size w0 wr/\Below g wb wr/\Blk wr g 232 (plC (pileN l above k) av).toArray/\Owns wr (g+1) av (pileN l above k).at_
set_option maxRecDepth 100000 in
set_option maxHeartbeats 40000000 in
theorem qft (l:List Kd) (above below:Bool) (v:Value) (B:Nat) (w:World) (h:Kids w B v l) (hB:B<=w.heap.size) :
  Calls Tryz.prog 114 #[v,.bool above,.bool below] w (q7k (q0a l above below) w):=by
 obtain ⟨W,hW,hbel0,hr,-⟩:=qya w 177 [.slice none 0 0,.int .i64 0,.int .i64 0,.int .i64 0,.int .i64 0,.int .i64 0,.bool false]
 have hk0:=h.below (hbel0.mono hB)
 have hBW:B<=W.heap.size:=Nat.le_trans hB hbel0.size
 have hck:=fun W' (hw:W=W')=>hw ▸ qru l v B W hk0 hBW
 obtain ⟨c0,hc0⟩:∃ c,qlb l=c:=⟨_,rfl⟩
 rw [hc0] at hck
 have HCK:=Lib.hid hc0
 have hl:c0=0->l.length<=2048:=fun hz=>by
  rw [<-hc0] at hz
  unfold qlb at hz
  split at hz
  ·omega
  ·omega
 clear hc0
 obtain ⟨A,c,rfl,hc,hf⟩:=h
 have hZ:(if qlb l=0 then True else q0a l above below=(pile0 false,qlb l)):=by
  split
  ·trivial
  ·rename_i hz
   unfold q0a
   rw [if_pos hz]
 have HZ:=Lib.hid hZ
 clear hZ
 by_cases hz:c0=0
 ·subst hz
  have h1:=hl rfl
  clear hl
  go_enter Tryz.func114,Tryz.ntmps114
  go_wp2_with (go_at_call 143; refine (hck _ hW).mono ?_; rintro e w1 ⟨rfl,hb1⟩; have hb1:Below W.heap.size W w1:=hW ▸ hb1; have hr1:=hr.below hb1 hr.lt; have fr:=hr1.frozen; have r0:w1.cell? ⟨w.heap.size,0,none⟩=some (.slice none 0 0):=hr1.cell 0; have r1:w1.cell? ⟨w.heap.size,1,none⟩=some (.int .i64 0):=hr1.cell 1; have r2:w1.cell? ⟨w.heap.size,2,none⟩=some (.int .i64 0):=hr1.cell 2; have r3:w1.cell? ⟨w.heap.size,3,none⟩=some (.int .i64 0):=hr1.cell 3; have r4:w1.cell? ⟨w.heap.size,4,none⟩=some (.int .i64 0):=hr1.cell 4; have r5:w1.cell? ⟨w.heap.size,5,none⟩=some (.int .i64 0):=hr1.cell 5; have r6:w1.cell? ⟨w.heap.size,6,none⟩=some (.bool false):=hr1.cell 6)
  have hg0:Blk (w1.alloc (.cells (plC (pile0 above) (.slice none 0 0)).toArray 232)) w1.heap.size 232 (plC (pile0 above) (.slice none 0 0)).toArray:=Blk.new w1 _ _
  have hbw1:Below w.heap.size w w1:=hbel0.trans (hb1.mono hbel0.size)
  have hbwb:Below w.heap.size w (w1.alloc (.cells (plC (pile0 above) (.slice none 0 0)).toArray 232)):=hbw1.alloc hbw1.size _
  go_loopw [24] (Pils l above w1.heap.size w (w1.alloc (.cells (plC (pile0 above) (.slice none 0 0)).toArray 232))) (fun i _=>l.length - (intOf i).toNat)
  case atStart=>exact ⟨0,.slice none 0 0,by omega,rfl,hbwb,Below.refl _ _,hg0,Owns.nil _ _⟩
  case round =>
   obtain ⟨k,av,hk,rfl,hbe,hbg,hG,hO⟩:=hrel
   have hlen:=qyo l above k
   by_cases hlt:k < l.length
   ·obtain ⟨ad,rfl,hbk,hat⟩:=hf (by omega)
    obtain ⟨k0,k1,k2,k3,k4,k5⟩:=(hat k hlt).below hbe (by rw [qac]; omega)
    have HP:=Lib.hid (q1u l above k hlt)
    generalize l[k]=x at *
    clear hat hf
    obtain ⟨⟨t1,t2⟩,⟨b1,b2⟩,hh,th⟩:=x
    simp only at k0 k1 k2 k3 k4 k5
    have hput:=qpu (pileN l above k) ⟨(t1,t2),(b1,b2),hh,th⟩ av w1.heap.size _ (hG.alloc (.cells #[.int .i64 t1,.int .i64 t2,.int .i64 b1,.int .i64 b2,.int .i64 hh,.bool th] 171)) (hO.alloc _) (by omega)
    simp only [kdC] at hput
    go_wp2_with (go_at_call 144; refine hput.mono ?_; rintro e w9 ⟨rfl,hb9,av9,hG9,hO9⟩)
    exact ⟨⟨k+1,av9,hlt,by go_num,(hbe.alloc hbe.size _).trans (hb9.mono hbw1.size),(hbg.alloc (Nat.le_of_lt hG.lt) _).trans hb9,by rw [HP.out]; exact hG9,by rw [HP.out]; exact hO9⟩,by simp [intOf]; omega⟩
   ·obtain rfl:k=l.length:=by omega
    have hwg:w.heap.size < w1.heap.size+1:=Nat.lt_succ_of_le hbw1.size
    have hr1g:w.heap.size < w1.heap.size:=hr1.lt
    have hbg2:Below w1.heap.size w1 wr:=((Below.refl _ w1).alloc (Nat.le_refl _) _).trans hbg
    have hlen2:(endK (pileN l above l.length) below).at_.length<=9223372036854775807:=by rw [qxv]; omega
    have hST:q0a l above below=if ((endK (pileN l above l.length) below).at_.all fit && fit (endK (pileN l above l.length) below).height)=true then (endK (pileN l above l.length) below,0) else (pile0 false,10):=by
     unfold q0a
     rw [if_neg (by rw [HCK.out]; simp)]
     unfold qne pileN
     rw [List.take_length]
    have hend:=qiv (pileN l above l.length) below av w1.heap.size _ hG hO
    clear hO
    obtain ⟨q,hq⟩:∃ q,endK (pileN l above l.length) below=q:=⟨_,rfl⟩
    rw [hq] at hST hend hlen2
    clear hq
    have hqn:=hlen2
    clear hlen2
    unfold quk skC at hend
    obtain ⟨fa,hfa⟩:∃ b,q.at_.all fit=b:=⟨_,rfl⟩
    obtain ⟨fh,hfh⟩:∃ b,fit q.height=b:=⟨_,rfl⟩
    rw [hfa,hfh] at hST
    skip
    cases fa
    ·have HST:=Lib.hid (show q0a l above below=(pile0 false,10) from hST)
     clear hST
     go_wp2_with (go_at_call 145; refine hend.mono ?_; rintro e w9 ⟨av9,rfl,hb9,hO⟩; obtain ⟨A9,n9,c9,rfl⟩:=qpd hO; have hR:=(hr1.below hbg2 hr1g).below hb9 hr1g; have hbe:=hbe.trans (hb9.mono hbw1.size))
     with_reducible refine (qhc q.at_ (.slice A9 n9 c9) _ _ (Owns.ints (Owns.alloc hO (.cells #[.slice A9 n9 c9,.int .i64 q.height,.int .i64 q.top.1,.int .i64 q.top.2,.int .i64 q.bottom.1,.int .i64 q.bottom.2,.bool q.through] 177))) hqn).mono ?_
     rw [hfa]
     rintro e wx ⟨rfl,hwx⟩
     have hO:Owns wx (w1.heap.size+1) (.slice A9 n9 c9) q.at_:=hwx ▸ hO.alloc (.cells #[.slice A9 n9 c9,.int .i64 q.height,.int .i64 q.top.1,.int .i64 q.top.2,.int .i64 q.bottom.1,.int .i64 q.bottom.2,.bool q.through] 177)
     have hC:Blk wx w9.heap.size 177 #[.slice A9 n9 c9,.int .i64 q.height,.int .i64 q.top.1,.int .i64 q.top.2,.int .i64 q.bottom.1,.int .i64 q.bottom.2,.bool q.through]:=hwx ▸ (Blk.new w9 177 #[.slice A9 n9 c9,.int .i64 q.height,.int .i64 q.top.1,.int .i64 q.top.2,.int .i64 q.bottom.1,.int .i64 q.bottom.2,.bool q.through])
     have hR:Blk wx w.heap.size 177 #[.slice none 0 0,.int .i64 0,.int .i64 0,.int .i64 0,.int .i64 0,.int .i64 0,.bool false]:=hwx ▸ hR.alloc (.cells #[.slice A9 n9 c9,.int .i64 q.height,.int .i64 q.top.1,.int .i64 q.top.2,.int .i64 q.bottom.1,.int .i64 q.bottom.2,.bool q.through] 177)
     have hbe:Below w.heap.size w wx:=hwx ▸ hbe.alloc hbe.size (.cells #[.slice A9 n9 c9,.int .i64 q.height,.int .i64 q.top.1,.int .i64 q.top.2,.int .i64 q.bottom.1,.int .i64 q.bottom.2,.bool q.through] 177)
     clear hwx
     have fR:=hR.frozen
     have c0:wx.cell? ⟨w9.heap.size,0,none⟩=some (.slice A9 n9 c9):=hC.cell 0
     have c1:wx.cell? ⟨w9.heap.size,1,none⟩=some (.int .i64 q.height):=hC.cell 1
     have c2:wx.cell? ⟨w9.heap.size,2,none⟩=some (.int .i64 q.top.1):=hC.cell 2
     have c3:wx.cell? ⟨w9.heap.size,3,none⟩=some (.int .i64 q.top.2):=hC.cell 3
     have c4:wx.cell? ⟨w9.heap.size,4,none⟩=some (.int .i64 q.bottom.1):=hC.cell 4
     have c5:wx.cell? ⟨w9.heap.size,5,none⟩=some (.int .i64 q.bottom.2):=hC.cell 5
     have c6:wx.cell? ⟨w9.heap.size,6,none⟩=some (.bool q.through):=hC.cell 6
     have r0:wx.cell? ⟨w.heap.size,0,none⟩=some (.slice none 0 0):=hR.cell 0
     have r1:wx.cell? ⟨w.heap.size,1,none⟩=some (.int .i64 0):=hR.cell 1
     have r2:wx.cell? ⟨w.heap.size,2,none⟩=some (.int .i64 0):=hR.cell 2
     have r3:wx.cell? ⟨w.heap.size,3,none⟩=some (.int .i64 0):=hR.cell 3
     have r4:wx.cell? ⟨w.heap.size,4,none⟩=some (.int .i64 0):=hR.cell 4
     have r5:wx.cell? ⟨w.heap.size,5,none⟩=some (.int .i64 0):=hR.cell 5
     have r6:wx.cell? ⟨w.heap.size,6,none⟩=some (.bool false):=hR.cell 6
     go_wp2_with fail
     have hr2:=(((((((hR).set_ 0 (.slice none 0 0)).set_ 1 (.int .i64 0)).set_ 2 (.int .i64 0)).set_ 3 (.int .i64 0)).set_ 4 (.int .i64 0)).set_ 5 (.int .i64 0)).set_ 6 (.bool false)
     have hb2:=(((((((hbe).setCell (p:=⟨w.heap.size,0,none⟩) (Nat.le_refl _) (.slice none 0 0)).setCell (p:=⟨w.heap.size,1,none⟩) (Nat.le_refl _) (.int .i64 0)).setCell (p:=⟨w.heap.size,2,none⟩) (Nat.le_refl _) (.int .i64 0)).setCell (p:=⟨w.heap.size,3,none⟩) (Nat.le_refl _) (.int .i64 0)).setCell (p:=⟨w.heap.size,4,none⟩) (Nat.le_refl _) (.int .i64 0)).setCell (p:=⟨w.heap.size,5,none⟩) (Nat.le_refl _) (.int .i64 0)).setCell (p:=⟨w.heap.size,6,none⟩) (Nat.le_refl _) (.bool false)
     simp only [zA,zB,zC] at hr2
     rw [HST.out]
     refine bodyPost_ret (qtg rfl _ _ w.heap.size 177 (skC (pile0 false) (.slice none 0 0)).toArray (0,0) _ rfl hr2 Tryz.underlying177 rfl qod) rfl ?_
     exact ⟨_,rfl,hb2,Owns.nil _ _⟩
    ·cases fh
     ·have HST:=Lib.hid (show q0a l above below=(pile0 false,10) from hST)
      clear hST
      go_wp2_with (go_at_call 145; refine hend.mono ?_; rintro e w9 ⟨av9,rfl,hb9,hO⟩; obtain ⟨A9,n9,c9,rfl⟩:=qpd hO; have hR:=(hr1.below hbg2 hr1g).below hb9 hr1g; have hbe:=hbe.trans (hb9.mono hbw1.size))
      with_reducible refine (qhc q.at_ (.slice A9 n9 c9) _ _ (Owns.ints (Owns.alloc hO (.cells #[.slice A9 n9 c9,.int .i64 q.height,.int .i64 q.top.1,.int .i64 q.top.2,.int .i64 q.bottom.1,.int .i64 q.bottom.2,.bool q.through] 177))) hqn).mono ?_
      rw [hfa]
      rintro e wx ⟨rfl,hwx⟩
      have hO:Owns wx (w1.heap.size+1) (.slice A9 n9 c9) q.at_:=hwx ▸ hO.alloc (.cells #[.slice A9 n9 c9,.int .i64 q.height,.int .i64 q.top.1,.int .i64 q.top.2,.int .i64 q.bottom.1,.int .i64 q.bottom.2,.bool q.through] 177)
      have hC:Blk wx w9.heap.size 177 #[.slice A9 n9 c9,.int .i64 q.height,.int .i64 q.top.1,.int .i64 q.top.2,.int .i64 q.bottom.1,.int .i64 q.bottom.2,.bool q.through]:=hwx ▸ (Blk.new w9 177 #[.slice A9 n9 c9,.int .i64 q.height,.int .i64 q.top.1,.int .i64 q.top.2,.int .i64 q.bottom.1,.int .i64 q.bottom.2,.bool q.through])
      have hR:Blk wx w.heap.size 177 #[.slice none 0 0,.int .i64 0,.int .i64 0,.int .i64 0,.int .i64 0,.int .i64 0,.bool false]:=hwx ▸ hR.alloc (.cells #[.slice A9 n9 c9,.int .i64 q.height,.int .i64 q.top.1,.int .i64 q.top.2,.int .i64 q.bottom.1,.int .i64 q.bottom.2,.bool q.through] 177)
      have hbe:Below w.heap.size w wx:=hwx ▸ hbe.alloc hbe.size (.cells #[.slice A9 n9 c9,.int .i64 q.height,.int .i64 q.top.1,.int .i64 q.top.2,.int .i64 q.bottom.1,.int .i64 q.bottom.2,.bool q.through] 177)
      clear hwx
      have fR:=hR.frozen
      have c0:wx.cell? ⟨w9.heap.size,0,none⟩=some (.slice A9 n9 c9):=hC.cell 0
      have c1:wx.cell? ⟨w9.heap.size,1,none⟩=some (.int .i64 q.height):=hC.cell 1
      have c2:wx.cell? ⟨w9.heap.size,2,none⟩=some (.int .i64 q.top.1):=hC.cell 2
      have c3:wx.cell? ⟨w9.heap.size,3,none⟩=some (.int .i64 q.top.2):=hC.cell 3
      have c4:wx.cell? ⟨w9.heap.size,4,none⟩=some (.int .i64 q.bottom.1):=hC.cell 4
      have c5:wx.cell? ⟨w9.heap.size,5,none⟩=some (.int .i64 q.bottom.2):=hC.cell 5
      have c6:wx.cell? ⟨w9.heap.size,6,none⟩=some (.bool q.through):=hC.cell 6
      have r0:wx.cell? ⟨w.heap.size,0,none⟩=some (.slice none 0 0):=hR.cell 0
      have r1:wx.cell? ⟨w.heap.size,1,none⟩=some (.int .i64 0):=hR.cell 1
      have r2:wx.cell? ⟨w.heap.size,2,none⟩=some (.int .i64 0):=hR.cell 2
      have r3:wx.cell? ⟨w.heap.size,3,none⟩=some (.int .i64 0):=hR.cell 3
      have r4:wx.cell? ⟨w.heap.size,4,none⟩=some (.int .i64 0):=hR.cell 4
      have r5:wx.cell? ⟨w.heap.size,5,none⟩=some (.int .i64 0):=hR.cell 5
      have r6:wx.cell? ⟨w.heap.size,6,none⟩=some (.bool false):=hR.cell 6
      go_wp2_with fail
      with_reducible refine (qmc q.height _ _).mono ?_
      rw [hfh]
      rintro e wy ⟨rfl,hwy⟩
      have hO:Owns wy (w1.heap.size+1) (.slice A9 n9 c9) q.at_:=hwy ▸ hO.alloc (.cells #[.int .i64 q.height] 3)
      have hC:Blk wy w9.heap.size 177 #[.slice A9 n9 c9,.int .i64 q.height,.int .i64 q.top.1,.int .i64 q.top.2,.int .i64 q.bottom.1,.int .i64 q.bottom.2,.bool q.through]:=hwy ▸ hC.alloc (.cells #[.int .i64 q.height] 3)
      have hR:Blk wy w.heap.size 177 #[.slice none 0 0,.int .i64 0,.int .i64 0,.int .i64 0,.int .i64 0,.int .i64 0,.bool false]:=hwy ▸ hR.alloc (.cells #[.int .i64 q.height] 3)
      have hbe:Below w.heap.size w wy:=hwy ▸ hbe.alloc hbe.size (.cells #[.int .i64 q.height] 3)
      clear hwy
      have fR:=hR.frozen
      have c0:wy.cell? ⟨w9.heap.size,0,none⟩=some (.slice A9 n9 c9):=hC.cell 0
      have c1:wy.cell? ⟨w9.heap.size,1,none⟩=some (.int .i64 q.height):=hC.cell 1
      have c2:wy.cell? ⟨w9.heap.size,2,none⟩=some (.int .i64 q.top.1):=hC.cell 2
      have c3:wy.cell? ⟨w9.heap.size,3,none⟩=some (.int .i64 q.top.2):=hC.cell 3
      have c4:wy.cell? ⟨w9.heap.size,4,none⟩=some (.int .i64 q.bottom.1):=hC.cell 4
      have c5:wy.cell? ⟨w9.heap.size,5,none⟩=some (.int .i64 q.bottom.2):=hC.cell 5
      have c6:wy.cell? ⟨w9.heap.size,6,none⟩=some (.bool q.through):=hC.cell 6
      have r0:wy.cell? ⟨w.heap.size,0,none⟩=some (.slice none 0 0):=hR.cell 0
      have r1:wy.cell? ⟨w.heap.size,1,none⟩=some (.int .i64 0):=hR.cell 1
      have r2:wy.cell? ⟨w.heap.size,2,none⟩=some (.int .i64 0):=hR.cell 2
      have r3:wy.cell? ⟨w.heap.size,3,none⟩=some (.int .i64 0):=hR.cell 3
      have r4:wy.cell? ⟨w.heap.size,4,none⟩=some (.int .i64 0):=hR.cell 4
      have r5:wy.cell? ⟨w.heap.size,5,none⟩=some (.int .i64 0):=hR.cell 5
      have r6:wy.cell? ⟨w.heap.size,6,none⟩=some (.bool false):=hR.cell 6
      go_wp2_with fail
      have hr2:=(((((((hR).set_ 0 (.slice none 0 0)).set_ 1 (.int .i64 0)).set_ 2 (.int .i64 0)).set_ 3 (.int .i64 0)).set_ 4 (.int .i64 0)).set_ 5 (.int .i64 0)).set_ 6 (.bool false)
      have hb2:=(((((((hbe).setCell (p:=⟨w.heap.size,0,none⟩) (Nat.le_refl _) (.slice none 0 0)).setCell (p:=⟨w.heap.size,1,none⟩) (Nat.le_refl _) (.int .i64 0)).setCell (p:=⟨w.heap.size,2,none⟩) (Nat.le_refl _) (.int .i64 0)).setCell (p:=⟨w.heap.size,3,none⟩) (Nat.le_refl _) (.int .i64 0)).setCell (p:=⟨w.heap.size,4,none⟩) (Nat.le_refl _) (.int .i64 0)).setCell (p:=⟨w.heap.size,5,none⟩) (Nat.le_refl _) (.int .i64 0)).setCell (p:=⟨w.heap.size,6,none⟩) (Nat.le_refl _) (.bool false)
      simp only [zA,zB,zC] at hr2
      rw [HST.out]
      refine bodyPost_ret (qtg rfl _ _ w.heap.size 177 (skC (pile0 false) (.slice none 0 0)).toArray (0,0) _ rfl hr2 Tryz.underlying177 rfl qod) rfl ?_
      exact ⟨_,rfl,hb2,Owns.nil _ _⟩
     ·have HST:=Lib.hid (show q0a l above below=(q,0) from hST)
      clear hST
      go_wp2_with (go_at_call 145; refine hend.mono ?_; rintro e w9 ⟨av9,rfl,hb9,hO⟩; obtain ⟨A9,n9,c9,rfl⟩:=qpd hO; have hR:=(hr1.below hbg2 hr1g).below hb9 hr1g; have hbe:=hbe.trans (hb9.mono hbw1.size))
      with_reducible refine (qhc q.at_ (.slice A9 n9 c9) _ _ (Owns.ints (Owns.alloc hO (.cells #[.slice A9 n9 c9,.int .i64 q.height,.int .i64 q.top.1,.int .i64 q.top.2,.int .i64 q.bottom.1,.int .i64 q.bottom.2,.bool q.through] 177))) hqn).mono ?_
      rw [hfa]
      rintro e wx ⟨rfl,hwx⟩
      have hO:Owns wx (w1.heap.size+1) (.slice A9 n9 c9) q.at_:=hwx ▸ hO.alloc (.cells #[.slice A9 n9 c9,.int .i64 q.height,.int .i64 q.top.1,.int .i64 q.top.2,.int .i64 q.bottom.1,.int .i64 q.bottom.2,.bool q.through] 177)
      have hC:Blk wx w9.heap.size 177 #[.slice A9 n9 c9,.int .i64 q.height,.int .i64 q.top.1,.int .i64 q.top.2,.int .i64 q.bottom.1,.int .i64 q.bottom.2,.bool q.through]:=hwx ▸ (Blk.new w9 177 #[.slice A9 n9 c9,.int .i64 q.height,.int .i64 q.top.1,.int .i64 q.top.2,.int .i64 q.bottom.1,.int .i64 q.bottom.2,.bool q.through])
      have hR:Blk wx w.heap.size 177 #[.slice none 0 0,.int .i64 0,.int .i64 0,.int .i64 0,.int .i64 0,.int .i64 0,.bool false]:=hwx ▸ hR.alloc (.cells #[.slice A9 n9 c9,.int .i64 q.height,.int .i64 q.top.1,.int .i64 q.top.2,.int .i64 q.bottom.1,.int .i64 q.bottom.2,.bool q.through] 177)
      have hbe:Below w.heap.size w wx:=hwx ▸ hbe.alloc hbe.size (.cells #[.slice A9 n9 c9,.int .i64 q.height,.int .i64 q.top.1,.int .i64 q.top.2,.int .i64 q.bottom.1,.int .i64 q.bottom.2,.bool q.through] 177)
      clear hwx
      have fR:=hR.frozen
      have c0:wx.cell? ⟨w9.heap.size,0,none⟩=some (.slice A9 n9 c9):=hC.cell 0
      have c1:wx.cell? ⟨w9.heap.size,1,none⟩=some (.int .i64 q.height):=hC.cell 1
      have c2:wx.cell? ⟨w9.heap.size,2,none⟩=some (.int .i64 q.top.1):=hC.cell 2
      have c3:wx.cell? ⟨w9.heap.size,3,none⟩=some (.int .i64 q.top.2):=hC.cell 3
      have c4:wx.cell? ⟨w9.heap.size,4,none⟩=some (.int .i64 q.bottom.1):=hC.cell 4
      have c5:wx.cell? ⟨w9.heap.size,5,none⟩=some (.int .i64 q.bottom.2):=hC.cell 5
      have c6:wx.cell? ⟨w9.heap.size,6,none⟩=some (.bool q.through):=hC.cell 6
      have r0:wx.cell? ⟨w.heap.size,0,none⟩=some (.slice none 0 0):=hR.cell 0
      have r1:wx.cell? ⟨w.heap.size,1,none⟩=some (.int .i64 0):=hR.cell 1
      have r2:wx.cell? ⟨w.heap.size,2,none⟩=some (.int .i64 0):=hR.cell 2
      have r3:wx.cell? ⟨w.heap.size,3,none⟩=some (.int .i64 0):=hR.cell 3
      have r4:wx.cell? ⟨w.heap.size,4,none⟩=some (.int .i64 0):=hR.cell 4
      have r5:wx.cell? ⟨w.heap.size,5,none⟩=some (.int .i64 0):=hR.cell 5
      have r6:wx.cell? ⟨w.heap.size,6,none⟩=some (.bool false):=hR.cell 6
      go_wp2_with fail
      with_reducible refine (qmc q.height _ _).mono ?_
      rw [hfh]
      rintro e wy ⟨rfl,hwy⟩
      have hO:Owns wy (w1.heap.size+1) (.slice A9 n9 c9) q.at_:=hwy ▸ hO.alloc (.cells #[.int .i64 q.height] 3)
      have hC:Blk wy w9.heap.size 177 #[.slice A9 n9 c9,.int .i64 q.height,.int .i64 q.top.1,.int .i64 q.top.2,.int .i64 q.bottom.1,.int .i64 q.bottom.2,.bool q.through]:=hwy ▸ hC.alloc (.cells #[.int .i64 q.height] 3)
      have hR:Blk wy w.heap.size 177 #[.slice none 0 0,.int .i64 0,.int .i64 0,.int .i64 0,.int .i64 0,.int .i64 0,.bool false]:=hwy ▸ hR.alloc (.cells #[.int .i64 q.height] 3)
      have hbe:Below w.heap.size w wy:=hwy ▸ hbe.alloc hbe.size (.cells #[.int .i64 q.height] 3)
      clear hwy
      have fR:=hR.frozen
      have c0:wy.cell? ⟨w9.heap.size,0,none⟩=some (.slice A9 n9 c9):=hC.cell 0
      have c1:wy.cell? ⟨w9.heap.size,1,none⟩=some (.int .i64 q.height):=hC.cell 1
      have c2:wy.cell? ⟨w9.heap.size,2,none⟩=some (.int .i64 q.top.1):=hC.cell 2
      have c3:wy.cell? ⟨w9.heap.size,3,none⟩=some (.int .i64 q.top.2):=hC.cell 3
      have c4:wy.cell? ⟨w9.heap.size,4,none⟩=some (.int .i64 q.bottom.1):=hC.cell 4
      have c5:wy.cell? ⟨w9.heap.size,5,none⟩=some (.int .i64 q.bottom.2):=hC.cell 5
      have c6:wy.cell? ⟨w9.heap.size,6,none⟩=some (.bool q.through):=hC.cell 6
      have r0:wy.cell? ⟨w.heap.size,0,none⟩=some (.slice none 0 0):=hR.cell 0
      have r1:wy.cell? ⟨w.heap.size,1,none⟩=some (.int .i64 0):=hR.cell 1
      have r2:wy.cell? ⟨w.heap.size,2,none⟩=some (.int .i64 0):=hR.cell 2
      have r3:wy.cell? ⟨w.heap.size,3,none⟩=some (.int .i64 0):=hR.cell 3
      have r4:wy.cell? ⟨w.heap.size,4,none⟩=some (.int .i64 0):=hR.cell 4
      have r5:wy.cell? ⟨w.heap.size,5,none⟩=some (.int .i64 0):=hR.cell 5
      have r6:wy.cell? ⟨w.heap.size,6,none⟩=some (.bool false):=hR.cell 6
      go_wp2_with fail
      have hr2:=(((((((hR).set_ 0 (.slice A9 n9 c9)).set_ 1 (.int .i64 q.height)).set_ 2 (.int .i64 q.top.1)).set_ 3 (.int .i64 q.top.2)).set_ 4 (.int .i64 q.bottom.1)).set_ 5 (.int .i64 q.bottom.2)).set_ 6 (.bool q.through)
      have hb2:=(((((((hbe).setCell (p:=⟨w.heap.size,0,none⟩) (Nat.le_refl _) (.slice A9 n9 c9)).setCell (p:=⟨w.heap.size,1,none⟩) (Nat.le_refl _) (.int .i64 q.height)).setCell (p:=⟨w.heap.size,2,none⟩) (Nat.le_refl _) (.int .i64 q.top.1)).setCell (p:=⟨w.heap.size,3,none⟩) (Nat.le_refl _) (.int .i64 q.top.2)).setCell (p:=⟨w.heap.size,4,none⟩) (Nat.le_refl _) (.int .i64 q.bottom.1)).setCell (p:=⟨w.heap.size,5,none⟩) (Nat.le_refl _) (.int .i64 q.bottom.2)).setCell (p:=⟨w.heap.size,6,none⟩) (Nat.le_refl _) (.bool q.through)
      have ho2:=qua (qua (qua (qua (qua (qua (qua (hO) (p:=⟨w.heap.size,0,none⟩) hwg (.slice A9 n9 c9)) (p:=⟨w.heap.size,1,none⟩) hwg (.int .i64 q.height)) (p:=⟨w.heap.size,2,none⟩) hwg (.int .i64 q.top.1)) (p:=⟨w.heap.size,3,none⟩) hwg (.int .i64 q.top.2)) (p:=⟨w.heap.size,4,none⟩) hwg (.int .i64 q.bottom.1)) (p:=⟨w.heap.size,5,none⟩) hwg (.int .i64 q.bottom.2)) (p:=⟨w.heap.size,6,none⟩) hwg (.bool q.through)
      simp only [zA,zB,zC] at hr2
      rw [HST.out]
      refine bodyPost_ret (qtg rfl _ _ w.heap.size 177 (skC q (.slice A9 n9 c9)).toArray (0,0) _ rfl hr2 Tryz.underlying177 rfl qod) rfl ?_
      exact ⟨_,rfl,hb2,qqq ho2 (Nat.le_of_lt hwg)⟩
 ·have HS:=Lib.hid (show q0a l above below=(pile0 false,c0) by
   have h2:=HZ.out
   rw [HCK.out,if_neg hz] at h2
   exact h2)
  clear hl
  go_enter Tryz.func114,Tryz.ntmps114
  go_wp2_with (go_at_call 143; refine (hck _ hW).mono ?_; rintro e w1 ⟨rfl,hb1⟩; have hb1:Below W.heap.size W w1:=hW ▸ hb1; have hr1:=hr.below hb1 hr.lt; have fr:=hr1.frozen; have r0:w1.cell? ⟨w.heap.size,0,none⟩=some (.slice none 0 0):=hr1.cell 0; have r1:w1.cell? ⟨w.heap.size,1,none⟩=some (.int .i64 0):=hr1.cell 1; have r2:w1.cell? ⟨w.heap.size,2,none⟩=some (.int .i64 0):=hr1.cell 2; have r3:w1.cell? ⟨w.heap.size,3,none⟩=some (.int .i64 0):=hr1.cell 3; have r4:w1.cell? ⟨w.heap.size,4,none⟩=some (.int .i64 0):=hr1.cell 4; have r5:w1.cell? ⟨w.heap.size,5,none⟩=some (.int .i64 0):=hr1.cell 5; have r6:w1.cell? ⟨w.heap.size,6,none⟩=some (.bool false):=hr1.cell 6)
  have hr2:=(((((((hr1).set_ 0 (.slice none 0 0)).set_ 1 (.int .i64 0)).set_ 2 (.int .i64 0)).set_ 3 (.int .i64 0)).set_ 4 (.int .i64 0)).set_ 5 (.int .i64 0)).set_ 6 (.bool false)
  have hb2:=((((((((hbel0.trans (hb1.mono hbel0.size))).setCell (p:=⟨w.heap.size,0,none⟩) (Nat.le_refl _) (.slice none 0 0)).setCell (p:=⟨w.heap.size,1,none⟩) (Nat.le_refl _) (.int .i64 0)).setCell (p:=⟨w.heap.size,2,none⟩) (Nat.le_refl _) (.int .i64 0)).setCell (p:=⟨w.heap.size,3,none⟩) (Nat.le_refl _) (.int .i64 0)).setCell (p:=⟨w.heap.size,4,none⟩) (Nat.le_refl _) (.int .i64 0)).setCell (p:=⟨w.heap.size,5,none⟩) (Nat.le_refl _) (.int .i64 0)).setCell (p:=⟨w.heap.size,6,none⟩) (Nat.le_refl _) (.bool false)
  simp only [zA,zB,zC] at hr2
  rw [HS.out]
  refine bodyPost_ret (qtg rfl _ _ w.heap.size 177 (skC (pile0 false) (.slice none 0 0)).toArray (0,0) _ rfl hr2 Tryz.underlying177 rfl qod) rfl ?_
  exact ⟨_,rfl,hb2,Owns.nil _ _⟩
end Go.Proofs.YtlnekijhbnlclaaGreatDoor
