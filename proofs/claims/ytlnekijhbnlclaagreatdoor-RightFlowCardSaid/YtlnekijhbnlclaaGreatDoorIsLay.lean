/-
  Walks: package layout: Layout.
-/
import Derived.Test.YtlnekijhbnlclaaGreatDoorWhole18
import Derived.Test.YtlnekijhbnlclaaGreatDoorMMay
import Derived.Test.YtlnekijhbnlclaaGreatDoorHit
namespace Go.Proofs.YtlnekijhbnlclaaGreatDoor
open Go.RowKit Go.Shelf
attribute [local go_sem] Oper.semAt_some
set_option linter.unusedSimpArgs false
set_option linter.unusedVariables false
def LaidP (r:List Fg×Int) (w:World) (e:Ending) (w':World):Prop:=Below w.heap.size w w'/\∃ v,e=.returned (.tuple #[v,.int .i64 r.2])/\(shFg YT.frag).Owns w' w.heap.size v r.1
set_option maxRecDepth 100000 in
set_option maxHeartbeats 20000000 in
theorem qil (flex:List Nd->Lay->Lay) (ns:List Nd) (dv:Value) (next x:Int) (w:World) (h:DocIn w w.heap.size dv ns) (hns:ns.length<=300) (hn0:0 < ns.length) (hd:∀ i,0<=(ndAt ns i).depth/\(ndAt ns i).depth < 16) (htx:∀ k,(ndAt ns k).text.size<=200)
  (hw:∀ n ∈ ns,(ndC n).all wfC=true) (ht9:∀ n ∈ ns,n.text.size<=140737488355328)
  (hml:∃ m,w.cell? ⟨2,0,none⟩=some (.int .i64 m))
  (hlen:∀ (f:Fm) (b:BT×Tl),q3a ns 0 x=some f->layOf ns (flex ns) (ns.length+1) 0 16 (qia x f.ak).2.1 (-1) true=some b->(allL ns (ns.length+1) (b.1.put (qia x f.ak).1 f.top) 0 0).length < 4000000000)
  (hlay:∀ (g B:Nat) (W:World) (n:Int),PgW W g B ns next->Calls Tryz.prog 52 #[.pointer (some ⟨g,0,none⟩),.int .i64 (0:Nat),.int .i64 16,.int .i64 n,.int .i64 (-1),.bool true] W (LayP ns.length (layOf ns (flex ns) (ns.length+1) 0 16 n (-1) true) (ns.length+1) W)) :
  Calls Tryz.prog 14 #[docA dv next,.int .i64 x] w (LaidP (qob ns flex next x) w):=by
 have H:=Lib.hid (And.intro h hml)
 have hwh:=fun W hdoc hm=>qas (flex ns) ns dv next x W hdoc hns hn0 hd htx hm hlen hlay
 have hmay:=fun W hB=>qel ns dv next w.heap.size W hB
 unfold docA at hwh hmay ⊢
 clear h hml
 go_enter Tryz.func14,Tryz.ntmps14
 go_wp2_with fail
 obtain ⟨W1,hW1⟩:∃ W1,W1=w.alloc (.cells #[dv,.int .i64 next] 24):=⟨_,rfl⟩
 have bD:Blk W1 w.heap.size 24 #[dv,.int .i64 next]:=by rw [hW1]; exact Blk.new _ _ _
 have hb1:Below w.heap.size w W1:=by rw [hW1]; exact (Below.refl _ _).alloc (Nat.le_refl _) _
 simp only [<-hW1]
 clear hW1
 have hdoc1:=Shp.In.below H.out.1 hb1
 have hm1:=hmay W1 hdoc1 hb1.size hw ht9
 obtain ⟨mm,hmm⟩:∃ mm,qgb ns next=mm:=⟨_,rfl⟩
 rw [hmm] at hm1
 have HMM:=Lib.hid hmm
 clear hmm hmay
 refine hm1.mono ?_
 rintro e w2 ⟨rfl,hb2⟩
 have bD2:=bD.below hb2 bD.lt
 have hB2:Below w.heap.size w w2:=hb1.trans (hb2.mono hb1.size)
 have c0:w2.cell? ⟨w.heap.size,0,none⟩=some dv:=bD2.cell 0
 have c1:w2.cell? ⟨w.heap.size,1,none⟩=some (.int .i64 next):=bD2.cell 1
 clear bD hm1 hb1
 cases mm with
 | false =>
  go_wp2_with fail
  go_ret2
  exact ⟨hB2,.slice none 0 0,by unfold qob; rw [if_pos HMM.out]; rfl,by unfold qob; rw [if_pos HMM.out]; exact Shp.Owns.nil _ _⟩
 | true =>
  have hl0:qob ns flex next x=if x < 0\/2147483648 < x then (([],2):List Fg×Int) else match qrb ns (flex ns) x with
   | some l=>(l,0)
   | none=>([],10):=by
   unfold qob
   rw [if_neg (by rw [HMM.out]; decide)]
   rfl
  have HL:=Lib.hid hl0
  clear hl0
  by_cases hx0:x < 0
  ·go_wp2_with fail
   go_ret2
   have e0:qob ns flex next x=([],2):=by rw [HL.out,if_pos (.inl hx0)]
   exact ⟨hB2,.slice none 0 0,by rw [e0]; rfl,by rw [e0]; exact Shp.Owns.nil _ _⟩
  ·by_cases hx1:2147483648 < x
   ·go_wp2_with fail
    go_ret2
    have e0:qob ns flex next x=([],2):=by rw [HL.out,if_pos (.inr hx1)]
    exact ⟨hB2,.slice none 0 0,by rw [e0]; rfl,by rw [e0]; exact Shp.Owns.nil _ _⟩
   ·have hdoc2:DocIn w2 w2.heap.size dv ns:=Shp.In.more (Shp.In.below H.out.1 hB2) hB2.size
    have hml2:∃ m,w2.cell? ⟨2,0,none⟩=some (.int .i64 m):=by
     obtain ⟨m,hm⟩:=H.out.2
     exact ⟨m,(hB2.cell (p:=⟨2,0,none⟩) (World.block_lt_of_cell? w _ hm)).trans hm⟩
    have hwh2:=hwh w2 hdoc2 hml2
    unfold WhP at hwh2
    have e0:qob ns flex next x=match qrb ns (flex ns) x with
     | some l=>(l,0)
     | none=>([],10):=by rw [HL.out,if_neg (by omega)]
    have HE:=Lib.hid e0
    clear e0 hwh hdoc1 hdoc2 hml2
    cases hr:qrb ns (flex ns) x with
    | none =>
     rw [hr] at hwh2
     have e1:qob ns flex next x=([],10):=by rw [HE.out,hr]
     have HE1:=Lib.hid e1
     clear hr e1
     go_wp2_with (go_at_call 34; refine hwh2.mono ?_; rintro e w3 ⟨hb3,v,he⟩; obtain rfl:=he)
     go_ret2
     exact ⟨hB2.trans (hb3.mono hB2.size),.slice none 0 0,by rw [HE1.out]; rfl,by rw [HE1.out]; exact Shp.Owns.nil _ _⟩
    | some l =>
     rw [hr] at hwh2
     have e1:qob ns flex next x=(l,0):=by rw [HE.out,hr]
     have HE1:=Lib.hid e1
     clear hr e1
     go_wp2_with (go_at_call 34; refine hwh2.mono ?_; rintro e w3 ⟨hb3,v,he,ho⟩; obtain rfl:=he)
     go_ret2
     exact ⟨hB2.trans (hb3.mono hB2.size),v,by rw [HE1.out]; rfl,by rw [HE1.out]; exact ho.base_le hB2.size⟩
end Go.Proofs.YtlnekijhbnlclaaGreatDoor
namespace Go.Proofs.YtlnekijhbnlclaaGreatDoor
open Go.RowKit Go.Shelf
attribute [local go_sem] Oper.semAt_some
set_option linter.unusedSimpArgs false
set_option linter.unusedVariables false
def WroP (a b:Int) (w:World) (e:Ending) (w':World):Prop:=Below w.heap.size w w'/\e=.returned (.tuple #[.int .i64 a,.int .i64 b])
set_option maxRecDepth 100000 in
set_option maxHeartbeats 20000000 in
theorem q9o (dv fv:Value) (next x a b:Int) (w:World) (hwro:∀ W,Below w.heap.size w W->Calls Tryz.prog 21 #[docA dv next,.int .i64 x,fv] W (WroP a b W)) :
  Calls Tryz.prog 22 #[docA dv next,.int .i64 x,fv] w fun e w'=>Below w.heap.size w w'/\e=.returned (.bool (decide (b=0/\a < 0))):=by
 unfold docA at hwro ⊢
 go_enter Tryz.func22,Tryz.ntmps22
 have hb1:Below w.heap.size w (w.alloc (.cells #[dv,.int .i64 next] 24)):=(Below.refl _ _).alloc (Nat.le_refl _) _
 have hw1:=hwro _ hb1
 unfold WroP at hw1
 by_cases h0:b=0
 ·by_cases h1:a < 0
  all_goals
   go_wp2_with (go_at_call 21; refine hw1.mono ?_; rintro e w2 ⟨hb2,he⟩; obtain rfl:=he)
   go_ret
   exact ⟨hb1.trans (hb2.mono hb1.size),by simp [h0,h1]⟩
 ·go_wp2_with (go_at_call 21; refine hw1.mono ?_; rintro e w2 ⟨hb2,he⟩; obtain rfl:=he)
  go_ret
  exact ⟨hb1.trans (hb2.mono hb1.size),by simp [h0]⟩
end Go.Proofs.YtlnekijhbnlclaaGreatDoor
