/-
The document's answer for alias: how many things all lists have.
-/
import Derived.Test.YtmcddolkpcgddaaZHazardFinds15
set_option maxHeartbeats 4000000
set_option maxRecDepth 100000
set_option linter.all false
namespace Go.Proofs.Ytmcddolkpcgddaa
open Go.ChangeShapes Go.WideShapes Go.ChangeAt Go.RowKit
section
theorem qgr:(Try.prog.info? 4).map (fun i=>(i.zero,i.size,i.bytes))=some (some (.bool false),1,1):=by kernel_rfl
def q20 (w:World) (l:List Bool) (e:Ending) (w':World):Prop:=∃ v,e=.returned v∧qfh w' w.heap.size v l∧Below w.heap.size w w'
theorem qub {ops:Array Oper} {rest:List Oper} {o:Oper} {a:Act} {W w0:World} {B:Nat} {v:Value} {l:List Bool} {n:Bool} {g:Nat} {Q:Exit→Act→World→Prop} {s x:Operand} (hown:qfh W B v l) (hbl:Below B w0 W) (hle:B≤w0.heap.size) (hgd:o.guard=none)
  (ho:o.op=.call { callee:=.builtin .append,args:=#[s,x],argTypes:=#[37,37] }) (hs:a.eval s=v)
  (hx:a.eval x=.slice (some ⟨g,0,none⟩) 1 1) (hg:g=W.heap.size) (hlen:l.length≤1000000000)
  (h:∀ v' w',qfh w' B v' (l++[n])→Below B w0 w'→wpList Try.prog ops Q rest (a.put o.dst v') w'):wpList Try.prog ops Q (o::rest) a (W.alloc (.cells #[.bool n] 4)):=by
 have hz:=Nat.le_trans hle hbl.size
 have hA:Below W.heap.size W (W.alloc (.cells #[.bool n] 4)):=Below.alloc (Below.refl _ _) (Nat.le_refl _) _
 refine q12 37 4 qgr Try.underlying37 rfl (by decide) (by decide) [.bool n] rfl (by intro u hu;simp at hu;subst hu;rfl) (qav hown hA) hgd ho hs hx (qgb W (.bool n) 4 g hg) hlen (by simp;omega) ?_
 intro v' w' h1 h2 h3
 refine h v' w' ?_ (qhm (hbl.trans (hA.mono hz)) h2 (by simp;omega) fun k hk=>(qdt hown hk).1)
 unfold qfh
 simpa using h1
theorem ql0 {w:World} {B:Nat} {v:Value} {l:List Bool} (h:qfh w B v l):∃ a c,v=.slice a l.length c:=by
 obtain ⟨-,⟨rfl,h2⟩|⟨g,cap,cur,rfl, -⟩⟩:=h
 ·exact ⟨none,0,by rw [h2]⟩
 ·exact ⟨_,_,rfl⟩
theorem qu4 (a b:List Bool) (k:Nat) (hk:k<a.length):(List.range (k+1)).map (fun i=>a.getD i false || b.getD i false)=(List.range k).map (fun i=>a.getD i false || b.getD i false)++[a.getD k false || b.getD k false]:=by
 rw [List.range_succ,List.map_append];rfl
theorem qpl (a:List Bool) (n:Int) (k:Nat):(List.range (k+1)).map (fun i:Nat=>a.getD i false || decide ((i:Int)=n))=(List.range k).map (fun i:Nat=>a.getD i false || decide ((i:Int)=n))++[a.getD k false || decide ((k:Int)=n)]:=by
 rw [List.range_succ,List.map_append];rfl
theorem qbx (ga na ca gb nb cb:Nat) (a b:List Bool) (w:World) (ha:qcn w ga na ca a) (hb:qcn w gb nb cb b) (hl:a.length≤b.length) (hn:b.length≤1000) :
  Calls Try.prog 80 #[.slice (some ⟨ga,0,none⟩) na ca,.slice (some ⟨gb,0,none⟩) nb cb] w (q20 w (orL a b)):=by
 obtain ⟨rfl,a1,a2, -,a3, -,a4⟩:=ha.cellAt
 obtain ⟨rfl,b1,b2, -,b3, -,b4⟩:=hb.cellAt
 have HA:=qkm a3
 have HB:=qkm b3
 have O0:Hid (qfh w w.heap.size (.slice none 0 0) ((List.range 0).map (fun i=>a.getD i false || b.getD i false))):=World.ownsRow_nil _ _ _ _
 have HL:Hid (orL a b=(List.range a.length).map (fun i=>a.getD i false || b.getD i false)):=rfl
 have HS:Hid (∀ k,k<a.length→(List.range (k+1)).map (fun i=>a.getD i false || b.getD i false)=(List.range k).map (fun i=>a.getD i false || b.getD i false)++[a.getD k false || b.getD k false]):=fun k hk=>qu4 a b k hk
 unfold maxLen at a2 b2
 clear a3 b3 ha hb
 rw [HL.out]
 clear HL
 go_enter Try.func80,Try.ntmps80
 go_wp2_with fail
 go_loopw [5,6] (fun v i wr=>∃ (t:Nat),t≤a.length∧i=.int .i64 (t:Int)∧Hid (qfh wr w.heap.size v ((List.range t).map (fun i=>a.getD i false || b.getD i false)))∧Hid (Below w.heap.size w wr)) (fun _ i _=>a.length-(intOf i).toNat)
 case atStart=>exact ⟨0,Nat.zero_le _,rfl,O0,Below.refl _ _⟩
 case round=>
  clear O0
  obtain ⟨t,ht,rfl,O,HBW⟩:=hrel
  have hbz:=HBW.out.size
  by_cases hlt:t<a.length
  ·have gt:decide ((t:Int)<(a.length:Int))=true:=qkn (by omega)
   have gt1:decide (t<a.length)=true:=qkn hlt
   have gt2:decide ((t:Int)<(b.length:Int))=true:=qkn (by omega)
   have gt3:decide (t<b.length)=true:=qkn (by omega)
   have x1:wr.cell? ⟨ga,t,none⟩=some (.bool (a.getD t false)):=(HBW.out.cell (p:=⟨ga,t,none⟩) a4).trans (HA.out t hlt)
   have x2:wr.cell? ⟨gb,t,none⟩=some (.bool (b.getD t false)):=(HBW.out.cell (p:=⟨gb,t,none⟩) b4).trans (HB.out t (by omega))
   have HN:=qkm (HS.out t hlt)
   have hlen:((List.range t).map (fun i=>a.getD i false || b.getD i false)).length=t:=by simp
   have HLn:=qkm hlen
   clear hlen
   generalize (List.range t).map (fun i=>a.getD i false || b.getD i false)=L at *
   generalize hA:a.getD t false=A at *
   generalize hB:b.getD t false=B at *
   clear hA hB
   have O:=O.out
   obtain ⟨av,cv,rfl⟩:=ql0 O
   have hLl:=HLn.out
   have HLn2:L.length≤1000000000:=by omega
   clear hLl
   cases A
   ·go_wp2_with (at_builtin;refine qub (n:=B) O HBW.out (Nat.le_refl _) rfl rfl rfl rfl (by simp) HLn2 ?_;intro v1 w2 O1 B1)
    go_roundw
    case rel=>exact ⟨t+1,hlt,by go_num,by rw [HN.out];exact O1,B1⟩
    case measure=>simp [intOf];omega
   ·go_wp2_with (at_builtin;refine qub (n:=true) O HBW.out (Nat.le_refl _) rfl rfl rfl rfl (by simp) HLn2 ?_;intro v1 w2 O1 B1)
    go_roundw
    case rel=>exact ⟨t+1,hlt,by go_num,by rw [HN.out];exact O1,B1⟩
    case measure=>simp [intOf];omega
  ·obtain rfl:t=a.length:=by omega
   go_wp2_with fail
   go_ret
   exact ⟨_,rfl,O.out,HBW.out⟩
theorem qjy (ga na ca:Nat) (a:List Bool) (n:Int) (w:World) (ha:qcn w ga na ca a) (hn:a.length≤1000) :
  Calls Try.prog 103 #[.slice (some ⟨ga,0,none⟩) na ca,.int .i64 n] w (q20 w (qhy a n)):=by
 obtain ⟨rfl,a1,a2, -,a3, -,a4⟩:=ha.cellAt
 have HA:=qkm a3
 have O0:Hid (qfh w w.heap.size (.slice none 0 0) ((List.range 0).map (fun i:Nat=>a.getD i false || decide ((i:Int)=n)))):=World.ownsRow_nil _ _ _ _
 have HL:Hid (qhy a n=(List.range a.length).map (fun i:Nat=>a.getD i false || decide ((i:Int)=n))):=rfl
 have HS:Hid (∀ k,(List.range (k+1)).map (fun i:Nat=>a.getD i false || decide ((i:Int)=n))=(List.range k).map (fun i:Nat=>a.getD i false || decide ((i:Int)=n))++[a.getD k false || decide ((k:Int)=n)]):=fun k=>qpl a n k
 unfold maxLen at a2
 clear a3 ha
 rw [HL.out]
 clear HL
 go_enter Try.func103,Try.ntmps103
 go_wp2_with fail
 go_loopw [5,6] (fun v i wr=>∃ (t:Nat),t≤a.length∧i=.int .i64 (t:Int)∧Hid (qfh wr w.heap.size v ((List.range t).map (fun i:Nat=>a.getD i false || decide ((i:Int)=n))))∧Hid (Below w.heap.size w wr)) (fun _ i _=>a.length-(intOf i).toNat)
 case atStart=>exact ⟨0,Nat.zero_le _,rfl,O0,Below.refl _ _⟩
 case round=>
  clear O0
  obtain ⟨t,ht,rfl,O,HBW⟩:=hrel
  have hbz:=HBW.out.size
  by_cases hlt:t<a.length
  ·have gt:decide ((t:Int)<(a.length:Int))=true:=qkn (by omega)
   have gt1:decide (t<a.length)=true:=qkn hlt
   have x1:wr.cell? ⟨ga,t,none⟩=some (.bool (a.getD t false)):=(HBW.out.cell (p:=⟨ga,t,none⟩) a4).trans (HA.out t hlt)
   have HN:=qkm (HS.out t)
   have hlen:((List.range t).map (fun i:Nat=>a.getD i false || decide ((i:Int)=n))).length=t:=by simp
   have HLn:=qkm hlen
   clear hlen
   generalize (List.range t).map (fun i:Nat=>a.getD i false || decide ((i:Int)=n))=L at *
   generalize hA:a.getD t false=A at *
   have hE:((t:Int) ==n)=decide ((t:Int)=n):=by rw [Bool.eq_iff_iff];simp
   generalize hB:decide ((t:Int)=n)=B at *
   clear hA hB
   have O:=O.out
   obtain ⟨av,cv,rfl⟩:=ql0 O
   have hLl:=HLn.out
   have HLn2:L.length≤1000000000:=by omega
   clear hLl
   cases A
   ·go_wp2_with (at_builtin;refine qub (n:=B) O HBW.out (Nat.le_refl _) rfl rfl rfl rfl (by simp) HLn2 ?_;intro v1 w2 O1 B1)
    go_roundw
    case rel=>exact ⟨t+1,hlt,by go_num,by rw [HN.out];exact O1,B1⟩
    case measure=>simp [intOf];omega
   ·go_wp2_with (at_builtin;refine qub (n:=true) O HBW.out (Nat.le_refl _) rfl rfl rfl rfl (by simp) HLn2 ?_;intro v1 w2 O1 B1)
    go_roundw
    case rel=>exact ⟨t+1,hlt,by go_num,by rw [HN.out];exact O1,B1⟩
    case measure=>simp [intOf];omega
  ·obtain rfl:t=a.length:=by omega
   go_wp2_with fail
   go_ret
   exact ⟨_,rfl,O.out,HBW.out⟩
end
section
structure AlK where
 bx:Nat
 vr:Value
 rs:List (Nat×Nat)
 ro:Nat×Nat
 T:Nat
 n:Nat
def AlK.setR (k:AlK) (d g c:Nat):AlK:=⟨k.bx,k.vr,k.rs.set d (g,c),k.ro,k.T,k.n⟩
def AlK.setO (k:AlK) (g c:Nat):AlK:=⟨k.bx,k.vr,k.rs,(g,c),k.T,k.n⟩
structure AlM (w0 w:World) (k:AlK) (x:AR):Prop where
 bx:w0.heap.size≤k.bx
 hv:w.heap[k.bx]?=some (.cells #[k.vr,qbf k.ro.1 k.T k.ro.2] 96)
 tab:qed w w0.heap.size k.vr (k.rs.map fun r=>qbf r.1 k.T r.2)
 rl:k.rs.length=k.n
 row:∀ r,r<k.n→qcn w (k.rs.getD r (0,0)).1 k.T (k.rs.getD r (0,0)).2 (x.regs.getD r [])
 out:qcn w k.ro.1 k.T k.ro.2 x.out
 ok:x.Ok k.n k.T
 below:Below w0.heap.size w0 w
theorem AlM.grow {w0 w w':World} {k:AlK} {x:AR} (h:AlM w0 w k x) (hb:Below w.heap.size w w'):AlM w0 w' k x :=
 ⟨h.bx,(hb.block _ (qkp h.hv).1).trans h.hv,h.tab.below hb,h.rl,fun r hr=>(h.row r hr).below hb,h.out.below hb,h.ok,h.below.trans (hb.mono h.below.size)⟩
theorem AlM.lt {w0 w:World} {k:AlK} {x:AR} (h:AlM w0 w k x):k.bx<w.heap.size:=(qkp h.hv).1
theorem qcn.set_other {w:World} {g n c:Nat} {l:List Bool} (h:qcn w g n c l) {b i:Nat} (v:Value) (hb:b≠g):qcn (w.setCell ⟨b,i,none⟩ v) g n c l:=by
 obtain ⟨h1,h2|⟨g',cap,cur,h3,h4,h5,r⟩⟩:=h
 ·exact ⟨h1,.inl h2⟩
 ·refine ⟨h1,.inr ⟨g',cap,cur,h3,h4,(Below.heap_setCell w ⟨b,i,none⟩ v g' ?_).trans h5,r⟩⟩
  simp only [Value.slice.injEq,Option.some.injEq,Addr.mk.injEq] at h3
  intro e
  have:g'=b:=e
  omega
theorem qed.set_other {w:World} {B:Nat} {tv:Value} {L:List Value} (h:qed w B tv L) {b i:Nat} (v:Value) (hb:tv.ownBlock≠some b):qed (w.setCell ⟨b,i,none⟩ v) B tv L:=by
 obtain ⟨h1,h2|⟨g',cap,cur,rfl,h4,h5,r⟩⟩:=h
 ·exact ⟨h1,.inl h2⟩
 ·refine ⟨h1,.inr ⟨g',cap,cur,rfl,h4,(Below.heap_setCell w ⟨b,i,none⟩ v g' ?_).trans h5,r⟩⟩
  intro e
  exact hb (by simp only [Value.ownBlock,Option.some.injEq];exact e)
theorem AlM.bx_ne_row {w0 w:World} {k:AlK} {x:AR} (h:AlM w0 w k x) {g n c:Nat} {l:List Bool} (hr:qcn w g n c l):k.bx≠g:=by
 intro e
 obtain ⟨cur,h2⟩:=hr.heap
 have:=h.hv
 rw [e,h2] at this
 simp at this
theorem AlM.bx_ne_tab {w0 w:World} {k:AlK} {x:AR} (h:AlM w0 w k x):k.vr.ownBlock≠some k.bx:=by
 intro e
 obtain ⟨cur,h2⟩:=h.tab.heap e
 have:=h.hv
 rw [h2] at this
 simp at this
theorem AlM.setO {w0 w:World} {k:AlK} {x:AR} (h:AlM w0 w k x) {g c:Nat} {l:List Bool} (hr:qcn w g k.T c l) (hl:l.length=k.T):AlM w0 (w.setCell ⟨k.bx,1,none⟩ (qbf g k.T c)) (k.setO g c) ⟨x.regs,l⟩:=by
 refine ⟨h.bx,?_,h.tab.set_other _ h.bx_ne_tab,h.rl,fun r hr'=>(h.row r hr').set_other _ (h.bx_ne_row (h.row r hr')),hr.set_other _ (h.bx_ne_row hr),⟨h.ok.rows,h.ok.row,hl⟩,?_⟩
 ·exact heap_setCell_same _ _ 1 _ _ _ h.hv
 ·exact ⟨h.below.os,h.below.tape,h.below.output,by simpa [World.setCell] using h.below.size,fun j hj=>(Below.heap_setCell w ⟨k.bx,1,none⟩ _ j (by have:=h.bx;show j≠k.bx;omega)).trans (h.below.block j hj)⟩
theorem AlM.setR {w0 w:World} {k:AlK} {x:AR} (h:AlM w0 w k x) {br cp:Nat} (hv:k.vr=.slice (some ⟨br,0,none⟩) k.n cp) {d g c:Nat} {l:List Bool} (hd:d<k.n) (hr:qcn w g k.T c l) (hl:l.length=k.T):AlM w0 (w.setCell ⟨br,d,none⟩ (qbf g k.T c)) (k.setR d g c) ⟨x.regs.set d l,x.out⟩:=by
 have hT:=h.tab
 have hbb:w0.heap.size≤br:=(World.ownsRow.lt hT br (by rw [hv];rfl)).1
 have hne:k.bx≠br:=fun e=>h.bx_ne_tab (by rw [hv];simp [Value.ownBlock,e])
 have hrow:∀ {g n c:Nat} {l:List Bool},qcn w g n c l→br≠g:=fun hr e=>qcd hT hr (by rw [hv];simp [Value.ownBlock,e])
 refine ⟨h.bx,?_,?_,?_,fun r hr'=>?_,h.out.set_other _ (hrow h.out),⟨?_,?_,h.ok.out⟩,?_⟩
 ·exact (Below.heap_setCell w ⟨br,d,none⟩ _ k.bx hne).trans h.hv
 ·have hT2:=hT
  unfold qed at hT2
  rw [hv,List.length_map,h.rl] at hT2
  have:=(World.ownsRow.stored hT2 d (qbf g k.T c)).1
  show qed _ _ k.vr ((k.rs.set d (g,c)).map _)
  unfold qed
  rw [List.map_set,List.length_set,List.length_map,h.rl,hv]
  exact this
 ·show (k.rs.set d (g,c)).length=_
  rw [List.length_set];exact h.rl
 ·show qcn _ ((k.rs.set d (g,c)).getD r (0,0)).1 k.T ((k.rs.set d (g,c)).getD r (0,0)).2 ((x.regs.set d l).getD r [])
  by_cases e:r=d
  ·subst e
   have e1:(k.rs.set r (g,c)).getD r (0,0)=(g,c):=by simp [List.getD,List.getElem?_set,h.rl,hd]
   have e2:(x.regs.set r l).getD r []=l:=by simp [List.getD,List.getElem?_set,h.ok.rows,hd]
   rw [e1,e2]
   exact hr.set_other _ (hrow hr)
  ·have e1:(k.rs.set d (g,c)).getD r (0,0)=k.rs.getD r (0,0):=by simp [List.getD,List.getElem?_set,Ne.symm e]
   have e2:(x.regs.set d l).getD r []=x.regs.getD r []:=by simp [List.getD,List.getElem?_set,Ne.symm e]
   rw [e1,e2]
   exact (h.row r hr').set_other _ (hrow (h.row r hr'))
 ·show (x.regs.set d l).length=_
  rw [List.length_set];exact h.ok.rows
 ·intro l' hl'
  rcases List.mem_or_eq_of_mem_set hl' with h1|rfl
  ·exact h.ok.row l' h1
  ·exact hl
 ·exact ⟨h.below.os,h.below.tape,h.below.output,by simpa [World.setCell] using h.below.size,fun j hj=>(Below.heap_setCell w ⟨br,d,none⟩ _ j (by show j≠br;omega)).trans (h.below.block j hj)⟩
theorem AlM.at {w0 w:World} {k:AlK} {x:AR} (h:AlM w0 w k x) {d:Nat} (hd:d<k.n):∃ br cp,k.vr=.slice (some ⟨br,0,none⟩) k.n cp∧k.n≤cp∧cp≤maxLen∧br<w.heap.size∧w0.heap.size≤br∧(∀ r,r<k.n→w.cell? ⟨br,r,none⟩=some (qbf (k.rs.getD r (0,0)).1 k.T (k.rs.getD r (0,0)).2))∧(∀ r,w.frozen? ⟨br,r,none⟩=false):=by
 have hT:=h.tab
 obtain ⟨-,⟨hv,h0⟩|⟨g,cap,cur,hv,hb,hh,hn,hc, -⟩⟩:=h.tab
 ·rw [List.length_map,h.rl] at h0;omega
 ·have hT2:=hT
  rw [List.length_map,h.rl] at hv hn
  unfold qed at hT2
  rw [hv,List.length_map] at hT2
  have R:=qjd (f:=fun r:Nat×Nat=>qbf r.1 k.T r.2) (0,0) hT2
  rw [h.rl] at hT2
  have hf:=World.ownsRow.frozenAt hT2
  obtain ⟨a',c',e, -, -,R⟩:=R
  simp only [Value.slice.injEq] at e
  obtain ⟨e, -, -⟩:=e
  refine ⟨g,cap,hv,hn,hc,(qkp hh).1,hb,fun r hr=>?_,hf⟩
  obtain ⟨b,o,e2,hcell⟩:=R r (by rw [h.rl];exact hr)
  rw [←e] at e2
  simp only [Option.some.injEq,Addr.mk.injEq] at e2
  obtain ⟨rfl,rfl, -⟩:=e2
  simpa using hcell
end
section
theorem qj6 (l:List Bool) (t:Nat) (h:t<l.length):qe0 (l.take (t+1))=qe0 (l.take t)+(if l.getD t false=true then 1 else 0):=by
 unfold qe0
 rw [List.take_succ,List.countP_append,List.getElem?_eq_getElem h]
 simp only [List.getD,List.getElem?_eq_getElem h,Option.getD_some,Option.toList_some,List.countP_cons,List.countP_nil]
 cases l[t] <;> simp
theorem qiy (l:List Bool):qe0 l≤l.length:=List.countP_le_length
def qml (x:AR) (r:Nat):Nat:=((x.regs.take r).map qe0).sum
theorem ql6 (x:AR) (r:Nat) (h:r<x.regs.length):qml x (r+1)=qml x r+qe0 (x.regs.getD r []):=by
 unfold qml
 rw [List.take_succ,List.getElem?_eq_getElem h,Option.toList_some,List.map_append,List.sum_append]
 simp [List.getD,List.getElem?_eq_getElem h]
theorem qmw {x:AR} {n T:Nat} (hk:x.Ok n T):∀ r,r≤n→qml x r≤r*T
 | 0,_=>by simp [qml]
 | r+1,h=>by
  have hr:r<x.regs.length:=by rw [hk.rows];omega
  rw [ql6 x r hr,Nat.succ_mul]
  have h1:=qmw hk r (by omega)
  have h2:=qiy (x.regs.getD r [])
  have h3:(x.regs.getD r []).length=T:=hk.get (some r) fun q e=>by cases e;omega
  omega
theorem qsj (w0 w:World) (k:AlK) (x:AR) (h:AlM w0 w k x) (hn:k.n≤1000) (hT:k.T≤1000) :
  Calls Try.prog 78 #[.pointer (some ⟨k.bx,0,none⟩)] w fun e w'=>e=.returned (.int .i64 (x.count:Int))∧w'=w:=by
 obtain ⟨av,cv,hvr⟩:∃ a c,k.vr=.slice a k.n c:=by
  obtain ⟨-,⟨e,h2⟩|⟨g,cap,cur,e, -⟩⟩:=h.tab
  ·rw [List.length_map,h.rl] at h2
   exact ⟨none,0,by rw [e,h2]⟩
  ·rw [List.length_map,h.rl] at e
   exact ⟨_,_,e⟩
 have c0:w.cell? ⟨k.bx,0,none⟩=some (.slice av k.n cv):=by rw [qab h.hv 0,←hvr];rfl
 have c1:w.cell? ⟨k.bx,1,none⟩=some (qbf k.ro.1 k.T k.ro.2):=by rw [qab h.hv 1];rfl
 have HC:Hid (x.count=qml x k.n+qe0 x.out):=by
  show x.count=_
  unfold AR.count qml
  rw [List.take_of_length_le (by rw [h.ok.rows];exact Nat.le_refl _)]
 have HA:=qkm (fun d hd=>h.at (d:=d) hd)
 have HRow:=qkm h.row
 have HS:Hid (∀ r,r<k.n→qml x (r+1)=qml x r+qe0 (x.regs.getD r [])):=fun r hr=>ql6 x r (by rw [h.ok.rows];exact hr)
 have HB:Hid (∀ r,r≤k.n→qml x r≤1000000):=fun r hr=>Nat.le_trans (qmw h.ok r hr) (Nat.le_trans (Nat.mul_le_mul (Nat.le_trans hr hn) hT) (by decide))
 have HO:=qkm h.out.cellAt
 have HOl:=qkm h.ok.out
 have HRl:Hid (∀ r,r<k.n→(x.regs.getD r []).length=k.T):=fun r hr=>h.ok.get (some r) fun q e=>by cases e;omega
 have hbx:=h.lt
 generalize x.count=N at *
 clear h
 unfold qbf at c1
 go_enter Try.func78,Try.ntmps78
 go_wp2_with fail
 go_loopw [3,4] (fun n i wr=>∃ j:Nat,j≤k.n∧i=.int .i64 (j:Int)∧n=.int .i64 (qml x j:Int)∧w=wr) (fun _ i _=>k.n-(intOf i).toNat)
 case atStart=>exact ⟨0,Nat.zero_le _,rfl,rfl,rfl⟩
 case round=>
  obtain ⟨j,hj,rfl,rfl,rfl⟩:=hrel
  have hb1:=HB.out j hj
  by_cases hlt:j<k.n
  ·obtain ⟨br,cp,hv2,e1,e2,e3, -,e4, -⟩:=HA.out j hlt
   rw [hvr] at hv2
   simp only [Value.slice.injEq] at hv2
   obtain ⟨rfl, -,rfl⟩:=hv2
   have y4:=e4 j hlt
   clear e4
   obtain ⟨-,f1,f2, -,f3, -,f4⟩:=(HRow.out j hlt).cellAt
   have HF:=qkm f3
   have hL:=HRl.out j hlt
   have HN:=qkm (HS.out j hlt)
   unfold qbf at y4
   unfold maxLen at e2 f2
   generalize k.rs.getD j (0,0)=R at *
   obtain ⟨rg,rc⟩:=R
   dsimp only at y4 f2 f3 f4 HF
   have gj:decide ((j:Int)<(k.n:Int))=true:=qkn (by omega)
   have gj2:decide (j<k.n)=true:=qkn hlt
   have HLt:Hid (∀ t,t<k.T→qe0 ((x.regs.getD j []).take (t+1))=qe0 ((x.regs.getD j []).take t)+(if (x.regs.getD j []).getD t false=true then 1 else 0)):=fun t ht=>qj6 _ t (by omega)
   have HLe:Hid (∀ t,qe0 ((x.regs.getD j []).take t)≤t):=fun t=>Nat.le_trans (qiy _) (by rw [List.length_take];omega)
   have HLa:Hid (qe0 ((x.regs.getD j []).take k.T)=qe0 (x.regs.getD j [])):=by
    show _=_
    rw [List.take_of_length_le (by omega)]
   clear f3 hL
   generalize x.regs.getD j []=L at *
   generalize hS:qml x j=S at *
   clear hS
   go_wp2_with fail
   go_loopw [3,5] (fun n i wx=>∃ t:Nat,t≤k.T∧i=.int .i64 (t:Int)∧n=.int .i64 ((S+qe0 (L.take t):Nat):Int)∧w=wx) (fun _ i _=>k.T-(intOf i).toNat)
   case atStart=>exact ⟨0,Nat.zero_le _,rfl,by simp [qe0],rfl⟩
   case round=>
    obtain ⟨t,ht,rfl,rfl,rfl⟩:=hrel
    have hle:=HLe.out t
    by_cases hlt2:t<k.T
    ·have gt:decide ((t:Int)<(k.T:Int))=true:=qkn (by omega)
     have gt2:decide (t<k.T)=true:=qkn hlt2
     have c2:=HF.out t hlt2
     have HN2:=qkm (HLt.out t hlt2)
     cases hb:L.getD t false
     ·rw [hb] at c2 HN2
      clear hb
      go_wp2_with fail
      go_roundw
      case rel=>exact ⟨t+1,by omega,by go_num,by rw [HN2.out];simp,by first|rfl|trivial⟩
      case measure=>simp [intOf];omega
     ·rw [hb] at c2 HN2
      clear hb
      go_wp2_with fail
      go_roundw
      case rel=>exact ⟨t+1,by omega,by go_num,by rw [HN2.out];simp;go_num,by first|rfl|trivial⟩
      case measure=>simp [intOf];omega
    ·obtain rfl:t=k.T:=by omega
     go_wp2_with fail
     go_roundw
     case rel=>exact ⟨j+1,by omega,by go_num,by rw [HN.out,HLa.out],by first|rfl|trivial⟩
     case measure=>simp [intOf];omega
  ·obtain rfl:j=k.n:=by omega
   obtain ⟨-,f1,f2, -,f3, -,f4⟩:=HO.out
   have HF:=qkm f3
   have hL:=HOl.out
   unfold maxLen at f2
   have HLt:Hid (∀ t,t<k.T→qe0 (x.out.take (t+1))=qe0 (x.out.take t)+(if x.out.getD t false=true then 1 else 0)):=fun t ht=>qj6 _ t (by omega)
   have HLe:Hid (∀ t,qe0 (x.out.take t)≤t):=fun t=>Nat.le_trans (qiy _) (by rw [List.length_take];omega)
   have HLa:Hid (qe0 (x.out.take k.T)=qe0 x.out):=by
    show _=_
    rw [List.take_of_length_le (by omega)]
   clear f3 hL
   generalize x.out=L at *
   generalize hS:qml x k.n=S at *
   clear hS
   go_wp2_with fail
   go_loopw [3,6] (fun n i wx=>∃ t:Nat,t≤k.T∧i=.int .i64 (t:Int)∧n=.int .i64 ((S+qe0 (L.take t):Nat):Int)∧w=wx) (fun _ i _=>k.T-(intOf i).toNat)
   case atStart=>exact ⟨0,Nat.zero_le _,rfl,by simp [qe0],rfl⟩
   case round=>
    obtain ⟨t,ht,rfl,rfl,rfl⟩:=hrel
    have hle:=HLe.out t
    by_cases hlt2:t<k.T
    ·have gt:decide ((t:Int)<(k.T:Int))=true:=qkn (by omega)
     have gt2:decide (t<k.T)=true:=qkn hlt2
     have c2:=HF.out t hlt2
     have HN2:=qkm (HLt.out t hlt2)
     cases hb:L.getD t false
     ·rw [hb] at c2 HN2
      clear hb
      go_wp2_with fail
      go_roundw
      case rel=>exact ⟨t+1,by omega,by go_num,by rw [HN2.out];simp,by first|rfl|trivial⟩
      case measure=>simp [intOf];omega
     ·rw [hb] at c2 HN2
      clear hb
      go_wp2_with fail
      go_roundw
      case rel=>exact ⟨t+1,by omega,by go_num,by rw [HN2.out];simp;go_num,by first|rfl|trivial⟩
      case measure=>simp [intOf];omega
    ·obtain rfl:t=k.T:=by omega
     go_wp2_with fail
     go_ret
     rw [HC.out,HLa.out]
     exact ⟨rfl,rfl⟩
end
end Go.Proofs.Ytmcddolkpcgddaa
