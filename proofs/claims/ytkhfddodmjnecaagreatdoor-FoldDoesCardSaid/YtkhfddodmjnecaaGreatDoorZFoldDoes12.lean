/-
A call's frame in memory beside the runner; what an instruction leaves as it was.
-/
import Derived.Test.YtkhfddodmjnecaaGreatDoorZFoldDoes11
set_option linter.all false
namespace Go.Proofs.YtkhfddodmjnecaaGreatDoor
section
open Go.ChangeShapes Go.WideShapes Go.ChangeAt Go.RowKit
set_option maxHeartbeats 1000000
set_option maxRecDepth 20000
def vNil:Value:=.slice none 0 0
def rowOf' (b n:Nat):Value:=.slice (some ⟨b,0,none⟩) n n
def inCells (x:In×Value):List Value:=[.int .i64 x.1.op,.int .i64 x.1.d,.int .i64 x.1.a,.int .i64 x.1.b,.int .i64 x.1.fn,.int .i64 x.1.obj,.int .i64 x.1.off,.int .i64 x.1.size,.int .u32 x.1.num,x.2,.bool x.1.log]
def bkCells (x:Bk×Value):List Value:=[x.2,.int .i64 x.1.fin,.int .i64 x.1.a,.int .i64 x.1.to,.int .i64 x.1.els]
def prCells (x:Pr×ByteArray×Value×Value):List Value:=[.string x.2.1,.bool x.1.void,.int .i64 x.1.params,.int .i64 x.1.regs,x.2.2.1,x.2.2.2]
theorem RdW.lit {w:World} {g:Nat} {e:TypeId} (L:List Int) (hp:L.length≤1000000) (h:w.heap[g]?=some (.cells (L.map (Value.int .u32)).toArray e (0,0))):RdW w (rowOf' g L.length) L:=by
 refine own_rows (B:=0) (e:=e) 0 ⟨by simp,.inr ⟨g,L.length,_,rfl,Nat.zero_le _,h,Nat.le_refl _,by unfold maxLen;omega,by simp,?_⟩⟩
 rw [Nat.mul_one,List.toList_toArray];exact List.take_of_length_le (by simp)
theorem RdI.lit {w:World} {g:Nat} {e:TypeId} (L:List Int) (hp:L.length≤1000000) (h:w.heap[g]?=some (.cells (L.map (Value.int .i64)).toArray e (0,0))):RdI w (rowOf' g L.length) L:=by
 refine own_rows (B:=0) (e:=e) 0 ⟨by simp,.inr ⟨g,L.length,_,rfl,Nat.zero_le _,h,Nat.le_refl _,by unfold maxLen;omega,by simp,?_⟩⟩
 rw [Nat.mul_one,List.toList_toArray];exact List.take_of_length_le (by simp)
theorem heap_of_alloc (w:World) (c:Array Value) (t:TypeId) {W0:World} (h:W0=w.alloc (.cells c t)):W0.heap[w.heap.size]?=some (.cells c t (0,0)):=by subst h;exact heap_alloc_new w _
def allocs (w:World) (l:List Obj):World:=l.foldl World.alloc w
theorem allocs_below:∀ (l:List Obj) (w:World),Below w.heap.size w (allocs w l)
 | [],w=>Below.refl _ _
 | o::l,w=>((Below.refl _ _).alloc (Nat.le_refl _) o).trans ((allocs_below l (w.alloc o)).mono (by simp))
theorem allocs_size:∀ (l:List Obj) (w:World),(allocs w l).heap.size=w.heap.size+l.length
 | [],w=>rfl
 | o::l,w=>by
  show (allocs (w.alloc o) l).heap.size=_
  rw [allocs_size l (w.alloc o)];simp;omega
theorem allocs_heap:∀ (l:List Obj) (w:World) (i:Nat),i<l.length→(allocs w l).heap[w.heap.size+i]?=l[i]?
 | [],_,_,h=>absurd h (Nat.not_lt_zero _)
 | o::l,w,0,_=>by
  show (allocs (w.alloc o) l).heap[w.heap.size]?=some o
  rw [(allocs_below l (w.alloc o)).block w.heap.size (by simp)]
  exact heap_alloc_new w o
 | o::l,w,i+1,h=>by
  have:=allocs_heap l (w.alloc o) i (by simpa using h)
  show (allocs (w.alloc o) l).heap[w.heap.size+(i+1)]?=l[i]?
  rw [←this]
  congr 1
  simp;omega
end
section
open Go.ChangeShapes Go.WideShapes Go.ChangeAt Go.RowKit
set_option maxHeartbeats 4000000
set_option maxRecDepth 100000
abbrev Ro:=List (Option Int)
def cAt (t:Ro) (r:Int):Option Int:=if 0≤r∧r<(t.length:Int) then t.getD r.toNat none else none
def numC (t:Ro) (i:In):Option Int :=
 if i.op=1 then some i.num else if i.op=2 then cAt t i.a
 else if i.op=4 then (cAt t i.a).map fun x=>fnF i.fn x 0
 else if i.op=3 then (cAt t i.a).bind fun x=>(cAt t i.b).map fun y=>fnF i.fn x y
 else none
def behC (t:Ro) (i:In):Ro:=if defI i= -1 then t else t.set (defI i).toNat (numC t i)
def thrC (t:Ro) (l:List In):Ro:=l.foldl behC t
def meetC (a b:Ro):Ro:=(List.range a.length).map fun i=>if a.getD i none=b.getD i none then a.getD i none else none
def RoOk (t:Ro):Prop:=∀ r x,t.getD r none=some x→0≤x∧x<4294967296
theorem RoOk.at {t:Ro} (h:RoOk t) (r x:Int) (e:cAt t r=some x):0≤x∧x<4294967296:=by
 unfold cAt at e
 split at e
 ·exact h _ _ e
 ·cases e
theorem behC_len (t:Ro) (i:In):(behC t i).length=t.length:=by unfold behC;split <;> simp
theorem thrC_len (l:List In):∀ t:Ro,(thrC t l).length=t.length:=by
 induction l with
 | nil=>intro t;rfl
 | cons i l ih=>intro t;show (thrC (behC t i) l).length=_;rw [ih,behC_len]
theorem numC_ok {t:Ro} (h:RoOk t) {i:In} (hn:0≤i.num∧i.num<4294967296) (x:Int) (e:numC t i=some x):0≤x∧x<4294967296:=by
 unfold numC at e
 split at e
 ·cases e;exact hn
 ·split at e
  ·exact h.at _ _ e
  ·split at e
   ·cases ha:cAt t i.a with
    | none=>rw [ha] at e;cases e
    | some y=>
     rw [ha] at e
     simp only [Option.map_some,Option.some.injEq] at e
     rw [←e]
     have:=h.at _ _ ha
     exact fnF_bd _ _ _ this.1 this.2 (by decide) (by decide)
   ·split at e
    ·cases ha:cAt t i.a with
     | none=>rw [ha] at e;cases e
     | some y=>
      cases hb:cAt t i.b with
      | none=>rw [ha,hb] at e;cases e
      | some z=>
       rw [ha,hb] at e
       simp only [Option.bind_some,Option.map_some,Option.some.injEq] at e
       rw [←e]
       have h1:=h.at _ _ ha
       have h2:=h.at _ _ hb
       exact fnF_bd _ _ _ h1.1 h1.2 h2.1 h2.2
    ·cases e
theorem behC_ok {t:Ro} (h:RoOk t) {i:In} (hn:0≤i.num∧i.num<4294967296):RoOk (behC t i):=by
 unfold behC
 split
 ·exact h
 ·intro r x e
  by_cases er:(defI i).toNat=r
  ·subst er
   by_cases hl:(defI i).toNat<t.length
   ·simp only [List.getD,List.getElem?_set,hl,if_true,Option.getD_some] at e
    exact numC_ok h hn x e
   ·have:(t.set (defI i).toNat (numC t i))[(defI i).toNat]?=none:=List.getElem?_eq_none (by simp;omega)
    rw [List.getD_eq_getElem?_getD,this] at e
    cases e
  ·simp only [List.getD,List.getElem?_set,if_neg er] at e
   exact h r x (by simpa [List.getD] using e)
def cellC (o:Option Int):List Value:=[.bool o.isSome,.int .u32 (o.getD 0)]
def cellV (o:Option Int):Value:=.agg #[.bool o.isSome,.int .u32 (o.getD 0)]
def RowQ (w:World) (g c:Nat) (t:Ro):Prop:=w.ownsRow 0 73 2 (.slice (some ⟨g,0,none⟩) t.length c) t.length (t.flatMap cellC)
theorem RowQ.below {w w':World} {g c:Nat} {t:Ro} (h:RowQ w g c t) (hb:Below w.heap.size w w'):RowQ w' g c t:=own_below h hb
theorem RowQ.at {w:World} {g c:Nat} {t:Ro} (h:RowQ w g c t):t.length≤c∧c≤maxLen∧(∀ r,r<t.length→w.cell? ⟨g,r*2,none⟩=some (.bool (t.getD r none).isSome)∧w.cell? ⟨g,r*2+1,none⟩=some (.int .u32 ((t.getD r none).getD 0)))∧(0<t.length→(∀ o,w.frozen? ⟨g,o,none⟩=false)∧g<w.heap.size):=by
 have h':=h
 unfold RowQ at h
 obtain ⟨h1,⟨h2,h3⟩|⟨g',cap,cur,h2,hb,hg,hn,hc,hcs,ht⟩⟩:=h
 ·simp at h2
 ·simp only [Value.slice.injEq,Option.some.injEq,Addr.mk.injEq,and_true,true_and] at h2
  obtain ⟨rfl,rfl⟩:=h2
  refine ⟨hn,hc,fun r hr=>?_,fun _=>⟨fun o=>frozen_of_heap hg o,(Array.getElem?_eq_some_iff.1 hg).1⟩⟩
  have f0:=flat_at cellC 2 (fun _=>rfl) t r 0 hr (by decide)
  have f1:=flat_at cellC 2 (fun _=>rfl) t r 1 hr (by decide)
  have hd:t.getD r default=t.getD r none:=rfl
  rw [hd] at f0 f1
  exact ⟨(World.ownsRow.cellAt h' (r*2+0) (by omega)).trans f0,(World.ownsRow.cellAt h' (r*2+1) (by omega)).trans f1⟩
structure RdRo (w:World) (g c:Nat) (t:Ro):Prop where
 le:t.length≤c
 mx:c≤maxLen
 cell:∀ r,r<t.length→w.cell? ⟨g,r*2,none⟩=some (.bool (t.getD r none).isSome)∧w.cell? ⟨g,r*2+1,none⟩=some (.int .u32 ((t.getD r none).getD 0))
theorem RdRo.ext {w w':World} {g c:Nat} {t:Ro} (h:RdRo w g c t) (he:Ext w w'):RdRo w' g c t:=⟨h.le,h.mx,fun r hr=>⟨he _ _ (h.cell r hr).1,he _ _ (h.cell r hr).2⟩⟩
theorem RowQ.rd {w:World} {g c:Nat} {t:Ro} (h:RowQ w g c t):RdRo w g c t:=⟨h.at.1,h.at.2.1,h.at.2.2.1⟩
theorem atC_c (g c:Nat) (t:Ro) (r:Int) (w:World) (h:RdRo w g c t) :
  Calls Tryz.prog 30 #[.slice (some ⟨g,0,none⟩) t.length c,.int .i64 r] w fun e w'=>e=.returned (cellV (cAt t r))∧Below w.heap.size w w':=by
 obtain ⟨h1,h2,h3⟩:=h
 unfold maxLen at h2
 by_cases hr:0≤r∧r<(t.length:Int)
 ·obtain ⟨q,rfl⟩:=Int.eq_ofNat_of_zero_le hr.1
  have hq:q<t.length:=by omega
  obtain ⟨c0,c1⟩:=h3 q hq
  have HC:Hid (cAt t (q:Int)=t.getD q none):=by
   show _=_
   unfold cAt;rw [if_pos hr];rfl
  have lg:=World.block_lt_of_cell? _ _ c0
  have g1:decide ((q:Int)<0)=false:=decide_eq_false (by omega)
  have g2:decide ((q:Int) ≥ (t.length:Int))=false:=decide_eq_false (by omega)
  have g3:decide ((t.length:Int)≤(q:Int))=false:=decide_eq_false (by omega)
  have g4:decide (t.length≤q)=false:=decide_eq_false (by omega)
  have g5:decide (q<t.length)=true:=decide_eq_true hq
  have g6:decide ((q:Int)<(t.length:Int))=true:=decide_eq_true (by omega)
  rw [HC.out]
  clear HC h3 hr
  generalize t.getD q none=o at *
  generalize t.length=n at *
  obtain ⟨S,hS⟩:∃ S,o.isSome=S:=⟨_,rfl⟩
  obtain ⟨X,hX⟩:∃ X,o.getD 0=X:=⟨_,rfl⟩
  unfold cellV
  rw [hS] at c0 ⊢
  rw [hX] at c1 ⊢
  clear hS hX
  go_enter Tryz.func30,Tryz.ntmps30
  go_wp2_with fail
  refine bodyPost_ret (v:=.agg #[.bool S,.int .u32 X]) (by simp [results,Tryz.results30,go_sem]) rfl ?_
  exact ⟨rfl,below_alloc _ _⟩
 ·have HC:Hid (cAt t r=none):=by
   show _=_
   unfold cAt;rw [if_neg hr]
  rw [HC.out]
  clear HC h3
  unfold cellV
  generalize t.length=n at *
  by_cases h0:r<0
  ·have g1:decide (r<0)=true:=decide_eq_true h0
   go_enter Tryz.func30,Tryz.ntmps30
   go_wp2_with fail
   refine bodyPost_ret (v:=.agg #[.bool false,.int .u32 0]) (by simp [results,Tryz.results30,go_sem]) rfl ?_
   exact ⟨rfl,below_alloc _ _⟩
  ·have g1:decide (r<0)=false:=decide_eq_false h0
   have g2:decide (r ≥ (n:Int))=true:=decide_eq_true (by omega)
   have g3:decide ((n:Int)≤r)=true:=decide_eq_true (by omega)
   go_enter Tryz.func30,Tryz.ntmps30
   go_wp2_with fail
   refine bodyPost_ret (v:=.agg #[.bool false,.int .u32 0]) (by simp [results,Tryz.results30,go_sem]) rfl ?_
   exact ⟨rfl,below_alloc _ _⟩
end
section
open Go.ChangeShapes Go.WideShapes Go.ChangeAt Go.RowKit
set_option maxHeartbeats 4000000
set_option maxRecDepth 100000
end
section
open Go.ChangeShapes Go.WideShapes Go.ChangeAt Go.RowKit
set_option maxHeartbeats 4000000
set_option maxRecDepth 100000
end
section
open Go.ChangeShapes Go.WideShapes Go.ChangeAt Go.RowKit
set_option maxHeartbeats 4000000
set_option maxRecDepth 100000
end
section
open Go.ChangeShapes Go.WideShapes Go.ChangeAt Go.RowKit
set_option maxHeartbeats 4000000
set_option maxRecDepth 100000
end
section
open Go.ChangeShapes Go.WideShapes Go.ChangeAt Go.RowKit
set_option maxHeartbeats 4000000
set_option maxRecDepth 100000
end
section
open Go.ChangeShapes Go.WideShapes Go.ChangeAt Go.RowKit
set_option maxHeartbeats 4000000
set_option maxRecDepth 100000
end
section
open Go.ChangeShapes Go.WideShapes Go.ChangeAt Go.RowKit
set_option maxHeartbeats 4000000
set_option maxRecDepth 100000
end
section
open Go.ChangeShapes Go.WideShapes Go.ChangeAt Go.RowKit
end
section
open Go.ChangeShapes Go.WideShapes Go.ChangeAt Go.RowKit
set_option maxHeartbeats 4000000
set_option maxRecDepth 100000
end
section
end
section
open Go Go.RowKit
structure Head (p:Pr):Prop where
 p0:0≤p.params
 p6:p.params≤6
 pr:p.params≤p.regs
 r8:p.regs≤8000
 ol:p.objs.length≤400
 b1:1≤p.blks.length
 b4:p.blks.length≤4000
 sl:p.objs.all slotF=true
theorem okP_head {m:Md} {p:Pr} (h:okP m p=true):Head p:=by
 unfold okP okHead at h
 simp only [Bool.and_eq_true,decide_eq_true_eq] at h
 obtain ⟨⟨h1,h2,h3,h4,h5,h6,h7,h8,h9⟩, -⟩:=h
 exact ⟨h1,h2,h3,h4,h5,h6,h7,h8⟩
theorem okP_blk {m:Md} {p:Pr} (h:okP m p=true) {b:Nat} (hb:b<p.blks.length):okB m p (p.blks.getD b default)=true:=by
 unfold okP at h
 simp only [Bool.and_eq_true] at h
 have h2:=h.2
 rw [List.all_eq_true] at h2
 exact h2 _ (by simp [List.getD,hb])
theorem okB_ins {m:Md} {p:Pr} {b:Bk} (h:okB m p b=true) {i:Nat} (hi:i<b.ins.length):okI m p (b.ins.getD i default)=true:=by
 unfold okB at h
 simp only [Bool.and_eq_true] at h
 have h2:=h.1
 rw [List.all_eq_true] at h2
 exact h2 _ (by simp [List.getD,hi])
theorem okB_end {m:Md} {p:Pr} {b:Bk} (h:okB m p b=true):endF p b=true:=by
 unfold okB at h
 simp only [Bool.and_eq_true] at h
 exact h.2
theorem RdI.at' {w:World} {a:Option Addr} {n c:Nat} {l:List Int} (h:RdI w (.slice a n c) l):n=l.length∧∀ k,k<l.length→∃ b o,a=some ⟨b,o,none⟩∧w.cell? ⟨b,o+k,none⟩=some (.int .i64 (l.getD k 0)):=by
 obtain ⟨a',c',e,h1,h2,hc⟩:=h
 simp only [Value.slice.injEq] at e
 obtain ⟨rfl,rfl,rfl⟩:=e
 refine ⟨rfl,fun k hk=>?_⟩
 obtain ⟨b,o,rfl,h0⟩:=hc k hk
 exact ⟨b,o,rfl,by simpa using h0⟩
end
section
open Go.ChangeShapes Go.WideShapes Go.ChangeAt Go.RowKit
set_option maxHeartbeats 1000000
set_option maxRecDepth 20000
structure Kq (k:RK) (bg:Nat) (vo vo':Value) (w w':World):Prop where
 size:w.heap.size≤w'.heap.size
 «to»:vo'.ownBlock=vo.ownBlock∨∃ g,vo'.ownBlock=some g∧w.heap.size≤g
 keep:∀ b,b<w.heap.size→b≠k.br→b≠k.bm→some b≠vo.ownBlock→b≠bg→w'.heap[b]?=w.heap[b]?
theorem Kq.refl (k:RK) (bg:Nat) (vo:Value) (w:World):Kq k bg vo vo w w:=⟨Nat.le_refl _,.inl rfl,fun _ _ _ _ _ _=>rfl⟩
theorem Kq.trans {k:RK} {bg:Nat} {v1 v2 v3:Value} {w1 w2 w3:World} (h:Kq k bg v1 v2 w1 w2) (h':Kq k bg v2 v3 w2 w3):Kq k bg v1 v3 w1 w3:=by
 refine ⟨Nat.le_trans h.size h'.size,?_,fun b hb h1 h2 h3 h4=>?_⟩
 ·rcases h'.to with e|⟨g,e,hg⟩
  ·rw [e];exact h.to
  ·exact .inr ⟨g,e,Nat.le_trans h.size hg⟩
 ·rw [h'.keep b (Nat.lt_of_lt_of_le hb h.size) h1 h2 ?_ h4,h.keep b hb h1 h2 h3 h4]
  rcases h.to with e|⟨g,e,hg⟩
  ·rw [e];exact h3
  ·rw [e];intro e2;simp only [Option.some.injEq] at e2;omega
theorem Kp.q {k:RK} {vo vo':Value} {w w':World} (h:Kp k vo vo' w w') (bg:Nat):Kq k bg vo vo' w w':=⟨h.size,h.to,fun b hb h1 h2 h3 _=>h.keep b hb h1 h2 h3⟩
theorem Kq.p {k:RK} {bg:Nat} {vo vo':Value} {w w1 w':World} (hb:Below w.heap.size w w1) (h:Kq k bg vo vo' w1 w') (hg:w.heap.size≤bg):Kp k vo vo' w w':=by
 refine ⟨Nat.le_trans hb.size h.size,?_,fun b hl h1 h2 h3=>?_⟩
 ·rcases h.to with e|⟨g,e,hg⟩
  ·exact .inl e
  ·exact .inr ⟨g,e,Nat.le_trans hb.size hg⟩
 ·rw [h.keep b (Nat.lt_of_lt_of_le hl hb.size) h1 h2 h3 (by omega),hb.block b hl]
theorem Kq.of_below {k:RK} {bg:Nat} {vo:Value} {w w':World} (h:Below w.heap.size w w'):Kq k bg vo vo w w':=(Kp.of_below h).q bg
theorem Kq.set (k:RK) (bg n:Nat) (vo x:Value) (w:World):Kq k bg vo vo w (w.setCell ⟨bg,n,none⟩ x):=by
 refine ⟨by simp,.inl rfl,fun b _ _ _ _ h=>?_⟩
 exact heap_setCell_other w ⟨bg,n,none⟩ b x h
structure Fw (k:RK) (p:Pr) (bf bg c:Nat) (nm:ByteArray) (vob vbl vat:Value) (low:Int) (w:World) (vo:Value) (regs:List Int):Prop where
 fx:w.ownsRow k.wp.heap.size 149 9 (rowOf bf 1) 1 [.slice (some ⟨bg,0,none⟩) regs.length c,.string nm,.bool p.void,.int .i64 p.params,.int .i64 p.regs,vob,vbl,vat,.int .i64 low]
 ar:w.ownsRow k.wp.heap.size 3 1 vat p.objs.length ((slL p.objs p.objs.length).map (Value.int .i64))
 rr:w.ownsRow k.wp.heap.size 45 1 (.slice (some ⟨bg,0,none⟩) regs.length c) regs.length (regs.map (Value.int .u32))
 ne:some bg≠vo.ownBlock
 wd:∀ x∈regs,0≤x∧x<4294967296
 cap:regs.length≤c∧c≤1000000
section
variable {k:RK} {p:Pr} {bf bg c:Nat} {nm:ByteArray} {vob vbl vat:Value} {low:Int} {w w':World} {vo vo':Value} {regs:List Int} {s s':RS}
theorem Fw.bfLt (h:Fw k p bf bg c nm vob vbl vat low w vo regs):k.wp.heap.size≤bf∧bf<w.heap.size:=own_lt h.fx rfl
theorem Fw.bgLt (h:Fw k p bf bg c nm vob vbl vat low w vo regs):k.wp.heap.size≤bg∧bg<w.heap.size:=own_lt h.rr rfl
theorem Fw.neR (h:Fw k p bf bg c nm vob vbl vat low w vo regs) (hr:Rn k w vo s):bf≠k.br∧bf≠k.bm∧some bf≠vo.ownBlock∧bg≠k.br∧bg≠k.bm∧bf≠bg:=by
 have q:∀ {a b:Nat} {x y:Value},x.ownBlock=some a→y.ownBlock=some b→(x.ownBlock=none∨x.ownBlock≠y.ownBlock)→a≠b:=fun h1 h2 h3 e=>by
  rcases h3 with h|h
  ·rw [h1] at h;cases h
  ·rw [h1,h2,e] at h;exact h rfl
 refine ⟨q rfl rfl (rows_neR h.fx hr.bx (by decide)),q rfl rfl (rows_neR h.fx hr.mm (by decide)),?_,q rfl rfl (rows_neR h.rr hr.bx (by decide)),q rfl rfl (rows_neR h.rr hr.mm (by decide)),q rfl rfl (rows_neR h.fx h.rr (by decide))⟩
 rcases rows_neR h.fx hr.oo (by decide) with h|h
 ·cases h
 ·exact h
theorem Fw.keep (h:Fw k p bf bg c nm vob vbl vat low w vo regs) (hr:Rn k w vo s) (hk:Kp k vo vo' w w'):Fw k p bf bg c nm vob vbl vat low w' vo' regs:=by
 have hn:=h.neR hr
 have hvat:=rows_neR h.ar hr.bx (by decide)
 have hvam:=rows_neR h.ar hr.mm (by decide)
 have hvao:=rows_neR h.ar hr.oo (by decide)
 have tr:∀ {e:TypeId} {z n:Nat} {v:Value} {xs:List Value},w.ownsRow k.wp.heap.size e z v n xs→(v.ownBlock=none∨v.ownBlock≠some k.br)→(v.ownBlock=none∨v.ownBlock≠some k.bm)→(v.ownBlock=none∨v.ownBlock≠vo.ownBlock)→w'.ownsRow k.wp.heap.size e z v n xs:=by
  intro e z n v xs h h1 h2 h3
  obtain ⟨q0,⟨rfl,q⟩|⟨b,cap,cur,rfl,hb,hgg,hrest⟩⟩:=h
  ·exact ⟨q0,.inl ⟨rfl,q⟩⟩
  ·refine ⟨q0,.inr ⟨b,cap,cur,rfl,hb,?_,hrest⟩⟩
   simp only [Value.ownBlock,reduceCtorEq,false_or,ne_eq,Option.some.injEq] at h1 h2 h3
   rw [hk.keep b (Array.getElem?_eq_some_iff.1 hgg).1 h1 h2 (fun e=>h3 e)]
   exact hgg
 refine ⟨tr h.fx (.inr (by simpa [rowOf,Value.ownBlock] using hn.1)) (.inr (by simpa [rowOf,Value.ownBlock] using hn.2.1)) (.inr (by simpa [rowOf,Value.ownBlock] using hn.2.2.1)),tr h.ar hvat hvam hvao,
  tr h.rr (.inr (by simpa [Value.ownBlock] using hn.2.2.2.1)) (.inr (by simpa [Value.ownBlock] using hn.2.2.2.2.1)) (.inr (by simpa [Value.ownBlock] using h.ne)),?_,h.wd,h.cap⟩
 rcases hk.to with e|⟨g,e,hg⟩
 ·rw [e];exact h.ne
 ·rw [e];have:=h.bgLt;intro e2;simp only [Option.some.injEq] at e2;omega
theorem Fw.grow (h:Fw k p bf bg c nm vob vbl vat low w vo regs) (hb:Below w.heap.size w w'):Fw k p bf bg c nm vob vbl vat low w' vo regs :=
 ⟨own_below h.fx hb,own_below h.ar hb,own_below h.rr hb,h.ne,h.wd,h.cap⟩
theorem Fw.cR (h:Fw k p bf bg c nm vob vbl vat low w vo regs):w.cell? ⟨bf,0,none⟩=some (.slice (some ⟨bg,0,none⟩) regs.length c):=h.fx.cellAt 0 (by decide)
theorem Fw.cA (h:Fw k p bf bg c nm vob vbl vat low w vo regs):w.cell? ⟨bf,7,none⟩=some vat:=h.fx.cellAt 7 (by decide)
theorem Fw.cL (h:Fw k p bf bg c nm vob vbl vat low w vo regs):w.cell? ⟨bf,8,none⟩=some (.int .i64 low):=h.fx.cellAt 8 (by decide)
theorem Fw.cX (h:Fw k p bf bg c nm vob vbl vat low w vo regs) (n:Nat) (hn:n<regs.length):w.cell? ⟨bg,n,none⟩=some (.int .u32 (regs.getD n 0)):=by
 rw [h.rr.cellAt n (by omega)]
 simp [List.getD,hn]
theorem Fw.fz (h:Fw k p bf bg c nm vob vbl vat low w vo regs) (n:Nat):w.frozen? ⟨bg,n,none⟩=false:=h.rr.frozenAt n
theorem Fw.word (h:Fw k p bf bg c nm vob vbl vat low w vo regs) (n:Nat):0≤regs.getD n 0∧regs.getD n 0<4294967296:=by
 by_cases hn:n<regs.length
 ·have:regs.getD n 0∈regs:=by simp [List.getD,hn]
  exact h.wd _ this
 ·have:regs.getD n 0=0:=by simp [List.getD,Nat.le_of_not_lt hn]
  omega
theorem Fw.setR (h:Fw k p bf bg c nm vob vbl vat low w vo regs) (hr:Rn k w vo s) (n:Nat) (x:Int) (h0:0≤x) (h1:x<4294967296) :
  Rn k (w.setCell ⟨bg,n,none⟩ (.int .u32 x)) vo s∧Fw k p bf bg c nm vob vbl vat low (w.setCell ⟨bg,n,none⟩ (.int .u32 x)) vo (regs.set n x)∧Kq k bg vo vo w (w.setCell ⟨bg,n,none⟩ (.int .u32 x)):=by
 have hn:=h.neR hr
 obtain ⟨a,b⟩:=h.rr.stored n (.int .u32 x)
 have hg:=h.bgLt
 refine ⟨⟨hr.bx.kept b (.inr (by simpa [rowOf,Value.ownBlock] using Ne.symm hn.2.2.2.1)),hr.mm.kept b (.inr (by simpa [rowOf,Value.ownBlock] using Ne.symm hn.2.2.2.2.1)),hr.oo.kept b (.inr (Ne.symm h.ne)),hr.aa.kept b (rows_neR hr.aa h.rr (by decide)),hr.md,hr.ii,hr.below.setCell (p:=⟨bg,n,none⟩) hg.1 _⟩,
  ⟨?_,h.ar.kept b (rows_neR h.ar h.rr (by decide)),?_,h.ne,?_,by simpa using h.cap⟩,Kq.set k bg n vo _ w⟩
 ·have:=h.fx.kept b (rows_neR h.fx h.rr (by decide));simpa using this
 ·have e:(regs.set n x).map (Value.int .u32)=(regs.map (Value.int .u32)).set n (.int .u32 x):=List.map_set
  rw [e,List.length_set];exact a
 ·intro y hy
  rcases List.mem_or_eq_of_mem_set hy with h2|rfl
  ·exact h.wd y h2
  ·exact ⟨h0,h1⟩
end
end
end Go.Proofs.YtkhfddodmjnecaaGreatDoor
