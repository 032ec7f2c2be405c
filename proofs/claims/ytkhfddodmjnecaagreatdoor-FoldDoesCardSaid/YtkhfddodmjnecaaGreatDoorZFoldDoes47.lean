/-
Numbers as text, each with a blank ahead: the walk.
-/
import Derived.Test.YtkhfddodmjnecaaGreatDoorZFoldDoes45
import Derived.Lib.ItoaNum
import Derived.Test.YtkhfddodmjnecaaGreatDoorProg
import Derived.Shelf.Strings.Builder1
import Derived.Shelf.Strings.BuilderF
import Derived.Shelf.Strings.BuilderK
import Derived.Shelf.Strconv.Itoa0
import Derived.Shelf.Strconv.Itoa1
import Derived.Shelf.LaysM
import Derived.Shelf.Strconv.Itoa2
import Derived.Shelf.Strconv.Itoa3
import Derived.Shelf.Strings.BuilderCap
import Derived.Shelf.Slices.Reverse
import Derived.Shelf.Slices.Cells
import Derived.Lib.SmallJoins
import Derived.Lib.ItoaLen
import Derived.Lib.AppendIntMem
set_option linter.all false
namespace Go.Proofs.YtkhfddodmjnecaaGreatDoor
section
open Go.ChangeShapes Go.WideShapes Go.ChangeAt Go.RowKit
set_option maxHeartbeats 16000000
set_option maxRecDepth 100000
end
section
open Go.ChangeShapes Go.WideShapes Go.ChangeAt Go.RowKit Go.Maps
set_option maxHeartbeats 4000000
set_option maxRecDepth 100000
end
section
open Go.ChangeShapes Go.WideShapes Go.ChangeAt Go.RowKit Go.Maps
set_option maxHeartbeats 4000000
set_option maxRecDepth 100000
def kI0:In:=⟨1,1, -1, -1,0,0,0,0,2,[],false⟩
def kI1:In:=⟨1,2, -1, -1,0,0,0,0,3,[],false⟩
def kI2:In:=⟨3,3,1,2,1,0,0,0,0,[],false⟩
def kI3:In:=⟨10, -1,3, -1,0,0,0,0,0,[],false⟩
def kP:Pr:=⟨false,0,4,[],[⟨[kI0,kI1,kI2,kI3],3,0,0,0⟩]⟩
theorem kP_run {X:Tb} (h:RunC kP (wkD kP).ord.reverse (X0C kP.blks.length 4) X):X=X0C 1 4:=by
 induction h with
 | start=>rfl
 | step X n t _ hn ht ih=>
  have h0:n=0:=by
   have:=wkD_ord kP _ (List.mem_reverse.1 hn)
   have hl:kP.blks.length=1:=rfl
   omega
  subst h0
  rw [ih];rfl
theorem kP_known:(knwP kP (atB 4 (X0C 1 4))).blks=[⟨[kI0,kI1,constI 3 5,kI3],3,0,0,0⟩]:=by rfl
theorem kP_ins:∀ n,n<kP.blks.length→InsC 4 (kP.blks.getD n default).ins∧(kP.blks.getD n default).ins.length≤100000:=fun n hn=>by
 obtain rfl:n=0:=by have:n<1:=hn;omega
 refine ⟨⟨fun i hi=>?_,fun i hi=>?_⟩,by decide⟩
 all_goals
  have h:i=kI0∨i=kI1∨i=kI2∨i=kI3:=by simpa [kP,List.getD] using hi
  rcases h with rfl|rfl|rfl|rfl <;> decide
theorem kP_out:∀ n,n<kP.blks.length→∀ q∈outsB (kP.blks.getD n default),0≤q∧q<(kP.blks.length:Int):=fun n hn q hq=>by
 obtain rfl:n=0:=by have:n<1:=hn;omega
 have:q∈([]:List Int):=hq
 cases this
def kIns:Obj:=.cells #[.int .i64 1,.int .i64 1,.int .i64 (-1),.int .i64 (-1),.int .i64 0,.int .i64 0,.int .i64 0,.int .i64 0,.int .u32 2,.slice none 0 0,.bool false,.int .i64 1,.int .i64 2,.int .i64 (-1),.int .i64 (-1),.int .i64 0,.int .i64 0,.int .i64 0,.int .i64 0,.int .u32 3,.slice none 0 0,.bool false,.int .i64 3,.int .i64 3,.int .i64 1,.int .i64 2,.int .i64 1,.int .i64 0,.int .i64 0,.int .i64 0,.int .u32 0,.slice none 0 0,.bool false,.int .i64 10,.int .i64 (-1),.int .i64 3,.int .i64 (-1),.int .i64 0,.int .i64 0,.int .i64 0,.int .i64 0,.int .u32 0,.slice none 0 0,.bool false] 48
def kBks (w:World):Obj:=.cells #[.slice (some ⟨w.heap.size,0,none⟩) 4 4,.int .i64 3,.int .i64 0,.int .i64 0,.int .i64 0] 43
theorem awake17_c (w:World):Calls Tryz.prog 7 #[] w fun e w'=>e=.returned (.bool true)∧Below w.heap.size w w':=by
 obtain ⟨W1,hW1⟩:∃ W1,W1=(w.alloc kIns).alloc (kBks w):=⟨_,rfl⟩
 have hW1':W1=allocs w [kIns,kBks w]:=hW1
 have B1:Hid (Below w.heap.size w W1):=by rw [hW1'];exact allocs_below _ _
 have H0:W1.heap[w.heap.size]?=some kIns:=by rw [hW1'];exact allocs_heap _ w 0 (by simp)
 have H1:W1.heap[w.heap.size+1]?=some (kBks w):=by rw [hW1'];exact allocs_heap _ w 1 (by simp)
 unfold kIns kBks at hW1
 unfold kIns at H0
 unfold kBks at H1
 have k0:∀ j u,(#[Value.int .i64 1,.int .i64 1,.int .i64 (-1),.int .i64 (-1),.int .i64 0,.int .i64 0,.int .i64 0,.int .i64 0,.int .u32 2,.slice none 0 0,.bool false,.int .i64 1,.int .i64 2,.int .i64 (-1),.int .i64 (-1),.int .i64 0,.int .i64 0,.int .i64 0,.int .i64 0,.int .u32 3,.slice none 0 0,.bool false,.int .i64 3,.int .i64 3,.int .i64 1,.int .i64 2,.int .i64 1,.int .i64 0,.int .i64 0,.int .i64 0,.int .u32 0,.slice none 0 0,.bool false,.int .i64 10,.int .i64 (-1),.int .i64 3,.int .i64 (-1),.int .i64 0,.int .i64 0,.int .i64 0,.int .i64 0,.int .u32 0,.slice none 0 0,.bool false])[j]?=some u→W1.cell? ⟨w.heap.size,j,none⟩=some u:=fun j u h=>(cell_of_heap H0 j).trans h
 have k1:∀ j u,(#[Value.slice (some ⟨w.heap.size,0,none⟩) 4 4,.int .i64 3,.int .i64 0,.int .i64 0,.int .i64 0])[j]?=some u→W1.cell? ⟨w.heap.size+1,j,none⟩=some u:=fun j u h=>(cell_of_heap H1 j).trans h
 have hnil:∀ W:World,RdI W (.slice none 0 0) []:=fun W=>⟨none,0,rfl,Nat.le_refl _,Nat.zero_le _,fun i hi=>absurd hi (Nat.not_lt_zero i)⟩
 have hins:RdIns W1 (.slice (some ⟨w.heap.size,0,none⟩) 4 4) [kI0,kI1,kI2,kI3]:=by
  refine ⟨_,_,rfl,Nat.le_refl _,by unfold maxLen;omega,fun i hi=>⟨_,_,rfl,?_⟩⟩
  have h3:i=0∨i=1∨i=2∨i=3:=by simp at hi;omega
  rcases h3 with rfl|rfl|rfl|rfl
  ·exact ⟨k0 0 _ rfl,k0 1 _ rfl,k0 2 _ rfl,k0 3 _ rfl,k0 4 _ rfl,k0 5 _ rfl,k0 6 _ rfl,k0 7 _ rfl,k0 8 _ rfl,⟨_,k0 9 _ rfl,hnil _⟩,k0 10 _ rfl⟩
  ·exact ⟨k0 11 _ rfl,k0 12 _ rfl,k0 13 _ rfl,k0 14 _ rfl,k0 15 _ rfl,k0 16 _ rfl,k0 17 _ rfl,k0 18 _ rfl,k0 19 _ rfl,⟨_,k0 20 _ rfl,hnil _⟩,k0 21 _ rfl⟩
  ·exact ⟨k0 22 _ rfl,k0 23 _ rfl,k0 24 _ rfl,k0 25 _ rfl,k0 26 _ rfl,k0 27 _ rfl,k0 28 _ rfl,k0 29 _ rfl,k0 30 _ rfl,⟨_,k0 31 _ rfl,hnil _⟩,k0 32 _ rfl⟩
  ·exact ⟨k0 33 _ rfl,k0 34 _ rfl,k0 35 _ rfl,k0 36 _ rfl,k0 37 _ rfl,k0 38 _ rfl,k0 39 _ rfl,k0 40 _ rfl,k0 41 _ rfl,⟨_,k0 42 _ rfl,hnil _⟩,k0 43 _ rfl⟩
 have hbks:RdBks W1 (.slice (some ⟨w.heap.size+1,0,none⟩) 1 1) kP.blks:=by
  refine ⟨_,_,rfl,Nat.le_refl _,by unfold maxLen;omega,fun i hi=>⟨_,_,rfl,?_⟩⟩
  obtain rfl:i=0:=by simp [kP] at hi;omega
  exact ⟨⟨_,k1 0 _ rfl,hins⟩,k1 1 _ rfl,k1 2 _ rfl,k1 3 _ rfl,k1 4 _ rfl⟩
 have hobj:RdSls W1 (.slice none 0 0) []:=⟨none,0,rfl,Nat.le_refl _,Nat.zero_le _,fun i hi=>absurd hi (Nat.not_lt_zero i)⟩
 have HK:=Lib.hid (known_c kP ⟨#[]⟩ (.slice none 0 0) (.slice (some ⟨w.heap.size+1,0,none⟩) 1 1) W1 4 ⟨⟨#[]⟩,_,_,rfl,hobj,hbks⟩ rfl (by decide) (by decide) (by decide) (List.length_pos_of_mem (ord_zero kP (by decide))) kP_ins kP_out)
 clear hbks hins hobj hnil k0 k1 H0 H1 hW1'
 go_enter Tryz.func7,Tryz.ntmps7
 go_wp2_with fail
 rw [←hW1]
 clear hW1
 refine HK.out.mono ?_
 clear HK
 rintro e w2 ⟨X,vb,rfl, -,hrun, -,hb,hbl⟩
 rw [kP_run hrun,kP_known] at hb
 clear hrun
 have BB:=Lib.hid (B1.out.trans (hbl.mono B1.out.size))
 clear hbl B1
 obtain ⟨a1,q1,hq1, -, -,h4⟩:=hb
 obtain ⟨bb,ob,rfl,⟨⟨va,y0,hva⟩, -, -, -, -⟩⟩:=h4 0 (by decide)
 have hq1:vb=.slice (some ⟨bb,ob,none⟩) 1 q1:=hq1
 subst hq1
 have hva:RdIns w2 va [kI0,kI1,constI 3 5,kI3]:=hva
 obtain ⟨ai,ci,hai, -, -,h5⟩:=hva
 obtain ⟨bi,oi,rfl,hc⟩:=h5 2 (by decide)
 have hai:va=.slice (some ⟨bi,oi,none⟩) 4 ci:=hai
 subst hai
 have y0:w2.cell? ⟨bb,ob,none⟩=some (.slice (some ⟨bi,oi,none⟩) 4 ci):=y0
 have y1:w2.cell? ⟨bi,oi+22,none⟩=some (.int .i64 1):=hc.op
 have y2:w2.cell? ⟨bi,oi+30,none⟩=some (.int .u32 5):=hc.num
 clear h4 h5 hc
 have lb:=World.block_lt_of_cell? _ _ y0
 have li:=World.block_lt_of_cell? _ _ y1
 rename_i y9
 clear y9
 go_wp2_with fail
 go_ret
 exact ⟨rfl,BB.out.alloc BB.out.size _⟩
end
section
open Go.ChangeShapes Go.WideShapes Go.ChangeAt Go.RowKit
set_option maxHeartbeats 4000000
set_option maxRecDepth 100000
def rightB (m:Md) (n:Int):Bool:=fewM m && (decide (0≤n) && (decide (n<(m.procs.length:Int)) && (decide ((m.procs.getD n.toNat default).regs≤40) && okM m)))
theorem rightM_c (m:Md) (v:Value) (n:Int) (w:World) (hv:MdV w v m) :
  Calls Tryz.prog 6 #[v,.int .i64 n] w fun e w'=>e=.returned (.bool (rightB m n))∧Below w.heap.size w w':=by
 have HF:Hid (∀ w',Ext w w'→Calls Tryz.prog 24 #[v] w' fun e w''=>e=.returned (.bool (fewM m))∧Below w'.heap.size w' w''):=fun w' he=>few_c m v w' (hv.ext he)
 have HV:=Lib.hid hv
 obtain ⟨vg,vd,vp,rfl,hvg,hvd,hvp⟩:=hv
 have hvp':=hvp
 obtain ⟨ap,cp,rfl,hp1,hp2, -⟩:=hvp'
 unfold maxLen at hp2
 have HPS:=Lib.hid (RdPrs.at6 hvp).2
 clear hvg hvd hvp
 obtain ⟨W0,hW0⟩:∃ W0,W0=w.alloc (.cells #[vg,vd,.slice ap m.procs.length cp,.int .i64 m.main] 26):=⟨_,rfl⟩
 have B0:Hid (Below w.heap.size w W0):=by rw [hW0];exact below_alloc w _
 have H0:=Lib.hid (heap_of_alloc w _ _ hW0)
 have HW0:=Lib.hid hW0
 clear hW0
 go_enter Tryz.func6,Tryz.ntmps6
 go_wp2_with fail
 rw [←HW0.out]
 refine (HF.out W0 (Ext.below B0.out)).mono ?_
 rintro e w1 ⟨rfl,hb1⟩
 have H0:=Lib.hid ((hb1.block w.heap.size (Array.getElem?_eq_some_iff.1 H0.out).1).trans H0.out)
 have BB:=Lib.hid (B0.out.trans (hb1.mono B0.out.size))
 clear hb1 HF HW0 B0
 obtain ⟨y0,y1,y2,y3,l0⟩:=cl4 H0.out
 cases hfw:fewM m
 ·have hR:Hid (rightB m n=false):=by show _=_;unfold rightB;rw [hfw];rfl
  clear hfw
  go_wp2_with fail
  go_ret
  exact ⟨ret_b hR.out.symm,BB.out⟩
 ·by_cases h0:0≤n
  ·obtain ⟨k,rfl⟩:=Int.eq_ofNat_of_zero_le h0
   have g0:decide (0≤(k:Int))=true:=decide_eq_true (by omega)
   by_cases h1:k<m.procs.length
   ·have g1:decide ((k:Int)<(m.procs.length:Int))=true:=decide_eq_true (by omega)
    have g2:decide (k<m.procs.length)=true:=decide_eq_true h1
    obtain ⟨bp,op,tnm,tvo,tvb,hap,hto,htb,t0,t1,t2,t3,t4,t5⟩:=HPS.out k h1
    subst hap
    have hE:Ext w w1:=Ext.below BB.out
    replace t3:=hE _ _ t3
    have lbp:bp<w1.heap.size:=World.block_lt_of_cell? w1 _ t3
    clear hto htb t0 t1 t2 t4 t5 hE
    have HRG:Hid (rightB m (k:Int)=(decide ((m.procs.getD k default).regs≤40) && okM m)):=by
     show _=_
     unfold rightB
     rw [hfw,g0,g1,Int.toNat_natCast];rfl
    have HSZ:=Lib.hid (fewM_sz hfw)
    clear hfw HPS
    generalize (m.procs.getD k default).regs=rg at *
    by_cases h2:rg≤40
    ·have g3:decide (rg≤40)=true:=decide_eq_true h2
     go_wp2_with fail
     refine (check_c m _ w1 (HV.out.ext (Ext.below BB.out)) HSZ.out).mono ?_
     rintro e w2 ⟨rfl,hb2⟩
     have BB:=Lib.hid (BB.out.trans (hb2.mono BB.out.size))
     clear hb2
     cases hok:okM m
     ·have hR:Hid (rightB m (k:Int)=false):=by show _=_;rw [HRG.out,g3,hok];rfl
      have hk:okE m=3:=by unfold okE;rw [hok];rfl
      rw [hk]
      clear hok hk
      go_wp2_with fail
      go_ret
      exact ⟨ret_b hR.out.symm,BB.out⟩
     ·have hR:Hid (rightB m (k:Int)=true):=by show _=_;rw [HRG.out,g3,hok];rfl
      have hk:okE m=0:=by unfold okE;rw [hok];rfl
      rw [hk]
      clear hok hk
      go_wp2_with fail
      go_ret
      exact ⟨ret_b hR.out.symm,BB.out⟩
    ·have g3:decide (rg≤40)=false:=decide_eq_false h2
     have hR:Hid (rightB m (k:Int)=false):=by show _=_;rw [HRG.out,g3];rfl
     go_wp2_with fail
     go_ret
     exact ⟨ret_b hR.out.symm,BB.out⟩
   ·have g1:decide ((k:Int)<(m.procs.length:Int))=false:=decide_eq_false (by omega)
    have g2:decide (k<m.procs.length)=false:=decide_eq_false h1
    have hR:Hid (rightB m (k:Int)=false):=by show _=_;unfold rightB;rw [hfw,g0,g1];rfl
    clear hfw
    go_wp2_with fail
    go_ret
    exact ⟨ret_b hR.out.symm,BB.out⟩
  ·have g0:decide (0≤n)=false:=decide_eq_false h0
   have hR:Hid (rightB m n=false):=by show _=_;unfold rightB;rw [hfw,g0];rfl
   clear hfw
   go_wp2_with fail
   go_ret
   exact ⟨ret_b hR.out.symm,BB.out⟩
theorem rightB_is {m:Md} {n:Int} (h:rightB m n=true):fewM m=true∧∃ k:Nat,n=(k:Int)∧k<m.procs.length∧(m.procs.getD k default).regs≤40∧okM m=true:=by
 unfold rightB at h
 simp only [Bool.and_eq_true,decide_eq_true_eq] at h
 obtain ⟨h0,h1,h2,h3,h4⟩:=h
 exact ⟨h0,n.toNat,by omega,by omega,h3,h4⟩
end
section
open Go.ChangeShapes Go.WideShapes Go.ChangeAt Go.RowKit Go.Maps
set_option maxHeartbeats 4000000
set_option maxRecDepth 100000
end
section
def numsF (l:List Int):List UInt8:=l.flatMap fun n=>32::Lib.itoa n
def lineF (i:In):List UInt8 :=
 numsF [i.op,i.d,i.a,i.b,i.fn,i.obj,i.off,i.size,i.num]++numsF i.args++(if i.log then [32,108,111,103] else [])++[10]
def linesF (b:Bk):List UInt8:=b.ins.flatMap lineF
def endF' (b:Bk):List UInt8:=[32,101,110,100]++numsF [b.fin,b.a,b.to,b.els]++[10]
def headF (n:Nat):List UInt8:=98::Lib.itoa n++[58,10]
def textN (p:Pr) (k:Nat):List UInt8:=(List.range k).flatMap fun n=>headF n++linesF (p.blks.getD n default)++endF' (p.blks.getD n default)
def textF (p:Pr):List UInt8:=textN p p.blks.length
theorem textN_succ (p:Pr) (k:Nat):textN p (k+1)=textN p k++(headF k++linesF (p.blks.getD k default)++endF' (p.blks.getD k default)):=by
 unfold textN
 rw [List.range_succ,List.flatMap_append]
 simp
end
section
open Go.Shelf Go.RowKit
set_option maxHeartbeats 2000000
set_option maxRecDepth 100000
theorem bsize:(Tryz.prog.info? 88).map (·.size)=some 2:=by kernel_rfl
theorem blies:liesAt Tryz.prog Tryz.prog.depth 88 (2 / Tryz.prog.cellsOf 88) 0 88 1=true:=by kernel_rfl
theorem binfo:(Tryz.prog.info? 5).map (fun i=>(i.zero,i.size,i.bytes))=some (some (.int .u8 0),1,1):=by kernel_rfl
theorem copy_used (b:Nat) (w:World) (h0:w.cell? ⟨b,0,none⟩=some (.pointer (some ⟨b,0,none⟩))) :
  Calls Tryz.prog 69 #[.pointer (some ⟨b,0,none⟩)] w fun e w'=>e=.returned (.tuple #[])∧w'=w:=by
 obtain ⟨j,hj,_⟩:=Option.map_eq_some_iff.1 bsize
 go_enter Tryz.func69,Tryz.ntmps69
 go_wp2
 rw [Lib.run_neq_ptr_same w _ Tryz.underlying85 hj]
 go_wp2
 go_end0
 exact ⟨rfl,rfl⟩
theorem copy_fresh (b:Nat) (w:World) (h0:w.cell? ⟨b,0,none⟩=some (.pointer none)) (hsh:w.shape? b=some (88,2)) (hfz:w.frozen? ⟨b,0,none⟩=false) :
  Calls Tryz.prog 69 #[.pointer (some ⟨b,0,none⟩)] w fun e w'=>e=.returned (.tuple #[])∧w'=w.setCell ⟨b,0,none⟩ (.pointer (some ⟨b,0,none⟩)):=by
 obtain ⟨j,hj,hjs⟩:=Option.map_eq_some_iff.1 bsize
 go_enter Tryz.func69,Tryz.ntmps69
 go_wp2
 rw [Lib.run_to_unsafe w ⟨b,0,none⟩ Tryz.underlying85 Tryz.underlying171 hj (by rw [hjs];decide) hsh (Nat.zero_lt_succ 1)]
 simp only [Result.andThen]
 rw [Oper.upon_value]
 go_wp2
 rw [run_callFunc_extern Tryz.func107 (by kernel_rfl) (by kernel_rfl) (by kernel_rfl) (e:=Extern.AbiNoEscape.same) (by kernel_rfl)]
 rw [Lib.run_noEscape]
 simp only [Result.andThen]
 rw [Oper.upon_value]
 go_wp2
 rw [Lib.run_from_unsafe w ⟨b,0,none⟩ Tryz.underlying171 Tryz.underlying85 hj hsh blies]
 simp only [Result.andThen]
 rw [Oper.upon_value]
 go_wp2
 go_end0
 exact ⟨rfl,rfl⟩
theorem copy_c (B b:Nat) (bs:List Value) (w:World) (h:Lib.IsBuilder 88 5 B b bs w) :
  Calls Tryz.prog 69 #[.pointer (some ⟨b,0,none⟩)] w fun e w'=>e=.returned (.tuple #[])∧(Lib.BuilderAt 88 5 B b (.pointer (some ⟨b,0,none⟩)) bs w'∧Below B w w'∧∀ k,k≠b→w'.heap[k]?=w.heap[k]?):=by
 rcases h with h|h
 ·refine (copy_fresh b w h.cell0 h.shape h.frozen0).mono ?_
  rintro e w' ⟨rfl,rfl⟩
  exact ⟨rfl,h.used _,(Below.refl B w).setCell (p:=⟨b,0,none⟩) h.1 _,fun k hk=>heap_setCell_other w ⟨b,0,none⟩ k _ hk⟩
 ·refine (copy_used b w h.cell0).mono ?_
  rintro e w' ⟨rfl,rfl⟩
  exact ⟨rfl,h,Below.refl B _,fun _ _=>rfl⟩
def Stays (b:Nat) (w w':World):Prop:=∀ k c t f,k≠b→t≠5→w.heap[k]?=some (.cells c t f)→w'.heap[k]?=w.heap[k]?
theorem write_c (B b:Nat) (bs:List Value) (s:ByteArray) (w:World) (h:Lib.IsBuilder 88 5 B b bs w) (hlen:bs.length+s.size≤140737488355328) (hBw:B≤w.heap.size) :
  Calls Tryz.prog 41 #[.pointer (some ⟨b,0,none⟩),.string s] w fun e w'=>e=.returned (.tuple #[.int .i64 s.size,.nilIface])∧(Lib.BuilderAt 88 5 B b (.pointer (some ⟨b,0,none⟩)) (bs++Lib.strCells s) w'∧Below B w w'∧Stays b w w'):=by
 obtain ⟨i0,hi,hz0,hz1,hz2⟩:=info_parts binfo
 go_enter Tryz.func41,Tryz.ntmps41
 go_wp2_with (go_at_call 69;refine (copy_c B b bs _ h).mono ?_)
 rintro e w1 ⟨rfl,h1,hb1,hst⟩
 have HST:=hst
 clear hst
 obtain ⟨hB,v,hbk,hown,hne⟩:=h1
 have c0:w1.cell? ⟨b,0,none⟩=some (.pointer (some ⟨b,0,none⟩)):=by rw [Lib.cell_of_heap hbk];rfl
 have c1:w1.cell? ⟨b,1,none⟩=some v:=by rw [Lib.cell_of_heap hbk];rfl
 go_wp2_with (at_builtin;refine Lib.wpList_append_own_string _ rfl _ _ 86 9 rfl B 5 i0 Tryz.underlying86 Tryz.underlying9 hi hz0 hz1 hz2 _ _ _ rfl hown s rfl ?c3 ?c4 ?c5 ?_)
 case c3=>unfold maxLen;omega
 case c4=>omega
 case c5=>have:=hb1.size;omega
 intro v' w2 hown' hgrow _
 have hlt:b<w1.heap.size:=by
  rcases Nat.lt_or_ge b w1.heap.size with h'|h'
  ·exact h'
  ·simp [Array.getElem?_eq_none h'] at hbk
 have hb2:w2.heap[b]?=some (.cells #[.pointer (some ⟨b,0,none⟩),v] 88 (0,0)):=by
  rw [hgrow.block b hlt (fun e=>hne e.symm)]
  exact hbk
 have d0:w2.cell? ⟨b,0,none⟩=some (.pointer (some ⟨b,0,none⟩)):=by rw [Lib.cell_of_heap hb2];rfl
 have d1:w2.cell? ⟨b,1,none⟩=some v:=by rw [Lib.cell_of_heap hb2];rfl
 have f1:w2.frozen? ⟨b,1,none⟩=false:=Lib.frozen_of_heap hb2 1
 obtain ⟨ao,n',cap,rfl⟩:∃ ao n' cap,v'=.slice ao n' cap:=by
  rcases hown'.2 with ⟨hv,_⟩|⟨g,cap,cur,hv,_⟩
  ·exact ⟨_,_,_,hv⟩
  ·exact ⟨_,_,_,hv⟩
 go_wp2
 go_ret2
 refine ⟨rfl,?_,?_,?_⟩
 ·exact Lib.BuilderAt.put (T:=88) (e:=5) hB hb2 (bs':=bs++Lib.strCells s) (by simpa [Lib.strCells_length] using hown') (by decide)
 ·exact (hb1.grown hgrow (by have:=hb1.size;omega) (fun k hk=>(hown.lt k hk).1)).setCell (p:=⟨b,1,none⟩) hB _
 ·intro k c t f hk ht hc
  have h1k:w1.heap[k]?=some (.cells c t f):=(HST k hk).trans hc
  have hkl:k<w1.heap.size:=(Array.getElem?_eq_some_iff.1 h1k).1
  rw [heap_setCell_other w2 ⟨b,1,none⟩ k _ hk,hgrow.block k hkl (fun e=>?_)]
  ·exact HST k hk
  ·obtain ⟨-,⟨hv, -⟩|⟨g,cap,cur,hv, -,hg, -⟩⟩:=hown
   ·rw [hv] at e;cases e
   ·rw [hv] at e
    simp only [Value.ownBlock,Option.some.injEq] at e
    subst e
    rw [hg] at h1k
    simp only [Option.some.injEq,Obj.cells.injEq] at h1k
    exact ht h1k.2.1.symm
end
end Go.Proofs.YtkhfddodmjnecaaGreatDoor
namespace Go.Proofs
open Go.Shelf
def Tryz.lays169_ren:Go.Shelf.Ren:=⟨fun|169=>44|n=>n,fun|70=>85|9=>9|0=>0|72=>88|37=>86|127=>136|3=>3|5=>5|n=>n,fun|n=>n⟩
theorem Tryz.lays169:Go.Proofs.Lays.n169 Tryz.prog Tryz.lays169_ren:={
 mixed:=by kernel_rfl
 f169:=Tryz.func44.trans (congrArg some (by kernel_rfl))
 t0:=Tryz.underlying0
 a0:=Tryz.isAgg0
 z0:=Tryz.sizeOf0
 v0:=Tryz.zeroValue0
 t3:=Tryz.underlying3
 a3:=Tryz.isAgg3
 z3:=Tryz.sizeOf3
 v3:=Tryz.zeroValue3
 t9:=Tryz.underlying9
 a9:=Tryz.isAgg9
 z9:=Tryz.sizeOf9
 v9:=Tryz.zeroValue9
 t37:=Tryz.underlying86
 a37:=Tryz.isAgg86
 z37:=Tryz.sizeOf86
 v37:=Tryz.zeroValue86
 t70:=Tryz.underlying85
 a70:=Tryz.isAgg85
 z70:=Tryz.sizeOf85
 v70:=Tryz.zeroValue85
 t72:=Tryz.underlying88
 a72:=Tryz.isAgg88
 z72:=Tryz.sizeOf88
 v72:=Tryz.zeroValue88
 t127:=Tryz.underlying136
 a127:=Tryz.isAgg136
 z127:=Tryz.sizeOf136
 v127:=Tryz.zeroValue136 }
theorem Tryz.Builder_Extra_169:Builder.Extra Tryz.prog Tryz.lays169_ren:={
 sizeBuilder:=by kernel_rfl
 liesBuilder:=by kernel_rfl
 t5:=Tryz.underlying5
 a5:=Tryz.isAgg5
 z5:=Tryz.sizeOf5
 v5:=Tryz.zeroValue5
 infoByte:=by kernel_rfl
 cellsByte:=by kernel_rfl
 sizeByte:=by kernel_rfl
 neB5:=by decide }
open Go.RowKit in
theorem Tryz.Builder_String_any (B b:Nat) (l:List UInt8) (w:World) (h:Lib.IsBuilder 88 5 B b (Lib.byteCells l) w) (hBw:B≤w.heap.size) :
  Calls Tryz.prog 44 #[.pointer (some ⟨b,0,none⟩)] w fun e w'=>e=.returned (.string ⟨l.toArray⟩)∧Below B w w':=Any.Builder_String_any Tryz.lays169 Tryz.Builder_Extra_169 B b l w h hBw
def Tryz.laysM171_ren:Go.Shelf.Ren:=⟨fun|171=>42|243=>70|246=>108|283=>139|284=>140|285=>141|286=>142|129=>162|317=>161|318=>163|319=>164|320=>165|337=>171|338=>172|n=>n,fun|3=>3|9=>9|2=>2|4=>4|171=>193|0=>0|53=>194|37=>86|5=>5|173=>197|212=>215|51=>45|20=>20|213=>216|46=>217|232=>223|233=>224|n=>n,fun|17=>0|18=>1|19=>2|n=>n⟩
theorem Tryz.laysM171:Go.Proofs.LaysM.n171 Tryz.prog Tryz.laysM171_ren:={
 mixed:=by kernel_rfl
 f129:=Tryz.func162.trans (congrArg some (by kernel_rfl))
 f171:=Tryz.func42.trans (congrArg some (by kernel_rfl))
 f243:=Tryz.func70.trans (congrArg some (by kernel_rfl))
 f246:=Tryz.func108.trans (congrArg some (by kernel_rfl))
 f283:=Tryz.func139.trans (congrArg some (by kernel_rfl))
 f284:=Tryz.func140.trans (congrArg some (by kernel_rfl))
 f285:=Tryz.func141.trans (congrArg some (by kernel_rfl))
 f286:=Tryz.func142.trans (congrArg some (by kernel_rfl))
 f317:=Tryz.func161.trans (congrArg some (by kernel_rfl))
 f318:=Tryz.func163.trans (congrArg some (by kernel_rfl))
 f319:=Tryz.func164.trans (congrArg some (by kernel_rfl))
 f320:=Tryz.func165.trans (congrArg some (by kernel_rfl))
 f337:=Tryz.func171.trans (congrArg some (by kernel_rfl))
 f338:=Tryz.func172.trans (congrArg some (by kernel_rfl))
 t0:=Tryz.underlying0
 a0:=Tryz.isAgg0
 z0:=Tryz.sizeOf0
 v0:=Tryz.zeroValue0
 t2:=Tryz.underlying2
 a2:=Tryz.isAgg2
 z2:=Tryz.sizeOf2
 v2:=Tryz.zeroValue2
 t3:=Tryz.underlying3
 a3:=Tryz.isAgg3
 z3:=Tryz.sizeOf3
 v3:=Tryz.zeroValue3
 t4:=Tryz.underlying4
 a4:=Tryz.isAgg4
 z4:=Tryz.sizeOf4
 v4:=Tryz.zeroValue4
 t5:=Tryz.underlying5
 a5:=Tryz.isAgg5
 z5:=Tryz.sizeOf5
 v5:=Tryz.zeroValue5
 t9:=Tryz.underlying9
 a9:=Tryz.isAgg9
 z9:=Tryz.sizeOf9
 v9:=Tryz.zeroValue9
 t20:=Tryz.underlying20
 a20:=Tryz.isAgg20
 z20:=Tryz.sizeOf20
 v20:=Tryz.zeroValue20
 t37:=Tryz.underlying86
 a37:=Tryz.isAgg86
 z37:=Tryz.sizeOf86
 v37:=Tryz.zeroValue86
 t46:=Tryz.underlying217
 a46:=Tryz.isAgg217
 z46:=Tryz.sizeOf217
 v46:=Tryz.zeroValue217
 t51:=Tryz.underlying45
 a51:=Tryz.isAgg45
 z51:=Tryz.sizeOf45
 v51:=Tryz.zeroValue45
 t53:=Tryz.underlying194
 a53:=Tryz.isAgg194
 z53:=Tryz.sizeOf194
 v53:=Tryz.zeroValue194
 t171:=Tryz.underlying193
 a171:=Tryz.isAgg193
 z171:=Tryz.sizeOf193
 v171:=Tryz.zeroValue193
 t173:=Tryz.underlying197
 a173:=Tryz.isAgg197
 z173:=Tryz.sizeOf197
 v173:=Tryz.zeroValue197
 t212:=Tryz.underlying215
 a212:=Tryz.isAgg215
 z212:=Tryz.sizeOf215
 v212:=Tryz.zeroValue215
 t213:=Tryz.underlying216
 a213:=Tryz.isAgg216
 z213:=Tryz.sizeOf216
 t232:=Tryz.underlying223
 a232:=Tryz.isAgg223
 z232:=Tryz.sizeOf223
 v232:=Tryz.zeroValue223
 t233:=Tryz.underlying224
 a233:=Tryz.isAgg224
 z233:=Tryz.sizeOf224
 v233:=Tryz.zeroValue224
 g17:=by kernel_rfl
 g18:=by kernel_rfl
 g19:=by kernel_rfl
 i0:=by kernel_rfl
 i2:=by kernel_rfl
 i3:=by kernel_rfl
 i4:=by kernel_rfl
 i5:=by kernel_rfl
 i9:=by kernel_rfl
 i20:=by kernel_rfl
 i37:=by kernel_rfl
 i46:=by kernel_rfl
 i51:=by kernel_rfl
 i53:=by kernel_rfl
 i171:=by kernel_rfl
 i173:=by kernel_rfl
 i212:=by kernel_rfl
 i232:=by kernel_rfl
 i233:=by kernel_rfl
 m17:=by kernel_rfl
 m18:=by kernel_rfl
 m19:=by kernel_rfl }
open Go.RowKit Go.Sort Go.Lib in
theorem Tryz.strconv_Itoa (n:Int) (h0: -9223372036854775808≤n) (h1:n≤9223372036854775807) (w:World) (htab:Lib.TabIs Tryz.prog w "internal/strconv.uint64pow10" .u64 Lib.pow10Tab) :
  Calls Tryz.prog 42 #[.int .i64 n] w fun e w'=>e=.returned (.string ⟨(Lib.itoa n).toArray⟩)∧∃ k os,w'=grow (w.drewN k) os:=Any.strconv_Itoa Tryz.laysM171 n h0 h1 w htab
end Go.Proofs
set_option linter.all false
namespace Go.Proofs.YtkhfddodmjnecaaGreatDoor
open Go.Shelf Go.RowKit Go.ChangeShapes
set_option maxHeartbeats 2000000
set_option maxRecDepth 100000
abbrev Pow (w:World):Prop:=Lib.TabIs Tryz.prog w "internal/strconv.uint64pow10" .u64 Lib.pow10Tab
theorem pow_named:Tryz.prog.globalNamed "internal/strconv.uint64pow10"=some 0:=by kernel_rfl
theorem numsF_le (L:List Int) (h:∀ x∈L,I64 x):(numsF L).length≤22*L.length:=by
 induction L with
 | nil=>exact Nat.le_refl _
 | cons x l ih=>
  have h1:=ih fun y hy=>h y (List.mem_cons_of_mem _ hy)
  have hx:=h x (List.mem_cons_self ..)
  have h2:=Lib.itoa_length_le x hx.1 hx.2
  have e:numsF (x::l)=(32::Lib.itoa x)++numsF l:=rfl
  rw [e,List.length_append,List.length_cons,List.length_cons]
  omega
theorem numsF_len (L:List Int) (h:∀ x∈L,I64 x) (k:Nat):(numsF (L.take k)).length≤22*k:=by
 have h1:=numsF_le (L.take k) fun x hx=>h x (List.mem_of_mem_take hx)
 have h2:(L.take k).length≤k:=by rw [List.length_take];omega
 omega
def RdNs (w:World) (a:Option Addr) (L:List Int):Prop:=L≠[]→∃ b o,a=some ⟨b,o,none⟩∧∀ j,j<L.length→w.cell? ⟨b,o+j,none⟩=some (.int .i64 (L.getD j 0))
theorem isb_below {T e:TypeId} {B b:Nat} {bs:List Value} {w w':World} (h:Lib.IsBuilder T e B b bs w) (hb:Below w.heap.size w w'):Lib.IsBuilder T e B b bs w':=by
 have K:∀ p,Lib.BuilderAt T e B b p bs w→Lib.BuilderAt T e B b p bs w':=fun p h=>by
  have hl:=h.lt
  obtain ⟨hB,v,hk,ho,hn⟩:=h
  exact ⟨hB,v,(hb.block b hl).trans hk,own_below ho hb,hn⟩
 exact h.imp (K _) (K _)
theorem nums_c (L:List Int) (a:Option Addr) (c:Nat) (w:World) (hp:Pow w) (hg:2<w.heap.size) (hL:∀ x∈L,I64 x) (hn:L.length≤1000000) (hr:RdNs w a L) :
  Calls Tryz.prog 43 #[.slice a L.length c] w fun e w'=>e=.returned (.string ⟨(numsF L).toArray⟩)∧Below w.heap.size w w':=by
 go_enter Tryz.func43,Tryz.ntmps43
 go_wp2_with fail
 obtain ⟨W0,hW0⟩:∃ W0,W0=w.alloc (.cells #[.pointer none,.slice none 0 0] 88):=⟨_,rfl⟩
 rw [←hW0]
 have B0:Hid (Below w.heap.size w W0):=by rw [hW0];exact (Below.refl _ w).alloc (Nat.le_refl _) _
 have I0:Hid (Lib.IsBuilder 88 5 w.heap.size w.heap.size (Lib.byteCells (numsF (L.take 0))) W0):=by
  rw [hW0]
  exact .inl ⟨Nat.le_refl _,_,heap_alloc_new w _,World.ownsRow_nil _ _ _ _,by simp [Value.ownBlock]⟩
 clear hW0
 have HP:=Lib.hid hp
 have HR:=Lib.hid hr
 clear hp hr
 go_loopw [8] (fun i wr=>∃ j:Nat,i=.int .i64 (j:Int)∧j≤L.length∧Hid (Lib.IsBuilder 88 5 w.heap.size w.heap.size (Lib.byteCells (numsF (L.take j))) wr)∧Hid (Below w.heap.size w wr)) (fun i _=>L.length-(intOf i).toNat)
 case atStart=>exact ⟨0,rfl,Nat.zero_le _,I0,B0⟩
 case round=>
  obtain ⟨j,rfl,hj,HI,B1⟩:=hrel
  have hz:=B1.out.size
  have hl:=numsF_len L hL j
  by_cases hlt:j<L.length
  ·obtain ⟨b,o,rfl,hcl⟩:=HR.out (by intro e;rw [e] at hlt;exact absurd hlt (Nat.not_lt_zero _))
   have x0:=hcl j hlt
   have x0:=(B1.out.cell (p:=⟨b,o+j,none⟩) (World.block_lt_of_cell? w _ x0)).trans x0
   have hx:I64 (L.getD j 0):=hL _ (by rw [List.getD_eq_getElem?_getD,List.getElem?_eq_getElem hlt];exact List.getElem_mem hlt)
   have hs:numsF (L.take (j+1))=numsF (L.take j)++(32::Lib.itoa (L.getD j 0)):=by
    unfold numsF
    rw [List.take_succ,List.flatMap_append,List.getElem?_eq_getElem hlt,List.getD_eq_getElem?_getD,List.getElem?_eq_getElem hlt];simp
   have hl2:=numsF_len L hL (j+1)
   have g1:decide ((j:Int)<(L.length:Int))=true:=decide_eq_true (by omega)
   have g2:decide (j<L.length)=true:=decide_eq_true hlt
   clear hcl
   have hs:=Lib.hid hs
   have HX:=Lib.hid hx
   clear hx
   generalize L.getD j 0=y at *
   go_wp2_with fail
   refine (Tryz.strconv_Itoa y HX.out.1 HX.out.2 wr (Go.Joins.var_stays pow_named HP.out B1.out (Nat.le_refl _))).mono ?_
   rintro e w2 ⟨rfl,hw2⟩
   have BG:Below wr.heap.size wr w2:=by
    obtain ⟨k,os,rfl⟩:=hw2
    exact Go.Lib.below_grow _ wr (Nat.le_refl _) k os
   have I2:=Lib.hid (isb_below HI.out BG)
   have B2:=Lib.hid (B1.out.trans (BG.mono hz))
   have hz2:=B2.out.size
   have hil:=Lib.itoa_length_le y HX.out.1 HX.out.2
   have gi:¬ 9223372036854775807<1+(Lib.itoa y).length:=by omega
   have gj:1+(Lib.itoa y).length≤9223372036854775807:=by omega
   clear hw2 HI B1 x0
   go_wp2_with fail
   have es:({ data:=#[32] }++{ data:=(Lib.itoa y).toArray }:ByteArray)=⟨(32::Lib.itoa y).toArray⟩:=ByteArray.ext (by rw [ByteArray.data_append];simp)
   rw [es]
   refine (write_c w.heap.size w.heap.size _ _ w2 I2.out (by simp [Lib.byteCells,ByteArray.size];omega) hz2).mono ?_
   rintro e w3 ⟨rfl,HA,B3, -⟩
   have I3:Hid (Lib.IsBuilder 88 5 w.heap.size w.heap.size (Lib.byteCells (numsF (L.take (j+1)))) w3):=by
    refine .inr ?_
    rw [hs.out]
    have e2:Lib.byteCells (numsF (L.take j)++(32::Lib.itoa y))=Lib.byteCells (numsF (L.take j))++Lib.strCells ⟨(32::Lib.itoa y).toArray⟩:=by simp [Lib.byteCells,Lib.strCells]
    rw [e2];exact HA
   have B4:=Lib.hid (B2.out.trans B3)
   clear HA B3 es gi gj hil
   go_wp2_with fail
   exact ⟨⟨j+1,rfl,by omega,I3,B4⟩,by simp [intOf];omega⟩
  ·obtain rfl:j=L.length:=by omega
   have g1:decide ((L.length:Int)<(L.length:Int))=false:=decide_eq_false (by omega)
   have g2:decide (L.length<L.length)=false:=decide_eq_false (by omega)
   rw [List.take_length] at HI
   go_wp2_with fail
   refine (Tryz.Builder_String_any w.heap.size w.heap.size _ wr HI.out hz).mono ?_
   rintro e w3 ⟨rfl,B3⟩
   go_wp2_with fail
   go_ret
   exact ⟨rfl,B1.out.trans B3⟩
end Go.Proofs.YtkhfddodmjnecaaGreatDoor
