/-
Contracts of the reference's table of operations, and of what it tells of one instruction and one block.
-/
import Derived.Test.YtmcddolkpcgddaaZHazardFindsQ
import Derived.RowKit
import Derived.WalkKit
import Derived.Lib.Hide
import Derived.Test.YtmcddolkpcgddaaRows
import Derived.ProofKit
import Derived.Outline
set_option maxHeartbeats 400000
set_option maxRecDepth 20000
set_option linter.all false
namespace Go.Proofs.Ytmcddolkpcgddaa
open Go.ChangeShapes Go.WideShapes Go.ChangeAt Go.RowKit
section
structure In where
 op:Int
 d:Int
 a:Int
 b:Int
 fn:Int
 obj:Int
 off:Int
 size:Int
 num:Int
 args:List Int
 log:Bool
structure Bk where
 ins:List In
 fin:Int
 a:Int
 to:Int
 els:Int
structure Sl where
 size:Int
 align:Int
 cell:Int
structure Pr where
 void:Bool
 params:Int
 regs:Int
 objs:List Sl
 blks:List Bk
structure Md where
 globs:List Sl
 data:List (List Int)
 procs:List Pr
 main:Int
instance:Inhabited In:=⟨⟨0,0,0,0,0,0,0,0,0,[],false⟩⟩
instance:Inhabited Bk:=⟨⟨[],0,0,0,0⟩⟩
instance:Inhabited Sl:=⟨⟨0,0,0⟩⟩
instance:Inhabited Pr:=⟨⟨false,0,0,[],[]⟩⟩
def qbn (i:In):Int :=
 if i.op=1∨i.op=2∨i.op=3∨i.op=4∨i.op=5∨i.op=7∨i.op=8∨i.op=9∨i.op=11 then i.d else -1
def qdc (op:Int):Bool:=op ==3 || op ==6 || op ==2 || op ==4 || op ==5 || op ==10
def qdp (op:Int):Bool:=op ==3 || op ==6
def qbb (i:In):List Int :=
 (if qdc i.op && i.a != -1 then [i.a] else [])++(if qdp i.op && i.b != -1 then [i.b] else [])++(if i.op=9 then i.args.filter (· != -1) else [])
def qbr (b:Bk):List Int :=
 if b.fin=1∨b.fin=2∧b.to=b.els then [b.to] else if b.fin=2 then [b.to,b.els] else []
def qa1 (p:Pr) (n:Nat):List Int:=(qbr (p.blks.getD n default)).filter fun t=>decide (0≤t) && decide (t<p.blks.length)
def I64 (n:Int):Prop:= -9223372036854775808≤n∧n≤9223372036854775807
structure q0a (i:In):Prop where
 op:I64 i.op
 d:I64 i.d
 a:I64 i.a
 b:I64 i.b
 fn:I64 i.fn
 obj:I64 i.obj
 off:I64 i.off
 size:I64 i.size
 num:0≤i.num∧i.num<4294967296
 args:∀ x∈i.args,I64 x
structure q16 (b:Bk):Prop where
 ins:∀ i∈b.ins,q0a i
 fin:I64 b.fin
 a:I64 b.a
 to:I64 b.to
 els:I64 b.els
structure q0p (s:Sl):Prop where
 size:I64 s.size
 align:I64 s.align
 cell:I64 s.cell
structure quq (p:Pr):Prop where
 params:I64 p.params
 regs:I64 p.regs
 objs:∀ s∈p.objs,q0p s
 blks:∀ b∈p.blks,q16 b
structure qtw (m:Md):Prop where
 globs:∀ s∈m.globs,q0p s
 data:∀ d∈m.data,∀ x∈d,0≤x∧x<256
 procs:∀ p∈m.procs,quq p
 main:I64 m.main
end
section
open Go Go.RowKit
def Ext (w w':World):Prop:=∀ a v,w.cell? a=some v→w'.cell? a=some v
theorem Ext.refl (w:World):Ext w w:=fun _ _ h=>h
theorem Ext.trans {a b c:World} (h:Ext a b) (k:Ext b c):Ext a c:=fun x v hx=>k x v (h x v hx)
theorem Ext.below {w w':World} (h:Below w.heap.size w w'):Ext w w':=fun a _ hv=>(h.cell (World.block_lt_of_cell? w a hv)).trans hv
theorem Ext.alloc (w:World) (o:Obj):Ext w (w.alloc o):=Ext.below (Below.alloc (Below.refl _ _) (Nat.le_refl _) o)
def qb5 (w:World) (v:Value) (k n:Nat) (R:Nat→(Nat→Option Value)→Prop):Prop :=
 ∃ a c,v=.slice a n c∧n≤c∧c≤maxLen∧∀ i,i<n→∃ b o,a=some ⟨b,o,none⟩∧R i fun j=>w.cell? ⟨b,o+i*k+j,none⟩
def Sub (c c':Nat→Option Value):Prop:=∀ j v,c j=some v→c' j=some v
theorem qb5.ext {w w':World} {v:Value} {k n:Nat} {R R':Nat→(Nat→Option Value)→Prop} (h:qb5 w v k n R) (he:Ext w w') (hR:∀ i c c',Sub c c'→R i c→R' i c'):qb5 w' v k n R':=by
 obtain ⟨a,c,h1,h2,h3,h4⟩:=h
 refine ⟨a,c,h1,h2,h3,fun i hi=>?_⟩
 obtain ⟨b,o,e,r⟩:=h4 i hi
 exact ⟨b,o,e,hR i _ _ (fun j v hv=>he _ _ hv) r⟩
def RdI (w:World) (v:Value) (l:List Int):Prop:=qb5 w v 1 l.length fun i c=>c 0=some (.int .i64 (l.getD i 0))
theorem RdI.ext {w w':World} {v:Value} {l:List Int} (h:RdI w v l) (he:Ext w w'):RdI w' v l:=qb5.ext h he fun _ _ _ hs h=>hs _ _ h
def RdB (w:World) (v:Value) (l:List Bool):Prop:=qb5 w v 1 l.length fun i c=>c 0=some (.bool (l.getD i false))
theorem RdB.ext {w w':World} {v:Value} {l:List Bool} (h:RdB w v l) (he:Ext w w'):RdB w' v l:=qb5.ext h he fun _ _ _ hs h=>hs _ _ h
def RdY (w:World) (v:Value) (l:List Int):Prop:=qb5 w v 1 l.length fun i c=>c 0=some (.int .u8 (l.getD i 0))
theorem RdY.ext {w w':World} {v:Value} {l:List Int} (h:RdY w v l) (he:Ext w w'):RdY w' v l:=qb5.ext h he fun _ _ _ hs h=>hs _ _ h
def RdW (w:World) (v:Value) (l:List Int):Prop:=qb5 w v 1 l.length fun i c=>c 0=some (.int .u32 (l.getD i 0))
theorem RdW.ext {w w':World} {v:Value} {l:List Int} (h:RdW w v l) (he:Ext w w'):RdW w' v l:=qb5.ext h he fun _ _ _ hs h=>hs _ _ h
structure InC (w:World) (c:Nat→Option Value) (i:In):Prop where
 op:c 0=some (.int .i64 i.op)
 d:c 1=some (.int .i64 i.d)
 a:c 2=some (.int .i64 i.a)
 b:c 3=some (.int .i64 i.b)
 fn:c 4=some (.int .i64 i.fn)
 obj:c 5=some (.int .i64 i.obj)
 off:c 6=some (.int .i64 i.off)
 size:c 7=some (.int .i64 i.size)
 num:c 8=some (.int .u32 i.num)
 args:∃ v,c 9=some v∧RdI w v i.args
 log:c 10=some (.bool i.log)
theorem InC.ext {w w':World} {c c':Nat→Option Value} {i:In} (h:InC w c i) (he:Ext w w') (hs:Sub c c'):InC w' c' i:=by
 obtain ⟨h0,h1,h2,h3,h4,h5,h6,h7,h8,⟨v,h9,hv⟩,h10⟩:=h
 exact ⟨hs _ _ h0,hs _ _ h1,hs _ _ h2,hs _ _ h3,hs _ _ h4,hs _ _ h5,hs _ _ h6,hs _ _ h7,hs _ _ h8,⟨v,hs _ _ h9,hv.ext he⟩,hs _ _ h10⟩
def InV (w:World) (v:Value) (i:In):Prop :=
 ∃ va,v=.agg #[.int .i64 i.op,.int .i64 i.d,.int .i64 i.a,.int .i64 i.b,.int .i64 i.fn,.int .i64 i.obj,.int .i64 i.off,.int .i64 i.size,.int .u32 i.num,va,.bool i.log]∧RdI w va i.args
theorem InV.ext {w w':World} {v:Value} {i:In} (h:InV w v i) (he:Ext w w'):InV w' v i:=let ⟨va,e,h⟩:=h;⟨va,e,h.ext he⟩
def qbd (w:World) (v:Value) (l:List In):Prop:=qb5 w v 11 l.length fun i c=>InC w c (l.getD i default)
theorem qbd.ext {w w':World} {v:Value} {l:List In} (h:qbd w v l) (he:Ext w w'):qbd w' v l:=qb5.ext h he fun _ _ _ hs h=>h.ext he hs
structure BkC (w:World) (c:Nat→Option Value) (b:Bk):Prop where
 ins:∃ v,c 0=some v∧qbd w v b.ins
 fin:c 1=some (.int .i64 b.fin)
 a:c 2=some (.int .i64 b.a)
 to:c 3=some (.int .i64 b.to)
 els:c 4=some (.int .i64 b.els)
theorem BkC.ext {w w':World} {c c':Nat→Option Value} {b:Bk} (h:BkC w c b) (he:Ext w w') (hs:Sub c c'):BkC w' c' b:=by
 obtain ⟨⟨v,h0,hv⟩,h1,h2,h3,h4⟩:=h
 exact ⟨⟨v,hs _ _ h0,hv.ext he⟩,hs _ _ h1,hs _ _ h2,hs _ _ h3,hs _ _ h4⟩
def BkV (w:World) (v:Value) (b:Bk):Prop :=
 ∃ vi,v=.agg #[vi,.int .i64 b.fin,.int .i64 b.a,.int .i64 b.to,.int .i64 b.els]∧qbd w vi b.ins
theorem BkV.ext {w w':World} {v:Value} {b:Bk} (h:BkV w v b) (he:Ext w w'):BkV w' v b:=let ⟨vi,e,h⟩:=h;⟨vi,e,h.ext he⟩
def qbl (w:World) (v:Value) (l:List Bk):Prop:=qb5 w v 5 l.length fun i c=>BkC w c (l.getD i default)
theorem qbl.ext {w w':World} {v:Value} {l:List Bk} (h:qbl w v l) (he:Ext w w'):qbl w' v l:=qb5.ext h he fun _ _ _ hs h=>h.ext he hs
structure SlC (c:Nat→Option Value) (s:Sl):Prop where
 name:∃ nm,c 0=some (.string nm)
 size:c 1=some (.int .i64 s.size)
 align:c 2=some (.int .i64 s.align)
 cell:c 3=some (.int .i64 s.cell)
theorem SlC.ext {c c':Nat→Option Value} {s:Sl} (h:SlC c s) (hs:Sub c c'):SlC c' s:=by
 obtain ⟨⟨nm,h0⟩,h1,h2,h3⟩:=h
 exact ⟨⟨nm,hs _ _ h0⟩,hs _ _ h1,hs _ _ h2,hs _ _ h3⟩
def qce (w:World) (v:Value) (l:List Sl):Prop:=qb5 w v 4 l.length fun i c=>SlC c (l.getD i default)
theorem qce.ext {w w':World} {v:Value} {l:List Sl} (h:qce w v l) (he:Ext w w'):qce w' v l:=qb5.ext h he fun _ _ _ hs h=>h.ext hs
structure PrC (w:World) (c:Nat→Option Value) (p:Pr):Prop where
 name:∃ nm,c 0=some (.string nm)
 void:c 1=some (.bool p.void)
 params:c 2=some (.int .i64 p.params)
 regs:c 3=some (.int .i64 p.regs)
 objs:∃ v,c 4=some v∧qce w v p.objs
 blks:∃ v,c 5=some v∧qbl w v p.blks
theorem PrC.ext {w w':World} {c c':Nat→Option Value} {p:Pr} (h:PrC w c p) (he:Ext w w') (hs:Sub c c'):PrC w' c' p:=by
 obtain ⟨⟨nm,h0⟩,h1,h2,h3,⟨v,h4,hv⟩,⟨u,h5,hu⟩⟩:=h
 exact ⟨⟨nm,hs _ _ h0⟩,hs _ _ h1,hs _ _ h2,hs _ _ h3,⟨v,hs _ _ h4,hv.ext he⟩,⟨u,hs _ _ h5,hu.ext he⟩⟩
def PrV (w:World) (v:Value) (p:Pr):Prop :=
 ∃ nm vo vb,v=.agg #[.string nm,.bool p.void,.int .i64 p.params,.int .i64 p.regs,vo,vb]∧qce w vo p.objs∧qbl w vb p.blks
theorem PrV.ext {w w':World} {v:Value} {p:Pr} (h:PrV w v p) (he:Ext w w'):PrV w' v p:=let ⟨nm,vo,vb,e,h,k⟩:=h;⟨nm,vo,vb,e,h.ext he,k.ext he⟩
def qcx (w:World) (v:Value) (l:List Pr):Prop:=qb5 w v 6 l.length fun i c=>PrC w c (l.getD i default)
theorem qcx.ext {w w':World} {v:Value} {l:List Pr} (h:qcx w v l) (he:Ext w w'):qcx w' v l:=qb5.ext h he fun _ _ _ hs h=>h.ext he hs
def qqf (w:World) (v:Value) (l:List (List Int)):Prop:=qb5 w v 1 l.length fun i c=>∃ u,c 0=some u∧RdY w u (l.getD i [])
theorem qqf.ext {w w':World} {v:Value} {l:List (List Int)} (h:qqf w v l) (he:Ext w w'):qqf w' v l:=qb5.ext h he fun _ _ _ hs ⟨u,h,k⟩=>⟨u,hs _ _ h,k.ext he⟩
def MdV (w:World) (v:Value) (m:Md):Prop :=
 ∃ vg vd vp,v=.agg #[vg,vd,vp,.int .i64 m.main]∧qce w vg m.globs∧qqf w vd m.data∧qcx w vp m.procs
theorem MdV.ext {w w':World} {v:Value} {m:Md} (h:MdV w v m) (he:Ext w w'):MdV w' v m:=let ⟨vg,vd,vp,e,h,k,l⟩:=h;⟨vg,vd,vp,e,h.ext he,k.ext he,l.ext he⟩
end
section
theorem qdm {k:IntKind} {a b:Int} (h:a=b):Ending.returned (.int k a)=.returned (.int k b):=by rw [h]
theorem qah {a b:Bool} (h:a=b):Ending.returned (.bool a)=.returned (.bool b):=by rw [h]
theorem qaa (w:World) (o:Obj):Below w.heap.size w (w.alloc o):=Below.alloc (Below.refl _ _) (Nat.le_refl _) o
theorem qi3 (i:In) (v:Value) (w:World) (hv:InV w v i) :
  Calls Try.prog 45 #[v] w fun e w'=>e=.returned (.int .i64 (qbn i))∧Below w.heap.size w w':=by
 obtain ⟨va,rfl,hva⟩:=hv
 go_enter Try.func45,Try.ntmps45
 go_wp2
 all_goals
  go_ret
  simp only [beq_iff_eq,beq_eq_false_iff_ne,ne_eq] at *
  exact ⟨qdm (by unfold qbn;first|rw [if_pos (by omega)]|rw [if_neg (by omega)]),qaa _ _⟩
theorem qmi (op:Int) (w:World) :
  Calls Try.prog 121 #[.int .i64 op] w fun e w'=>e=.returned (.tuple #[.bool (qdc op),.bool (qdp op)])∧w=w':=by
 go_enter Try.func121,Try.ntmps121
 go_wp2
 all_goals
  go_ret2
  refine ⟨?_,rfl⟩
  unfold qdc qdp
  simp [*]
end
section
def qa8 (w:World) (base:Nat) (v:Value) (l:List Int):Prop:=w.ownsRow base 3 1 v l.length (l.map (Value.int .i64))
theorem qa8.nil (w:World) (base:Nat):qa8 w base (.slice none 0 0) []:=World.ownsRow_nil _ _ _ _
theorem qa8.mk (w:World) (base:Nat) (l:List Int) (hb:base≤w.heap.size) (hl:l.length≤maxLen):qa8 (w.alloc (.cells (l.map (Value.int .i64)).toArray 3)) base (.slice (some ⟨w.heap.size,0,none⟩) l.length l.length) l :=
 ⟨by simp,.inr ⟨w.heap.size,l.length,_,rfl,hb,heap_alloc_new w _,Nat.le_refl _,hl,by simp,by rw [Nat.mul_one];simpa using List.take_length (l:=l.map (Value.int .i64))⟩⟩
theorem qa8.mk1 {w:World} {base g:Nat} {x:Int} (hg:g=w.heap.size) (hb:base≤g):qa8 (w.alloc (.cells #[.int .i64 x] 3)) base (.slice (some ⟨g,0,none⟩) 1 1) [x]:=by subst hg;exact qa8.mk w base [x] hb (by simp [maxLen])
theorem qa8.mk2 {w:World} {base g:Nat} {x y:Int} (hg:g=w.heap.size) (hb:base≤g):qa8 (w.alloc (.cells #[.int .i64 x,.int .i64 y] 3)) base (.slice (some ⟨g,0,none⟩) 2 2) [x,y]:=by subst hg;exact qa8.mk w base [x,y] hb (by simp [maxLen])
theorem qa8.rd {w:World} {base:Nat} {v:Value} {l:List Int} (h:qa8 w base v l):RdI w v l:=by
 obtain ⟨h1,⟨rfl,h2⟩|⟨g,cap,cur,rfl,hb,hg,hn,hc,hcs,ht⟩⟩:=h
 ·have:l=[]:=List.eq_nil_of_length_eq_zero h2
  subst this
  exact ⟨none,0,rfl,Nat.le_refl _,by simp [maxLen],fun i hi=>absurd hi (by simp)⟩
 ·refine ⟨_,_,rfl,hn,hc,fun i hi=>⟨g,0,rfl,?_⟩⟩
  have h3:(l.map (Value.int .i64))[i]?=some (.int .i64 (l.getD i 0)):=by
   rw [List.getElem?_map,List.getElem?_eq_getElem hi];simp [List.getD,hi]
  rw [←ht,List.getElem?_take] at h3
  split at h3
  ·simp only [Nat.zero_add,Nat.mul_one,Nat.add_zero]
   rw [World.cell?]
   simp only [hg]
   simpa using h3
  ·cases h3
def qij (w:World) (l:List Int) (e:Ending) (w':World):Prop:=∃ v,e=.returned v∧qa8 w' w.heap.size v l∧Below w.heap.size w w'
theorem qh8 (b:Bk) (h:b.fin=1∨b.fin=2∧b.to=b.els):qbr b=[b.to]:=by unfold qbr;rw [if_pos h]
theorem qm2 (b:Bk) (h:¬ (b.fin=1∨b.fin=2∧b.to=b.els)) (h2:b.fin=2):qbr b=[b.to,b.els]:=by unfold qbr;rw [if_neg h,if_pos h2]
theorem qng (b:Bk) (h:b.fin≠1) (h2:b.fin≠2):qbr b=[]:=by unfold qbr;rw [if_neg (by omega),if_neg h2]
theorem qwn (b:Bk) (v:Value) (w:World) (hv:BkV w v b) :
  Calls Try.prog 70 #[v] w (qij w (qbr b)):=by
 obtain ⟨vi,rfl,hvi⟩:=hv
 go_enter Try.func70,Try.ntmps70
 go_wp2
 all_goals go_ret
 ·refine ⟨_,rfl,?_,Below.alloc (qaa _ _) (by simp) _⟩
  rw [qh8 b (.inl ‹_›)]
  exact qa8.mk1 (by simp) (by simp)
 ·refine ⟨_,rfl,?_,Below.alloc (qaa _ _) (by simp) _⟩
  rw [qh8 b (.inr ⟨‹_›,eq_of_beq ‹(b.to ==b.els)=true›⟩)]
  exact qa8.mk1 (by simp) (by simp)
 ·have h1:b.fin=2:=by assumption
  have h2:¬ b.to=b.els:=by simpa using ‹(b.to ==b.els)=false›
  refine ⟨_,rfl,?_,Below.alloc (qaa _ _) (by simp) _⟩
  rw [qm2 b (by omega) h1]
  exact qa8.mk2 (by simp) (by simp)
 ·exact ⟨_,rfl,by rw [qng b ‹_› ‹_›];exact qa8.nil _ _,qaa _ _⟩
theorem qjo:(Try.prog.info? 3).map (fun i=>(i.zero,i.size,i.bytes))=some (some (.int .i64 0),1,8):=by kernel_rfl
structure Own (w0:World) (B:Nat) (w:World) (v:Value) (l:List Int):Prop where
 own:qa8 w B v l
 below:Below B w0 w
 le:B≤w0.heap.size
theorem Own.nil {w0:World} {B:Nat} (h:B≤w0.heap.size):Own w0 B w0 (.slice none 0 0) []:=⟨qa8.nil _ _,Below.refl _ _,h⟩
theorem Own.alloc {w0 w:World} {B:Nat} {v:Value} {l:List Int} (h:Own w0 B w v l) (o:Obj):Own w0 B (w.alloc o) v l :=
 ⟨World.ownsRow.alloc h.own o,h.below.alloc (Nat.le_trans h.le h.below.size) o,h.le⟩
theorem qa8.base {w:World} {B B':Nat} {v:Value} {l:List Int} (h:qa8 w B v l) (hB:B'≤B):qa8 w B' v l:=by
 obtain ⟨h1,h2|⟨g,cap,cur,h3,hb,r⟩⟩:=h
 ·exact ⟨h1,.inl h2⟩
 ·exact ⟨h1,.inr ⟨g,cap,cur,h3,Nat.le_trans hB hb,r⟩⟩
theorem Own.bcell {w0 w:World} {B:Nat} {v:Value} {l:List Int} (h:Own w0 B w v l):∀ b o,b<B→w.cell? ⟨b,o,none⟩=w0.cell? ⟨b,o,none⟩:=fun b o hb=>h.below.cell (p:=⟨b,o,none⟩) hb
theorem Own.old {w' w0 w:World} {B:Nat} {v:Value} {l:List Int} (h:Own w0 B w v l) (hw:Ext w' w0) (hB:w'.heap.size≤B):Ext w' w:=fun a u hu=>
 (h.below.cell (p:=a) (Nat.lt_of_lt_of_le (World.block_lt_of_cell? w' a hu) hB)).trans (hw a u hu)
theorem Own.ret {w0 w w1:World} {B:Nat} {v:Value} {l:List Int} (h:Own w0 B w1 v l) (hb:Below w.heap.size w w0) (hB:w.heap.size≤B):qij w l (.returned v) w1 :=
 ⟨v,rfl,h.own.base hB,hb.trans (h.below.mono hB)⟩
theorem qr7 {ops:Array Oper} {rest:List Oper} {o:Oper} {a:Act} {W w0:World} {B:Nat} {v:Value} {l:List Int} {n:Int} {g:Nat} {Q:Exit→Act→World→Prop} {s x:Operand} (hown:Own w0 B W v l) (hgd:o.guard=none)
  (ho:o.op=.call { callee:=.builtin .append,args:=#[s,x],argTypes:=#[45,45] }) (hs:a.eval s=v)
  (hx:a.eval x=.slice (some ⟨g,0,none⟩) 1 1) (hg:g=W.heap.size) (hlen:l.length≤1000000000)
  (h:∀ v' w',Own w0 B w' v' (l++[n])→wpList Try.prog ops Q rest (a.put o.dst v') w'):wpList Try.prog ops Q (o::rest) a (W.alloc (.cells #[.int .i64 n] 3)):=by
 subst hg
 obtain ⟨i0,hi,hz0,hz1,hz2⟩:=info_parts qjo
 have hb:=Nat.le_trans hown.le hown.below.size
 refine wpList_append_own _ hgd s x 45 ho B 3 i0 (.int .i64 0) 1 8 Try.underlying45 hi hz0 hz1 hz2 rfl (by decide) v l.length _ hs (hown.alloc _).own ⟨W.heap.size,0,none⟩ 1 1 [.int .i64 n] hx rfl ?_ ?_ ?_ ?_ ?_ ?_
 ·intro j u hj
  match j,hj with
  | 0,hj=>simp at hj;subst hj;simp [Addr.add]
 ·intro u hu;simp at hu;subst hu;rfl
 ·unfold maxLen;omega
 ·omega
 ·simp;omega
 ·intro v' w' h1 h2 _
  refine h v' w' ⟨?_,(hown.alloc _).below.grown h2 (by simp;omega) fun k hk=>(World.ownsRow.lt hown.own k hk).1,hown.le⟩
  unfold qa8
  simpa using h1
theorem qn3:qdc 9=false:=rfl
theorem qnp:qdp 9=false:=rfl
theorem qrv (i:In) (h:i.op=9):qbb i=i.args.filter (· != -1):=by unfold qbb;rw [h];simp [qn3,qnp]
theorem qzv (i:In) (h:i.op≠9):qbb i=(if qdc i.op && i.a != -1 then [i.a] else [])++(if qdp i.op && i.b != -1 then [i.b] else []):=by unfold qbb;rw [if_neg h];simp
theorem q1x (i:In) (v:Value) (w:World) (hv:InV w v i) (h9:i.op≠9) :
  Calls Try.prog 98 #[v] w (qij w (qbb i)):=by
 obtain ⟨va,rfl,hva⟩:=hv
 have H:=qkm (qzv i h9)
 have h9':(i.op ==9)=false:=by simpa using h9
 clear h9
 go_enter Try.func98,Try.ntmps98
 go_wp2_with (first | (go_at_call 121;refine (qmi _ _).mono ?_;rintro e w' ⟨rfl,rfl⟩;have O0:=Own.nil (w0:=w.alloc (.cells #[.int .i64 i.op,.int .i64 i.d,.int .i64 i.a,.int .i64 i.b,.int .i64 i.fn,.int .i64 i.obj,.int .i64 i.off,.int .i64 i.size,.int .u32 i.num,va,.bool i.log] 58)) (B:=w.heap.size+1) (by simp)) | (at_builtin;refine qr7 O1 rfl rfl rfl rfl (by first | rfl | simp) (by simp) ?_;intro v2 w2 O2;have hc2:=O2.bcell) | (at_builtin;refine qr7 O0 rfl rfl rfl rfl (by first | rfl | simp) (by simp) ?_;intro v1 w1 O1;have hc1:=O1.bcell;have hz1:=O1.below.size;simp at hz1))
 all_goals
  go_ret
  first
   | (have e:qbb i=[i.a]++[i.b]:=by rw [H.out];simp [*]
      rw [e]
      exact O2.ret (qaa _ _) (by omega))
   | (have e:qbb i=[]++[i.a]:=by rw [H.out];simp [*]
      rw [e]
      exact O1.ret (qaa _ _) (by omega))
   | (have e:qbb i=[]++[i.b]:=by rw [H.out];simp [*]
      rw [e]
      exact O1.ret (qaa _ _) (by omega))
   | (have e:qbb i=[]:=by rw [H.out];simp [*]
      rw [e]
      exact O0.ret (qaa _ _) (by omega))
theorem qcw (l:List Int) (k:Nat) (h:k<l.length):l.take (k+1)=l.take k++[l.getD k 0]:=by
 rw [List.take_succ_eq_append_getElem h];simp [List.getD,h]
theorem qdf (p:Int→Bool) (l:List Int) (k:Nat) (h:k<l.length) (hp:p (l.getD k 0)=true):(l.take (k+1)).filter p=(l.take k).filter p++[l.getD k 0]:=by
 rw [qcw l k h,List.filter_append,List.filter_cons,hp];rfl
theorem qdr (p:Int→Bool) (l:List Int) (k:Nat) (h:k<l.length) (hp:p (l.getD k 0)=false):(l.take (k+1)).filter p=(l.take k).filter p:=by
 rw [qcw l k h,List.filter_append,List.filter_cons,hp];simp
theorem qds (p:Int→Bool) (l:List Int) (k:Nat):((l.take k).filter p).length≤k:=Nat.le_trans (List.length_filter_le _ _) (List.length_take_le _ _)
theorem q0f (i:In) (v:Value) (w:World) (hv:InV w v i) (h9:i.op=9) (hn:i.args.length≤1000) :
  Calls Try.prog 98 #[v] w (qij w (qbb i)):=by
 obtain ⟨va,rfl,a,c,rfl,hc1,hc2,hcell⟩:=hv
 have H:=qkm (qrv i h9)
 have rA:=qn3
 have rB:=qnp
 have HC:=qkm hcell
 clear hcell
 go_enter Try.func98,Try.ntmps98
 go_wp2_with (go_at_call 121;refine (qmi _ _).mono ?_;rintro e w' ⟨rfl,rfl⟩)
 go_loopw [3,42] (fun v k wr=>∃ n:Nat,n≤i.args.length∧k=.int .i64 n∧Own (w.alloc (.cells #[.int .i64 9,.int .i64 i.d,.int .i64 i.a,.int .i64 i.b,.int .i64 i.fn,.int .i64 i.obj,.int .i64 i.off,.int .i64 i.size,.int .u32 i.num,.slice a i.args.length c,.bool i.log] 58)) (w.heap.size+1) wr v ((i.args.take n).filter (· != -1)))
  (fun _ k _=>i.args.length-(intOf k).toNat)
 case atStart=>exact ⟨0,Nat.zero_le _,rfl,Own.nil (by simp)⟩
 case round=>
  obtain ⟨n,hk,rfl,O⟩:=hrel
  have hl:=qds (· != -1) i.args n
  by_cases hlt:n<i.args.length
  ·obtain ⟨b,o,rfl,hc⟩:=HC.out n hlt
   have hc':=O.old (Ext.alloc w _) (by simp) _ _ hc
   simp only [Nat.mul_one,Nat.add_zero] at hc'
   clear hc
   have hF1:=qdf (· != -1) i.args n hlt
   have hF2:=qdr (· != -1) i.args n hlt
   generalize i.args.getD n 0=x at hc' hF1 hF2
   by_cases hp:(x != -1)=true
   ·have HF:=qkm (hF1 hp)
    clear hF1 hF2
    go_wp2_with (at_builtin;refine qr7 O rfl rfl rfl rfl (by simp) (by omega) ?_;intro v1 w1 O1)
    go_roundw
    case rel=>exact ⟨n+1,by omega,by go_num,by rw [HF.out];exact O1⟩
    case measure=>simp [intOf];omega
   ·have hp:(x != -1)=false:=by simpa using hp
    have HF:=qkm (hF2 hp)
    clear hF1 hF2
    go_wp2
    go_roundw
    case rel=>exact ⟨n+1,by omega,by go_num,by rw [HF.out];exact O⟩
    case measure=>simp [intOf];omega
  ·have HF:Hid ((i.args.take n).filter (· != -1)=i.args.filter (· != -1)):=by show _=_;rw [List.take_of_length_le (by omega)]
   go_wp2
   go_ret
   rw [H.out,←HF.out]
   exact O.ret (qaa _ _) (by omega)
theorem qw6 (i:In) (v:Value) (w:World) (hv:InV w v i) (hn:i.args.length≤1000) :
  Calls Try.prog 98 #[v] w (qij w (qbb i)):=by
 by_cases h9:i.op=9
 ·exact q0f i v w hv h9 hn
 ·exact q1x i v w hv h9
end
section
open Go
def qpa (P:Program):List Oper→Act→World→Option (Act×World)
 | [],a,w=>some (a,w)
 | o::os,a,w=>match o.guard with
  | some _=>none
  | none=>match (execOp a.eval o).run P w with
   | .ok (.value v) w'=>qpa P os (a.put o.dst v) w'
   | .ok .skip w'=>qpa P os (a.put o.dst undef) w'
   | _=>none
theorem qlw {P:Program} {ops:Array Oper} {Q:Exit→Act→World→Prop} (os:List Oper):∀ (rest:List Oper) (a:Act) (w:World) (a':Act) (w':World),
  qpa P os a w=some (a',w')→wpList P ops Q rest a' w'→wpList P ops Q (os++rest) a w:=by
 induction os with
 | nil=>
  intro rest a w a' w' h K
  simp only [qpa,Option.some.injEq,Prod.mk.injEq] at h
  obtain ⟨rfl,rfl⟩:=h
  exact K
 | cons o os ih=>
  intro rest a w a' w' h K
  unfold qpa at h
  cases hg:o.guard with
  | some g=>rw [hg] at h;cases h
  | none=>
   rw [hg] at h
   refine wpList_plain hg fun K' hK=>?_
   unfold Oper.wp
   revert h
   cases (execOp a.eval o).run P w with
   | halt x w1=>intro h;cases h
   | ok x w1=>
    cases x <;> intro h <;> first | (exact hK _ _ (ih rest _ _ _ _ h K)) | cases h
theorem qd6 {P:Program} {ops:Array Oper} {Q:Exit→Act→World→Prop} {l:List Oper} {a:Act} {w:World} (n:Nat) (a':Act) (w':World)
  (h:qpa P (l.take n) a w=some (a',w')) (K:wpList P ops Q (l.drop n) a' w'):wpList P ops Q l a w:=by
 rw [←List.take_append_drop n l]
 exact qlw _ _ _ _ _ _ h K
theorem qab {w:World} {b:Nat} {c:Array Value} {t:TypeId} {fr:Nat×Nat} (h:w.heap[b]?=some (.cells c t fr)) (o:Nat):w.cell? ⟨b,o,none⟩=c[o]?:=by
 simp [World.cell?,h]
theorem qac {w:World} {b:Nat} {c:Array Value} {t:TypeId} (h:w.heap[b]?=some (.cells c t (0,0))) (o:Nat):w.frozen? ⟨b,o,none⟩=false:=by
 simp [World.frozen?,h]
theorem heap_alloc (w:World) (o:Obj) (i:Nat):(w.alloc o).heap[i]?=if i=w.heap.size then some o else w.heap[i]?:=by
 show (w.heap.push o)[i]?=_
 rw [Array.getElem?_push]
end
section
def q15:List (List Bool):=[[],[true,false,false,false,false,false,false,true,false,true],[true,true,false,false,false,false,false,false,false,true],[true,true,true,true,false,false,false,false,false,true],[true,true,false,true,false,false,false,false,false,true],[true,true,false,false,false,true,true,false,false,true],[false,true,true,false,false,true,true,false,false,true],[true,false,false,false,true,true,false,false,false,true],[true,false,false,false,true,true,false,false,false,true],[true,false,false,false,true,false,false,false,true,true],[false,true,false,false,false,false,false,false,false,false],[true,false,false,false,false,false,false,false,false,true],[false,false,false,false,false,false,false,false,false,false]]
def fld (op:Int) (k:Nat):Bool:=(q15.getD op.toNat []).getD k false
structure qo8 (w:World) (op:Int) (g:Nat):Prop where
 c0:w.cell? ⟨g,0,none⟩=some (.bool (fld op 0))
 c1:w.cell? ⟨g,1,none⟩=some (.bool (fld op 1))
 c2:w.cell? ⟨g,2,none⟩=some (.bool (fld op 2))
 c3:w.cell? ⟨g,3,none⟩=some (.bool (fld op 3))
 c4:w.cell? ⟨g,4,none⟩=some (.bool (fld op 4))
 c5:w.cell? ⟨g,5,none⟩=some (.bool (fld op 5))
 c6:w.cell? ⟨g,6,none⟩=some (.bool (fld op 6))
 c7:w.cell? ⟨g,7,none⟩=some (.bool (fld op 7))
 c8:w.cell? ⟨g,8,none⟩=some (.bool (fld op 8))
 c9:w.cell? ⟨g,9,none⟩=some (.bool (fld op 9))
theorem qo8.ext {w w':World} {op:Int} {g:Nat} (h:qo8 w op g) (he:Ext w w'):qo8 w' op g :=
 ⟨he _ _ h.c0,he _ _ h.c1,he _ _ h.c2,he _ _ h.c3,he _ _ h.c4,he _ _ h.c5,he _ _ h.c6,he _ _ h.c7,he _ _ h.c8,he _ _ h.c9⟩
theorem qo8.lt {w:World} {op:Int} {g:Nat} (h:qo8 w op g):g<w.heap.size:=World.block_lt_of_cell? w ⟨g,0,none⟩ h.c0
def qoc (k:Nat):Array Value:=((q15.getD k []).map Value.bool).toArray
def fw (w:World):Nat→World
 | 0=>w
 | k+1=>(fw w k).alloc (.cells (qoc (k+1)) 4)
def fv (w:World) (k:Nat):Value:=.slice (some ⟨(fw w k).heap.size,0,none⟩) 10 10
theorem qfu (w:World) (k:Nat):(fw w k).heap.size=w.heap.size+k:=by
 induction k with
 | zero=>rfl
 | succ k ih=>unfold fw;rw [World.size_alloc,ih];omega
theorem qu3 (w:World) (k:Nat):Below w.heap.size w (fw w k):=by
 induction k with
 | zero=>exact Below.refl _ _
 | succ k ih=>exact ih.alloc (by rw [qfu];omega) _
theorem qx8 (w:World) (k i:Nat) (h:i<k):(fw w k).heap[w.heap.size+i]?=some (.cells (qoc (i+1)) 4 (0,0)):=by
 induction k with
 | zero=>omega
 | succ k ih=>
  show ((fw w k).alloc _).heap[_]?=_
  rw [heap_alloc,qfu]
  by_cases e:i=k
  ·subst e;rw [if_pos rfl]
  ·rw [if_neg (by omega)];exact ih (by omega)
def fT (w:World):World:=(fw w 12).alloc (.cells #[.slice none 0 0,fv w 0,fv w 1,fv w 2,fv w 3,fv w 4,fv w 5,fv w 6,fv w 7,fv w 8,fv w 9,fv w 10,fv w 11] 37)
theorem qn9 (w:World):Below w.heap.size w (fT w):=(qu3 w 12).alloc (by rw [qfu];omega) _
theorem qfj (w:World) (i j:Nat) (h:i<12) (hj:j<10):(fT w).cell? ⟨w.heap.size+i,j,none⟩=some (.bool (fld ((i:Int)+1) j)):=by
 have h1:(fT w).heap[w.heap.size+i]?=some (.cells (qoc (i+1)) 4 (0,0)):=by
  unfold fT
  rw [heap_alloc,qfu,if_neg (by omega)]
  exact qx8 w 12 i h
 rw [qab h1]
 unfold qoc fld
 rw [show ((i:Int)+1).toNat=i+1 by omega]
 have hl:(q15.getD (i+1) []).length=10:=by
  have:∀ k:Fin 12,(q15.getD (k.val+1) []).length=10:=by decide
  exact this ⟨i,h⟩
 simp [List.getD,hl,hj] at hl ⊢
theorem q0v (w:World) (i:Nat) (h:i<12):(fT w).cell? ⟨w.heap.size+12,i+1,none⟩=some (.slice (some ⟨w.heap.size+i,0,none⟩) 10 10):=by
 have h1:(fT w).heap[w.heap.size+12]?=some (.cells #[.slice none 0 0,fv w 0,fv w 1,fv w 2,fv w 3,fv w 4,fv w 5,fv w 6,fv w 7,fv w 8,fv w 9,fv w 10,fv w 11] 37 (0,0)):=by
  unfold fT
  rw [heap_alloc,qfu,if_pos rfl]
 rw [qab h1]
 have hv:∀ k,fv w k=.slice (some ⟨w.heap.size+k,0,none⟩) 10 10:=fun k=>by unfold fv;rw [qfu]
 simp only [hv]
 have:i=0∨i=1∨i=2∨i=3∨i=4∨i=5∨i=6∨i=7∨i=8∨i=9∨i=10∨i=11:=by omega
 rcases this with rfl|rfl|rfl|rfl|rfl|rfl|rfl|rfl|rfl|rfl|rfl|rfl <;> rfl
theorem qrh (k:Nat) (hk:k<12) (w:World) :
  Calls Try.prog 83 #[.int .i64 ((k:Int)+1)] w fun e w'=>e=.returned (.slice (some ⟨w.heap.size+k,0,none⟩) 10 10)∧fT w=w':=by
 refine calls_of_wp Try.func83 rfl ?_
 refine wp_seq ?_
 refine wp_region_list ?_
 refine qd6 1 { tmps:=#[.int .i64 ((k:Int)+1),undef,.slice none 0 0,undef,undef,undef,undef,undef,undef,undef,undef,undef,undef,undef,undef,undef,undef,undef,undef,undef,undef,undef,undef,undef,undef,undef,undef],defers:=[] } w (by kernel_rfl) ?_
 show Code.wp _ _ _ _ _
 refine wp_seq ?_
 refine wp_region_list ?_
 refine qd6 14 { tmps:=#[.int .i64 ((k:Int)+1),undef,.slice none 0 0,.slice (some ⟨(fw w 12).heap.size,0,none⟩) 13 13,fv w 0,fv w 1,fv w 2,fv w 3,fv w 4,fv w 5,fv w 6,fv w 7,fv w 8,fv w 9,fv w 10,fv w 11,.slice (some ⟨(fw w 12).heap.size,0,none⟩) 13 13,undef,undef,undef,undef,undef,undef,undef,undef,undef,undef],defers:=[] } (fT w) (by kernel_rfl) ?_
 show Code.wp _ _ _ _ _
 rw [qfu]
 have hT:=q0v w k hk
 have hI:((k:Int)+1).toNat=k+1:=by omega
 have h1:decide ((k:Int)+1<1)=false:=by simp;omega
 generalize fT w=W at hT ⊢
 generalize fv w 0=x0
 generalize fv w 1=x1
 generalize fv w 2=x2
 generalize fv w 3=x3
 generalize fv w 4=x4
 generalize fv w 5=x5
 generalize fv w 6=x6
 generalize fv w 7=x7
 generalize fv w 8=x8
 generalize fv w 9=x9
 generalize fv w 10=x10
 generalize fv w 11=x11
 go_wp2
 go_ret
 exact ⟨rfl,rfl⟩
theorem qo9 (op:Int) (h:op<1∨12<op) (w:World) :
  Calls Try.prog 83 #[.int .i64 op] w fun e w'=>e=.returned (.slice none 0 0)∧fT w=w':=by
 refine calls_of_wp Try.func83 rfl ?_
 refine wp_seq ?_
 refine wp_region_list ?_
 refine qd6 1 { tmps:=#[.int .i64 op,undef,.slice none 0 0,undef,undef,undef,undef,undef,undef,undef,undef,undef,undef,undef,undef,undef,undef,undef,undef,undef,undef,undef,undef,undef,undef,undef,undef],defers:=[] } w (by kernel_rfl) ?_
 show Code.wp _ _ _ _ _
 refine wp_seq ?_
 refine wp_region_list ?_
 refine qd6 14 { tmps:=#[.int .i64 op,undef,.slice none 0 0,.slice (some ⟨(fw w 12).heap.size,0,none⟩) 13 13,fv w 0,fv w 1,fv w 2,fv w 3,fv w 4,fv w 5,fv w 6,fv w 7,fv w 8,fv w 9,fv w 10,fv w 11,.slice (some ⟨(fw w 12).heap.size,0,none⟩) 13 13,undef,undef,undef,undef,undef,undef,undef,undef,undef,undef],defers:=[] } (fT w) (by kernel_rfl) ?_
 show Code.wp _ _ _ _ _
 generalize fT w=W
 generalize (Value.slice (some ⟨(fw w 12).heap.size,0,none⟩) 13 13)=x12
 generalize fv w 0=x0
 generalize fv w 1=x1
 generalize fv w 2=x2
 generalize fv w 3=x3
 generalize fv w 4=x4
 generalize fv w 5=x5
 generalize fv w 6=x6
 generalize fv w 7=x7
 generalize fv w 8=x8
 generalize fv w 9=x9
 generalize fv w 10=x10
 generalize fv w 11=x11
 rcases h with h|h
 ·go_wp2
  go_ret
  exact ⟨rfl,rfl⟩
 ·have h1:decide (op<1)=false:=by simp;omega
  go_wp2
  go_ret
  exact ⟨rfl,rfl⟩
theorem qhe (op:Int) (w:World) (h1:1≤op) (h2:op≤12) :
  Calls Try.prog 83 #[.int .i64 op] w fun e w'=>∃ g,e=.returned (.slice (some ⟨g,0,none⟩) 10 10)∧w.heap.size≤g∧qo8 w' op g∧Below w.heap.size w w':=by
 obtain ⟨k,rfl⟩:∃ k:Nat,op=(k:Int)+1:=⟨(op-1).toNat,by omega⟩
 refine (qrh k (by omega) w).mono fun e w' ⟨he,hw⟩=>⟨_,he,by omega,?_,hw ▸ qn9 w⟩
 subst hw
 have hk:k<12:=by omega
 exact ⟨qfj w k 0 hk (by decide),qfj w k 1 hk (by decide),qfj w k 2 hk (by decide),qfj w k 3 hk (by decide),qfj w k 4 hk (by decide),qfj w k 5 hk (by decide),qfj w k 6 hk (by decide),qfj w k 7 hk (by decide),qfj w k 8 hk (by decide),qfj w k 9 hk (by decide)⟩
theorem qno (op:Int) (w:World) (h:op<1∨12<op) :
  Calls Try.prog 83 #[.int .i64 op] w fun e w'=>e=.returned (.slice none 0 0)∧Below w.heap.size w w' :=
 (qo9 op h w).mono fun e w' ⟨he,hw⟩=>⟨he,hw ▸ qn9 w⟩
theorem qz0:∀ k:Fin 13,(k.val≠0→fld (k.val:Int) 0=decide (k.val≠6∧k.val≠10∧k.val≠12))∧fld (k.val:Int) 1=qdc (k.val:Int)∧fld (k.val:Int) 2=qdp (k.val:Int)∧fld (k.val:Int) 3=decide (k.val=3∨k.val=4)∧
  fld (k.val:Int) 4=decide (k.val=7∨k.val=8∨k.val=9)∧fld (k.val:Int) 5=decide (5≤k.val∧k.val≤8)∧fld (k.val:Int) 6=decide (k.val=5∨k.val=6)∧fld (k.val:Int) 7=decide (k.val=1)∧fld (k.val:Int) 8=decide (k.val=9)∧
  (k.val≠0→fld (k.val:Int) 9=decide (k.val≠10∧k.val≠12)):=by decide
end
end Go.Proofs.Ytmcddolkpcgddaa
