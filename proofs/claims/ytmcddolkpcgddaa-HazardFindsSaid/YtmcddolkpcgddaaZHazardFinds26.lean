/-
hazard: what an instruction reads of memory, one by one (the iterator of reads).
-/
import Derived.Test.YtmcddolkpcgddaaZHazardFinds25
import Derived.RangeFuncNested
import Derived.RangeFuncBound
import Derived.RangeFuncCalls
import Derived.RangeFuncLeaves
import Derived.Shelf.RegionOpen
import Derived.OwnWalkIn
import Derived.TacticsInMore
import Derived.LoopNIn
import Derived.LoopIn
set_option maxHeartbeats 4000000
set_option maxRecDepth 100000
set_option linter.all false
namespace Go.Proofs.Ytmcddolkpcgddaa
open Go.ChangeShapes Go.WideShapes Go.ChangeAt Go.RowKit
section
open Go Go.RowKit
theorem qxh (f:FuncId):Fence.wide.fn f=True:=rfl
theorem qpd:Fence.wide.depth.isSome=false:=rfl
theorem qus (l:Nat) (f:FuncId):(Fence.wide.inRound l).fn f=True:=rfl
theorem qmq (l:Nat):(Fence.wide.inRound l).depth.isSome=false:=rfl
attribute [go_sem] qxh qpd qus qmq
section
variable {P:Program} {ops:Array Oper} {Q:Act→World→Prop} {S:Nat→Prop}
end
def q1h {α:Type} (h:Nat) (Kp:World→World→Prop) (I:List α→World→Prop) (Ix:Code→List α→World→Prop) (xs:List α) (W:World):Exit→Act→World→Prop
 | .normal,_,W'=>(W'.heap[h]?=W.heap[h]?∧W'.heap[h+1]?=W.heap[h+1]?)∧Kp W W'∧I xs W'
 | .ret,_,W'=>(W'.heap[h]?=W.heap[h]?∧W'.heap[h+1]?=W.heap[h+1]?)∧Ix .ret xs W'
 | .exit id,_,W'=>(W'.heap[h]?=W.heap[h]?∧W'.heap[h+1]?=W.heap[h+1]?)∧Ix (.exit id) xs W'
 | .goto t,_,W'=>(W'.heap[h]?=W.heap[h]?∧W'.heap[h+1]?=W.heap[h+1]?)∧Ix (.goto t) xs W'
 | .panic _,_,_=>False
 | .outgrown,_,_=>False
def qfr (w:World) (r:Loop):World:=(w.alloc (.deferred (some []))).alloc (.loop r)
theorem qg6 {P:Program} {n:Nat} {α:Type} {g:Operand} {ps:Array Tmp} {assign body:Code} {Q:Exit→Act→World→Prop} {a:Act} {w:World}
  {gf:Nat} {lb:Array Value} (hg:a.eval g=.func (.func gf) #[] lb) (eg:∀ args w,(callFunc gf args).run P w=.ok (.enter gf args) w)
  (encs:α→Array Value) (hps:∀ x,(encs x).size=ps.size) (St:List α→World→World→Prop) (Kp:α→World→World→Prop) (Pr:List α→α→World→Prop) (Sd:List α→Prop)
  (hSt:∀ s A B,St s A B→∀ b,b=w.heap.size∨b=w.heap.size+1→b<A.heap.size→B.heap[b]?=A.heap[b]?)
  (hKt:∀ x A B C,Kp x A B→Kp x B C→Kp x A C) (hKb:∀ pre x W o,Pr pre x W→∀ A,Kp x A (A.putObj (w.heap.size+1) o)) (hPr:∀ pre x W o,Pr pre x W→Pr pre x (W.putObj (w.heap.size+1) o))
  (hiter:∀ (r:Loop) (J Jx:List α→World→Prop),(∀ s A B,J s A→St s A B→J s B)→
    (∀ pre x W,J pre W→Pr pre x W→YieldAt Fence.wide (n-1-1) P (w.heap.size+1) (encs x) W fun e W'=>(e=.returned (.bool true)∧J (pre++[x]) W'∧Kp x W W')∨(e=.returned (.bool false)∧Jx (pre++[x]) W'))→
    J [] (qfr w r)→CallsIn Fence.wide (n-1) P gf (#[.func (.yield (w.heap.size+1)) #[] #[]]++lb) (qfr w r) fun e W'=>(∃ v,e=.returned v)∧((∃ xs,Sd xs∧J xs W')∨(∃ pre,Jx pre W')))
  (I:List α→World→Prop) (Ix:Code→List α→World→Prop) (hI:∀ s W o,I s W→I s (W.putObj (w.heap.size+1) o)) (hIx:∀ c s W o,Ix c s W→Ix c s (W.putObj (w.heap.size+1) o))
  (hIS:∀ s A B,I s A→St s A B→I s B) (h0:∀ r,I [] (qfr w r)) (a₁:α→Act)
  (hassign:∀ (l:Nat) (x:α) (W:World) (K:Act→World→Prop),K (a₁ x) W→
    assign.wpIn (Fence.wide.inRound l) (n-1-1) P (Exit.then K (fun _ _ _=>False)) { tmps:=(ps.zip (encs x)).foldl (fun t (p,v)=>t.setIfInBounds p v) a.tmps,defers:=[] } W)
  (hbody:∀ (l:Nat) (pre:List α) (x:α) (W:World),I pre W→Pr pre x W→body.wpIn (Fence.wide.inRound l) (n-1-1) P (q1h w.heap.size (Kp x) I Ix (pre++[x]) W) (a₁ x) W)
  (hdone:∀ (xs:List α) (W:World),Sd xs→I xs W→W.heap[w.heap.size]?=some (.deferred (some []))→Q .normal { a with defers:={ target:=.collected w.heap.size,args:=#[] }::a.defers } W)
  (hstop:∀ (c:Code) (pre:List α) (W:World),Ix c pre W→W.heap[w.heap.size]?=some (.deferred (some []))→c.wpIn Fence.wide n P Q { a with defers:={ target:=.collected w.heap.size,args:=#[] }::a.defers } W) :
  (Code.rangeFunc g ps assign body).wpIn Fence.wide n P Q a w:=by
 refine wpIn_rangeFunc ?_
 intro fn hfn
 obtain ⟨rec,hrec⟩:∃ rec:LoopState→Option Code→Loop,rec=fun st pe=>{ state:=st,pending:=pe,fn,tmps:=a.tmps,params:=ps,assign,body,defers:=w.heap.size }:=⟨_,rfl⟩
 have hL1:(qfr w (rec .ready none)).heap[w.heap.size+1]?=some (.loop (rec .ready none)):=by
  have:=World.alloc_heap_new (w.alloc (.deferred (some []))) (.loop (rec .ready none));rwa [World.size_alloc] at this
 have hK1:(qfr w (rec .ready none)).heap[w.heap.size]?=some (.deferred (some [])):=(Below.heap_alloc _ _ _ (by simp)).trans (World.alloc_heap_new w _)
 refine ⟨w.heap.size+1,[{ target:=.collected w.heap.size,args:=#[] }],qfr w (rec .ready none),{ target:=.fn (.func gf) lb,args:=#[.func (.yield (w.heap.size+1)) #[] #[]] },qfr w (rec .ready none),gf,
  #[.func (.yield (w.heap.size+1)) #[] #[]]++lb,qfr w (rec .ready none),?_,?_,fun _ _=>trivial,?_,fun hs=>by simp [Fence.wide] at hs,?_⟩
 ·rw [hrec];exact run_enterLoop_outer _ _ _ _ _
 ·simp only [resolve,hg]
  simp [go_sem]
 ·simp [invoke,go_sem,eg]
 refine (hiter (rec .ready none)
  (fun pre W=>I pre W∧W.heap[w.heap.size+1]?=some (.loop (rec .ready none))∧W.heap[w.heap.size]?=some (.deferred (some [])))
  (fun pre W=>∃ c,Ix c pre W∧W.heap[w.heap.size+1]?=some (.loop (rec .done (some c)))∧W.heap[w.heap.size]?=some (.deferred (some [])))
  (fun s A B hs hst=>⟨hIS s A B hs.1 hst,(hSt s A B hst _ (.inr rfl) (qkp hs.2.1).1).trans hs.2.1,(hSt s A B hst _ (.inl rfl) (qkp hs.2.2).1).trans hs.2.2⟩) ?_ ⟨h0 _,hL1,hK1⟩).mono ?_
 ·rintro pre x W ⟨hi,hl,hk⟩ hpr
  have hlt:w.heap.size+1<W.heap.size:=(qkp hl).1
  have hy:=run_yield (P:=P) (args:=encs x) hl (by rw [hrec];exact hps x)
  rw [hrec] at hy
  refine ⟨fn,_,assign,body,hy,roundIn_of_wpIn trivial (hassign _ x W _ ⟨_,run_beginRound hl (by rw [hrec]),?_⟩)⟩
  have hl2:(W.putObj (w.heap.size+1) (.loop { rec .ready none with state:=.busy })).heap[w.heap.size+1]?=some (.loop { rec .ready none with state:=.busy }):=World.putObj_heap_same hlt
  have hk2:(W.putObj (w.heap.size+1) (.loop { rec .ready none with state:=.busy })).heap[w.heap.size]?=some (.deferred (some [])):=(World.putObj_heap_other (by omega)).trans hk
  refine wpIn_mono (hbody _ pre x _ (hI _ _ _ hi) (hPr _ _ _ _ hpr)) ?_
  have fin:∀ (jump:Option Code) (W3:World),(W3.heap[w.heap.size]?=(W.putObj (w.heap.size+1) (.loop { rec .ready none with state:=.busy })).heap[w.heap.size]?∧W3.heap[w.heap.size+1]?=(W.putObj (w.heap.size+1) (.loop { rec .ready none with state:=.busy })).heap[w.heap.size+1]?)→
    (Instr.endRound (w.heap.size+1) jump).run P W3=.ok (.bool jump.isNone) (W3.putObj (w.heap.size+1) (.loop (rec (if jump.isNone then .ready else .done) jump)))∧
    (W3.putObj (w.heap.size+1) (.loop (rec (if jump.isNone then .ready else .done) jump))).heap[w.heap.size+1]?=some (.loop (rec (if jump.isNone then .ready else .done) jump))∧
    (W3.putObj (w.heap.size+1) (.loop (rec (if jump.isNone then .ready else .done) jump))).heap[w.heap.size]?=some (.deferred (some [])):=fun jump W3 hk3=>by
   have hl3:=hk3.2.trans hl2
   have:=run_endRound (P:=P) jump hl3
   rw [hrec] at this ⊢
   exact ⟨this,World.putObj_heap_same (qkp hl3).1,(World.putObj_heap_other (by omega)).trans (hk3.1.trans hk2)⟩
  rintro e a3 W3 hp
  cases e with
  | normal=>
   obtain ⟨hk3,hkp3,hi3⟩:=hp
   obtain ⟨hr,hl4,hk4⟩:=fin none W3 hk3
   exact ⟨_,_,hr,.inl ⟨rfl,⟨hI _ _ _ hi3,hl4,hk4⟩,hKt _ _ _ _ (hKt _ _ _ _ (hKb _ _ _ _ hpr _) hkp3) (hKb _ _ _ _ hpr _)⟩⟩
  | ret=>
   obtain ⟨hk3,hi3⟩:=hp
   obtain ⟨hr,hl4,hk4⟩:=fin (some .ret) W3 hk3
   exact ⟨_,_,hr,.inr ⟨rfl,.ret,hIx _ _ _ _ hi3,hl4,hk4⟩⟩
  | exit id=>
   obtain ⟨hk3,hi3⟩:=hp
   obtain ⟨hr,hl4,hk4⟩:=fin (some (.exit id)) W3 hk3
   exact ⟨_,_,hr,.inr ⟨rfl,.exit id,hIx _ _ _ _ hi3,hl4,hk4⟩⟩
  | goto t=>
   obtain ⟨hk3,hi3⟩:=hp
   obtain ⟨hr,hl4,hk4⟩:=fin (some (.goto t)) W3 hk3
   exact ⟨_,_,hr,.inr ⟨rfl,.goto t,hIx _ _ _ _ hi3,hl4,hk4⟩⟩
  | panic ch=>exact hp.elim
  | outgrown=>exact hp.elim
 ·rintro e W2 ⟨⟨v,rfl⟩,(⟨xs,hS,hi,hl,hk⟩ | ⟨pre,c,hi,hl,hk⟩)⟩
  ·exact ⟨none,_,by have:=run_endLoop (P:=P) hl (by rw [hrec];simp);rw [hrec] at this;exact this,hdone xs _ hS (hI _ _ _ hi) ((World.putObj_heap_other (by omega)).trans hk)⟩
  ·exact ⟨some c,_,by have:=run_endLoop (P:=P) hl (by rw [hrec];simp);rw [hrec] at this;exact this,hstop c pre _ (hIx _ _ _ _ hi) ((World.putObj_heap_other (by omega)).trans hk)⟩
end
section
attribute [local go_sem] Oper.semAt_some
structure EX where
 i:Nat
 g:Nat
 c:Nat
def StE (H:Nat) (s:List EX) (A B:World):Prop :=
 match s with
 | []=>Below A.heap.size A B
 | x::_=>H≤x.g∧But x.g A B
structure KpE (W0:World) (x:EX) (A B:World):Prop where
 below:Below W0.heap.size A B
 row:B.heap[x.g]?=A.heap[x.g]?
structure PrE (W0:World) (H:Nat) (L:List In) (lo:List Bool) (R:Nat) (pre:List EX) (x:EX) (W:World):Prop where
 len:pre.length<L.length
 i:x.i=L.length-1-pre.length
 g:H≤x.g
 row:qcn W x.g R x.c (q1w lo (L.drop (x.i+1)))
 same:∀ y∈pre,y.g=x.g
 below:Below W0.heap.size W0 W
end
section
theorem qdx {S:Nat→Prop} {w w':World} (hb:Below w.heap.size w w') (h:∀ b,S b→b<w.heap.size):qcl S w w':=fun b o hs=>hb.cell (p:=⟨b,o,none⟩) (h b hs)
theorem qd9 (w:World) (r:Loop):Below w.heap.size w (qfr w r):=(qaa w _).alloc (by simp) _
theorem qfe (w:World) (r:Loop):(qfr w r).heap.size=w.heap.size+1+1:=by simp [qfr]
theorem KpE.trans {W0:World} {x:EX} {A B C:World} (h:KpE W0 x A B) (k:KpE W0 x B C):KpE W0 x A C:=⟨h.below.trans k.below,k.row.trans h.row⟩
end
section
attribute [local go_sem] Oper.semAt_some
theorem cl1 {w:World} {b:Nat} {t:TypeId} {z0:Value} (h:w.heap[b]?=some (.cells #[z0] t)):w.cell? ⟨b,0,none⟩=some z0∧b<w.heap.size:=⟨qab h 0,(qkp h).1⟩
theorem q0s {k:IntKind} {a b:Int} (h:a=b):Ending.returned (.int k a)=.returned (.int k b):=by rw [h]
theorem qgc (bf:Nat) (nm:ByteArray) (p:Pr) (vo vb:Value) (bv:Nat) (vs vf vg:Value) (al:Option Addr) (NL cl r:Nat) (W:World) (hbx:W.heap[bf]?=some (fdO nm p vo vb bv vs (.slice al NL cl) vf vg)) (hN:NL≤10000000) (hr:r≤1000000) :
  Calls Try.prog 75 #[.pointer (some ⟨bf,0,none⟩),.int .i64 (r:Int)] W fun e w'=>e=.returned (.int .i64 ((NL+r:Nat):Int))∧w'=W:=by
 obtain ⟨-, -, -, -, -, -, -, -,y8, -, -,ly⟩:=qau hbx
 clear hbx
 go_enter Try.func75,Try.ntmps75
 go_wp2_with fail
 go_ret
 exact ⟨q0s (by omega),rfl⟩
def qdd (i:In) (va:Value):Obj:=.cells #[.int .i64 i.op,.int .i64 i.d,.int .i64 i.a,.int .i64 i.b,.int .i64 i.fn,.int .i64 i.obj,.int .i64 i.off,.int .i64 i.size,.int .u32 i.num,va,.bool i.log] 58
theorem qor (bf:Nat) (i:In) (aa:Option Addr) (an ac:Nat) (load:Int) (w:World) :
  Calls Try.prog 73 #[.pointer (some ⟨bf,0,none⟩),qbu i (.slice aa an ac),.int .i64 load] w fun e w'=>e=.returned (.func (.func 97) #[] #[.pointer (some ⟨w.heap.size+1,0,none⟩),.pointer (some ⟨w.heap.size+2,0,none⟩),.pointer (some ⟨w.heap.size,0,none⟩)])∧
   w'=((w.alloc (.cells #[.pointer (some ⟨bf,0,none⟩)] 79)).alloc (qdd i (.slice aa an ac))).alloc (.cells #[.int .i64 load] 3):=by
 unfold qbu qdd
 go_enter Try.func73,Try.ntmps73
 go_wp2_with fail
 go_ret
 exact ⟨rfl,rfl⟩
structure RqH (w0:World) (bf:Nat) (nm:ByteArray) (p:Pr) (vo vb:Value) (bv:Nat) (vs vl vf vg:Value) (bi bl bp:Nat) (i:In) (va:Value) (load:Int) (W:World):Prop where
 box:W.heap[bf]?=some (fdO nm p vo vb bv vs vl vf vg)
 ins:W.heap[bi]?=some (qdd i va)
 ld:W.heap[bl]?=some (.cells #[.int .i64 load] 3)
 pt:W.heap[bp]?=some (.cells #[.pointer (some ⟨bf,0,none⟩)] 79)
 be:Below w0.heap.size w0 W
structure KpH (gh hl:Nat) (A B:World):Prop where
 os:B.os=A.os
 tape:B.tape=A.tape
 output:B.output=A.output
 size:A.heap.size≤B.heap.size
 keep:∀ b,b<A.heap.size→b≠gh→b≠hl→B.heap[b]?=A.heap[b]?
theorem KpH.trans {gh hl:Nat} {A B C:World} (h:KpH gh hl A B) (k:KpH gh hl B C):KpH gh hl A C :=
 ⟨k.os.trans h.os,k.tape.trans h.tape,k.output.trans h.output,Nat.le_trans h.size k.size,fun b hb h1 h2=>(k.keep b (Nat.lt_of_lt_of_le hb h.size) h1 h2).trans (h.keep b hb h1 h2)⟩
theorem KpH.but {gh hl:Nat} {A B:World} (h:But gh A B):KpH gh hl A B:=⟨h.os,h.tape,h.output,h.size,fun b hb h1 _=>h.block b hb h1⟩
theorem KpH.put (gh hl:Nat) (A:World) (o:Obj):KpH gh hl A (A.putObj hl o):=⟨rfl,rfl,rfl,by simp,fun b hb _ h2=>World.putObj_heap_other h2⟩
theorem KpH.below {gh hl:Nat} {A B:World} (h:Below A.heap.size A B):KpH gh hl A B:=⟨h.os,h.tape,h.output,h.size,fun b hb _ _=>h.block b hb⟩
theorem KpH.own {gh hl:Nat} {A B:World} (h:KpH gh hl A B) {b s n:Nat} {e:TypeId} {v:Value} {xs:List Value} (ho:A.ownsRow b e s v n xs) (h1:v.ownBlock≠some gh) (h2:v.ownBlock≠some hl):B.ownsRow b e s v n xs:=by
 obtain ⟨h3,h4|⟨g,cap,cur,rfl,h5,h6,h7⟩⟩:=ho
 ·exact ⟨h3,.inl h4⟩
 ·refine ⟨h3,.inr ⟨g,cap,cur,rfl,h5,(h.keep g (qkp h6).1 (fun e=>h1 (by rw [e];rfl)) (fun e=>h2 (by rw [e];rfl))).trans h6,h7⟩⟩
theorem KpH.beB {gh hl:Nat} {A B w0:World} (h:KpH gh hl A B) (hb:Below w0.heap.size w0 A) (h1:w0.heap.size≤gh) (h2:w0.heap.size≤hl):Below w0.heap.size w0 B :=
 ⟨h.os.trans hb.os,h.tape.trans hb.tape,h.output.trans hb.output,Nat.le_trans hb.size h.size,fun b hlt=>(h.keep b (Nat.lt_of_lt_of_le hlt hb.size) (by omega) (by omega)).trans (hb.block b hlt)⟩
section
variable {w0 A B:World} {bf bv bi bl bp gh hl:Nat} {nm:ByteArray} {p:Pr} {vo vb vs vl vf vg va:Value} {i:In} {load:Int}
theorem RqH.kp (h:RqH w0 bf nm p vo vb bv vs vl vf vg bi bl bp i va load A) (hk:KpH gh hl A B) (h1:w0.heap.size≤gh) (h2:w0.heap.size≤hl) (hg:∀ b,b=bf∨b=bi∨b=bl∨b=bp→b≠gh∧b≠hl):RqH w0 bf nm p vo vb bv vs vl vf vg bi bl bp i va load B :=
 ⟨(hk.keep _ (qkp h.box).1 (hg _ (.inl rfl)).1 (hg _ (.inl rfl)).2).trans h.box,
  (hk.keep _ (qkp h.ins).1 (hg _ (.inr (.inl rfl))).1 (hg _ (.inr (.inl rfl))).2).trans h.ins,
  (hk.keep _ (qkp h.ld).1 (hg _ (.inr (.inr (.inl rfl)))).1 (hg _ (.inr (.inr (.inl rfl)))).2).trans h.ld,
  (hk.keep _ (qkp h.pt).1 (hg _ (.inr (.inr (.inr rfl)))).1 (hg _ (.inr (.inr (.inr rfl)))).2).trans h.pt,hk.beB h.be h1 h2⟩
end
theorem RqH.below {w0 A B:World} {bf bv bi bl bp:Nat} {nm:ByteArray} {p:Pr} {vo vb vs vl vf vg va:Value} {i:In} {load:Int} (h:RqH w0 bf nm p vo vb bv vs vl vf vg bi bl bp i va load A) (hb:Below A.heap.size A B):RqH w0 bf nm p vo vb bv vs vl vf vg bi bl bp i va load B :=
 ⟨(hb.block _ (qkp h.box).1).trans h.box,(hb.block _ (qkp h.ins).1).trans h.ins,(hb.block _ (qkp h.ld).1).trans h.ld,(hb.block _ (qkp h.pt).1).trans h.pt,h.be.trans (hb.mono h.be.size)⟩
theorem qn7 (w0:World) (bf:Nat) (nm:ByteArray) (p:Pr) (vo vb:Value) (bv:Nat) (vs vf vg:Value) (al:Option Addr) (NL cl bi bl bp gh hl:Nat) (i:In) (va:Value) (load:Nat) (s:List Bool) (n l:Nat) (W1:World)
  (hR:RqH w0 bf nm p vo vb bv vs (.slice al NL cl) vf vg bi bl bp i va (load:Int) W1) (hvs:RdB w0 vs s) (hva:RdI w0 va i.args) (hal:i.args.length≤1000) (hNL:NL≤10000000) (hsl:s.length≤1000000)
  (h1:w0.heap.size≤gh) (h2:w0.heap.size≤hl) (hg:∀ b,b=bf∨b=bi∨b=bl∨b=bp→b≠gh∧b≠hl) (hgl:gh<W1.heap.size) (hhl:hl<W1.heap.size)
  (J Jx:List Nat→World→Prop) (hJ:∀ s A B,J s A→Below A.heap.size A B→J s B)
  (hY:∀ pre x W,J pre W→x∈qbm s NL load i→YieldAt Fence.wide (n-1) Try.prog l #[.int .i64 (x:Int)] W fun e W'=>(e=.returned (.bool true)∧J (pre++[x]) W'∧KpH gh hl W W')∨(e=.returned (.bool false)∧Jx (pre++[x]) W'))
  (h0:J [] W1) :
  CallsIn Fence.wide n Try.prog 97 #[.func (.yield l) #[] #[],.pointer (some ⟨bi,0,none⟩),.pointer (some ⟨bl,0,none⟩),.pointer (some ⟨bp,0,none⟩)] W1 fun e W'=>
   (∃ v,e=.returned v)∧((∃ xs,xs=qbm s NL load i∧J xs W')∨∃ pre,Jx pre W'):=by
 have HY:=qkm hY
 have HJ:=qkm hJ
 have HR:=qkm hR
 have HG:=qkm hg
 have HVS:=qkm hvs
 have HVA:=qkm hva
 have HJ0:=qkm h0
 have HRD:Hid (qbm s NL load i=(if i.op=5 then [load] else [])++((qbb i).filter (qam s)).map fun r=>NL+r.toNat):=rfl
 clear hY hJ hR hg hvs hva h0
 refine callsIn_of_wp Try.func97 rfl trivial ?_ rfl
 simp only [Try.ntmps97,List.size_toArray,List.length_cons,List.length_nil,Nat.reduceAdd,Nat.reduceSub,Array.replicate_succ,Array.replicate_zero,List.push_toArray,List.append_toArray,List.nil_append,List.cons_append]
 obtain ⟨va,vc,rfl⟩:∃ a c,va=.slice a i.args.length c:=by
  obtain ⟨a,c,e, -⟩:=HVA.out
  exact ⟨a,c,e⟩
 obtain ⟨y0, -, -, -, -, -, -, -, -, -, -,ly⟩:=qau HR.out.ins
 obtain ⟨z0,lz⟩:=cl1 HR.out.ld
 cases h5:(i.op ==5)
 ·have HRX:=HR
  have HJX:=HJ0
  have HSX:Hid (W1.heap.size≤W1.heap.size):=Nat.le_refl _
  have HEND:Hid (∀ z:List Nat,[]++z=(if i.op=5 then [load] else [])++z):=fun z=>by rw [if_neg (by simpa using h5)]
  clear HR HJ0 y0 z0 ly lz
  obtain ⟨d0,d1,d2,d3,d4,d5,d6,d7,d8,d9,d10,ld⟩:=qau HRX.out.ins
  have HUS:=qkm (qw6 i (.agg #[.int .i64 i.op,.int .i64 i.d,.int .i64 i.a,.int .i64 i.b,.int .i64 i.fn,.int .i64 i.obj,.int .i64 i.off,.int .i64 i.size,.int .u32 i.num,.slice va i.args.length vc,.bool i.log]) W1 ⟨_,rfl,HVA.out.ext (Ext.below HRX.out.be)⟩ hal)
  gi_wp2
  refine (callsIn_wide.2 HUS.out).mono ?_
  clear HUS
  rintro e w2 ⟨vL,rfl,hoL,hb2⟩
  have HR2:=qkm (HRX.out.below hb2)
  have HJ2:=qkm (HJ.out _ _ _ HJX.out hb2)
  have HO2:Hid (qa8 w2 W1.heap.size vL (qbb i)):=by
   obtain ⟨e1,e2⟩:=hoL
   rcases e2 with ⟨a,b⟩|⟨g',cap,cur,a,b,c⟩
   ·exact ⟨e1,.inl ⟨a,b⟩⟩
   ·exact ⟨e1,.inr ⟨g',cap,cur,a,Nat.le_trans HSX.out b,c⟩⟩
  obtain ⟨aL,cL,rfl⟩:=qa6 hoL
  clear hoL hb2 HRX HJX d0 d1 d2 d3 d4 d5 d6 d7 d8 d9 d10 ld
  generalize qbb i=U at *
  have HUL:Hid (U.length≤cL∧cL≤2 ^ 63-1):=by
   obtain ⟨a',c',e,h1,h2, -⟩:=qa8.rd HO2.out
   simp only [Value.slice.injEq] at e
   obtain ⟨-, -,rfl⟩:=e
   exact ⟨h1,h2⟩
  obtain ⟨hu1,hu2⟩:=HUL.out
  gi_wp2
  gi_loopw [19] (fun j wr=>∃ k:Nat,k≤U.length∧j=.int .i64 (k:Int)∧Hid (J ([]++((U.take k).filter (qam s)).map fun r=>NL+r.toNat) wr)∧Hid (RqH w0 bf nm p vo vb bv vs (.slice al NL cl) vf vg bi bl bp i (.slice va i.args.length vc) (load:Int) wr)∧Hid (qa8 wr W1.heap.size (.slice aL U.length cL) U)) (fun j _=>U.length-(intOf j).toNat)
  case atStart=>exact ⟨0,Nat.zero_le _,rfl,by show J _ _;simpa using HJ2.out,HR2,HO2⟩
  case round=>
   clear HR2 HJ2 HO2
   obtain ⟨k,hk,rfl,HJr,HRr,HO⟩:=hrel
   by_cases hlt:k<U.length
   ·have q1:decide (k<U.length)=true:=qkn hlt
    have q2:decide ((k:Int)<(U.length:Int))=true:=qkn (by omega)
    obtain ⟨a',c',e, -, -,hcl⟩:=qa8.rd HO.out
    simp only [Value.slice.injEq] at e
    obtain ⟨rfl, -,rfl⟩:=e
    obtain ⟨bL,oL,haL,hcell⟩:=hcl k hlt
    subst haL
    simp only [Nat.mul_one,Nat.add_zero] at hcell
    have HTK:Hid ((U.take (k+1)).filter (qam s)=(U.take k).filter (qam s)++(if qam s (U.getD k 0)=true then [U.getD k 0] else [])):=by
     show _=_
     have e:U.getD k 0=U[k]:=by simp [List.getD,hlt]
     rw [e,List.take_succ_eq_append_getElem hlt,List.filter_append]
     congr 1
     by_cases h:qam s U[k]=true
     ·simp [h]
     ·simp [h]
    have HME:Hid (U.getD k 0∈U):=qch hlt
    generalize U.getD k 0=r at *
    obtain ⟨p0, -⟩:=cl1 HRr.out.pt
    obtain ⟨-, -, -, -, -, -, -,y7, -, -, -,ly⟩:=qau HRr.out.box
    have HSP:=qkm (qc5 vs s r wr (HVS.out.ext (Ext.below HRr.out.be)))
    have lL:=World.block_lt_of_cell? wr _ hcell
    have lp:=World.block_lt_of_cell? wr _ p0
    clear hcl
    cases hsp:qam s r
    ·have HNX:Hid ((U.take (k+1)).filter (qam s)=(U.take k).filter (qam s)):=by
      show _=_
      rw [HTK.out,hsp];simp
     rw [hsp] at HSP
     gi_wp2
     refine (callsIn_wide.2 HSP.out).mono ?_
     rintro e w5 ⟨rfl,rfl⟩
     gi_wp2
     go_roundw
     case rel=>exact ⟨k+1,hlt,by go_num,by rw [HNX.out];exact HJr,HRr,HO⟩
     case measure=>simp [intOf];try omega
    ·obtain ⟨hr0,hr1, -⟩:=qa4 hsp
     obtain ⟨rn,rfl⟩:=Int.eq_ofNat_of_zero_le hr0
     have HNX:Hid ((((U.take (k+1)).filter (qam s)).map fun r=>NL+r.toNat)=(((U.take k).filter (qam s)).map fun r=>NL+r.toNat)++[NL+rn]):=by
      show _=_
      rw [HTK.out,hsp];simp
     have HMR:Hid (NL+rn∈qbm s NL load i):=by
      show _∈_
      rw [HRD.out,List.mem_append,List.mem_map]
      exact .inr ⟨(rn:Int),List.mem_filter.2 ⟨HME.out,hsp⟩,rfl⟩
     have HRG:=qkm (qgc bf nm p vo vb bv vs vf vg al NL cl rn wr HRr.out.box hNL (by omega))
     obtain ⟨fn,tmps,assign,body,hy,hRd⟩:=HY.out _ (NL+rn) wr HJr.out HMR.out
     simp only [Int.natCast_add] at hy
     have hRd:=qkm hRd
     rw [hsp] at HSP
     gi_wp2
     refine (callsIn_wide.2 HSP.out).mono ?_
     rintro e w5 ⟨rfl,rfl⟩
     gi_wp2
     refine (callsIn_wide.2 HRG.out).mono ?_
     rintro e w6 ⟨rfl,rfl⟩
     gi_wp2
     refine hRd.out.mono ?_
     clear hRd hy
     rintro e W3 (⟨rfl,hJ3,hk3⟩ | ⟨rfl,hJx3⟩)
     ·have HJ3:=qkm hJ3
      have HR3:=qkm (HRr.out.kp hk3 h1 h2 HG.out)
      have HO3:Hid (qa8 W3 W1.heap.size (.slice (some ⟨bL,oL,none⟩) U.length cL) U):=hk3.own HO.out (qat HO.out hgl) (qat HO.out hhl)
      clear hJ3 hk3
      gi_wp2
      go_roundw
      case rel=>exact ⟨k+1,hlt,by go_num,by rw [HNX.out,←List.append_assoc];exact HJ3,HR3,HO3⟩
      case measure=>simp [intOf];try omega
     ·gi_wp2
      refine bodyPost_ret (results_none rfl _ _ _) rfl ?_
      exact ⟨⟨_,rfl⟩,.inr ⟨_,hJx3⟩⟩
   ·obtain rfl:k=U.length:=by omega
    gi_wp2
    go_end0
    refine ⟨⟨_,rfl⟩,.inl ⟨_,?_,HJr.out⟩⟩
    rw [HRD.out,List.take_length]
    exact HEND.out _
 ·have HMR:Hid (load∈qbm s NL load i):=by
   show _∈_
   rw [HRD.out,if_pos (by simpa using h5)];simp
  obtain ⟨fn,tmps,assign,body,hy,hRd⟩:=HY.out _ load W1 HJ0.out HMR.out
  have hRd:=qkm hRd
  gi_wp2
  refine hRd.out.mono ?_
  clear hRd hy
  rintro e WX (⟨rfl,hJ3,hk3⟩ | ⟨rfl,hJx3⟩)
  ·have HJX:Hid (J [load] WX):=hJ3
   have HEND:Hid (∀ z:List Nat,[load]++z=(if i.op=5 then [load] else [])++z):=fun z=>by rw [if_pos (by simpa using h5)]
   have HRX:=qkm (HR.out.kp hk3 h1 h2 HG.out)
   have HSX:Hid (W1.heap.size≤WX.heap.size):=hk3.size
   clear hJ3 hk3 HR HJ0 y0 z0 ly lz
   obtain ⟨d0,d1,d2,d3,d4,d5,d6,d7,d8,d9,d10,ld⟩:=qau HRX.out.ins
   have HUS:=qkm (qw6 i (.agg #[.int .i64 i.op,.int .i64 i.d,.int .i64 i.a,.int .i64 i.b,.int .i64 i.fn,.int .i64 i.obj,.int .i64 i.off,.int .i64 i.size,.int .u32 i.num,.slice va i.args.length vc,.bool i.log]) WX ⟨_,rfl,HVA.out.ext (Ext.below HRX.out.be)⟩ hal)
   gi_wp2
   refine (callsIn_wide.2 HUS.out).mono ?_
   clear HUS
   rintro e w2 ⟨vL,rfl,hoL,hb2⟩
   have HR2:=qkm (HRX.out.below hb2)
   have HJ2:=qkm (HJ.out _ _ _ HJX.out hb2)
   have HO2:Hid (qa8 w2 W1.heap.size vL (qbb i)):=by
    obtain ⟨e1,e2⟩:=hoL
    rcases e2 with ⟨a,b⟩|⟨g',cap,cur,a,b,c⟩
    ·exact ⟨e1,.inl ⟨a,b⟩⟩
    ·exact ⟨e1,.inr ⟨g',cap,cur,a,Nat.le_trans HSX.out b,c⟩⟩
   obtain ⟨aL,cL,rfl⟩:=qa6 hoL
   clear hoL hb2 HRX HJX d0 d1 d2 d3 d4 d5 d6 d7 d8 d9 d10 ld
   generalize qbb i=U at *
   have HUL:Hid (U.length≤cL∧cL≤2 ^ 63-1):=by
    obtain ⟨a',c',e,h1,h2, -⟩:=qa8.rd HO2.out
    simp only [Value.slice.injEq] at e
    obtain ⟨-, -,rfl⟩:=e
    exact ⟨h1,h2⟩
   obtain ⟨hu1,hu2⟩:=HUL.out
   gi_wp2
   gi_loopw [19] (fun j wr=>∃ k:Nat,k≤U.length∧j=.int .i64 (k:Int)∧Hid (J ([load]++((U.take k).filter (qam s)).map fun r=>NL+r.toNat) wr)∧Hid (RqH w0 bf nm p vo vb bv vs (.slice al NL cl) vf vg bi bl bp i (.slice va i.args.length vc) (load:Int) wr)∧Hid (qa8 wr W1.heap.size (.slice aL U.length cL) U)) (fun j _=>U.length-(intOf j).toNat)
   case atStart=>exact ⟨0,Nat.zero_le _,rfl,by show J _ _;simpa using HJ2.out,HR2,HO2⟩
   case round=>
    clear HR2 HJ2 HO2
    obtain ⟨k,hk,rfl,HJr,HRr,HO⟩:=hrel
    by_cases hlt:k<U.length
    ·have q1:decide (k<U.length)=true:=qkn hlt
     have q2:decide ((k:Int)<(U.length:Int))=true:=qkn (by omega)
     obtain ⟨a',c',e, -, -,hcl⟩:=qa8.rd HO.out
     simp only [Value.slice.injEq] at e
     obtain ⟨rfl, -,rfl⟩:=e
     obtain ⟨bL,oL,haL,hcell⟩:=hcl k hlt
     subst haL
     simp only [Nat.mul_one,Nat.add_zero] at hcell
     have HTK:Hid ((U.take (k+1)).filter (qam s)=(U.take k).filter (qam s)++(if qam s (U.getD k 0)=true then [U.getD k 0] else [])):=by
      show _=_
      have e:U.getD k 0=U[k]:=by simp [List.getD,hlt]
      rw [e,List.take_succ_eq_append_getElem hlt,List.filter_append]
      congr 1
      by_cases h:qam s U[k]=true
      ·simp [h]
      ·simp [h]
     have HME:Hid (U.getD k 0∈U):=qch hlt
     generalize U.getD k 0=r at *
     obtain ⟨p0, -⟩:=cl1 HRr.out.pt
     obtain ⟨-, -, -, -, -, -, -,y7, -, -, -,ly⟩:=qau HRr.out.box
     have HSP:=qkm (qc5 vs s r wr (HVS.out.ext (Ext.below HRr.out.be)))
     have lL:=World.block_lt_of_cell? wr _ hcell
     have lp:=World.block_lt_of_cell? wr _ p0
     clear hcl
     cases hsp:qam s r
     ·have HNX:Hid ((U.take (k+1)).filter (qam s)=(U.take k).filter (qam s)):=by
       show _=_
       rw [HTK.out,hsp];simp
      rw [hsp] at HSP
      gi_wp2
      refine (callsIn_wide.2 HSP.out).mono ?_
      rintro e w5 ⟨rfl,rfl⟩
      gi_wp2
      go_roundw
      case rel=>exact ⟨k+1,hlt,by go_num,by rw [HNX.out];exact HJr,HRr,HO⟩
      case measure=>simp [intOf];try omega
     ·obtain ⟨hr0,hr1, -⟩:=qa4 hsp
      obtain ⟨rn,rfl⟩:=Int.eq_ofNat_of_zero_le hr0
      have HNX:Hid ((((U.take (k+1)).filter (qam s)).map fun r=>NL+r.toNat)=(((U.take k).filter (qam s)).map fun r=>NL+r.toNat)++[NL+rn]):=by
       show _=_
       rw [HTK.out,hsp];simp
      have HMR:Hid (NL+rn∈qbm s NL load i):=by
       show _∈_
       rw [HRD.out,List.mem_append,List.mem_map]
       exact .inr ⟨(rn:Int),List.mem_filter.2 ⟨HME.out,hsp⟩,rfl⟩
      have HRG:=qkm (qgc bf nm p vo vb bv vs vf vg al NL cl rn wr HRr.out.box hNL (by omega))
      obtain ⟨fn,tmps,assign,body,hy,hRd⟩:=HY.out _ (NL+rn) wr HJr.out HMR.out
      simp only [Int.natCast_add] at hy
      have hRd:=qkm hRd
      rw [hsp] at HSP
      gi_wp2
      refine (callsIn_wide.2 HSP.out).mono ?_
      rintro e w5 ⟨rfl,rfl⟩
      gi_wp2
      refine (callsIn_wide.2 HRG.out).mono ?_
      rintro e w6 ⟨rfl,rfl⟩
      gi_wp2
      refine hRd.out.mono ?_
      clear hRd hy
      rintro e W3 (⟨rfl,hJ3,hk3⟩ | ⟨rfl,hJx3⟩)
      ·have HJ3:=qkm hJ3
       have HR3:=qkm (HRr.out.kp hk3 h1 h2 HG.out)
       have HO3:Hid (qa8 W3 W1.heap.size (.slice (some ⟨bL,oL,none⟩) U.length cL) U):=hk3.own HO.out (qat HO.out hgl) (qat HO.out hhl)
       clear hJ3 hk3
       gi_wp2
       go_roundw
       case rel=>exact ⟨k+1,hlt,by go_num,by rw [HNX.out,←List.append_assoc];exact HJ3,HR3,HO3⟩
       case measure=>simp [intOf];try omega
      ·gi_wp2
       refine bodyPost_ret (results_none rfl _ _ _) rfl ?_
       exact ⟨⟨_,rfl⟩,.inr ⟨_,hJx3⟩⟩
    ·obtain rfl:k=U.length:=by omega
     gi_wp2
     go_end0
     refine ⟨⟨_,rfl⟩,.inl ⟨_,?_,HJr.out⟩⟩
     rw [HRD.out,List.take_length]
     exact HEND.out _
  ·gi_wp2
   refine bodyPost_ret (results_none rfl _ _ _) rfl ?_
   exact ⟨⟨_,rfl⟩,.inr ⟨_,hJx3⟩⟩
end
end Go.Proofs.Ytmcddolkpcgddaa
