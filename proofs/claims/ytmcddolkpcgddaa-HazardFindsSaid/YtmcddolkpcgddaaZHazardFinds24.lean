/-
hazard: the finder in memory: its box, its loads, the table of rows.
-/
import Derived.Test.YtmcddolkpcgddaaZHazardFinds23
set_option maxHeartbeats 4000000
set_option maxRecDepth 100000
set_option linter.all false
namespace Go.Proofs.Ytmcddolkpcgddaa
open Go.ChangeShapes Go.WideShapes Go.ChangeAt Go.RowKit
section
open Go Go.RowKit
section
variable {P:Program} {ops:Array Oper} {Q:Act→World→Prop} {S:Nat→Prop} {L:List Nat}
def qjl (ops:Array Oper) (k:Nat):List Nat:=((ops[k]?).map fun o=>(o.after.toList.filter fun e=>Region.binds .any e).map fun e=>e.on).getD []
def qjp (ops:Array Oper) (m:Array Bool) (k:Nat):Array Bool:=if m.getD k false=true then (qjl ops k).foldl (fun m x=>m.setIfInBounds x true) m else m
def anc (ops:Array Oper) (j:Nat):Array Bool:=(List.range ops.size).reverse.foldl (qjp ops) ((Array.replicate ops.size false).setIfInBounds j true)
def qz8 (L:List Nat) (ops:Array Oper) (j:Nat):Bool:=L.all fun i=>i ==j || (anc ops j).getD i false
theorem qxm {l:Array Bool} {k:Nat} (h:l.getD k false=true):l.getD k true=true:=by
 rcases Nat.lt_or_ge k l.size with q|q
 ·simp [q] at h ⊢;exact h
 ·simp [Array.getElem?_eq_none q] at h
theorem qnd {k x:Nat} (h:x∈qjl ops k):∃ o,ops[k]?=some o∧∃ e∈o.after,Region.binds .any e=true∧e.on=x:=by
 unfold qjl at h
 cases ho:ops[k]? with
 | none=>rw [ho] at h;simp at h
 | some o=>
  rw [ho] at h
  simp only [Option.map_some,Option.getD_some,List.mem_map,List.mem_filter,Array.mem_toList_iff] at h
  obtain ⟨e,⟨h1,h2⟩,h3⟩:=h
  exact ⟨o,rfl,e,h1,h2,h3⟩
theorem qlo {m:Array Bool} {x k:Nat} (h:(m.setIfInBounds x true).getD k false=true):k=x∨m.getD k false=true:=by
 by_cases e:k=x
 ·exact .inl e
 ·right
  rw [getD_set_ne false (fun q=>e q.symm)] at h
  exact h
theorem qwr {listed:Array Bool} {j:Nat} (hc:qfo ops listed) (hj:j∈Region.ready .any ops listed):∀ (l:List Nat) (m:Array Bool),(∀ k,m.getD k false=true→k=j∨listed.getD k false=true)→∀ k,(l.foldl (qjp ops) m).getD k false=true→k=j∨listed.getD k false=true
 | [],m,h=>h
 | x::l,m,h=>by
  refine qwr hc hj l (qjp ops m x) fun k hk=>?_
  unfold qjp at hk
  split at hk
  ·rename_i hx
   have hin:∀ y∈qjl ops x,listed.getD y false=true:=fun y hy=>by
    obtain ⟨o,ho,e,he,hb,rfl⟩:=qnd hy
    rcases h x hx with rfl|hl
    ·obtain ⟨-,o',ho',hall⟩:=mem_ready.1 hj
     rw [ho] at ho'
     cases ho'
     exact hall e he hb
    ·exact hc x o ho (qxm hl) e he hb
   have key:∀ (ys:List Nat) (m:Array Bool),(∀ y∈ys,listed.getD y false=true)→(∀ k,m.getD k false=true→k=j∨listed.getD k false=true)→∀ k,(ys.foldl (fun m x=>m.setIfInBounds x true) m).getD k false=true→k=j∨listed.getD k false=true:=fun ys=>by
    induction ys with
    | nil=>intro m _ h;exact h
    | cons y ys ih=>
     intro m hy h
     refine ih _ (fun z hz=>hy z (List.mem_cons_of_mem _ hz)) fun k hk=>?_
     rcases qlo hk with rfl|hk
     ·exact .inr (hy _ List.mem_cons_self)
     ·exact h k hk
   exact key _ m hin h k hk
  ·exact h k hk
theorem qpo {listed:Array Bool} {i j:Nat} (hs:qz8 L ops j=true) (hc:qfo ops listed) (hj:j∈Region.ready .any ops listed) (hi:i∈L) (hne:i≠j):listed.getD i false=true:=by
 unfold qz8 at hs
 rw [List.all_eq_true] at hs
 have h:=hs i hi
 rw [show (i ==j)=false by simpa using hne,Bool.false_or] at h
 rcases qwr hc hj _ _ (fun k hk=>by
  rcases qlo hk with rfl|hk
  ·exact .inl rfl
  ·exfalso
   rcases Nat.lt_or_ge k ops.size with q|q
   ·simp [q] at hk
   ·simp [Array.getElem?_eq_none,q] at hk) i h with e|e
 ·exact absurd e hne
 ·exact e
def wpH (L:List Nat) (S:Nat→Prop) (P:Program) (ops:Array Oper) (Q:Act→World→Prop):Nat→Array Bool→Act→World→Prop
 | 0,listed,a,w=>Region.ready .any ops listed=[]∧Q a w
 | f+1,listed,a,w=>(Region.ready .any ops listed=[]→Q a w)∧∀ i∈Region.ready .any ops listed,eOp (!(qz8 L ops i)) S P ops i (wpH L S P ops Q f (listed.setIfInBounds i true)) a w
theorem qe8 {Q':Exit→Act→World→Prop} (hQ:∀ a w,Q a w→Q' .normal a w):∀ (f:Nat) (listed:Array Bool) (a:Act) (w:World),wpH L S P ops Q f listed a w→wpAny P .any ops Q' f listed a w
 | 0,_,_,_,h=>⟨h.1,hQ _ _ h.2⟩
 | f+1,listed,a,w,h=>⟨fun h0=>hQ _ _ (h.1 h0),fun i hi=>by
   have h1:=h.2 i hi
   unfold eOp at h1
   unfold wpOp
   split
   ·rename_i ho;simp only [ho] at h1;exact qe8 hQ f _ _ _ h1
   ·rename_i o ho
    simp only [ho] at h1
    split
    ·rename_i hw
     simp only [hw,if_true] at h1
     exact .inl (qcg (fun a' w' h2=>qe8 hQ f _ _ _ h2.2) h1)
    ·rename_i hw;simp only [hw] at h1;exact qe8 hQ f _ _ _ h1⟩
theorem qsy {i:Nat} (hL:i∈L) {oi:Oper} {v:Value} (hi:ops[i]?=some oi) (hsel:∀ (j:Nat) (o:Oper) cs b,ops[j]?=some o→o.op≠.select cs b) :
  ∀ (fuel:Nat) (listed:Array Bool) (a:Act) (w:World),
   (∀ j oj,ops[j]?=some oj→j≠i→listed.getD j true=false→(∀ e∈oj.after,Region.binds .any e=true→e.on≠i)→oi.apart ops oj=true)→
   qfo ops listed→i∈Region.ready .any ops listed→qb6 S P ops w oi v a→
   wpH L S P ops Q fuel (listed.setIfInBounds i true) (a.put oi.dst v) w→wpH L S P ops Q (fuel+1) listed a w:=by
 intro fuel
 induction fuel with
 | zero=>
  intro listed a w _ hcl hr hy H
  refine ⟨fun h=>(by rw [h] at hr;cases hr),fun j hj=>?_⟩
  by_cases hji:j=i
  ·subst hji;exact hy.eOp hi H
  ·have:=ready_mono hj hji
   rw [H.1] at this
   cases this
 | succ fuel ih=>
  intro listed a w hfree hcl hr hy H
  refine ⟨fun h=>(by rw [h] at hr;cases hr),fun j hj=>?_⟩
  by_cases hji:j=i
  ·subst hji;exact hy.eOp hi H
  ·have h1:=H.2 j (ready_mono hj hji)
   have hns:qz8 L ops j=false:=by
    cases hs:qz8 L ops j
    ·rfl
    ·exact (qer (qpo hs hcl hj hL (Ne.symm hji)) (mem_ready.1 hr).1).elim
   rw [hns] at h1 ⊢
   obtain ⟨hjun,oj,hoj,hall⟩:=mem_ready.1 hj
   have hnot:∀ e∈oj.after,Region.binds .any e=true→e.on≠i:=fun e he hb heq=>by
    have h1:=hall e he hb
    have h0:=(mem_ready.1 hr).1
    rw [heq] at h1
    rcases Nat.lt_or_ge i listed.size with h'|h'
    ·simp [h'] at h0 h1;rw [h0] at h1;cases h1
    ·simp [Array.getElem?_eq_none h'] at h1
   have h2:=qq3 hoj (hfree j oj hoj hji hjun hnot) (fun cs b=>hsel i oi cs b hi) (fun cs b=>hsel j oj cs b hoj) hy h1
   have hfree':∀ k ok,ops[k]?=some ok→k≠i→(listed.setIfInBounds j true).getD k true=false→
     (∀ e∈ok.after,Region.binds .any e=true→e.on≠i)→oi.apart ops ok=true:=fun k ok hk hki hun hno=>by
    refine hfree k ok hk hki ?_ hno
    by_cases hjk:j=k
    ·subst hjk;exact hjun
    ·rw [getD_set_ne true hjk] at hun;exact hun
   refine qov (fun a' w' h3=>ih (listed.setIfInBounds j true) a' w' hfree' (qec hcl hj) (ready_mono hr (Ne.symm hji)) h3.1 ?_) h2
   rw [Array.setIfInBounds_comm _ _ hji]
   exact h3.2
theorem q2f {f:Nat} {listed:Array Bool} {a:Act} {w:World} (i:Nat) (o:Oper) (hL:i∈L) (hio:ops[i]?=some o)
  (hc:(qee ops listed && (Region.noSelect ops && (Region.ready .any ops listed).contains i && Region.free .any ops listed i && (qgy o || qmk o)))=true)
  (h:wpQuiet P ops (fun w'=>∃ x,w'=kp S w x) (fun a'=>wpH L S P ops Q f (listed.setIfInBounds i true) a' w) [o] a):wpH L S P ops Q (f+1) listed a w:=by
 simp only [Bool.and_eq_true] at hc
 obtain ⟨hcl,⟨⟨hs,hr⟩,hf⟩,hk⟩:=hc
 simp only [wpQuiet] at h
 have hy:∃ v,qb6 S P ops w o v a∧wpH L S P ops Q f (listed.setIfInBounds i true) (a.put o.dst v) w:=by
  split at h
  ·rename_i hw
   obtain ⟨v,hv,hn⟩:=h
   refine ⟨v,.inl ⟨hw,fun w' hb=>?_⟩,hn⟩
   have h3:=hv w' (qmh hb)
   unfold Oper.quietAt at h3
   generalize hrr:(execOp a.eval o).run P w'=r at h3
   cases r with
   | ok n w1=>
    have hu:∃ v,n=.value v:=by
     rw [Bool.or_eq_true] at hk
     rcases hk with hk|hk
     ·exact qdb hk hrr
     ·exact qfd hk hrr
    obtain ⟨u,rfl⟩:=hu
    simp only [Oper.quietUpon] at h3
    obtain ⟨rfl,rfl⟩:=h3
    rfl
   | halt x w1=>simp only [Oper.quietUpon] at h3
  ·rename_i hw
   exact ⟨undef,.inr ⟨by simpa using hw,rfl⟩,h⟩
 obtain ⟨v,hy,hn⟩:=hy
 exact qsy hL hio (Region.noSelect_spec hs) f listed a w (Region.free_spec hio hf) (qd1 hcl) (by simpa using hr) hy hn
theorem qh2:∀ (is:List Nat) (n:Nat) (listed:Array Bool) (a:Act) (w:World),(is.all (fun i=>L.contains i) && (decide (is.length≤n) && qd7 ql5 ops is listed))=true→
  wpQuiet P ops (fun w'=>∃ x,w'=kp S w x) (fun a'=>wpH L S P ops Q (n-is.length) (qjj is listed) a' w) (is.map fun i=>(ops[i]?).getD opD) a→wpH L S P ops Q n listed a w
 | [],n,listed,a,w,_,h=>h
 | i::is,n,listed,a,w,hc,h=>by
  simp only [Bool.and_eq_true,decide_eq_true_eq,qd7,List.all_cons] at hc
  obtain ⟨⟨hLi,hLs⟩,hl,⟨h1,⟨⟨h2,h3⟩,h4⟩,h5⟩,h6⟩:=hc
  cases n with
  | zero=>exact absurd hl (by simp)
  | succ n=>
   cases ho:ops[i]? with
   | none=>rw [ho] at h5;cases h5
   | some o=>
    rw [ho] at h5
    have h5:ql5 o=true:=h5
    refine q2f i o (by simpa using hLi) ho (by simp only [Bool.and_eq_true];exact ⟨h1,⟨⟨h2,h3⟩,h4⟩,h5⟩) ?_
    rw [List.map_cons,ho] at h
    refine qfc (fun a' h'=>?_) (qgh h)
    refine qh2 is n _ a' w (by simp only [Bool.and_eq_true,decide_eq_true_eq];exact ⟨hLs,by simpa using hl,h6⟩) ?_
    have e:n+1-(i::is).length=n-is.length:=by simp
    rw [e] at h'
    exact h'
theorem qew {f:Nat} {listed:Array Bool} {a:Act} {w:World} (i:Nat) (o:Oper) (hio:ops[i]?=some o) (hr:(Region.ready .any ops listed ==[i])=true)
  (h:wpList P ops (qes fun a' w'=>qcl S w w'∧wpH L S P ops Q f (listed.setIfInBounds i true) a' w') [o] a w):wpH L S P ops Q (f+1) listed a w:=by
 simp only [beq_iff_eq] at hr
 refine ⟨fun h0=>(by rw [hr] at h0;cases h0),fun j hj=>?_⟩
 rw [hr,List.mem_singleton] at hj
 subst hj
 exact qdn hio (fun _ _ h=>⟨fun _=>h.1,h.2⟩) h
theorem qil {f:Nat} {listed:Array Bool} {a:Act} {w:World} (i:Nat) (o:Oper) (hio:ops[i]?=some o) (hr:(qz8 L ops i && (Region.ready .any ops listed ==[i]))=true)
  (h:wpList P ops (qes fun a' w'=>wpH L S P ops Q f (listed.setIfInBounds i true) a' w') [o] a w):wpH L S P ops Q (f+1) listed a w:=by
 simp only [Bool.and_eq_true,beq_iff_eq] at hr
 obtain ⟨hs,hr⟩:=hr
 refine ⟨fun h0=>(by rw [hr] at h0;cases h0),fun j hj=>?_⟩
 rw [hr,List.mem_singleton] at hj
 subst hj
 rw [hs]
 exact qdn hio (fun _ _ h=>⟨fun h=>(by cases h),h⟩) h
theorem qir {listed:Array Bool} {a:Act} {w:World} (hr:(Region.ready .any ops listed).isEmpty=true) (h:Q a w):∀ f,wpH L S P ops Q f listed a w
 | 0=>⟨by simpa using hr,h⟩
 | f+1=>⟨fun _=>h,fun i hi=>by rw [List.isEmpty_iff.1 hr] at hi;cases hi⟩
theorem qfn (L:List Nat) (S:Nat→Prop) {id:Nat} {Q':Exit→Act→World→Prop} {a:Act} {w:World} (hm:P.follows .mixedOrders=true)
  (h:wpH L S P ops (fun a' w'=>Q' .normal a' w') ops.size (Array.replicate ops.size false) a { w with drawn:=w.drawn+1 }):(Code.region id ops true).wp P Q' a w :=
 wp_region_any hm (qe8 (fun _ _ h=>h) _ _ _ _ h)
end
end
section
open Go Go.RowKit
section
variable {P:Program} {ops:Array Oper} {Q:Act→World→Prop} {S:Nat→Prop} {L:List Nat}
theorem qje {f:Nat} {listed:Array Bool} {a:Act} {w:World} (i j:Nat) (o o':Oper) (hio:ops[i]?=some o) (hjo:ops[j]?=some o') (hr:(Region.ready .any ops listed ==[i,j])=true)
  (h:wpList P ops (qes fun a' w'=>qcl S w w'∧wpH L S P ops Q f (listed.setIfInBounds i true) a' w') [o] a w) (h':wpList P ops (qes fun a' w'=>qcl S w w'∧wpH L S P ops Q f (listed.setIfInBounds j true) a' w') [o'] a w):wpH L S P ops Q (f+1) listed a w:=by
 simp only [beq_iff_eq] at hr
 refine ⟨fun h0=>(by rw [hr] at h0;cases h0),fun k hk=>?_⟩
 rw [hr] at hk
 rcases List.mem_cons.1 hk with rfl|hk
 ·exact qdn hio (fun _ _ h=>⟨fun _=>h.1,h.2⟩) h
 ·rw [List.mem_singleton] at hk
  subst hk
  exact qdn hjo (fun _ _ h=>⟨fun _=>h.1,h.2⟩) h'
end
end
section
structure InA (w0:World) (B:Nat) (w:World) (v:Value) (L:List (In×Value)):Prop where
 own:w.ownsRow B 58 11 v L.length (L.flatMap qbg)
 args:∀ x∈L,RdI w0 x.2 x.1.args
section
variable {w0 w w':World} {B:Nat} {v v':Value} {L:List (In×Value)}
theorem InA.below (h:InA w0 B w v L) (hb:Below w.heap.size w w'):InA w0 B w' v L:=⟨qav h.own hb,h.args⟩
theorem InA.app (h:InA w0 B w v L) {y:In×Value} (hy:RdI w0 y.2 y.1.args) (o:w'.ownsRow B 58 11 v' (L.length+1) (L.flatMap qbg++qbg y)):InA w0 B w' v' (L++[y]) :=
 ⟨by rw [List.length_append,List.length_singleton,List.flatMap_append];simpa using o,fun x hx=>by
   rcases List.mem_append.1 hx with hx|hx
   ·exact h.args x hx
   ·rw [List.mem_singleton.1 hx];exact hy⟩
theorem InA.nil (w0 w:World) (B:Nat):InA w0 B w (.slice none 0 0) []:=⟨World.ownsRow_nil _ _ _ _,fun x hx=>by cases hx⟩
theorem InA.rd (h:InA w0 B w v L) (he:Ext w0 w):qbd w v (L.map Prod.fst):=qp8.rd (B:=B) ⟨h.own,fun x hx=>(h.args x hx).ext he⟩
theorem InA.form (h:InA w0 B w v L):∃ a c,v=.slice a L.length c:=by
 obtain ⟨-,⟨rfl,h3⟩|⟨g,cap,cur,rfl, -⟩⟩:=h.own
 ·exact ⟨none,0,by rw [h3]⟩
 ·exact ⟨_,_,rfl⟩
theorem InA.at (h:InA w0 B w v L) {k:Nat} (hk:k<L.length):∃ g c,v=.slice (some ⟨g,0,none⟩) L.length c∧B≤g∧L.length≤c∧c≤2 ^ 63-1∧(∃ cur,w.heap[g]?=some (.cells cur 58 (0,0)))∧
  w.cell? ⟨g,k*11+1,none⟩=some (.int .i64 (L.getD k default).1.d)∧w.cell? ⟨g,k*11+2,none⟩=some (.int .i64 (L.getD k default).1.a)∧w.cell? ⟨g,k*11+3,none⟩=some (.int .i64 (L.getD k default).1.b):=by
 have h':=h.own
 have key:∀ {g c},v=.slice (some ⟨g,0,none⟩) L.length c→∀ j u,(qbg (L.getD k default))[j]?=some u→j<11→w.cell? ⟨g,k*11+j,none⟩=some u:=fun {g c} e j u hu hj=>by
  have hlt:k*11+j<L.length*11:=by omega
  rw [e] at h'
  have:=World.ownsRow.cellAt h' (k*11+j) hlt
  rw [this,qi5 qbg 11 (fun _=>rfl) L k j hk hj,hu]
 obtain ⟨-,⟨h2,h3⟩|⟨g,cap,cur,e,hb,hg,h4,h5, -⟩⟩:=h.own
 ·omega
 ·exact ⟨g,cap,e,hb,h4,h5,⟨cur,hg⟩,key e 1 _ rfl (by decide),key e 2 _ rfl (by decide),key e 3 _ rfl (by decide)⟩
end
def q24 (f:In→In) (L:List (In×Value)) (k:Nat):List (In×Value):=(L.take k).map (fun x=>(f x.1,x.2))++L.drop k
def bkO (x:Bk) (v:Value):Obj:=.cells #[v,.int .i64 x.fin,.int .i64 x.a,.int .i64 x.to,.int .i64 x.els] 51
structure MvS (w0 w:World) (x:Bk) (f:In→In) (L:List (In×Value)) (k:Nat) (v:Value) (wr:World):Prop where
 bx:wr.heap[w.heap.size]?=some (bkO x v)
 br:wr.heap[w.heap.size+1]?=some (bkO ⟨[],0,0,0,0⟩ (.slice none 0 0))
 row:InA w0 (w.heap.size+2) wr v (q24 f L k)
 be:Below w.heap.size w wr
structure MvR (w0 w:World) (x:Bk) (M:List (In×Value)) (v:Value) (wr:World):Prop where
 bx:wr.heap[w.heap.size]?=some (bkO x v)
 br:wr.heap[w.heap.size+1]?=some (bkO ⟨[],0,0,0,0⟩ (.slice none 0 0))
 row:InA w0 (w.heap.size+2) wr v M
 be:Below w.heap.size w wr
theorem MvS.r {w0 w wr:World} {x:Bk} {f:In→In} {L:List (In×Value)} {k:Nat} {v:Value} (h:MvS w0 w x f L k v wr):MvR w0 w x (q24 f L k) v wr:=⟨h.bx,h.br,h.row,h.be⟩
structure Bt2 (n:Nat) (w w':World):Prop where
 os:w'.os=w.os
 tape:w'.tape=w.tape
 output:w'.output=w.output
 size:w.heap.size≤w'.heap.size
 block:∀ k,k<w.heap.size→k≠n→k≠n+1→w'.heap[k]?=w.heap[k]?
theorem Bt2.set {n:Nat} {w w':World} (h:Bt2 n w w') {b:Nat} (hb:b=n∨b=n+1) (j:Nat) (u:Value):Bt2 n w (w'.setCell ⟨b,j,none⟩ u) :=
 ⟨h.os,h.tape,h.output,by simpa using h.size,fun k hk h1 h2=>(heap_setCell_other w' ⟨b,j,none⟩ k u (by show k≠b;omega)).trans (h.block k hk h1 h2)⟩
theorem Bt2.fin {n:Nat} {w0 w wr w':World} {v:Value} {M:List (In×Value)} (h:Bt2 n wr w') (hn:n=w.heap.size) (hr:InA w0 (n+2) wr v M) (hb:Below n w wr):InA w0 n w' v M∧Below n w w':=by
 refine ⟨⟨?_,hr.args⟩,⟨h.os.trans hb.os,h.tape.trans hb.tape,h.output.trans hb.output,Nat.le_trans hb.size h.size,fun k hk=>(h.block k (Nat.lt_of_lt_of_le (by omega) hb.size) (by omega) (by omega)).trans (hb.block k hk)⟩⟩
 obtain ⟨h1,h2⟩:=hr.own
 refine ⟨h1,?_⟩
 rcases h2 with h2|⟨g,cap,cur,e,h3,h4,h5⟩
 ·exact .inl h2
 ·exact .inr ⟨g,cap,cur,e,by omega,(h.block g (qkp h4).1 (by omega) (by omega)).trans h4,h5⟩
end
section
theorem qeg {w:World} {B s n b:Nat} {e:TypeId} {v:Value} {xs:List Value} (h:w.ownsRow B e s v n xs) (hb:v.ownBlock=some b):∃ cur,w.heap[b]?=some (.cells cur e):=by
 obtain ⟨-,⟨rfl, -⟩|⟨g,cap,cur,rfl, -,hg, -⟩⟩:=h
 ·cases hb
 ·simp only [Value.ownBlock,Option.some.injEq] at hb
  subst hb
  exact ⟨_,hg⟩
theorem qdg {w:World} {B B' s s' n n':Nat} {e e':TypeId} {v v':Value} {xs xs':List Value} (h:w.ownsRow B e s v n xs) (h':w.ownsRow B' e' s' v' n' xs') (he:e≠e'):v.ownBlock=none∨v.ownBlock≠v'.ownBlock:=by
 by_cases hv:v.ownBlock=none
 ·exact .inl hv
 ·right
  intro e2
  obtain ⟨b,hb⟩:=Option.ne_none_iff_exists'.1 hv
  obtain ⟨c1,h1⟩:=qeg h hb
  obtain ⟨c2,h2⟩:=qeg h' (e2 ▸ hb)
  rw [h1] at h2
  simp only [Option.some.injEq,Obj.cells.injEq] at h2
  exact he h2.2.1
theorem qat {w:World} {B s n b:Nat} {e:TypeId} {v:Value} {xs:List Value} (h:w.ownsRow B e s v n xs) (hb:b<B):v.ownBlock≠some b:=fun e2=>by have:=(qdt h e2).1;omega
def qft (L:Nat) (x:Nat×Nat):Value:=.slice (some ⟨x.1,0,none⟩) L x.2
structure TbV (B:Nat) (w:World) (vg:Value) (rs:List (Nat×Nat)) (X:List Nat) (L:Nat):Prop where
 len:rs.length=X.length
 tab:w.ownsRow B 87 1 vg X.length (rs.map (qft L))
 row:∀ i,i<X.length→qb3 w (rs.getD i (0,0)).1 (rs.getD i (0,0)).2 L (X.getD i 0)∧B≤(rs.getD i (0,0)).1
 inj:∀ i j,i<X.length→j<X.length→i≠j→(rs.getD i (0,0)).1≠(rs.getD j (0,0)).1
section
variable {B L:Nat} {w w':World} {vg v':Value} {rs:List (Nat×Nat)} {X:List Nat}
theorem TbV.nil (w:World) (B L:Nat):TbV B w (.slice none 0 0) [] [] L:=⟨rfl,World.ownsRow_nil _ _ _ _,fun i hi=>absurd hi (Nat.not_lt_zero _),fun i j hi=>absurd hi (Nat.not_lt_zero _)⟩
theorem TbV.below (h:TbV B w vg rs X L) (hb:Below w.heap.size w w'):TbV B w' vg rs X L :=
 ⟨h.len,qav h.tab hb,fun i hi=>⟨(h.row i hi).1.below hb,(h.row i hi).2⟩,h.inj⟩
theorem TbV.kept (h:TbV B w vg rs X L) {row:Option Nat} (hg:w.grownBy w' row) (h1:vg.ownBlock=none∨vg.ownBlock≠row) (h2:∀ i,i<X.length→row≠some (rs.getD i (0,0)).1):TbV B w' vg rs X L :=
 ⟨h.len,World.ownsRow.kept h.tab hg h1,fun i hi=>⟨World.ownsRow.kept (h.row i hi).1 hg (.inr fun e=>h2 i hi e.symm),(h.row i hi).2⟩,h.inj⟩
theorem TbV.old (h:TbV B w vg rs X L) {i:Nat} (hi:i<X.length):(rs.getD i (0,0)).1<w.heap.size:=(h.row i hi).1.lt
theorem TbV.keptT (h:TbV B w vg rs X L) {b:Nat} {cs:Array Value} {ty:TypeId} {fr:Nat×Nat} (hg:w.grownBy w' (some b)) (hb:w.heap[b]?=some (.cells cs ty fr)) (h1:ty≠87) (h2:ty≠134):TbV B w' vg rs X L:=by
 refine h.kept hg ?_ fun i hi e=>?_
 ·right
  intro e
  obtain ⟨cur,hc⟩:=qeg h.tab e
  rw [hb] at hc
  simp only [Option.some.injEq,Obj.cells.injEq] at hc
  exact h1 hc.2.1
 ·obtain ⟨cur,hc⟩:=(h.row i hi).1.heap
  rw [←Option.some.inj e,hb] at hc
  simp only [Option.some.injEq,Obj.cells.injEq] at hc
  exact h2 hc.2.1
theorem TbV.turn (h:TbV B w vg rs X L) {i:Nat} (hi:i<X.length) {R:Nat} (hr:qb3 w' (rs.getD i (0,0)).1 (rs.getD i (0,0)).2 L R) (hb:But (rs.getD i (0,0)).1 w w'):TbV B w' vg rs (X.set i R) L:=by
 refine ⟨by simpa using h.len,?_,fun j hj=>?_,fun j k hj hk=>h.inj j k (by simpa using hj) (by simpa using hk)⟩
 ·rw [List.length_set]
  refine World.ownsRow.kept h.tab (qap hb) (.inr fun e=>?_)
  obtain ⟨cur,hc⟩:=qeg h.tab e
  obtain ⟨cur2,hc2⟩:=(h.row i hi).1.heap
  rw [hc] at hc2
  simp only [Option.some.injEq,Obj.cells.injEq] at hc2
  exact absurd hc2.2.1 (by decide)
 ·rw [List.length_set] at hj
  by_cases e:j=i
  ·subst e
   have:(X.set j R).getD j 0=R:=by simp [List.getD,hj]
   rw [this]
   exact ⟨hr,(h.row j hj).2⟩
  ·have:(X.set i R).getD j 0=X.getD j 0:=by simp [List.getD,List.getElem?_set_ne (Ne.symm e)]
   rw [this]
   exact ⟨(h.row j hj).1.but hb (h.inj j i hj hi e),(h.row j hj).2⟩
theorem qea {α:Type} (l:List α) (a d:α) (i:Nat):(l++[a]).getD i d=if i<l.length then l.getD i d else if i=l.length then a else d:=by
 by_cases h:i<l.length
 ·rw [if_pos h];simp [List.getD,List.getElem?_append,h]
 ·rw [if_neg h]
  by_cases e:i=l.length
  ·rw [if_pos e,e];simp [List.getD]
  ·rw [if_neg e]
   have:(l++[a])[i]?=none:=List.getElem?_eq_none (by simp;omega)
   rw [List.getD_eq_getElem?_getD,this];rfl
theorem TbV.push (h:TbV B w vg rs X L) {g c R:Nat} (hg:w.grownBy w' vg.ownBlock) (ho:w'.ownsRow B 87 1 v' (X.length+1) (rs.map (qft L)++[qft L (g,c)])) (hr:qb3 w g c L R) (hB:B≤g) (hn:∀ i,i<X.length→(rs.getD i (0,0)).1≠g):TbV B w' v' (rs++[(g,c)]) (X++[R]) L:=by
 have hl:=h.len
 have ne:∀ {b:Nat},(∃ cur,w.heap[b]?=some (.cells cur 134))→vg.ownBlock≠some b:=fun {b} hc e=>by
  obtain ⟨cur,hc⟩:=hc
  obtain ⟨c2,hc2⟩:=qeg h.tab e
  rw [hc] at hc2
  simp only [Option.some.injEq,Obj.cells.injEq] at hc2
  exact absurd hc2.2.1 (by decide)
 have key:∀ {b c R:Nat},qb3 w b c L R→qb3 w' b c L R:=fun {b c R} hq=>World.ownsRow.kept hq hg (.inr fun e=>ne hq.heap e.symm)
 refine ⟨by simp [hl],by rw [List.length_append,List.map_append];exact ho,fun i hi=>?_,fun i j hi hj hij=>?_⟩
 ·rw [qea,qea,hl]
  rw [List.length_append,List.length_singleton] at hi
  by_cases e:i<X.length
  ·rw [if_pos e,if_pos e];exact ⟨key (h.row i e).1,(h.row i e).2⟩
  ·rw [if_neg e,if_neg e,if_pos (by omega),if_pos (by omega)];exact ⟨key hr,hB⟩
 ·rw [qea,qea,hl]
  rw [List.length_append,List.length_singleton] at hi hj
  by_cases e1:i<X.length
  ·rw [if_pos e1]
   by_cases e2:j<X.length
   ·rw [if_pos e2];exact h.inj i j e1 e2 hij
   ·rw [if_neg e2,if_pos (by omega)];exact hn i e1
  ·rw [if_neg e1,if_pos (by omega)]
   by_cases e2:j<X.length
   ·rw [if_pos e2];exact Ne.symm (hn j e2)
   ·omega
theorem TbV.form (h:TbV B w vg rs X L) (h0:0<X.length):∃ gt ct,vg=.slice (some ⟨gt,0,none⟩) X.length ct∧B≤gt∧X.length≤ct∧ct≤maxLen∧gt<w.heap.size∧(∃ cur,w.heap[gt]?=some (.cells cur 87))∧∀ i,i<X.length→w.cell? ⟨gt,i,none⟩=some (qft L (rs.getD i (0,0))):=by
 have h':=h.tab
 obtain ⟨-,⟨-,h2⟩|⟨g,cap,cur,rfl,hB,hg,hn,hc, -⟩⟩:=h'
 ·omega
 ·refine ⟨g,cap,rfl,hB,hn,hc,(qkp hg).1,⟨_,hg⟩,fun i hi=>?_⟩
  have hl:=h.len
  rw [World.ownsRow.cellAt h.tab i (by omega)]
  simp [List.getD,List.getElem?_map,List.getElem?_eq_getElem (show i<rs.length by omega)]
end
def fdO (nm:ByteArray) (p:Pr) (vo vb:Value) (bv:Nat) (vs vl vf vg:Value):Obj:=.cells #[.string nm,.bool p.void,.int .i64 p.params,.int .i64 p.regs,vo,vb,.pointer (some ⟨bv,0,none⟩),vs,vl,vf,vg] 84
structure FdM (w0:World) (bf:Nat) (nm:ByteArray) (p:Pr) (vo vb:Value) (bv:Nat) (vs vl vf vg:Value) (LL:List In) (F:List Int) (rs:List (Nat×Nat)) (X:List Nat) (L:Nat) (W:World):Prop where
 box:W.heap[bf]?=some (fdO nm p vo vb bv vs vl vf vg)
 lo:∃ K,InA w0 (bf+1) W vl K∧K.map Prod.fst=LL
 fr:qa8 W (bf+1) vf F
 tb:TbV (bf+1) W vg rs X L
 be:Below w0.heap.size w0 W
 hB:w0.heap.size≤bf
section
variable {w0 W W':World} {bf bv L:Nat} {nm:ByteArray} {p:Pr} {vo vb vs vl vf vg v':Value} {LL:List In} {F:List Int} {rs:List (Nat×Nat)} {X:List Nat}
theorem FdM.lt (h:FdM w0 bf nm p vo vb bv vs vl vf vg LL F rs X L W):bf<W.heap.size:=(qkp h.box).1
theorem FdM.below (h:FdM w0 bf nm p vo vb bv vs vl vf vg LL F rs X L W) (hb:Below W.heap.size W W'):FdM w0 bf nm p vo vb bv vs vl vf vg LL F rs X L W':=by
 obtain ⟨K,hK,hL⟩:=h.lo
 exact ⟨(hb.block _ h.lt).trans h.box,⟨K,hK.below hb,hL⟩,qa8.below h.fr hb,h.tb.below hb,h.be.trans (hb.mono h.be.size),h.hB⟩
theorem qqq {W:World} {bf bv:Nat} {nm:ByteArray} {p:Pr} {vo vb vs vl vf vg:Value} (hbx:W.heap[bf]?=some (fdO nm p vo vb bv vs vl vf vg)) (j:Nat) (u:Value) :
  (W.setCell ⟨bf,j,none⟩ u).heap[bf]?=some (.cells ((#[Value.string nm,.bool p.void,.int .i64 p.params,.int .i64 p.regs,vo,vb,.pointer (some ⟨bv,0,none⟩),vs,vl,vf,vg]:Array Value).setIfInBounds j u) 84):=heap_setCell_same W bf j _ _ u hbx
theorem FdM.from (h:FdM w0 bf nm p vo vb bv vs vl vf vg LL F rs X L W) {x:Int} (hg:W.grownBy W' vf.ownBlock) (ho:W'.ownsRow (bf+1) 3 1 v' (F.length+1) (F.map (Value.int .i64)++[.int .i64 x])):FdM w0 bf nm p vo vb bv vs vl v' vg LL (F++[x]) rs X L (W'.setCell ⟨bf,9,none⟩ v'):=by
 obtain ⟨K,hK,hL⟩:=h.lo
 have hbx:W'.heap[bf]?=_:=(hg.block _ h.lt fun e=>qat h.fr (Nat.lt_succ_self _) e.symm).trans h.box
 have hbt:But bf W' (W'.setCell ⟨bf,9,none⟩ v'):=But.setCell _ _ _ _
 have hf:W'.ownsRow (bf+1) 3 1 v' (F++[x]).length ((F++[x]).map (Value.int .i64)):=by rw [List.length_append,List.map_append];exact ho
 have hk1:W'.ownsRow (bf+1) 58 11 vl K.length (K.flatMap qbg):=World.ownsRow.kept hK.own hg (qdg hK.own h.fr (by decide))
 have ht:TbV (bf+1) W' vg rs X L:=h.tb.kept hg (qdg h.tb.tab h.fr (by decide)) fun i hi e=>by
  obtain ⟨c1,h1⟩:=qeg h.fr e
  obtain ⟨c2,h2⟩:=(h.tb.row i hi).1.heap
  rw [h1] at h2
  simp only [Option.some.injEq,Obj.cells.injEq] at h2
  exact absurd h2.2.1 (by decide)
 refine ⟨qqq hbx 9 v',⟨K,⟨World.ownsRow.kept hk1 (qap hbt) (.inr (qat hk1 (Nat.lt_succ_self _))),hK.args⟩,hL⟩,World.ownsRow.kept hf (qap hbt) (.inr (qat hf (Nat.lt_succ_self _))),ht.keptT (qap hbt) hbx (by decide) (by decide),?_,h.hB⟩
 exact (h.be.grown hg h.be.size fun b e=>by have:=(qdt h.fr e).1;have:=h.hB;omega).setCell h.hB _
theorem FdM.load (h:FdM w0 bf nm p vo vb bv vs vl vf vg LL F rs X L W) {K:List (In×Value)} (hK:InA w0 (bf+1) W vl K) (hL:K.map Prod.fst=LL) {y:In×Value} (hy:RdI w0 y.2 y.1.args) (hg:W.grownBy W' vl.ownBlock) (ho:W'.ownsRow (bf+1) 58 11 v' (K.length+1) (K.flatMap qbg++qbg y)):FdM w0 bf nm p vo vb bv vs v' vf vg (LL++[y.1]) F rs X L (W'.setCell ⟨bf,8,none⟩ v'):=by
 have hbx:W'.heap[bf]?=_:=(hg.block _ h.lt fun e=>qat hK.own (Nat.lt_succ_self _) e.symm).trans h.box
 have hbt:But bf W' (W'.setCell ⟨bf,8,none⟩ v'):=But.setCell _ _ _ _
 have hk1:=hK.app hy ho
 have hf:W'.ownsRow (bf+1) 3 1 vf F.length (F.map (Value.int .i64)):=World.ownsRow.kept h.fr hg (qdg h.fr hK.own (by decide))
 have ht:TbV (bf+1) W' vg rs X L:=h.tb.kept hg (qdg h.tb.tab hK.own (by decide)) fun i hi e=>by
  obtain ⟨c1,h1⟩:=qeg hK.own e
  obtain ⟨c2,h2⟩:=(h.tb.row i hi).1.heap
  rw [h1] at h2
  simp only [Option.some.injEq,Obj.cells.injEq] at h2
  exact absurd h2.2.1 (by decide)
 refine ⟨qqq hbx 8 v',⟨_,⟨World.ownsRow.kept hk1.own (qap hbt) (.inr (qat hk1.own (Nat.lt_succ_self _))),hk1.args⟩,by rw [List.map_append,hL];rfl⟩,World.ownsRow.kept hf (qap hbt) (.inr (qat hf (Nat.lt_succ_self _))),ht.keptT (qap hbt) hbx (by decide) (by decide),?_,h.hB⟩
 exact (h.be.grown hg h.be.size fun b e=>by have:=(qdt hK.own e).1;have:=h.hB;omega).setCell h.hB _
theorem FdM.row (h:FdM w0 bf nm p vo vb bv vs vl vf vg LL F rs X L W) {g c R:Nat} (hr:qb3 W g c L R) (hgB:bf+1≤g) (hn:∀ i,i<X.length→(rs.getD i (0,0)).1≠g) (hg:W.grownBy W' vg.ownBlock) (ho:W'.ownsRow (bf+1) 87 1 v' (X.length+1) (rs.map (qft L)++[qft L (g,c)])):FdM w0 bf nm p vo vb bv vs vl vf v' LL F (rs++[(g,c)]) (X++[R]) L (W'.setCell ⟨bf,10,none⟩ v'):=by
 obtain ⟨K,hK,hL⟩:=h.lo
 have hbx:W'.heap[bf]?=_:=(hg.block _ h.lt fun e=>qat h.tb.tab (Nat.lt_succ_self _) e.symm).trans h.box
 have hbt:But bf W' (W'.setCell ⟨bf,10,none⟩ v'):=But.setCell _ _ _ _
 have ht:=h.tb.push hg ho hr hgB hn
 have hf:W'.ownsRow (bf+1) 3 1 vf F.length (F.map (Value.int .i64)):=World.ownsRow.kept h.fr hg (qdg h.fr h.tb.tab (by decide))
 have hk1:W'.ownsRow (bf+1) 58 11 vl K.length (K.flatMap qbg):=World.ownsRow.kept hK.own hg (qdg hK.own h.tb.tab (by decide))
 refine ⟨qqq hbx 10 v',⟨K,⟨World.ownsRow.kept hk1 (qap hbt) (.inr (qat hk1 (Nat.lt_succ_self _))),hK.args⟩,hL⟩,World.ownsRow.kept hf (qap hbt) (.inr (qat hf (Nat.lt_succ_self _))),ht.keptT (qap hbt) hbx (by decide) (by decide),?_,h.hB⟩
 exact (h.be.grown hg h.be.size fun b e=>by have:=(qdt h.tb.tab e).1;have:=h.hB;omega).setCell h.hB _
theorem FdM.turn (h:FdM w0 bf nm p vo vb bv vs vl vf vg LL F rs X L W) {i:Nat} (hi:i<X.length) {R:Nat} (hr:qb3 W' (rs.getD i (0,0)).1 (rs.getD i (0,0)).2 L R) (hb:But (rs.getD i (0,0)).1 W W'):FdM w0 bf nm p vo vb bv vs vl vf vg LL F rs (X.set i R) L W':=by
 obtain ⟨K,hK,hL⟩:=h.lo
 obtain ⟨cur,hc⟩:=(h.tb.row i hi).1.heap
 have hge:=(h.tb.row i hi).2
 have ne:∀ {s n:Nat} {e:TypeId} {v:Value} {xs:List Value},W.ownsRow (bf+1) e s v n xs→e≠134→v.ownBlock≠some (rs.getD i (0,0)).1:=fun {s n e v xs} ho he e2=>by
  obtain ⟨c2,h2⟩:=qeg ho e2
  rw [hc] at h2
  simp only [Option.some.injEq,Obj.cells.injEq] at h2
  exact he h2.2.1.symm
 exact ⟨(hb.block _ h.lt (by omega)).trans h.box,⟨K,⟨World.ownsRow.kept hK.own (qap hb) (.inr (ne hK.own (by decide))),hK.args⟩,hL⟩,World.ownsRow.kept h.fr (qap hb) (.inr (ne h.fr (by decide))),h.tb.turn hi hr hb,h.be.trans (hb.toBelow (by have:=h.hB;omega) h.be.size),h.hB⟩
theorem FdM.other (h:FdM w0 bf nm p vo vb bv vs vl vf vg LL F rs X L W) {g c R:Nat} (hr:qb3 W g c L R) (hgB:bf+1≤g) (hn:∀ i,i<X.length→(rs.getD i (0,0)).1≠g) (hb:But g W W'):FdM w0 bf nm p vo vb bv vs vl vf vg LL F rs X L W':=by
 obtain ⟨K,hK,hL⟩:=h.lo
 obtain ⟨cur,hc⟩:=hr.heap
 have ne:∀ {s n:Nat} {e:TypeId} {v:Value} {xs:List Value},W.ownsRow (bf+1) e s v n xs→e≠134→v.ownBlock≠some g:=fun {s n e v xs} ho he e2=>by
  obtain ⟨c2,h2⟩:=qeg ho e2
  rw [hc] at h2
  simp only [Option.some.injEq,Obj.cells.injEq] at h2
  exact he h2.2.1.symm
 exact ⟨(hb.block _ h.lt (by omega)).trans h.box,⟨K,⟨World.ownsRow.kept hK.own (qap hb) (.inr (ne hK.own (by decide))),hK.args⟩,hL⟩,World.ownsRow.kept h.fr (qap hb) (.inr (ne h.fr (by decide))),h.tb.kept (qap hb) (.inr (ne h.tb.tab (by decide))) fun i hi e=>hn i hi (Option.some.inj e).symm,h.be.trans (hb.toBelow (by have:=h.hB;omega) h.be.size),h.hB⟩
end
end
end Go.Proofs.Ytmcddolkpcgddaa
