/-
alias: rows of one word.
-/
import Derived.Test.YtmcddolkpcgddaaZHazardFinds09
import Derived.Laws.Bits64b
set_option maxHeartbeats 4000000
set_option maxRecDepth 100000
set_option linter.all false
namespace Go.Proofs.Ytmcddolkpcgddaa
section
def qg9 (n:Int):Bool:=decide (-32768≤n) && decide (n≤32768)
def qdi (s:Sl):Bool:=decide (1≤s.size) && (decide (s.size≤32768) && (s.align ==1 || s.align ==4))
def qby (p:Pr) (r:Int) (should:Bool):Bool:=if should=true then decide (0≤r) && decide (r<p.regs) else r == -1
def qco (p:Pr) (n:Int):Bool:=decide (0≤n) && decide (n<p.blks.length)
def qha (p:Pr) (b:Bk):Bool :=
 if b.fin=1 then qco p b.to && (b.a == -1 && b.els ==0)
 else if b.fin=2 then qco p b.to && (qco p b.els && qby p b.a true)
 else if b.fin=3 then qby p b.a (!p.void) && (b.to ==0 && b.els ==0)
 else false
def qal (i:In):In :=
 { op:=i.op,d:= -1,a:= -1,b:= -1,args:=[],log:=if i.op=6∨qbn i≠ -1 then false else i.log,num:=if i.op=1 then 0 else i.num,fn:=if i.op=3∨i.op=4 then 0 else i.fn,off:=if i.op=5∨i.op=6∨i.op=7∨i.op=8 then 0 else i.off,size:=if i.op=5∨i.op=6 then 0 else i.size,obj:=if i.op=7∨i.op=8∨i.op=9 then 0 else i.obj }
def qem (i:In):Bool :=
 (qal i).fn ==0 && ((qal i).obj ==0 && ((qal i).off ==0 && ((qal i).size ==0 && ((qal i).num ==0 && (!(qal i).log && (i.op ==9 || decide (i.args.length=0)))))))
def qd0 (m:Md) (p:Pr) (i:In):Bool :=
 decide (0≤i.obj) && (decide (i.obj<m.procs.length) && (decide ((i.args.length:Int)=(m.procs.getD i.obj.toNat default).params) && (qby p i.d (!(m.procs.getD i.obj.toNat default).void) && i.args.all fun r=>qby p r true)))
def qeb (m:Md) (p:Pr) (i:In):Bool :=
 if i.op=3 then decide (1≤i.fn) && decide (i.fn≤16)
 else if i.op=4 then decide (17≤i.fn) && decide (i.fn≤19)
 else if i.op=5∨i.op=6 then (i.size ==1 || i.size ==4) && qg9 i.off
 else if i.op=7 then (decide (0≤i.obj) && decide (i.obj<p.objs.length)) && qg9 i.off
 else if i.op=8 then (decide (0≤i.obj) && decide (i.obj<m.globs.length)) && qg9 i.off
 else true
def okI (m:Md) (p:Pr) (i:In):Bool :=
 (decide (1≤i.op) && (decide (i.op≤12) && qem i)) &&
 if i.op=9 then qd0 m p i && (qby p i.a false && qby p i.b false)
 else (qby p i.d (i.op !=6 && (i.op !=10 && i.op !=12)) && (qby p i.a (qdc i.op) && qby p i.b (qdp i.op))) && qeb m p i
def okB (m:Md) (p:Pr) (b:Bk):Bool:=b.ins.all (okI m p) && qha p b
def qru (p:Pr):Nat:=(p.blks.map fun b=>b.ins.length).sum
def qoo (p:Pr):Bool :=
 decide (0≤p.params) && (decide (p.params≤6) && (decide (p.params≤p.regs) && (decide (p.regs≤8000) && (decide (p.objs.length≤400) && (decide (1≤p.blks.length) && (decide (p.blks.length≤4000) && (p.objs.all qdi && decide (qru p≤20000))))))))
def okP (m:Md) (p:Pr):Bool:=qoo p && p.blks.all (okB m p)
def qnm (m:Md):Bool:=(List.range m.data.length).all fun k=>decide (((m.data.getD k []).length:Int)=(m.globs.getD k default).size)
def qrj (m:Md):Bool :=
 decide (m.data.length=m.globs.length) && (decide (m.globs.length≤200) && (m.globs.all qdi && (decide (1≤m.procs.length) && (decide (m.procs.length≤200) && (decide (0≤m.main) && decide (m.main<m.procs.length))))))
def okM (m:Md):Bool :=
 qrj m && (qnm m && (((m.procs.getD m.main.toNat default).params ==0 && !(m.procs.getD m.main.toNat default).void) && m.procs.all (okP m)))
structure SzP (p:Pr):Prop where
 blks:p.blks.length≤100000
 ins:∀ b∈p.blks,b.ins.length≤100000
structure SzM (m:Md):Prop where
 procs:∀ p∈m.procs,SzP p
end
section
def qeo (o:Nat) (i:In):List Con :=
 if i.op=7 then [.put i.obj.toNat i.d.toNat]
 else if i.op=8 then [.put (o+i.obj.toNat) i.d.toNat]
 else if i.op=2 then [.sub (some i.a.toNat) (some i.d.toNat)]
 else if i.op=3 then (if i.fn=1∨i.fn=2 then [.sub (some i.a.toNat) (some i.d.toNat),.sub (some i.b.toNat) (some i.d.toNat)] else [])
 else if i.op=5 then (if i.size=4 then [.sub none (some i.d.toNat)] else [])
 else if i.op=6 then (if i.size=4 then [.sub (some i.b.toNat) none] else [])
 else if i.op=9 then (i.args.map fun r=>.sub (some r.toNat) none)++(if i.d= -1 then [] else [.sub none (some i.d.toNat)])
 else []
def qep (o:Nat) (i:In):List Con :=
 if i.op=9 then (if i.d= -1 then [] else [.sub none (some i.d.toNat)])++(i.args.map fun r=>.sub (some r.toNat) none) else qeo o i
def qjr (b:Bk):List Con:=if b.fin=3∧b.a≠ -1 then [.sub (some b.a.toNat) none] else []
def qz6 (o:Nat) (b:Bk):List Con:=b.ins.flatMap (qeo o)++qjr b
def qju (o:Nat) (b:Bk):List Con:=b.ins.flatMap (qep o)++qjr b
def qeh (p:Pr):List Con:=p.blks.flatMap (qz6 p.objs.length)
def qic (p:Pr):List Con:=p.blks.flatMap (qju p.objs.length)
theorem qt8 (o:Nat) (i:In) (c:Con):c∈qep o i↔c∈qeo o i:=by
 by_cases e:i.op=9
 ·have h:qeo o i=(i.args.map fun r=>.sub (some r.toNat) none)++(if i.d= -1 then [] else [.sub none (some i.d.toNat)]):=by
   unfold qeo;rw [e];rfl
  unfold qep
  rw [if_pos e,h,List.mem_append,List.mem_append]
  exact Or.comm
 ·unfold qep;rw [if_neg e]
theorem qth (o:Nat) (b:Bk) (c:Con):c∈qju o b↔c∈qz6 o b:=by
 unfold qju qz6
 simp only [List.mem_append,List.mem_flatMap,qt8]
theorem qfy (p:Pr) (c:Con):c∈qic p↔c∈qeh p:=by
 unfold qic qeh
 simp only [List.mem_flatMap,qth]
theorem qda {m:Md} {p:Pr} {i:In} (h:okI m p i=true):(1≤i.op∧i.op≤12)∧(i.op=9→qd0 m p i=true)∧(i.op≠9→qby p i.d (i.op !=6 && (i.op !=10 && i.op !=12))=true∧qby p i.a (qdc i.op)=true∧qby p i.b (qdp i.op)=true∧qeb m p i=true):=by
 unfold okI at h
 by_cases e:i.op=9
 ·rw [if_pos e] at h
  simp only [Bool.and_eq_true,decide_eq_true_eq] at h
  exact ⟨⟨h.1.1,h.1.2.1⟩,fun _=>h.2.1,fun h2=>absurd e h2⟩
 ·rw [if_neg e] at h
  simp only [Bool.and_eq_true,decide_eq_true_eq] at h
  exact ⟨⟨h.1.1,h.1.2.1⟩,fun h2=>absurd h2 e,fun _=>⟨h.2.1.1,h.2.1.2.1,h.2.1.2.2,h.2.2⟩⟩
theorem qbv {p:Pr} {r:Int} {b:Bool} (h:qby p r b=true) (hb:b=true):0≤r∧r<p.regs:=by
 subst hb
 simpa [qby] using h
theorem qjc {p:Pr} {r:Int} {b:Bool} (h:qby p r b=true):r= -1∨0≤r∧r<p.regs:=by
 cases b
 ·exact .inl (by simpa [qby] using h)
 ·exact .inr (qbv h rfl)
theorem qx5 {m:Md} {p:Pr} {i:In} (h:okI m p i=true):∀ c∈qeo p.objs.length i,c.inn p.regs.toNat∧c.thing (p.objs.length+m.globs.length+1):=by
 obtain ⟨-,h9,hn⟩:=qda h
 intro c hc
 unfold qeo at hc
 have S:∀ (r:Int),(0≤r∧r<p.regs)→∀ q,some r.toNat=some q→q<p.regs.toNat:=fun r hr q e=>by cases e;omega
 have Z:∀ q,(none:Option Nat)=some q→q<p.regs.toNat:=fun q e=>by cases e
 by_cases e7:i.op=7
 ·rw [if_pos e7] at hc
  obtain ⟨hd, -, -,hm⟩:=hn (by omega)
  have hd:=qbv hd (by rw [e7];rfl)
  have hm:(0≤i.obj∧i.obj<p.objs.length)∧qg9 i.off=true:=by simpa [qeb,e7] using hm
  rw [List.mem_singleton] at hc
  subst hc
  exact ⟨by show i.d.toNat < _;omega,by show i.obj.toNat < _;omega⟩
 rw [if_neg e7] at hc
 by_cases e8:i.op=8
 ·rw [if_pos e8] at hc
  obtain ⟨hd, -, -,hm⟩:=hn (by omega)
  have hd:=qbv hd (by rw [e8];rfl)
  have hm:(0≤i.obj∧i.obj<m.globs.length)∧qg9 i.off=true:=by simpa [qeb,e8] using hm
  rw [List.mem_singleton] at hc
  subst hc
  exact ⟨by show i.d.toNat < _;omega,by show _+i.obj.toNat < _;omega⟩
 rw [if_neg e8] at hc
 by_cases e2:i.op=2
 ·rw [if_pos e2] at hc
  obtain ⟨hd,ha, -, -⟩:=hn (by omega)
  have hd:=qbv hd (by rw [e2];rfl)
  have ha:=qbv ha (by rw [e2];rfl)
  rw [List.mem_singleton] at hc
  subst hc
  exact ⟨⟨S _ ha,S _ hd⟩,trivial⟩
 rw [if_neg e2] at hc
 by_cases e3:i.op=3
 ·rw [if_pos e3] at hc
  obtain ⟨hd,ha,hb, -⟩:=hn (by omega)
  have hd:=qbv hd (by rw [e3];rfl)
  have ha:=qbv ha (by rw [e3];rfl)
  have hb:=qbv hb (by rw [e3];rfl)
  split at hc
  ·simp only [List.mem_cons,List.not_mem_nil,or_false] at hc
   rcases hc with rfl|rfl
   ·exact ⟨⟨S _ ha,S _ hd⟩,trivial⟩
   ·exact ⟨⟨S _ hb,S _ hd⟩,trivial⟩
  ·cases hc
 rw [if_neg e3] at hc
 by_cases e5:i.op=5
 ·rw [if_pos e5] at hc
  obtain ⟨hd, -, -, -⟩:=hn (by omega)
  have hd:=qbv hd (by rw [e5];rfl)
  split at hc
  ·rw [List.mem_singleton] at hc
   subst hc
   exact ⟨⟨Z,S _ hd⟩,trivial⟩
  ·cases hc
 rw [if_neg e5] at hc
 by_cases e6:i.op=6
 ·rw [if_pos e6] at hc
  obtain ⟨-, -,hb, -⟩:=hn (by omega)
  have hb:=qbv hb (by rw [e6];rfl)
  split at hc
  ·rw [List.mem_singleton] at hc
   subst hc
   exact ⟨⟨S _ hb,Z⟩,trivial⟩
  ·cases hc
 rw [if_neg e6] at hc
 by_cases e9:i.op=9
 ·rw [if_pos e9] at hc
  have h9:=h9 e9
  unfold qd0 at h9
  simp only [Bool.and_eq_true,decide_eq_true_eq,List.all_eq_true] at h9
  obtain ⟨-, -, -,hd,ha⟩:=h9
  rcases List.mem_append.1 hc with hc|hc
  ·obtain ⟨r,hr,rfl⟩:=List.mem_map.1 hc
   exact ⟨⟨S _ (qbv (ha r hr) rfl),Z⟩,trivial⟩
  ·split at hc
   ·cases hc
   ·rw [List.mem_singleton] at hc
    subst hc
    rcases qjc hd with e|e
    ·contradiction
    ·exact ⟨⟨Z,S _ e⟩,trivial⟩
 rw [if_neg e9] at hc
 cases hc
theorem qxr {p:Pr} {b:Bk} (h:qha p b=true) (T:Nat):∀ c∈qjr b,c.inn p.regs.toNat∧c.thing T:=by
 intro c hc
 unfold qjr at hc
 split at hc
 ·rename_i e
  rw [List.mem_singleton] at hc
  subst hc
  have h3:qby p b.a (!p.void)=true:=by
   have:qha p b=(qby p b.a (!p.void) && (b.to ==0 && b.els ==0)):=by unfold qha;rw [e.1];rfl
   rw [this] at h
   simp only [Bool.and_eq_true] at h
   exact h.1
  rcases qjc h3 with e2|e2
  ·exact absurd e2 e.2
  ·exact ⟨⟨fun q hq=>by cases hq;omega,fun q hq=>by cases hq⟩,trivial⟩
 ·cases hc
theorem qme {m:Md} {p:Pr} (h:p.blks.all (okB m p)=true):∀ c∈qeh p,c.inn p.regs.toNat∧c.thing (p.objs.length+m.globs.length+1):=by
 intro c hc
 unfold qeh at hc
 obtain ⟨b,hb,hc⟩:=List.mem_flatMap.1 hc
 have hB:=List.all_eq_true.1 h b hb
 unfold okB at hB
 rw [Bool.and_eq_true] at hB
 unfold qz6 at hc
 rcases List.mem_append.1 hc with hc|hc
 ·obtain ⟨i,hi,hc⟩:=List.mem_flatMap.1 hc
  exact qx5 (List.all_eq_true.1 hB.1 i hi) c hc
 ·exact qxr hB.2 _ c hc
def qhg (o T:Nat):Nat:=(List.range T).foldl (fun x t=>if o≤t then x ||| (1 <<< t) else x) 0
theorem qn0 (o T t:Nat):(qhg o T).testBit t=(decide (o≤t) && decide (t<T)):=by
 induction T with
 | zero=>simp [qhg]
 | succ n ih=>
  have hs:qhg o (n+1)=if o≤n then qhg o n ||| (1 <<< n) else qhg o n:=by
   unfold qhg;rw [List.range_succ,List.foldl_append];rfl
  rw [hs]
  by_cases h:o≤n
  ·rw [if_pos h,Nat.testBit_or,ih,Nat.one_shiftLeft,Nat.testBit_two_pow,Bool.eq_iff_iff]
   simp only [Bool.or_eq_true,Bool.and_eq_true,decide_eq_true_eq]
   omega
  ·rw [if_neg h,ih,Bool.eq_iff_iff]
   simp only [Bool.and_eq_true,decide_eq_true_eq]
   omega
def ql8 (o T:Nat):List Bool:=(List.range T).map fun t=>decide (o≤t)
def AS.start (p:Pr) (T:Nat):AS:=⟨(List.range p.regs.toNat).map fun r:Nat=>if (r:Int)<p.params then qhg p.objs.length T else 0,qhg p.objs.length T⟩
def AR.start (p:Pr) (T:Nat):AR:=⟨(List.range p.regs.toNat).map fun r:Nat=>if (r:Int)<p.params then ql8 p.objs.length T else List.replicate T false,ql8 p.objs.length T⟩
theorem AR.start_ok (p:Pr) (T:Nat):(AR.start p T).Ok p.regs.toNat T:=by
 refine ⟨by simp [AR.start],fun l hl=>?_,by simp [AR.start,ql8]⟩
 obtain ⟨r,hr,rfl⟩:=List.mem_map.1 hl
 split <;> simp [ql8]
theorem AS.start_len (p:Pr) (T:Nat):(AS.start p T).regs.length=p.regs.toNat:=by simp [AS.start]
theorem qim (p:Pr) (T:Nat) (o:Option Nat) (ho:∀ r,o=some r→r<p.regs.toNat) (t:Nat):(AS.start p T).sem o t↔(AR.start p T).sem o t:=by
 have key:(qhg p.objs.length T).testBit t=true↔(ql8 p.objs.length T).getD t false=true:=by
  rw [qn0]
  unfold ql8
  by_cases h:t<T
  ·simp [h]
  ·have:((List.range T).map fun t=>decide (p.objs.length≤t))[t]?=none:=List.getElem?_eq_none (by simp;omega)
   rw [List.getD_eq_getElem?_getD,this];simp [h]
 cases o with
 | none=>exact key
 | some r=>
  have hr:=ho r rfl
  unfold AS.sem AR.sem
  have h1:(AS.start p T).get (some r)=if (r:Int)<p.params then qhg p.objs.length T else 0:=by simp [AS.get,AS.start,hr]
  have h2:(AR.start p T).get (some r)=if (r:Int)<p.params then ql8 p.objs.length T else List.replicate T false:=by simp [AR.get,AR.start,hr]
  rw [h1,h2]
  split
  ·exact key
  ·simp [List.getD_eq_getElem?_getD,List.getElem?_replicate]
   split <;> simp
theorem qmo (p:Pr) (T:Nat):∀ o t,(AS.start p T).sem o t→t<T:=by
 have key:∀ t,(qhg p.objs.length T).testBit t=true→t<T:=fun t h=>by rw [qn0] at h;simp at h;exact h.2
 intro o t h
 cases o with
 | none=>exact key t h
 | some r=>
  unfold AS.sem AS.get AS.start at h
  by_cases hr:r<p.regs.toNat
  ·simp only [List.getD_eq_getElem?_getD,List.getElem?_map,List.getElem?_range hr,Option.map_some,Option.getD_some] at h
   split at h
   ·exact key t h
   ·simp at h
  ·have:((List.range p.regs.toNat).map fun r:Nat=>if (r:Int)<p.params then qhg p.objs.length T else 0)[r]?=none:=List.getElem?_eq_none (by simp;omega)
   simp [List.getD_eq_getElem?_getD,this] at h
structure AS.End (p:Pr) (T:Nat) (x:AS):Prop where
 len:x.regs.length=p.regs.toNat
 up:∀ o t,(AS.start p T).sem o t→x.sem o t
 lo:∀ S:Option Nat→Nat→Prop,(∀ c∈qeh p,c.holds S)→(∀ o t,(AS.start p T).sem o t→S o t)→∀ o t,x.sem o t→S o t
structure AR.End (p:Pr) (T:Nat) (x:AR):Prop where
 ok:x.Ok p.regs.toNat T
 up:∀ o t,(∀ r,o=some r→r<p.regs.toNat)→(AR.start p T).sem o t→x.sem o t
 lo:∀ S:Option Nat→Nat→Prop,(∀ c∈qeh p,c.holds S)→(∀ o t,(∀ r,o=some r→r<p.regs.toNat)→(AR.start p T).sem o t→S o t)→∀ o t,(∀ r,o=some r→r<p.regs.toNat)→x.sem o t→S o t
theorem qsp {p:Pr} {T:Nat} {x:AS} {y:AR} (hx:x.End p T) (hy:y.End p T) (cx:∀ c∈qeh p,c.holds x.sem) (cy:∀ c∈qeh p,c.holds fun o t=>(∀ r,o=some r→r<p.regs.toNat)∧y.sem o t)
  (o:Option Nat) (ho:∀ r,o=some r→r<p.regs.toNat) (t:Nat):x.sem o t↔y.sem o t:=by
 constructor
 ·intro h
  refine (hx.lo (fun o t=>(∀ r,o=some r→r<p.regs.toNat)∧y.sem o t) cy (fun o t h=>?_) o t h).2
  have ho:∀ r,o=some r→r<p.regs.toNat:=by
   intro r e
   subst e
   apply Classical.byContradiction
   intro hn
   unfold AS.sem AS.get AS.start at h
   have:((List.range p.regs.toNat).map fun r:Nat=>if (r:Int)<p.params then qhg p.objs.length T else 0)[r]?=none:=List.getElem?_eq_none (by simp;omega)
   simp [List.getD_eq_getElem?_getD,this] at h
  exact ⟨ho,hy.up o t ho ((qim p T o ho t).1 h)⟩
 ·exact hy.lo x.sem cx (fun o t ho h=>hx.up o t ((qim p T o ho t).2 h)) o t ho
end
section
open Go.ChangeShapes Go.WideShapes Go.ChangeAt Go.RowKit
def qd4 (w:World) (b:Nat) (x:Nat):Prop:=w.heap[b]?=some (.cells #[.int .u64 (x:Int)] 134)
def slW (b:Nat):Value:=.slice (some ⟨b,0,none⟩) 1 1
theorem qd4.lt {w:World} {b x:Nat} (h:qd4 w b x):b<w.heap.size:=(qkp h).1
theorem qd4.set {w:World} {b x:Nat} (h:qd4 w b x) (y:Nat):qd4 (w.setCell ⟨b,0,none⟩ (.int .u64 (y:Int))) b y:=heap_setCell_same w b 0 _ _ _ h
theorem q14 {x y:Nat} (hx:x<2 ^ 64) (hy:y<2 ^ 64):bits .or .u64 (x:Int) (y:Int)=((x ||| y:Nat):Int):=bits_or_u64_nat x y (by simpa using hx) (by simpa using hy)
theorem q1p {x y:Nat} (hx:x<2 ^ 64) (hy:y<2 ^ 64):bits .and .u64 (x:Int) (y:Int)=((x &&& y:Nat):Int):=bits_and_u64_nat x y (by simpa using hx) (by simpa using hy)
theorem q18 {x t:Nat} (hx:x<2 ^ 64) (ht:t<64):(bits .and .u64 ((x:Int) / 2 ^ (t % 64)) 1 ==1)=x.testBit t:=by
 have e:(x:Int) / 2 ^ (t % 64)=((x / 2 ^ t:Nat):Int):=by rw [Nat.mod_eq_of_lt ht];simp
 have h2:=q1p (x:=x / 2 ^ t) (y:=1) (Nat.lt_of_le_of_lt (Nat.div_le_self _ _) hx) (by decide)
 rw [e]
 rw [show ((1:Nat):Int)=1 from rfl] at h2
 rw [h2,Nat.and_one_is_mod,Nat.testBit_eq_decide_div_mod_eq]
 rw [Bool.eq_iff_iff,beq_iff_eq,decide_eq_true_eq]
 omega
theorem q1t {t:Nat} (ht:t<64):IntKind.u64.wrap (2 ^ (t % 64))=((1 <<< t:Nat):Int):=by
 rw [Nat.mod_eq_of_lt ht,Nat.one_shiftLeft,IntKind.wrap_u64]
 have:(2:Nat) ^ t<2 ^ 64:=Nat.pow_lt_pow_right (by decide) ht
 have e:(2:Int) ^ t=((2 ^ t:Nat):Int):=by simp
 rw [e]
 generalize 2 ^ t=z at *
 omega
theorem qsl {t:Nat} (ht:t<64):1 <<< t<2 ^ 64:=by rw [Nat.one_shiftLeft];exact Nat.pow_lt_pow_right (by decide) ht
theorem qdj (g:Nat) (w:World) (n:Nat):But g w (w.drewN n):=⟨rfl,rfl,rfl,Nat.le_refl _,fun _ _ _=>rfl⟩
theorem qy6 (a b:Nat):((a:Int) !=(b:Int))=(a !=b):=by
 rw [Bool.eq_iff_iff,bne_iff_ne,bne_iff_ne];omega
theorem qzr (b x t:Nat) (w:World) (h:qd4 w b x) (hx:x<2 ^ 64) (ht:t<64) :
  Calls Try.prog 62 #[slW b,.int .i64 (t:Int)] w fun e w'=>e=.returned (.bool ((x ||| 1 <<< t) !=x))∧qd4 w' b (x ||| 1 <<< t)∧But b w w':=by
 have c0:w.cell? ⟨b,t / 64,none⟩=some (.int .u64 (x:Int)):=by rw [show t / 64=0 by omega];exact qab h 0
 have f0:w.frozen? ⟨b,t / 64,none⟩=false:=qac h _
 have H:=qkm h
 clear h
 unfold slW
 go_enter Try.func62,Try.ntmps62
 have HS:=qkm (q1t ht)
 have HO:=qkm (q14 hx (qsl ht))
 have HT:=qkm (show t / 64=0 by omega)
 clear hx
 go_upto_region 2 with (fail)
 go_region
 go_wp2_with fail
 rw [HS.out,HO.out,HT.out]
 go_ret
 refine ⟨qah (qy6 _ _),(H.out.set _),((But.setCell b 0 w _).trans (qdj _ _ 1))⟩
theorem qx9 (ba bb x y:Nat) (w:World) (ha:qd4 w ba x) (hb:qd4 w bb y) (hx:x<2 ^ 64) (hy:y<2 ^ 64) :
  Calls Try.prog 63 #[slW ba,slW bb] w fun e w'=>e=.returned (.bool ((x ||| y) !=x))∧qd4 w' ba (x ||| y)∧But ba w w':=by
 have c0:w.cell? ⟨ba,0,none⟩=some (.int .u64 (x:Int)):=qab ha 0
 have d0:w.cell? ⟨bb,0,none⟩=some (.int .u64 (y:Int)):=qab hb 0
 have f0:w.frozen? ⟨ba,0,none⟩=false:=qac ha _
 have HA:=qkm ha
 have HO:=qkm (q14 hx hy)
 clear ha hb hx hy
 unfold slW
 go_enter Try.func63,Try.ntmps63
 go_wp2_with fail
 go_loopw [5,10] (fun g i wr=>(g=.bool false∧i=.int .i64 0∧wr=w)∨(g=.bool ((x ||| y) !=x)∧i=.int .i64 1∧Hid (qd4 wr ba (x ||| y))∧Hid (But ba w wr))) (fun _ i _=>1-(intOf i).toNat)
 case atStart=>exact .inl ⟨rfl,rfl,rfl⟩
 case round=>
  rcases hrel with ⟨rfl,rfl,rfl⟩|⟨rfl,rfl,HR,HB⟩
  ·go_wp2_with fail
   go_quiet (fail)
   go_wp2_with fail
   go_roundw
   case rel=>
    refine .inr ⟨?_,rfl,?_,?_⟩
    ·rw [HO.out,qy6]
    ·rw [HO.out];exact qd4.set (b:=ba) (x:=x) (by show _=_;exact HA.out) _
    ·exact (qdj _ _ nq).trans (But.setCell _ _ _ _)
   case measure=>simp [intOf]
  ·go_wp2_with fail
   go_ret
   exact ⟨rfl,HR.out,HB.out⟩
theorem qzt (ba bb x y:Nat) (w:World) (ha:qd4 w ba x) (hb:qd4 w bb y) (hx:x<2 ^ 64) (hy:y<2 ^ 64) :
  Calls Try.prog 101 #[slW ba,slW bb] w fun e w'=>e=.returned (.bool ((x &&& y) !=0))∧w'=w:=by
 have c0:w.cell? ⟨ba,0,none⟩=some (.int .u64 (x:Int)):=qab ha 0
 have d0:w.cell? ⟨bb,0,none⟩=some (.int .u64 (y:Int)):=qab hb 0
 have HO:=qkm (q1p hx hy)
 clear ha hb hx hy
 unfold slW
 go_enter Try.func101,Try.ntmps101
 go_wp2_with fail
 go_loopw [9] (fun i wr=>wr=w∧(i=.int .i64 0∨(i=.int .i64 1∧Hid ((x &&& y)=0)))) (fun i _=>1-(intOf i).toNat)
 case atStart=>exact ⟨rfl,.inl rfl⟩
 case round=>
  obtain ⟨rfl,rfl|⟨rfl,HZ⟩⟩:=hrel
  ·cases hz:((x &&& y) !=0)
   ·have hz2:(bits .and .u64 (x:Int) (y:Int) ==0)=true:=by rw [HO.out];simp at hz;rw [hz];rfl
    have HZ:Hid ((x &&& y)=0):=by show _=_;simpa using hz
    clear hz
    go_wp2_with fail
    go_roundw
    case rel=>exact ⟨trivial,.inr ⟨rfl,HZ⟩⟩
    case measure=>simp [intOf]
   ·have hz2:(bits .and .u64 (x:Int) (y:Int) ==0)=false:=by rw [HO.out];simp at hz;simpa using hz
    have HZ:Hid (((x &&& y) !=0)=true):=hz
    clear hz
    go_wp2_with fail
    go_ret
    exact ⟨qah HZ.out.symm,rfl⟩
  ·go_wp2_with fail
   go_ret
   exact ⟨by rw [HZ.out];rfl,rfl⟩
end
end Go.Proofs.Ytmcddolkpcgddaa
