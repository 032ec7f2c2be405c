/-
The game of a drawn region, where lengths and greatest numbers may be taken first too.
-/
import Derived.Test.YtmcddolkpcgddaaZHazardFinds05
import Derived.OpenShut
import Derived.Deep.QuietTactic
set_option maxHeartbeats 2000000
set_option maxRecDepth 20000
set_option linter.all false
namespace Go.Proofs.Ytmcddolkpcgddaa
open Go.ChangeShapes Go.WideShapes Go.ChangeAt Go.RowKit
section
structure qux (l cur:List Int) (k:Nat):Prop where
 len:cur.length=l.length
 le:2*k≤l.length
 get:∀ t,t<l.length→cur.getD t 0=if t<k∨l.length-k≤t then l.getD (l.length-1-t) 0 else l.getD t 0
theorem qj4 (l:List Int) (i t:Nat) (x:Int) (h:i<l.length):(l.set i x).getD t 0=if i=t then x else l.getD t 0:=by
 by_cases e:i=t
 ·subst e;simp [List.getD,h]
 ·simp [List.getD,List.getElem?_set,e]
theorem qux.start (l:List Int):qux l l 0:=⟨rfl,by omega,fun t ht=>by rw [if_neg (by omega)]⟩
theorem qux.step {l cur:List Int} {k:Nat} (h:qux l cur k) (hk:2*k+1<l.length):qux l ((cur.set k (cur.getD (l.length-1-k) 0)).set (l.length-1-k) (cur.getD k 0)) (k+1):=by
 have hl:=h.len
 refine ⟨by simpa using h.len,by omega,fun t ht=>?_⟩
 have hx:=h.get k (by omega)
 have hy:=h.get (l.length-1-k) (by omega)
 rw [if_neg (by omega)] at hx hy
 rw [qj4 (cur.set k (cur.getD (l.length-1-k) 0)) (l.length-1-k) t _ (by rw [List.length_set];omega),qj4 cur k t _ (by omega),hx,hy,h.get t ht]
 by_cases e1:l.length-1-k=t
 ·rw [if_pos e1,if_pos (by omega),←e1,show l.length-1-(l.length-1-k)=k by omega]
 ·rw [if_neg e1]
  by_cases e2:k=t
  ·rw [if_pos e2,if_pos (by omega),←e2]
  ·rw [if_neg e2]
   by_cases e3:t<k∨l.length-k≤t
   ·rw [if_pos e3,if_pos (by omega)]
   ·rw [if_neg e3,if_neg (by omega)]
theorem qux.done {l cur:List Int} {k:Nat} (h:qux l cur k) (hk:¬ 2*k+1<l.length):cur=l.reverse:=by
 apply List.ext_getElem
 ·simpa using h.len
 ·intro t h1 h2
  have hl:=h.len
  have ht:t<l.length:=by omega
  have:=h.get t ht
  have e:(if t<k∨l.length-k≤t then l.getD (l.length-1-t) 0 else l.getD t 0)=l.getD (l.length-1-t) 0:=by
   split
   ·rfl
   ·have:=h.le
    rw [show l.length-1-t=t by omega]
  rw [e] at this
  rw [List.getElem_reverse]
  simpa [List.getD,h1,ht,show l.length-1-t<l.length by omega] using this
theorem qq5 (l:List Int) (g cp:Nat) (w:World) (B:Nat) (hv:qa8 w B (.slice (some ⟨g,0,none⟩) l.length cp) l) (hn:l.length≤1000000000) :
  Calls Try.prog 120 #[.slice (some ⟨g,0,none⟩) l.length cp] w fun e w'=>e=.returned (.tuple #[])∧qa8 w' B (.slice (some ⟨g,0,none⟩) l.length cp) l.reverse∧But g w w':=by
 have HV:=qkm hv
 obtain ⟨-,hcap,hcm, -, -, -⟩:=hv.cellAt
 unfold maxLen at hcm
 clear hv
 go_enter Try.func120,Try.ntmps120
 go_wp2_with fail
 go_loopw [2,3] (fun i j wr=>∃ (k:Nat) (cur:List Int),i=.int .i64 (k:Int)∧j=.int .i64 ((l.length:Int)-1-k)∧Hid (qux l cur k)∧Hid (qa8 wr B (.slice (some ⟨g,0,none⟩) l.length cp) cur)∧Hid (But g w wr))
  (fun i _ _=>l.length-(intOf i).toNat)
 case atStart=>exact ⟨0,l,rfl,by go_num,qux.start l,HV,But.refl _ _⟩
 case round=>
  obtain ⟨k,cur,rfl,rfl,D,O,Hb⟩:=hrel
  by_cases hlt:2*k+1<l.length
  ·have hd:decide ((k:Int)<(l.length:Int)-1-k)=true:=by simp;omega
   have D1:=D.out.step hlt
   have hj:(l.length:Int)-1-k=((l.length-1-k:Nat):Int):=by omega
   obtain ⟨-, -, -, -,hcells,hfr⟩:=O.out.cellAt
   have hx:=hcells k (by omega)
   have hy:=hcells (l.length-1-k) (by omega)
   have hfk:=hfr k
   have hfj:=hfr (l.length-1-k)
   generalize cur.getD k 0=x at *
   generalize cur.getD (l.length-1-k) 0=y at *
   have D1:=qkm D1
   have hkj:k≠l.length-1-k:=by omega
   clear hcells hfr D
   rw [hj] at hd ⊢
   have hjl:l.length-1-k<l.length:=by omega
   obtain ⟨jj,hjj⟩:∃ jj,Hid (l.length-1-k=jj):=⟨_,rfl⟩
   go_wp2_with fail
   refine qae (fun _=>False) (by kernel_rfl) ?_
   show wpE _ _ _ _ _ _ _ wr.drew
   replace O:Hid (qa8 wr.drew B (.slice (some ⟨g,0,none⟩) l.length cp) cur):=O
   replace Hb:Hid (But g w wr.drew):=Hb.out.trans (But.below (Below.drew (Below.refl _ _)))
   replace hx:wr.drew.cell? ⟨g,k,none⟩=_:=hx
   replace hy:wr.drew.cell? ⟨g,l.length-1-k,none⟩=_:=hy
   replace hfk:wr.drew.frozen? ⟨g,k,none⟩=_:=hfk
   replace hfj:wr.drew.frozen? ⟨g,l.length-1-k,none⟩=_:=hfj
   generalize wr.drew=W at O Hb hx hy hfk hfj ⊢
   refine qax 0 _ rfl (by kernel_rfl) ?_
   simp only [qkj,qkk,qkl]
   go_big_quiet_step (fail)
   refine wpQuiet_nil ?_
   refine qax 1 _ rfl (by kernel_rfl) ?_
   simp only [qkj,qkk,qkl]
   go_big_quiet_step (fail)
   refine wpQuiet_nil ?_
   refine qax 2 _ rfl (by kernel_rfl) ?_
   simp only [qkj,qkk,qkl]
   go_big_quiet_step (fail)
   refine wpQuiet_nil ?_
   refine qax 3 _ rfl (by kernel_rfl) ?_
   simp only [qkj,qkk,qkl]
   go_big_quiet_step (fail)
   refine wpQuiet_nil ?_
   refine qax 4 _ rfl (by kernel_rfl) ?_
   simp only [qkj,qkk,qkl]
   go_big_quiet_step (fail)
   refine wpQuiet_nil ?_
   refine qax 5 _ rfl (by kernel_rfl) ?_
   simp only [qkj,qkk,qkl]
   go_big_quiet_step (fail)
   refine wpQuiet_nil ?_
   refine qax 6 _ rfl (by kernel_rfl) ?_
   simp only [qkj,qkk,qkl]
   go_big_quiet_step (fail)
   refine wpQuiet_nil ?_
   refine qax 8 _ rfl (by kernel_rfl) ?_
   simp only [qkj,qkk,qkl]
   go_big_quiet_step (fail)
   refine wpQuiet_nil ?_
   refine qax 9 _ rfl (by kernel_rfl) ?_
   simp only [qkj,qkk,qkl]
   go_big_quiet_step (fail)
   refine wpQuiet_nil ?_
   refine qax 10 _ rfl (by kernel_rfl) ?_
   simp only [qkj,qkk,qkl]
   go_big_quiet_step (fail)
   refine wpQuiet_nil ?_
   refine qi1 7 11 _ _ rfl rfl (by kernel_rfl) ?_ ?_
   ·simp only [qkj,qkk,qkl]
    go_wp2_with fail
    refine ⟨fun _ _ h=>h.elim,?_⟩
    refine qag 11 _ rfl (by kernel_rfl) ?_
    simp only [qkj,qkk,qkl]
    go_wp2_with fail
    refine ⟨fun _ _ h=>h.elim,?_⟩
    refine qax 12 _ rfl (by kernel_rfl) ?_
    simp only [qkj,qkk,qkl]
    go_big_quiet_step (fail)
    refine wpQuiet_nil ?_
    refine qag 13 _ rfl (by kernel_rfl) ?_
    simp only [qkj,qkk,qkl]
    go_wp2_with fail
    refine ⟨fun _ _ h=>h.elim,?_⟩
    refine qax 14 _ rfl (by kernel_rfl) ?_
    simp only [qkj,qkk,qkl]
    go_big_quiet_step (fail)
    refine wpQuiet_nil ?_
    refine qag 15 _ rfl (by kernel_rfl) ?_
    simp only [qkj,qkk,qkl]
    go_wp2_with fail
    refine ⟨fun _ _ h=>h.elim,?_⟩
    refine qao (by kernel_rfl) ?_ _
    have O1:Hid (qa8 ((W.setCell ⟨g,k,none⟩ (.int .i64 y)).setCell ⟨g,l.length-1-k,none⟩ (.int .i64 x)) B (.slice (some ⟨g,0,none⟩) l.length cp) ((cur.set k y).set (l.length-1-k) x)):=(O.out.set k y).set (l.length-1-k) x
    have B1:Hid (But g w ((W.setCell ⟨g,k,none⟩ (.int .i64 y)).setCell ⟨g,l.length-1-k,none⟩ (.int .i64 x))):=(Hb.out.trans (But.setCell _ _ _ _)).trans (But.setCell _ _ _ _)
    clear O Hb hx hy hfk hfj
    go_wp2_with fail
    go_roundw
    case rel=>exact ⟨k+1,_,by go_num,by congr 1;omega,D1,O1,B1⟩
    case measure=>simp [intOf];omega
   ·simp only [qkj,qkk,qkl]
    go_wp2_with fail
    refine ⟨fun _ _ h=>h.elim,?_⟩
    refine qag 7 _ rfl (by kernel_rfl) ?_
    simp only [qkj,qkk,qkl]
    go_wp2_with fail
    refine ⟨fun _ _ h=>h.elim,?_⟩
    refine qax 12 _ rfl (by kernel_rfl) ?_
    simp only [qkj,qkk,qkl]
    go_big_quiet_step (fail)
    refine wpQuiet_nil ?_
    refine qag 13 _ rfl (by kernel_rfl) ?_
    simp only [qkj,qkk,qkl]
    go_wp2_with fail
    refine ⟨fun _ _ h=>h.elim,?_⟩
    refine qax 14 _ rfl (by kernel_rfl) ?_
    simp only [qkj,qkk,qkl]
    go_big_quiet_step (fail)
    refine wpQuiet_nil ?_
    refine qag 15 _ rfl (by kernel_rfl) ?_
    simp only [qkj,qkk,qkl]
    go_wp2_with fail
    refine ⟨fun _ _ h=>h.elim,?_⟩
    refine qao (by kernel_rfl) ?_ _
    have O1:Hid (qa8 ((W.setCell ⟨g,k,none⟩ (.int .i64 y)).setCell ⟨g,l.length-1-k,none⟩ (.int .i64 x)) B (.slice (some ⟨g,0,none⟩) l.length cp) ((cur.set k y).set (l.length-1-k) x)):=(O.out.set k y).set (l.length-1-k) x
    have B1:Hid (But g w ((W.setCell ⟨g,k,none⟩ (.int .i64 y)).setCell ⟨g,l.length-1-k,none⟩ (.int .i64 x))):=(Hb.out.trans (But.setCell _ _ _ _)).trans (But.setCell _ _ _ _)
    clear O Hb hx hy hfk hfj
    go_wp2_with fail
    go_roundw
    case rel=>exact ⟨k+1,_,by go_num,by congr 1;omega,D1,O1,B1⟩
    case measure=>simp [intOf];omega
  ·have hd:decide ((k:Int)<(l.length:Int)-1-k)=false:=by simp;omega
   have HR:=qkm (D.out.done hlt)
   go_wp2_with fail
   go_end0
   exact ⟨rfl,by rw [←HR.out];exact O.out,Hb.out⟩
end
section
def wk0 (p:Pr):S3:=⟨List.replicate p.blks.length 0,[],[]⟩
def wkD (p:Pr):S3:=rI p p.blks.length 0 (wk0 p)
theorem qlm (p:Pr):(wk0 p).zeros=p.blks.length:=by simp [wk0,S3.zeros,List.count_replicate_self]
def phi (s:S3):Nat:=s.ord.length+s.back.length+4*s.zeros
theorem q1m (p:Pr) (f:Nat) (n:Int) (ih:∀ t s,s.st.length=p.blks.length→t.toNat<p.blks.length→s.look t=0→phi (rI p f t s)≤phi s) (s:S3) (t:Int) (hs:s.st.length=p.blks.length) (ht:t.toNat<p.blks.length):phi (hI p f n s t)≤phi s+1:=by
 unfold hI
 split
 ·simp [phi,S3.loop,S3.zeros];omega
 ·split
  ·exact Nat.le_succ_of_le (ih t s hs ht ‹_›)
  ·omega
theorem qle (p:Pr) (f:Nat) (n:Int) (ih:∀ t s,s.st.length=p.blks.length→t.toNat<p.blks.length→s.look t=0→phi (rI p f t s)≤phi s):∀ (l:List Int) (s:S3),s.st.length=p.blks.length→(∀ t∈l,0≤t∧t<p.blks.length)→phi (l.foldl (hI p f n) s)≤phi s+l.length
 | [],_,_,_=>Nat.le_refl _
 | t::l,s,hs,hl=>by
  have h1:=hl t List.mem_cons_self
  have h2:=q1m p f n ih s t hs (by omega)
  have h3:=qle p f n ih l (hI p f n s t) (by rw [qwp];exact hs) (fun x hx=>hl x (List.mem_cons_of_mem _ hx))
  rw [List.foldl_cons,List.length_cons]
  omega
theorem qwv (p:Pr):∀ (f:Nat) (n:Int) (s:S3),s.st.length=p.blks.length→n.toNat<p.blks.length→s.look n=0→phi (rI p f n s)≤phi s
 | 0,_,_,_,_,_=>Nat.le_refl _
 | f+1,n,s,hs,hn,h0=>by
  have h1:=qdl s n (by omega) h0
  have h2:=qle p f n (qwv p f) (qa1 p n.toNat) (s.enter n) (by rw [qd2];exact hs) (fun t ht=>qck ht)
  have h3:=qdu p n.toNat
  rw [qfs]
  generalize (qa1 p n.toNat).foldl (hI p f n) (s.enter n)=s2 at *
  have h4:=qcr s2 n
  have e1:phi (s.enter n)+4=phi s:=by
   have e:(s.enter n).ord=s.ord∧(s.enter n).back=s.back:=⟨rfl,rfl⟩
   unfold phi
   rw [e.1,e.2]
   omega
  have e2:phi (s2.leave n)≤phi s2+1:=by
   have e:(s2.leave n).ord.length=s2.ord.length+1∧(s2.leave n).back=s2.back:=⟨by simp [S3.leave],rfl⟩
   unfold phi
   rw [e.1,e.2]
   omega
  omega
theorem qx3 (p:Pr):phi (wkD p)≤4*p.blks.length:=by
 have h:phi (wk0 p)=4*p.blks.length:=by unfold phi;rw [qlm];simp [wk0]
 rcases Nat.eq_zero_or_pos p.blks.length with h0|h0
 ·unfold wkD
  rw [h0]
  show phi (wk0 p)≤_
  omega
 ·rw [←h]
  exact qwv p _ 0 _ (by simp [wk0]) (by simpa using h0) (by simp [S3.look,wk0,List.getD,h0])
theorem qq4 (p:Pr) (h:p.blks.length≤1000000):(wkD p).ord.length+(wkD p).back.length≤10000000:=by
 have:=qx3 p
 unfold phi at this
 omega
theorem q2i (w:World) (B n:Nat) (hB:B≤w.heap.size) (hn:n≤maxLen):(w.alloc (.cells (madeCells #[.int .i64 0] n) 3)).ownsRow B 3 1 (.slice (some ⟨w.heap.size,0,none⟩) n n) n ((List.replicate n (0:Int)).map (Value.int .i64)):=by
 have hl:(madeCells #[Value.int .i64 0] n).toList=(List.replicate n (0:Int)).map (Value.int .i64):=by
  apply List.ext_getElem
  ·simp [madeCells]
  ·intro i h1 h2
   simp [madeCells,Nat.mod_one]
 refine ⟨by simp,.inr ⟨w.heap.size,n,_,rfl,hB,heap_alloc_new w _,by simp,hn,by simp [madeCells],?_⟩⟩
 rw [hl]
 simp [List.take_of_length_le]
theorem qh0 (w:World):Calls Try.prog 120 #[.slice none 0 0] w fun e w'=>e=.returned (.tuple #[])∧w=w':=by
 go_enter Try.func120,Try.ntmps120
 go_wp2_with fail
 go_loopw [2,3] (fun i j wr=>i=.int .i64 0∧j=.int .i64 (-1)∧Hid (w=wr)) (fun _ _ _=>0)
 case atStart=>exact ⟨rfl,by go_num,rfl⟩
 case round=>
  obtain ⟨rfl,rfl,h⟩:=hrel
  go_wp2_with fail
  go_end0
  exact ⟨rfl,h.out⟩
theorem qnf (l:List Int) (v:Value) (w:World) (B:Nat) (hv:qa8 w B v l) (hn:l.length≤1000000000) :
  Calls Try.prog 120 #[v] w fun e w'=>e=.returned (.tuple #[])∧qa8 w' B v l.reverse∧w.grownBy w' v.ownBlock:=by
 obtain ⟨_,⟨rfl,h2⟩|⟨g,cap,cur,rfl,_⟩⟩:=id hv
 ·have:l=[]:=List.eq_nil_of_length_eq_zero h2
  subst this
  exact (qh0 w).mono fun e w' h=>⟨h.1,h.2 ▸ hv,h.2 ▸ ⟨rfl,rfl,rfl,Nat.le_refl _,fun _ _ _=>rfl⟩⟩
 ·exact (qq5 l g cap w B hv hn).mono fun e w' h=>⟨h.1,h.2.1,⟨h.2.2.os,h.2.2.tape,h.2.2.output,h.2.2.size,fun k hk he=>h.2.2.block k hk (fun e=>he (by rw [e];rfl))⟩⟩
theorem WM.ordSet {wp w w1:World} {bw bs B n:Nat} {hd:List Value} {s:S3} {ov bv tv:Value} {S:List Kt} {l:List Int} (h:WM wp w bw bs B n hd s ov bv tv S) (hg:w.grownBy w1 ov.ownBlock) (ho:qa8 w1 B ov l):WM wp w1 bw bs B n hd { s with ord:=l } ov bv tv S:=by
 have fr:∀ b,ov.ownBlock=some b→B≤b:=fun b e=>(h.ord.lt b e).1
 refine ⟨h.wk.kept hg (.inr (fun e=>by have:=fr bw e.symm;have:=h.bwB;omega)),h.st.kept hg (.inr (fun e=>by have:=fr bs e.symm;have:=h.bsB;omega)),ho,h.back.kept hg (qca h.back h.ord (by decide)),h.stk.kept hg (qca h.stk h.ord (by decide)),
  fun k hk=>(h.outs k hk).kept hg (fun b e=>.inl e) (.refl _ _) (.refl _ _) (.refl _ _),qba h.below (Nat.le_trans h.pB h.Bw) hg (fun b e=>Nat.le_trans h.pB (fr b e)),h.hd6,h.pw,h.ps,h.bwB,h.bsB,Nat.le_trans h.Bw hg.size⟩
def WkR (w:World) (p:Pr) (e:Ending) (w':World):Prop :=
 ∃ bw bs B ov bv tv hd s,e=.returned (.pointer (some ⟨bw,0,none⟩))∧WM w w' bw bs B p.blks.length hd s ov bv tv []∧s.ord=(wkD p).ord.reverse∧s.back=(wkD p).back∧s.ord.length+s.back.length≤10000000
theorem qoa (p:Pr) (V:Value) (w:World) (hP:PrV w V p) (hlen:p.blks.length≤1000000) :
  Calls Try.prog 96 #[V] w (WkR w p):=by
 have HP:=qkm hP
 obtain ⟨nm,vo,vb,rfl, -,a,c,rfl,hc1,hc2, -⟩:=hP
 have hmx:p.blks.length≤maxLen:=by unfold maxLen;omega
 go_enter Try.func96,Try.ntmps96
 go_wp2_with fail
 obtain ⟨W0,hW0⟩:∃ W0,W0=(w.alloc (.cells #[.string nm,.bool p.void,.int .i64 p.params,.int .i64 p.regs,vo,.slice a p.blks.length c] 32)).drew:=⟨_,rfl⟩
 have hb0:Below w.heap.size w W0:=by rw [hW0];exact (qaa _ _).drew
 have hbox:∀ j:Nat,j<6→W0.cell? ⟨w.heap.size,j,none⟩=#[Value.string nm,.bool p.void,.int .i64 p.params,.int .i64 p.regs,vo,.slice a p.blks.length c][j]?:=fun j _=>by rw [hW0];exact qab (heap_alloc_new w _) j
 have hz0:w.heap.size<W0.heap.size:=by rw [hW0];simp [World.drew]
 refine qae (fun b=>b=w.heap.size) (by kernel_rfl) ?_
 show wpE _ _ _ _ _ _ _ (World.drew _)
 rw [←hW0]
 clear hW0
 have x0:=hbox 0 (by decide)
 have x1:=hbox 1 (by decide)
 have x2:=hbox 2 (by decide)
 have x3:=hbox 3 (by decide)
 have x4:=hbox 4 (by decide)
 have x5:=hbox 5 (by decide)
 simp at x0 x1 x2 x3 x4 x5
 have hmk:=run_make_row' (P:=Try.prog) 45 3 (.int .i64 0) 8 Try.underlying45 qjo rfl .i64 .i64 p.blks.length (by omega) (by omega)
 refine qax 0 _ rfl (by kernel_rfl) ?_
 simp only [qkj,qkk,qkl]
 go_big_quiet_step (fail)
 refine wpQuiet_nil ?_
 refine qax 1 _ rfl (by kernel_rfl) ?_
 simp only [qkj,qkk,qkl]
 go_big_quiet_step (fail)
 refine wpQuiet_nil ?_
 refine qax 2 _ rfl (by kernel_rfl) ?_
 simp only [qkj,qkk,qkl]
 go_big_quiet_step (fail)
 refine wpQuiet_nil ?_
 refine qag 3 _ rfl (by kernel_rfl) ?_
 simp only [qkj,qkk,qkl]
 go_wp2_with fail
 refine ⟨qcl.refl _ _,?_⟩
 refine qag 4 _ rfl (by kernel_rfl) ?_
 simp only [qkj,qkk,qkl]
 go_wp2_with fail
 refine ⟨qcc (fun b hb=>by rw [hb];exact hz0),?_⟩
 refine qax 5 _ rfl (by kernel_rfl) ?_
 simp only [qkj,qkk,qkl]
 go_big_quiet_step (fail)
 refine wpQuiet_nil ?_
 refine qag 6 _ rfl (by kernel_rfl) ?_
 simp only [qkj,qkk,qkl]
 go_wp2_with fail
 refine ⟨qcc (fun b hb=>by rw [hb];simp;omega),?_⟩
 refine qax 7 _ rfl (by kernel_rfl) ?_
 simp only [qkj,qkk,qkl]
 go_big_quiet_step (fail)
 refine wpQuiet_nil ?_
 refine qao (by kernel_rfl) ?_ _
 clear hmk
 have M0:Hid (WM w ((W0.alloc (.cells (madeCells #[.int .i64 0] p.blks.length) 3)).alloc (.cells #[.string nm,.bool p.void,.int .i64 p.params,.int .i64 p.regs,vo,.slice a p.blks.length c,.slice (some ⟨W0.heap.size,0,none⟩) p.blks.length p.blks.length,.slice none 0 0,.slice none 0 0] 165)) (W0.heap.size+1) W0.heap.size (W0.heap.size+2) p.blks.length [.string nm,.bool p.void,.int .i64 p.params,.int .i64 p.regs,vo,.slice a p.blks.length c] (wk0 p) (.slice none 0 0) (.slice none 0 0) (.slice none 0 0) []):=by
  have hzs:=hb0.size
  refine ⟨⟨rfl,.inr ⟨W0.heap.size+1,1,#[.string nm,.bool p.void,.int .i64 p.params,.int .i64 p.regs,vo,.slice a p.blks.length c,.slice (some ⟨W0.heap.size,0,none⟩) p.blks.length p.blks.length,.slice none 0 0,.slice none 0 0],rfl,by omega,?_,Nat.le_refl _,by simp [maxLen],rfl,rfl⟩⟩,(q2i W0 0 p.blks.length (by omega) hmx).alloc _,World.ownsRow_nil _ _ _ _,World.ownsRow_nil _ _ _ _,World.ownsRow_nil _ _ _ _,fun k hk=>absurd hk (by simp),?_,rfl,by omega,by omega,by omega,by omega,by simp⟩
  ·have:=heap_alloc_new (W0.alloc (.cells (madeCells #[.int .i64 0] p.blks.length) 3)) (.cells #[.string nm,.bool p.void,.int .i64 p.params,.int .i64 p.regs,vo,.slice a p.blks.length c,.slice (some ⟨W0.heap.size,0,none⟩) p.blks.length p.blks.length,.slice none 0 0,.slice none 0 0] 165)
   simpa using this
  ·exact (hb0.alloc hzs _).alloc (by simp;omega) _
 have y5:=Ext.alloc _ (.cells #[.string nm,.bool p.void,.int .i64 p.params,.int .i64 p.regs,vo,.slice a p.blks.length c,.slice (some ⟨W0.heap.size,0,none⟩) p.blks.length p.blks.length,.slice none 0 0,.slice none 0 0] 165) _ _ (Ext.alloc _ (.cells (madeCells #[.int .i64 0] p.blks.length) 3) _ _ x5)
 generalize (W0.alloc (.cells (madeCells #[.int .i64 0] p.blks.length) 3)).alloc _=W2 at M0 y5 ⊢
 generalize W0.heap.size+1=bw at M0 ⊢
 generalize W0.heap.size=bs at M0 ⊢
 generalize bs+2=B at M0
 clear x0 x1 x2 x3 x4 x5 hb0 hz0 hbox
 rcases Nat.eq_zero_or_pos p.blks.length with h0|h0
 ·have q7:W2.cell? ⟨bw,7,none⟩=some (.slice none 0 0):=(M0.out.wk.cellAt 7 (by decide)).trans rfl
  have hd:decide (0<(p.blks.length:Int))=false:=qko (by omega)
  have HW:Hid (WkR w p (.returned (.pointer (some ⟨bw,0,none⟩))) W2):=by
   have e:wkD p=wk0 p:=by unfold wkD;rw [h0];rfl
   exact ⟨bw,_,B,_,_,_,_,wk0 p,rfl,M0.out,by rw [e];rfl,by rw [e],by simp [wk0]⟩
  clear M0 HP
  go_wp2_with (go_at_call 120;refine (qh0 W2).mono ?_;rintro e w' ⟨rfl,rfl⟩)
  go_ret
  exact HW.out
 ·obtain ⟨f,hf⟩:∃ f,p.blks.length=f+1:=⟨p.blks.length-1,by omega⟩
  have hd:decide (0<(p.blks.length:Int))=true:=qkn (by omega)
  have EI:Hid (Calls Try.prog 119 #[.pointer (some ⟨bw,0,none⟩),.int .i64 0] W2 fun e w'=>e=.returned (.tuple #[])∧∃ ov bv tv,WM w w' bw bs B p.blks.length [.string nm,.bool p.void,.int .i64 p.params,.int .i64 p.regs,vo,.slice a p.blks.length c] (wkD p) ov bv tv []):=by
   have hz:=qlm p
   have:=q0j w W2 p nm vo (.slice a p.blks.length c) bw bs B 0 (wk0 p) (.slice none 0 0) (.slice none 0 0) f HP.out h0 hlen M0.out (by simp [S3.look,wk0,List.getD,h0]) (by omega) (by rw [hz];simp [wk0];omega)
   have e:wkD p=rI p (f+1) 0 (wk0 p):=by unfold wkD;rw [hf]
   rw [e]
   exact this
  have HL2:=qkm (qq4 p hlen)
  have HL:Hid ((wkD p).ord.length≤1000000000):=Nat.le_trans (Nat.le_add_right _ _) (Nat.le_trans HL2.out (by decide))
  clear HP M0
  go_wp2_with (go_at_call 119;refine EI.out.mono ?_;rintro e w3 ⟨rfl,ov,bv,tv,M3⟩;have M3:=qkm M3;have q7:w3.cell? ⟨bw,7,none⟩=some ov:=(M3.out.wk.cellAt 7 (by decide)).trans rfl)
  have HO:Hid (qa8 w3 B ov (wkD p).ord):=M3.out.ord
  refine (qnf _ ov w3 B HO.out HL.out).mono ?_
  rintro e w4 ⟨rfl,ho,hg⟩
  have M4:Hid (WkR w p (.returned (.pointer (some ⟨bw,0,none⟩))) w4):=⟨bw,_,B,_,_,_,_,_,rfl,M3.out.ordSet hg ho,rfl,rfl,by simpa using HL2.out⟩
  clear ho hg M3 HO q7
  go_wp2_with fail
  go_ret
  exact M4.out
end
section
theorem qeq {w:World} {B B' n s:Nat} {e:TypeId} {v:Value} {xs:List Value} (h:w.ownsRow B e s v n xs) (hB:B'≤B):w.ownsRow B' e s v n xs:=by
 obtain ⟨h1,h2|⟨g,cap,cur,h3,hb,r⟩⟩:=h
 ·exact ⟨h1,.inl h2⟩
 ·exact ⟨h1,.inr ⟨g,cap,cur,h3,Nat.le_trans hB hb,r⟩⟩
theorem qyb (p:Pr) (V:Value) (w:World) (hP:PrV w V p) (hlen:p.blks.length≤1000000) :
  Calls Try.prog 67 #[V] w (qij w (wkD p).ord.reverse):=by
 have EW:Hid (∀ o,Calls Try.prog 96 #[V] (w.alloc o) (WkR (w.alloc o) p)):=fun o=>qoa p V _ (hP.ext (Ext.alloc w o)) hlen
 obtain ⟨nm,vo,vb,rfl, -,a,c,rfl, -, -, -⟩:=hP
 go_enter Try.func67,Try.ntmps67
 go_wp2_with (go_at_call 96;refine (EW.out _).mono ?_;rintro e w1 ⟨bw,bs,B,ov,bv,tv,hd,s,rfl,M,ho,hb,hr⟩;have M:=qkm M;have q7:w1.cell? ⟨bw,7,none⟩=some ov:=(M.out.wk.cellAt 7 (by decide)).trans (by rw [List.getElem?_append_right (by rw [M.out.hd6];decide),M.out.hd6];rfl))
 go_ret
 refine ⟨_,rfl,?_,?_⟩
 ·rw [←ho]
  exact qeq M.out.ord (Nat.le_trans (by simp) M.out.pB)
 ·exact (qaa w _).trans (M.out.below.mono (by simp))
end
section
def lvQ (p:Pr) (r:Int):Nat→List Bool→List Int→Bool
 | 0,_,_=>false
 | _+1,_,[]=>false
 | f+1,seen,b::q=>
  if seen.getD b.toNat false=true then lvQ p r f seen q
  else if qgv (p.blks.getD b.toNat default) 0 r=1 then true
  else if qgv (p.blks.getD b.toNat default) 0 r=0 then lvQ p r f (seen.set b.toNat true) (q++qa1 p b.toNat)
  else lvQ p r f (seen.set b.toNat true) q
structure LvQ (p:Pr) (r:Int) (R:Bool) (f:Nat) (seen:List Bool) (qa2:List Int) (k:Nat):Prop where
 res:lvQ p r f seen (qa2.drop k)=R
 le:k≤qa2.length
 len:seen.length=p.blks.length
 fuel:qa2.length-k+3*seen.count false≤f
 room:qa2.length+2*seen.count false≤2+2*p.blks.length
 ins:∀ t∈qa2,0≤t∧t<p.blks.length
theorem qhw (l:List Bool) (i:Nat) (h:i<l.length) (h0:l.getD i false=false):(l.set i true).count false+1=l.count false:=by
 have h1:l[i]=false:=by simpa [List.getD,h] using h0
 have h2:0<l.count false:=List.count_pos_iff.2 (h1 ▸ List.getElem_mem h)
 rw [List.count_set h]
 simp [h1]
 omega
section
variable {p:Pr} {r:Int} {R:Bool} {f:Nat} {seen:List Bool} {qa2:List Int} {k:Nat}
theorem LvQ.done (h:LvQ p r R f seen qa2 k) (hk:¬ k<qa2.length):R=false:=by
 have h1:=h.res
 rw [List.drop_eq_nil_of_le (by omega)] at h1
 rw [←h1]
 cases f <;> rfl
theorem LvQ.cons (h:LvQ p r R f seen qa2 k) (hk:k<qa2.length):∃ f',f=f'+1∧(0≤qa2.getD k 0∧qa2.getD k 0<p.blks.length)∧lvQ p r (f'+1) seen (qa2.getD k 0::qa2.drop (k+1))=R:=by
 have h1:=h.fuel
 refine ⟨f-1,by omega,h.ins _ (by simp [List.getD,hk]),?_⟩
 have h2:=h.res
 rw [List.drop_eq_getElem_cons hk] at h2
 rw [show f-1+1=f by omega]
 simpa [List.getD,hk] using h2
theorem LvQ.yes (h:LvQ p r R f seen qa2 k) (hk:k<qa2.length) (hs:seen.getD (qa2.getD k 0).toNat false=false) (hw:qgv (p.blks.getD (qa2.getD k 0).toNat default) 0 r=1):R=true:=by
 obtain ⟨f',rfl, -,h1⟩:=h.cons hk
 unfold lvQ at h1
 rw [if_neg (by rw [hs];decide),if_pos hw] at h1
 exact h1.symm
end
structure LQ (W0 w:World) (gs B n:Nat) (seen:List Bool) (tv:Value) (qa2:List Int):Prop where
 below:Below W0.heap.size W0 w
 row:qcn w gs n n seen
 own:qa8 w B tv qa2
 g0:W0.heap.size≤gs
 gB:gs<B
 Bw:B≤w.heap.size
section
variable {W0 w:World} {gs B n:Nat} {seen:List Bool} {tv:Value} {qa2:List Int}
theorem LQ.grow {w':World} (h:LQ W0 w gs B n seen tv qa2) (hb:Below w.heap.size w w'):LQ W0 w' gs B n seen tv qa2:=by
 have hg:w.grownBy w' none:=⟨hb.os,hb.tape,hb.output,hb.size,fun k hk _=>hb.block k hk⟩
 have h1:=h.g0
 have h2:=h.gB
 have h3:=h.Bw
 exact ⟨h.below.trans (hb.mono (by omega)),h.row.below hb,World.ownsRow.kept h.own hg (by cases tv.ownBlock <;> simp),h.g0,h.gB,Nat.le_trans h.Bw hb.size⟩
theorem LQ.set (h:LQ W0 w gs B n seen tv qa2) (i:Nat):LQ W0 (w.setCell ⟨gs,i,none⟩ (.bool true)) gs B n (seen.set i true) tv qa2:=by
 have hg:w.grownBy (w.setCell ⟨gs,i,none⟩ (.bool true)) (some gs):=⟨rfl,rfl,rfl,by simp,fun k _ hk=>Below.heap_setCell w ⟨gs,i,none⟩ _ k (fun e=>hk (by rw [show k=gs from e]))⟩
 exact ⟨h.below.setCell h.g0 _,qfh.set h.row i true,World.ownsRow.kept h.own hg (qj9 (qev h.own h.gB)),h.g0,h.gB,by simpa using h.Bw⟩
end
end
section
end
section
end
section
open Go.RowKit
def sg (a:Int):Int:=if a<2147483648 then a else a-4294967296
def qre (a b:Int):Int:=(a*2 ^ (b % 32).toNat) % 4294967296
def qs7 (a b:Int):Int:=(sg a / 2 ^ (b % 32).toNat) % 4294967296
def q00 (a b:Int):Int:=if b=0 then 4294967295 else ((sg a).tdiv (sg b)) % 4294967296
def q1y (a b:Int):Int:=if b=0 then a else ((sg a).tmod (sg b)) % 4294967296
def qg7 (a b:Int):Int:=if sg a<sg b then 1 else 0
def pw (k:Nat):Int:=2 ^ k
end
section
theorem qrk (n:Int) (h₀:0≤n) (h₁:n<2 ^ 32):IntKind.u32.wrap n=n:=by rw [IntKind.wrap_u32];omega
theorem qtx (x:Int) (h₀:0≤x) (h₁:x<4294967296):bits .and .u32 x 31=x % 32:=bits_mask .u32 32 (by decide) qrk 5 (by decide) x h₀ h₁
attribute [local go_sem] qtx
end
section
open Go Go.RowKit
def qmk (o:Oper):Bool :=
 match o.op with
 | .call c=>(match c.callee with | .builtin .len | .builtin .max=>true | _=>false)
 | _=>false
theorem qfd {P:Program} {o:Oper} {ρ:Operand→Value} {w:World} {n:Next} {w':World} (h:qmk o=true) (hr:(execOp ρ o).run P w=.ok n w'):∃ v,n=.value v:=by
 unfold qmk at h
 split at h
 ·rename_i c hc
  split at h
  ·rename_i hb
   simp only [execOp,hc,resolve,hb,Sem.run_bind,Sem.run_pure,Result.andThen_ok,invoke] at hr
   exact qgp hr
  ·rename_i hb
   simp only [execOp,hc,resolve,hb,Sem.run_bind,Sem.run_pure,Result.andThen_ok,invoke] at hr
   exact qgp hr
  ·cases h
 ·cases h
section
variable {P:Program} {ops:Array Oper} {Q:Act→World→Prop} {S:Nat→Prop}
theorem q09 {f:Nat} {listed:Array Bool} {a:Act} {w:World} (i:Nat) (o:Oper) (hio:ops[i]?=some o)
  (hc:(qee ops listed && (Region.noSelect ops && (Region.ready .any ops listed).contains i && Region.free .any ops listed i && (qgy o || qmk o)))=true)
  (h:wpQuiet P ops (fun w'=>∃ x,w'=kp S w x) (fun a'=>wpE S P ops Q f (listed.setIfInBounds i true) a' w) [o] a):wpE S P ops Q (f+1) listed a w:=by
 simp only [Bool.and_eq_true] at hc
 obtain ⟨hcl,⟨⟨hs,hr⟩,hf⟩,hk⟩:=hc
 simp only [wpQuiet] at h
 have hy:∃ v,qb6 S P ops w o v a∧wpE S P ops Q f (listed.setIfInBounds i true) (a.put o.dst v) w:=by
  split at h
  ·rename_i hw
   obtain ⟨v,hv,hn⟩:=h
   refine ⟨v,.inl ⟨hw,fun w' hb=>?_⟩,hn⟩
   have h3:=hv w' (qmh hb)
   unfold Oper.quietAt at h3
   generalize hrr:(execOp a.eval o).run P w'=r at h3
   cases r with
   | ok n w1=>
    have hu:∃ v,n=.value v:=by
     rw [Bool.or_eq_true] at hk
     rcases hk with hk|hk
     ·exact qdb hk hrr
     ·exact qfd hk hrr
    obtain ⟨u,rfl⟩:=hu
    simp only [Oper.quietUpon] at h3
    obtain ⟨rfl,rfl⟩:=h3
    rfl
   | halt x w1=>simp only [Oper.quietUpon] at h3
  ·rename_i hw
   exact ⟨undef,.inr ⟨by simpa using hw,rfl⟩,h⟩
 obtain ⟨v,hy,hn⟩:=hy
 exact qlb hio (Region.noSelect_spec hs) f listed a w (Region.free_spec hio hf) (qd1 hcl) (by simpa using hr) hy hn
end
end
end Go.Proofs.Ytmcddolkpcgddaa
