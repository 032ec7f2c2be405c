/-
 Contract of flow's walk into a block.
-/
import Derived.Test.YtmcddolkpcgddaaZHazardFinds04
set_option maxHeartbeats 2000000
set_option maxRecDepth 20000
set_option linter.all false
namespace Go.Proofs.Ytmcddolkpcgddaa
open Go.ChangeShapes Go.WideShapes Go.ChangeAt Go.RowKit
structure WkI (p:Pr) (f:Nat) (R:S3) (s:S3) (S:List Kt):Prop where
 res:qid p f S s=R
 len:s.st.length=p.blks.length
 fuel:s.zeros≤f
 room:s.ord.length+s.back.length+qa2 S s≤10000000
 ins:∀ k∈S,(0≤k.n∧k.n<p.blks.length)∧∀ t∈k.l,0≤t∧t<p.blks.length
theorem qzg (S:List Kt) (s:S3):S.length≤qa2 S s:=by
 unfold qa2
 induction S with
 | nil=>simp
 | cons k S ih=>simp at ih ⊢;omega
theorem WkI.leave {p:Pr} {f:Nat} {R s:S3} {S:List Kt} {n:Int} {v:Value} (h:WkI p f R s (S++[⟨n,[],v⟩])):WkI p f R (s.leave n) S:=by
 have h1:=qgn S n v s
 have h2:=h.room
 refine ⟨by rw [←qmn p f S n v s];exact h.res,by rw [qlz];exact h.len,Nat.le_trans (qcr _ _) h.fuel,?_,fun k hk=>h.ins k (List.mem_append_left _ hk)⟩
 show (s.ord++[n]).length+s.back.length+_≤_
 simp
 omega
theorem q1a {p:Pr} {f:Nat} {n t:Int} {s:S3} (h1:s.look t≠1) (h0:s.look t≠0):hI p f n s t=s:=by unfold hI;rw [if_neg h1,if_neg h0]
theorem qza {p:Pr} {f:Nat} {n t:Int} {s:S3} (h1:s.look t=1):hI p f n s t=s.loop n t:=by unfold hI;rw [if_pos h1]
theorem q0x {p:Pr} {f:Nat} {n t:Int} {s:S3} (h0:s.look t=0):hI p f n s t=rI p f t s:=by unfold hI;rw [if_neg (by omega),if_pos h0]
theorem WkI.tail {p:Pr} {f:Nat} {R s:S3} {S:List Kt} {n t:Int} {l:List Int} {v v':Value} (h:WkI p f R s (S++[⟨n,t::l,v⟩])):∀ k∈S++[(⟨n,l,v'⟩:Kt)],(0≤k.n∧k.n<(p.blks.length:Int))∧∀ t∈k.l,0≤t∧t<(p.blks.length:Int):=fun k hk=>by
 rcases List.mem_append.1 hk with hk|hk
 ·exact h.ins k (List.mem_append_left _ hk)
 ·rw [List.mem_singleton.1 hk]
  have:=h.ins _ (List.mem_append_right _ (List.mem_singleton_self _))
  exact ⟨this.1,fun t ht=>this.2 t (List.mem_cons_of_mem _ ht)⟩
theorem WkI.old {p:Pr} {f:Nat} {R s:S3} {S:List Kt} {n t:Int} {l:List Int} {v:Value} (v':Value) (h:WkI p f R s (S++[⟨n,t::l,v⟩])) (h1:s.look t≠1) (h0:s.look t≠0):WkI p f R s (S++[⟨n,l,v'⟩]):=by
 have h2:=qe2 S n t l v v' s s rfl
 have h3:=h.room
 have h4:=h.res
 rw [qgo p f S n t l v v',q1a h1 h0] at h4
 exact ⟨h4,h.len,h.fuel,by omega,h.tail⟩
theorem WkI.back {p:Pr} {f:Nat} {R s:S3} {S:List Kt} {n t:Int} {l:List Int} {v:Value} (v':Value) (h:WkI p f R s (S++[⟨n,t::l,v⟩])) (h1:s.look t=1):WkI p f R (s.loop n t) (S++[⟨n,l,v'⟩]):=by
 have h2:=qe2 S n t l v v' s (s.loop n t) rfl
 have h3:=h.room
 have h4:=h.res
 rw [qgo p f S n t l v v',qza h1] at h4
 refine ⟨h4,h.len,h.fuel,?_,h.tail⟩
 show s.ord.length+(s.back++[(n,t)]).length+_≤_
 simp
 omega
theorem WkI.new {p:Pr} {f:Nat} {R s:S3} {S:List Kt} {n t:Int} {l:List Int} {v:Value} (v' v2:Value) (h:WkI p f R s (S++[⟨n,t::l,v⟩])) (h0:s.look t=0):WkI p f R (s.enter t) (S++[⟨n,l,v'⟩]++[⟨t,qa1 p t.toNat,v2⟩]):=by
 have ht:=(h.ins _ (List.mem_append_right _ (List.mem_singleton_self _))).2 t List.mem_cons_self
 have hl:=h.len
 have htn:t.toNat<p.blks.length:=by omega
 have h2:=qjk p S n t l v v' v2 s (by omega) h0
 have h3:=h.room
 have h4:=h.res
 rw [qgo p f S n t l v v',q0x h0,qpe p f _ t v2 s hl htn h0 h.fuel] at h4
 refine ⟨h4,by rw [qd2];exact hl,Nat.le_trans (qfk _ _) h.fuel,?_,fun k hk=>?_⟩
 ·show s.ord.length+s.back.length+_≤_
  omega
 ·rcases List.mem_append.1 hk with hk|hk
  ·exact h.tail k hk
  ·rw [List.mem_singleton.1 hk]
   exact ⟨ht,fun t ht=>qck ht⟩
theorem qbt.drop1 {w:World} {B:Nat} {ov bv tv:Value} {b o c:Nat} {t:Int} {l:List Int} (h:qbt w B ov bv tv (.slice (some ⟨b,o,none⟩) (t::l).length c) (t::l)):qbt w B ov bv tv (.slice (some ⟨b,o+1,none⟩) l.length (c-1)) l:=by
 obtain ⟨a,c',e,h2,h3,h4⟩:=h
 simp only [Value.slice.injEq] at e
 obtain ⟨rfl, -,rfl⟩:=e
 simp only [List.length_cons] at h2
 refine ⟨_,_,rfl,by omega,by omega,fun i hi=>?_⟩
 obtain ⟨b',o',e,k1,k2,k3,k4,hc⟩:=h4 (i+1) (by simpa using hi)
 simp only [Option.some.injEq,Addr.mk.injEq] at e
 obtain ⟨rfl,rfl, -⟩:=e
 refine ⟨_,_,rfl,k1,k2,k3,k4,?_⟩
 rw [show o+1+i=o+(i+1) by omega]
 simpa using hc
theorem qbt.drop0 {w:World} {B:Nat} {ov bv tv:Value} {a:Option Addr} {c:Nat} {t:Int} (h:qbt w B ov bv tv (.slice a 1 c) [t]) (a':Option Addr):qbt w B ov bv tv (.slice a' 0 (c-1)) []:=by
 obtain ⟨a,c',e,h2,h3,h4⟩:=h
 simp only [Value.slice.injEq] at e
 obtain ⟨rfl, -,rfl⟩:=e
 exact ⟨_,_,rfl,by simp,by omega,fun i hi=>absurd hi (by simp)⟩
theorem qt9 {w:World} {B n:Nat} {tv:Value} {xs:List Value} (h:w.ownsRow B 194 2 tv n xs):∃ a c,tv=.slice a n c∧n≤c∧c≤maxLen∧(0<n→∃ g,a=some ⟨g,0,none⟩):=by
 obtain ⟨-,⟨rfl,rfl⟩|⟨g,cap,cur,rfl, -, -,h1,h2, -⟩⟩:=h
 ·exact ⟨none,0,rfl,Nat.le_refl _,Nat.zero_le _,fun h=>absurd h (by omega)⟩
 ·exact ⟨_,cap,rfl,h1,h2,fun _=>⟨g,rfl⟩⟩
theorem qbt.of_ret {wp w w1:World} {bw bs B n:Nat} {hd:List Value} {s:S3} {ov bv tv v:Value} {S:List Kt} {l:List Int} (h:WM wp w bw bs B n hd s ov bv tv S) (hr:RdF w1 w.heap.size v l):qbt w1 B ov bv tv v l:=by
 obtain ⟨⟨a,c,rfl,h2,h3,h4⟩,hf⟩:=hr
 refine ⟨a,c,rfl,h2,h3,fun i hi=>?_⟩
 obtain ⟨b,o,rfl,hc⟩:=h4 i hi
 have hb:w.heap.size≤b:=hf _ _ _ rfl
 refine ⟨b,o,rfl,Nat.le_trans h.Bw hb,fun e=>?_,fun e=>?_,fun e=>?_,by simpa using hc⟩
 ·have:=(h.ord.lt b e).2;omega
 ·have:=(h.back.lt b e).2;omega
 ·have:=(h.stk.lt b e).2;omega
theorem WM.first {wp w:World} {bw bs B n:Nat} {hd:List Value} {s:S3} {ov bv:Value} {k:Kt} (h:WM wp w bw bs B n hd s ov bv (.slice none 0 0) []) (hk:qbt w B ov bv (.slice none 0 0) k.v k.l) :
  WM wp (w.alloc (.cells #[.int .i64 k.n,k.v] 194)) bw bs B n hd s ov bv (.slice (some ⟨w.heap.size,0,none⟩) 1 1) [k] :=
 h.push hk (World.grownBy_alloc _ _ _) ⟨rfl,.inr ⟨w.heap.size,1,_,rfl,h.Bw,heap_alloc_new w _,Nat.le_refl _,by simp [maxLen],rfl,rfl⟩⟩ (.inr rfl)
theorem qii:(Try.prog.info? 194).map (fun i=>(i.zero,i.size,i.bytes))=some (some (.agg #[.int .i64 0,.slice none 0 0]),2,32):=by kernel_rfl
theorem qf2:(Try.prog.info? 197).map (fun i=>(i.zero,i.size,i.bytes))=some (some (.agg #[.int .i64 0,.int .i64 0]),2,16):=by kernel_rfl
theorem WM.see {wp w:World} {bw bs B n:Nat} {hd:List Value} {s:S3} {ov bv:Value} {S:List Kt} {gt L c:Nat} {k:Kt} (h:WM wp w bw bs B n hd s ov bv (.slice (some ⟨gt,0,none⟩) (L+1) c) (S++[k])) (hL:S.length=L) :
  w.cell? ⟨bw,6,none⟩=some (.slice (some ⟨bs,0,none⟩) n n)∧w.cell? ⟨bw,7,none⟩=some ov∧w.cell? ⟨bw,8,none⟩=some bv∧w.cell? ⟨gt,L*2,none⟩=some (.int .i64 k.n)∧w.cell? ⟨gt,L*2+1,none⟩=some k.v∧
  (∀ i,w.frozen? ⟨gt,i,none⟩=false)∧(∀ i,w.frozen? ⟨bw,i,none⟩=false)∧(∀ i,w.frozen? ⟨bs,i,none⟩=false)∧bw<w.heap.size∧bs<w.heap.size∧gt<w.heap.size∧bw≠gt∧bs≠gt∧bw≠bs∧ov.ownBlock≠some gt∧bv.ownBlock≠some gt:=by
 have hstk:=h.stk
 rw [List.length_append,List.length_singleton,hL] at hstk
 have hw:∀ i v,([.slice (some ⟨bs,0,none⟩) n n,ov,bv]:List Value)[i]?=some v→w.cell? ⟨bw,6+i,none⟩=some v:=fun i v hv=>by
  have hi:i<3:=by
   have:=(List.getElem?_eq_some_iff.1 hv).1
   simpa using this
  have:=h.wk.cellAt (6+i) (by omega)
  rw [List.getElem?_append_right (by rw [h.hd6];omega),h.hd6,Nat.add_sub_cancel_left,hv] at this
  exact this
 have hgB:B≤gt:=(hstk.lt gt rfl).1
 have h1:=h.bwB
 have h2:=h.bsB
 have h3:=h.Bw
 refine ⟨hw 0 _ rfl,hw 1 _ rfl,hw 2 _ rfl,?_,?_,fun i=>hstk.frozenAt i,fun i=>h.wk.frozenAt i,fun i=>h.st.frozenAt i,by omega,by omega,(hstk.lt gt rfl).2,by omega,by omega,h.bne,fun e=>?_,fun e=>?_⟩
 ·exact (hstk.cellAt (L*2) (by omega)).trans (by rw [qcz,List.getElem?_append_right (by rw [qbz];omega),qbz,hL];simp)
 ·exact (hstk.cellAt (L*2+1) (by omega)).trans (by rw [qcz,List.getElem?_append_right (by rw [qbz];omega),qbz,hL];simp)
 ·rcases qca h.ord h.stk (by decide) with h|h
  ·rw [h] at e;cases e
  ·exact h e
 ·rcases qca h.back h.stk (by decide) with h|h
  ·rw [h] at e;cases e
  ·exact h e
theorem WM.stAt {wp w:World} {bw bs B n:Nat} {hd:List Value} {s:S3} {ov bv tv:Value} {S:List Kt} (h:WM wp w bw bs B n hd s ov bv tv S) {k:Nat} (hk:k<n):w.cell? ⟨bs,k,none⟩=some (.int .i64 (s.st.getD k 0)):=by
 have:=h.st.cellAt k (by omega)
 rw [List.getElem?_map,List.getElem?_eq_getElem (by rw [h.len];exact hk),Option.map_some] at this
 rw [this]
 simp [List.getD,h.len,hk]
theorem qef {S:Nat→Prop} (w:World) {g i:Nat} {v:Value} (h:¬ S g):qcl S w (w.setCell ⟨g,i,none⟩ v):=fun b o hb=>World.cell?_of_block (w:=w) (a:=⟨b,o,none⟩) (Below.heap_setCell w ⟨g,i,none⟩ v b (fun e=>h (by rw [←show b=g from e];exact hb)))
theorem qcc {S:Nat→Prop} {w:World} {o:Obj} (h:∀ b,S b→b<w.heap.size):qcl S w (w.alloc o):=fun b o' hb=>(qaa w o).cell (p:=⟨b,o',none⟩) (h b hb)
theorem qc8 {S:Nat→Prop} {w w':World} {row:Option Nat} (hg:w.grownBy w' row) (h:∀ b,S b→b<w.heap.size∧row≠some b):qcl S w w':=fun b o hb=>World.cell?_of_block (w:=w) (a:=⟨b,o,none⟩) (hg.block b (h b hb).1 (fun e=>(h b hb).2 e.symm))
theorem qaq {w w':World} {row:Option Nat} (hg:w.grownBy w' row) {b o:Nat} (hb:b<w.heap.size) (hr:row≠some b):w'.cell? ⟨b,o,none⟩=w.cell? ⟨b,o,none⟩:=World.cell?_of_block (w:=w) (a:=⟨b,o,none⟩) (hg.block b hb (fun e=>hr e.symm))
theorem qa9 {w w':World} {row:Option Nat} (hg:w.grownBy w' row) {b o:Nat} (hb:b<w.heap.size) (hr:row≠some b):w'.frozen? ⟨b,o,none⟩=w.frozen? ⟨b,o,none⟩:=World.frozen?_of_block (w:=w) (a:=⟨b,o,none⟩) (hg.block b hb (fun e=>hr e.symm))
theorem qa6 {w:World} {B n sz:Nat} {e:TypeId} {v:Value} {xs:List Value} (h:w.ownsRow B e sz v n xs):∃ a c,v=.slice a n c:=by
 obtain ⟨-,⟨rfl,rfl⟩|⟨g,cap,cur,rfl, -⟩⟩:=h
 ·exact ⟨none,0,rfl⟩
 ·exact ⟨_,cap,rfl⟩
theorem qz3 {ops:Array Oper} {rest:List Oper} {o:Oper} {a:Act} {W:World} {B:Nat} {v:Value} {l:List Int} {n:Int} {g:Nat} {Q:Exit→Act→World→Prop} {s x:Operand} (hown:W.ownsRow B 3 1 v l.length (l.map (Value.int .i64))) (hgd:o.guard=none)
  (ho:o.op=.call { callee:=.builtin .append,args:=#[s,x],argTypes:=#[45,45] }) (hs:a.eval s=v)
  (hx:a.eval x=.slice (some ⟨g,0,none⟩) 1 1) (hc:W.cell? ⟨g,0,none⟩=some (.int .i64 n)) (hlen:l.length≤1000000000) (hB:B≤W.heap.size)
  (h:∀ v' w',w'.ownsRow B 3 1 v' (l.length+1) (l.map (Value.int .i64)++[.int .i64 n])→W.grownBy w' v.ownBlock→(v'.ownBlock=v.ownBlock∨v'.ownBlock=some W.heap.size)→wpList Try.prog ops Q rest (a.put o.dst v') w'):wpList Try.prog ops Q (o::rest) a W:=by
 obtain ⟨i0,hi,hz0,hz1,hz2⟩:=info_parts qjo
 refine wpList_append_own_at _ hgd s x 45 ho B 3 i0 (.int .i64 0) 1 8 Try.underlying45 hi hz0 hz1 hz2 rfl (by decide) v l.length _ hs hown ⟨g,0,none⟩ 1 1 [.int .i64 n] hx rfl ?_ ?_ ?_ ?_ hB ?_
 ·intro j u hj
  match j,hj with
  | 0,hj=>simp at hj;subst hj;simpa [Addr.add] using hc
 ·intro u hu;simp at hu;subst hu;rfl
 ·unfold maxLen;omega
 ·omega
 ·intro v' w' h1 h2 _ h4
  exact h v' w' h1 h2 h4
theorem qz2 (t e:TypeId) {z:Value} {bytes:Nat} (hinf:(Try.prog.info? e).map (fun i=>(i.zero,i.size,i.bytes))=some (some z,2,bytes)) (ht:Try.prog.underlying t=some (.slice e)) (hz:z.cells.size=2) (hbt:bytes≤32) {ops:Array Oper} {rest:List Oper} {o:Oper} {a:Act} {W:World} {B:Nat} {v y z':Value} {m:Nat} {xs:List Value} {g:Nat} {Q:Exit→Act→World→Prop} {s x:Operand} (hown:W.ownsRow B e 2 v m xs) (hgd:o.guard=none)
  (ho:o.op=.call { callee:=.builtin .append,args:=#[s,x],argTypes:=#[t,t] }) (hs:a.eval s=v)
  (hx:a.eval x=.slice (some ⟨g,0,none⟩) 1 1) (hc:W.cell? ⟨g,0,none⟩=some y) (hc':W.cell? ⟨g,1,none⟩=some z') (hy1:y.oneCell'=true) (hy2:z'.oneCell'=true) (hlen:m≤1000000000) (hB:B≤W.heap.size)
  (h:∀ v' w',w'.ownsRow B e 2 v' (m+1) (xs++[y,z'])→W.grownBy w' v.ownBlock→(v'.ownBlock=v.ownBlock∨v'.ownBlock=some W.heap.size)→wpList Try.prog ops Q rest (a.put o.dst v') w'):wpList Try.prog ops Q (o::rest) a W:=by
 obtain ⟨i0,hi,hz0,hz1,hz2⟩:=info_parts hinf
 refine wpList_append_own_at _ hgd s x t ho B e i0 z 2 bytes ht hi hz0 hz1 hz2 hz (by decide) v m _ hs hown ⟨g,0,none⟩ 1 1 [y,z'] hx rfl ?_ ?_ ?_ ?_ hB ?_
 ·intro j u hj
  match j,hj with
  | 0,hj=>simp at hj;subst hj;simpa [Addr.add] using hc
  | 1,hj=>simp at hj;subst hj;simpa [Addr.add] using hc'
 ·intro u hu;simp at hu;rcases hu with rfl | rfl <;> assumption
 ·unfold maxLen;omega
 ·have:(m+1)*bytes≤(m+1)*32:=Nat.mul_le_mul_left _ hbt
  omega
 ·intro v' w' h1 h2 _ h4
  exact h v' w' h1 h2 h4
theorem q0j (wp w:World) (p:Pr) (nm:ByteArray) (vo vb:Value) (bw bs B x:Nat) (s:S3) (ov bv:Value) (f:Nat)
  (hP:PrV wp (.agg #[.string nm,.bool p.void,.int .i64 p.params,.int .i64 p.regs,vo,vb]) p) (hx:x<p.blks.length) (hlen:p.blks.length≤1000000)
  (hM:WM wp w bw bs B p.blks.length [.string nm,.bool p.void,.int .i64 p.params,.int .i64 p.regs,vo,vb] s ov bv (.slice none 0 0) [])
  (h0:s.look x=0) (hz:s.zeros≤f+1) (hr:s.ord.length+s.back.length+4*s.zeros≤9000000) :
  Calls Try.prog 119 #[.pointer (some ⟨bw,0,none⟩),.int .i64 (x:Int)] w fun e w'=>e=.returned (.tuple #[])∧∃ ov bv tv,WM wp w' bw bs B p.blks.length [.string nm,.bool p.void,.int .i64 p.params,.int .i64 p.regs,vo,vb] (rI p (f+1) x s) ov bv tv []:=by
 have EO:Hid (∀ (k:Nat) w',Below wp.heap.size wp w'→k<p.blks.length→Calls Try.prog 115 #[.agg #[.string nm,.bool p.void,.int .i64 p.params,.int .i64 p.regs,vo,vb],.int .i64 (k:Int)] w' (q2l w' (qa1 p k))):=fun k w' hb hk=>
  qxo p _ k w' (hP.ext (Ext.below hb)) hk hlen
 have q:∀ j:Nat,j<9→w.cell? ⟨bw,j,none⟩=#[.string nm,.bool p.void,.int .i64 p.params,.int .i64 p.regs,vo,vb,.slice (some ⟨bs,0,none⟩) p.blks.length p.blks.length,ov,bv][j]?:=fun j hj=>(hM.wk.cellAt j (by omega)).trans (by simp)
 have q0:=q 0 (by decide)
 have q1:=q 1 (by decide)
 have q2:=q 2 (by decide)
 have q3:=q 3 (by decide)
 have q4:=q 4 (by decide)
 have q5:=q 5 (by decide)
 simp at q0 q1 q2 q3 q4 q5
 clear q
 have HM:=qkm hM
 have HP:=qkm hP
 have EOx:=qkm (EO.out x w hM.below hx)
 clear hM hP
 go_enter Try.func119,Try.ntmps119
 go_wp2_with (go_at_call 115;refine EOx.out.mono ?_;rintro e w1 ⟨v1,rfl,hr1,hb1⟩;have M1:=qkm (HM.out.grow hb1);clear hb1;have HA1:=qkm (qbt.of_ret HM.out hr1);obtain ⟨⟨a1,c1,rfl, -, -, -⟩, -⟩:=hr1;have q6:w1.cell? ⟨bw,6,none⟩=some (.slice (some ⟨bs,0,none⟩) p.blks.length p.blks.length):=(M1.out.wk.cellAt 6 (by decide)).trans (by simp);have hbw:bw < w1.heap.size:=Nat.lt_of_lt_of_le M1.out.bwB M1.out.Bw;have hbs:bs < w1.heap.size:=Nat.lt_of_lt_of_le M1.out.bsB M1.out.Bw;have qf:=M1.out.st.frozenAt x;have qc:=M1.out.st.cellAt x (by omega);rw [List.getElem?_map,List.getElem?_eq_getElem (by rw [M1.out.len];exact hx),Option.map_some] at qc;have HQ:=qkm ((M1.out.setSt x 1).first (k:=⟨x,qa1 p x,.slice a1 (qa1 p x).length c1⟩) (HA1.out.kept (M1.out.st.stored x (.int .i64 1)).2 (fun b e=>by simp only [Option.some.injEq] at e;subst e;exact .inr (.inr (.inr M1.out.bsB))) (.refl _ _) (.refl _ _) (.refl _ _))))
 have HS:Hid (WM wp ((w1.setCell ⟨bs,x,none⟩ (.int .i64 1)).alloc (Obj.cells #[.int .i64 (x:Int),.slice a1 (qa1 p x).length c1] 194)) bw bs B p.blks.length [.string nm,.bool p.void,.int .i64 p.params,.int .i64 p.regs,vo,vb] (s.enter x) ov bv (.slice (some ⟨w1.heap.size,0,none⟩) 1 1) [⟨x,qa1 p x,.slice a1 (qa1 p x).length c1⟩]):=by have:=HQ.out;simp only [World.size_setCell] at this;exact this
 have HI:Hid (WkI p f (rI p (f+1) x s) (s.enter x) [⟨x,qa1 p x,.slice a1 (qa1 p x).length c1⟩]):=by
  have hsl:s.st.length=p.blks.length:=HM.out.len
  have hz1:=qdl s x (by simpa [hsl] using hx) h0
  have ho:=qdu p x
  refine ⟨rfl,by rw [qd2];exact hsl,by omega,?_,fun k hk=>?_⟩
  ·show s.ord.length+s.back.length+qa2 _ _≤_
   simp [qa2]
   omega
  ·rw [List.mem_singleton.1 hk]
   exact ⟨⟨by simp,by simpa using hx⟩,fun t ht=>qck ht⟩
 clear q0 q1 q2 q3 q4 q5 q6 qc qf EOx hbw hbs h0 hz hr HM HQ M1 HA1
 obtain ⟨R,HRe⟩:∃ R,Hid (rI p (f+1) x s=R):=⟨_,rfl⟩
 rw [HRe.out] at HI
 generalize s.enter x=s1 at *
 go_loopg [4] (qa2 [⟨x,qa1 p x,.slice a1 (qa1 p x).length c1⟩] s1) (fun m tv wr=>∃ (s':S3) (S:List Kt) (ov bv:Value),Hid (m=qa2 S s')∧Hid (WM wp wr bw bs B p.blks.length [.string nm,.bool p.void,.int .i64 p.params,.int .i64 p.regs,vo,vb] s' ov bv tv S)∧Hid (WkI p f R s' S))
 case atStart=>exact ⟨s1,_,ov,bv,rfl,HS,HI⟩
 case round=>
  clear HS HI
  obtain ⟨s',S,ov,bv,Hm,M,I⟩:=hrel
  obtain ⟨nS,hnS⟩:∃ nS,S.length=nS:=⟨_,rfl⟩
  have hstk:=M.out.stk
  rw [hnS] at hstk
  obtain ⟨ta,tc,rfl,ht1,ht2,ht3⟩:=qt9 hstk
  have hbw:bw<wr.heap.size:=Nat.lt_of_lt_of_le M.out.bwB M.out.Bw
  have hbs:bs<wr.heap.size:=Nat.lt_of_lt_of_le M.out.bsB M.out.Bw
  have q6:wr.cell? ⟨bw,6,none⟩=some (.slice (some ⟨bs,0,none⟩) p.blks.length p.blks.length):=(M.out.wk.cellAt 6 (by decide)).trans (by simp)
  have q7:wr.cell? ⟨bw,7,none⟩=some ov:=(M.out.wk.cellAt 7 (by decide)).trans (by simp)
  have q8:wr.cell? ⟨bw,8,none⟩=some bv:=(M.out.wk.cellAt 8 (by decide)).trans (by simp)
  rcases List.eq_nil_or_concat S with rfl|⟨S',⟨xn,l,v⟩,rfl⟩
  ·have HR:Hid (s'=R):=I.out.res
   have hnS:nS=0:=hnS.symm
   subst hnS
   go_wp2_with fail
   go_end0
   exact ⟨rfl,ov,bv,_,by rw [HRe.out,←HR.out];exact M.out⟩
  ·rw [List.concat_eq_append] at *
   obtain ⟨L,hL⟩:∃ L,S'.length=L:=⟨_,rfl⟩
   have hnS:nS=L+1:=by rw [←hnS,←hL];simp
   subst hnS
   obtain ⟨gt,rfl⟩:=ht3 (by omega)
   clear ht3
   have hL2:L≤10000000:=by
    have h1:=I.out.room
    have h2:=qzg (S'++[⟨xn,l,v⟩]) s'
    simp at h2
    omega
   have kx:wr.cell? ⟨gt,L*2,none⟩=some (.int .i64 xn):=(hstk.cellAt (L*2) (by omega)).trans (by rw [qcz,List.getElem?_append_right (by rw [qbz];omega),qbz,hL];simp)
   have kv:wr.cell? ⟨gt,L*2+1,none⟩=some v:=(hstk.cellAt (L*2+1) (by omega)).trans (by rw [qcz,List.getElem?_append_right (by rw [qbz];omega),qbz,hL];simp)
   have kf:wr.frozen? ⟨gt,L*2+1,none⟩=false:=hstk.frozenAt _
   have hgt:gt<wr.heap.size:=World.block_lt_of_cell? wr _ kx
   have hgB:B≤gt:=(hstk.lt gt rfl).1
   obtain ⟨hxn,hin⟩:=I.out.ins _ (List.mem_append_right _ (List.mem_singleton_self _))
   simp only at hxn hin
   obtain ⟨xk,rfl⟩:=Int.eq_ofNat_of_zero_le hxn.1
   have hxk:xk<p.blks.length:=by omega
   have hO:=M.out.outs _ (List.mem_append_right _ (List.mem_singleton_self _))
   simp only at hO
   have HO:=qkm hO
   obtain ⟨va,vc,rfl,hv1,hv2,hv3⟩:=hO
   have HV3:=qkm hv3
   clear hxn hv3
   have hsl:=M.out.len
   cases l with
   | nil=>
    simp only [List.length_nil] at kv hv1 ⊢
    clear hstk hin
    go_wp2_with fail
    have M5:=qkm (M.out.grow (Below.drew (Below.refl _ _)))
    refine qae (fun b=>b=bw∨b=gt) (by kernel_rfl) ?_
    show wpE _ _ _ _ _ _ _ wr.drew
    clear q6 q7 q8 kx kv kf hbw hbs hgt M HO HV3
    generalize wr.drew=W5 at M5 ⊢
    obtain ⟨q6,q7,q8,kx,kv,kf,qw,qs,hbw,hbs,hgt,n1,n2,n3,n4,n5⟩:=M5.out.see hL
    have qc:=M5.out.stAt hxk
    replace kf:=kf (L*2+1)
    replace qs:=qs xk
    replace qw:=qw 7
    simp only at kx kv
    refine qax 0 _ rfl (by kernel_rfl) ?_
    simp only [qkj,qkk,qkl]
    go_big_quiet_step (fail)
    refine wpQuiet_nil ?_
    refine qax 1 _ rfl (by kernel_rfl) ?_
    simp only [qkj,qkk,qkl]
    go_big_quiet_step (fail)
    refine wpQuiet_nil ?_
    refine qax 2 _ rfl (by kernel_rfl) ?_
    simp only [qkj,qkk,qkl]
    go_big_quiet_step (fail)
    refine wpQuiet_nil ?_
    refine qax 3 _ rfl (by kernel_rfl) ?_
    simp only [qkj,qkk,qkl]
    go_big_quiet_step (fail)
    refine wpQuiet_nil ?_
    refine qax 4 _ rfl (by kernel_rfl) ?_
    simp only [qkj,qkk,qkl]
    go_big_quiet_step (fail)
    refine wpQuiet_nil ?_
    refine qax 5 _ rfl (by kernel_rfl) ?_
    simp only [qkj,qkk,qkl]
    go_big_quiet_step (fail)
    refine wpQuiet_nil ?_
    refine qax 6 _ rfl (by kernel_rfl) ?_
    simp only [qkj,qkk,qkl]
    go_big_quiet_step (fail)
    refine wpQuiet_nil ?_
    refine qax 7 _ rfl (by kernel_rfl) ?_
    simp only [qkj,qkk,qkl]
    go_big_quiet_step (fail)
    refine wpQuiet_nil ?_
    refine qax 8 _ rfl (by kernel_rfl) ?_
    simp only [qkj,qkk,qkl]
    go_big_quiet_step (fail)
    refine wpQuiet_nil ?_
    refine qag 9 _ rfl (by kernel_rfl) ?_
    simp only [qkj,qkk,qkl]
    go_wp2_with fail
    refine ⟨qef _ (by simp [Ne.symm n3,n2]),?_⟩
    refine qao (by kernel_rfl) ?_ _
    have M6:=qkm (M5.out.setSt xk 2)
    clear q6 q7 q8 kx kv kf qw qs qc hbw hbs hgt n1 n2 n3 n4 n5 M5
    generalize W5.setCell ⟨bs,xk,none⟩ (.int .i64 2)=W6 at M6 ⊢
    go_wp2_with fail
    have M7:=qkm (M6.out.grow (Below.drew (Below.refl _ _)))
    refine qae (fun b=>b=gt) (by kernel_rfl) ?_
    show wpE _ _ _ _ _ _ _ W6.drew
    clear M6
    generalize W6.drew=W7 at M7 ⊢
    obtain ⟨q6,q7,q8,kx,kv,kf,qw,qs,hbw,hbs,hgt,n1,n2,n3,n4,n5⟩:=M7.out.see hL
    replace qw:=qw 7
    have HL1:Hid (s'.ord.length≤1000000000):=by
     have:=I.out.room
     show _≤_
     omega
    simp only at kx kv
    refine qax 0 _ rfl (by kernel_rfl) ?_
    simp only [qkj,qkk,qkl]
    go_big_quiet_step (fail)
    refine wpQuiet_nil ?_
    refine qax 1 _ rfl (by kernel_rfl) ?_
    simp only [qkj,qkk,qkl]
    go_big_quiet_step (fail)
    refine wpQuiet_nil ?_
    refine qax 2 _ rfl (by kernel_rfl) ?_
    simp only [qkj,qkk,qkl]
    go_big_quiet_step (fail)
    refine wpQuiet_nil ?_
    refine qax 3 _ rfl (by kernel_rfl) ?_
    simp only [qkj,qkk,qkl]
    go_big_quiet_step (fail)
    refine wpQuiet_nil ?_
    refine qax 5 _ rfl (by kernel_rfl) ?_
    simp only [qkj,qkk,qkl]
    go_big_quiet_step (fail)
    refine wpQuiet_nil ?_
    refine qax 6 _ rfl (by kernel_rfl) ?_
    simp only [qkj,qkk,qkl]
    go_big_quiet_step (fail)
    refine wpQuiet_nil ?_
    refine qax 7 _ rfl (by kernel_rfl) ?_
    simp only [qkj,qkk,qkl]
    go_big_quiet_step (fail)
    refine wpQuiet_nil ?_
    refine qax 8 _ rfl (by kernel_rfl) ?_
    simp only [qkj,qkk,qkl]
    go_big_quiet_step (fail)
    refine wpQuiet_nil ?_
    refine qi1 4 9 _ _ rfl rfl (by kernel_rfl) ?_ ?_
    ·simp only [qkj,qkk,qkl]
     go_wp2_with fail
     refine ⟨qcl.refl _ _,?_⟩
     refine qag 9 _ rfl (by kernel_rfl) ?_
     simp only [qkj,qkk,qkl]
     go_wp2_with fail
     refine ⟨qcc (fun b hb=>by rw [hb];exact hgt),?_⟩
     have M8:=qkm (M7.out.grow (qaa W7 (.cells #[.int .i64 (xk:Int)] 3)))
     refine qag 10 _ rfl (by kernel_rfl) ?_
     simp only [qkj,qkk,qkl]
     refine qz3 (n:=(xk:Int)) M8.out.ord rfl rfl rfl rfl (by simp) HL1.out M8.out.Bw ?_
     intro v2 w2 h2 hg2 ha2
     have M9:=qkm (M8.out.order hg2 h2 ha2)
     have HK2:=qkm (qc8 (S:=fun b=>b=gt) hg2 (fun b hb=>by rw [hb];exact ⟨by simp;omega,n4⟩))
     have hbw2:bw<w2.heap.size:=Nat.lt_of_lt_of_le (by simp;omega) hg2.size
     have qn2:ov.ownBlock≠some bw:=fun e=>by have:=(M8.out.ord.lt bw e).1;have:=M8.out.bwB;omega
     have qw2:w2.frozen? ⟨bw,7,none⟩=false:=(qa9 hg2 (by simp;omega) qn2).trans (M8.out.wk.frozenAt 7)
     have qc2:w2.cell? ⟨bw,7,none⟩=some ov:=(qaq hg2 (by simp;omega) qn2).trans ((M8.out.see hL).2.1)
     obtain ⟨a2,c2,rfl⟩:=qa6 h2
     clear h2 hg2 ha2 qn2
     go_wp2_with fail
     refine ⟨HK2.out,?_⟩
     refine qax 11 _ rfl (by kernel_rfl) ?_
     simp only [qkj,qkk,qkl]
     go_big_quiet_step (fail)
     refine wpQuiet_nil ?_
     refine qax 12 _ rfl (by kernel_rfl) ?_
     simp only [qkj,qkk,qkl]
     go_big_quiet_step (fail)
     refine wpQuiet_nil ?_
     refine qag 13 _ rfl (by kernel_rfl) ?_
     simp only [qkj,qkk,qkl]
     go_wp2_with fail
     refine ⟨qef _ n1,?_⟩
     refine qao (by kernel_rfl) ?_ _
     clear q6 q7 q8 kx kv kf qw qs hbw hbs hgt n1 n2 n3 n4 n5 M7 M8 HK2 hbw2 qw2 qc2
     have M10:Hid (WM _ _ _ _ _ _ _ (s'.leave xk) _ _ _ _):=M9.out
     clear M9
     generalize w2.setCell ⟨bw,7,none⟩ _=W10 at M10 ⊢
     go_wp2_with fail
     go_roundg (qa2 S' (s'.leave xk))
     case rel=>exact ⟨s'.leave xk,S',_,bv,rfl,by have:=M10.out;rw [←hL] at this;have:=this.pop;rwa [hL] at this,I.out.leave⟩
     case measure=>rw [Hm.out];exact qgn _ _ _ _
    ·simp only [qkj,qkk,qkl]
     go_wp2_with fail
     refine ⟨qcc (fun b hb=>by rw [hb];exact hgt),?_⟩
     refine qag 4 _ rfl (by kernel_rfl) ?_
     simp only [qkj,qkk,qkl]
     go_wp2_with fail
     refine ⟨qcl.refl _ _,?_⟩
     have M8:=qkm (M7.out.grow (qaa W7 (.cells #[.int .i64 (xk:Int)] 3)))
     refine qag 10 _ rfl (by kernel_rfl) ?_
     simp only [qkj,qkk,qkl]
     refine qz3 (n:=(xk:Int)) M8.out.ord rfl rfl rfl rfl (by simp) HL1.out M8.out.Bw ?_
     intro v2 w2 h2 hg2 ha2
     have M9:=qkm (M8.out.order hg2 h2 ha2)
     have HK2:=qkm (qc8 (S:=fun b=>b=gt) hg2 (fun b hb=>by rw [hb];exact ⟨by simp;omega,n4⟩))
     have hbw2:bw<w2.heap.size:=Nat.lt_of_lt_of_le (by simp;omega) hg2.size
     have qn2:ov.ownBlock≠some bw:=fun e=>by have:=(M8.out.ord.lt bw e).1;have:=M8.out.bwB;omega
     have qw2:w2.frozen? ⟨bw,7,none⟩=false:=(qa9 hg2 (by simp;omega) qn2).trans (M8.out.wk.frozenAt 7)
     have qc2:w2.cell? ⟨bw,7,none⟩=some ov:=(qaq hg2 (by simp;omega) qn2).trans ((M8.out.see hL).2.1)
     obtain ⟨a2,c2,rfl⟩:=qa6 h2
     clear h2 hg2 ha2 qn2
     go_wp2_with fail
     refine ⟨HK2.out,?_⟩
     refine qax 11 _ rfl (by kernel_rfl) ?_
     simp only [qkj,qkk,qkl]
     go_big_quiet_step (fail)
     refine wpQuiet_nil ?_
     refine qax 12 _ rfl (by kernel_rfl) ?_
     simp only [qkj,qkk,qkl]
     go_big_quiet_step (fail)
     refine wpQuiet_nil ?_
     refine qag 13 _ rfl (by kernel_rfl) ?_
     simp only [qkj,qkk,qkl]
     go_wp2_with fail
     refine ⟨qef _ n1,?_⟩
     refine qao (by kernel_rfl) ?_ _
     clear q6 q7 q8 kx kv kf qw qs hbw hbs hgt n1 n2 n3 n4 n5 M7 M8 HK2 hbw2 qw2 qc2
     have M10:Hid (WM _ _ _ _ _ _ _ (s'.leave xk) _ _ _ _):=M9.out
     clear M9
     generalize w2.setCell ⟨bw,7,none⟩ _=W10 at M10 ⊢
     go_wp2_with fail
     go_roundg (qa2 S' (s'.leave xk))
     case rel=>exact ⟨s'.leave xk,S',_,bv,rfl,by have:=M10.out;rw [←hL] at this;have:=this.pop;rwa [hL] at this,I.out.leave⟩
     case measure=>rw [Hm.out];exact qgn _ _ _ _
   | cons t l=>
    obtain ⟨ht0,ht1'⟩:=hin t List.mem_cons_self
    obtain ⟨tk,rfl⟩:=Int.eq_ofNat_of_zero_le ht0
    have htk:tk<p.blks.length:=by omega
    obtain ⟨b,o,rfl,hbB,k1,k2,k3,hct⟩:=HV3.out 0 (by simp)
    simp only [List.getD_cons_zero,Nat.add_zero,List.length_cons] at hct kv hv1 ⊢
    have hbw':b<wr.heap.size:=World.block_lt_of_cell? wr _ hct
    have hbgt:b≠gt:=fun e=>k3 (by rw [e];rfl)
    clear hstk hin HV3 k1 k2 k3 ht0 ht1' q7 q8
    by_cases hvc:vc=1
    ·have hl0:l=[]:=List.eq_nil_of_length_eq_zero (by omega)
     subst hl0 hvc
     have M1:Hid (WM wp (wr.setCell ⟨gt,L*2+1,none⟩ (.slice (some ⟨b,o,none⟩) 0 0)) bw bs B p.blks.length [.string nm,.bool p.void,.int .i64 p.params,.int .i64 p.regs,vo,vb] s' ov bv (.slice (some ⟨gt,0,none⟩) (L+1) tc) (S'++[⟨(xk:Int),[],.slice (some ⟨b,o,none⟩) 0 0⟩])):=by
      have h1:=M.out
      have h2:=HO.out.drop0 (some ⟨b,o,none⟩)
      rw [←hL] at h1 h2
      have:=h1.setTop h2
      rwa [hL] at this
     clear HO
     obtain ⟨V0,hV0⟩:∃ V0,Hid (V0=Value.slice (some ⟨b,o,none⟩) [(tk:Int)].length 1):=⟨_,rfl⟩
     rw [←hV0.out] at I Hm
     have hne1:bw≠gt:=by have:=M.out.bwB;omega
     have hne2:bs≠gt:=by have:=M.out.bsB;omega
     have hne3:bw≠bs:=M.out.bne
     have hyl:Hid (s'.look (tk:Int)=s'.st.getD tk 0):=rfl
     have qt:=M.out.stAt htk
     have qtf:=M.out.st.frozenAt tk
     generalize s'.st.getD tk 0=y at hyl qt
     by_cases hy1:y=1
     ·subst hy1
      have I1:=qkm (I.out.back (.slice (some ⟨b,o,none⟩) 0 0) hyl.out)
      have hm1:Hid (qa2 (S'++[⟨(xk:Int),[],(.slice (some ⟨b,o,none⟩) 0 0)⟩]) (s'.loop xk tk)<gk):=by have:=qe2 S' xk tk [] V0 (.slice (some ⟨b,o,none⟩) 0 0) s' (s'.loop xk tk) rfl;rw [←Hm.out] at this;exact this
      have HB1:Hid (s'.back.length≤1000000000):=by
       have:=I.out.room
       show _≤_
       omega
      clear hyl I Hm M
      go_wp2_with fail
      clear qt qtf q6 kx kv kf hct hbw hbs hgt hne1 hne2 hne3
      generalize wr.setCell ⟨gt,L*2+1,none⟩ _=W6 at M1 ⊢
      have M7:=qkm (M1.out.grow (Below.drew (Below.refl _ _)))
      refine qae (fun b=>b=gt) (by kernel_rfl) ?_
      show wpE _ _ _ _ _ _ _ W6.drew
      clear M1
      generalize W6.drew=W7 at M7 ⊢
      obtain ⟨q6,q7,q8,kx,kv,kf,qw,qs,hbw,hbs,hgt,n1,n2,n3,n4,n5⟩:=M7.out.see hL
      replace qw:=qw 8
      simp only at kx kv
      refine qax 0 _ rfl (by kernel_rfl) ?_
      simp only [qkj,qkk,qkl]
      go_big_quiet_step (fail)
      refine wpQuiet_nil ?_
      refine qax 1 _ rfl (by kernel_rfl) ?_
      simp only [qkj,qkk,qkl]
      go_big_quiet_step (fail)
      refine wpQuiet_nil ?_
      refine qax 2 _ rfl (by kernel_rfl) ?_
      simp only [qkj,qkk,qkl]
      go_big_quiet_step (fail)
      refine wpQuiet_nil ?_
      refine qax 3 _ rfl (by kernel_rfl) ?_
      simp only [qkj,qkk,qkl]
      go_big_quiet_step (fail)
      refine wpQuiet_nil ?_
      refine qax 5 _ rfl (by kernel_rfl) ?_
      simp only [qkj,qkk,qkl]
      go_big_quiet_step (fail)
      refine wpQuiet_nil ?_
      refine qax 6 _ rfl (by kernel_rfl) ?_
      simp only [qkj,qkk,qkl]
      go_big_quiet_step (fail)
      refine wpQuiet_nil ?_
      refine qax 7 _ rfl (by kernel_rfl) ?_
      simp only [qkj,qkk,qkl]
      go_big_quiet_step (fail)
      refine wpQuiet_nil ?_
      refine qax 8 _ rfl (by kernel_rfl) ?_
      simp only [qkj,qkk,qkl]
      go_big_quiet_step (fail)
      refine wpQuiet_nil ?_
      refine qax 9 _ rfl (by kernel_rfl) ?_
      simp only [qkj,qkk,qkl]
      go_big_quiet_step (fail)
      refine wpQuiet_nil ?_
      refine qax 10 _ rfl (by kernel_rfl) ?_
      simp only [qkj,qkk,qkl]
      go_big_quiet_step (fail)
      refine wpQuiet_nil ?_
      refine qi1 4 11 _ _ rfl rfl (by kernel_rfl) ?_ ?_
      ·simp only [qkj,qkk,qkl]
       go_wp2_with fail
       refine ⟨qcl.refl _ _,?_⟩
       refine qag 11 _ rfl (by kernel_rfl) ?_
       simp only [qkj,qkk,qkl]
       go_wp2_with fail
       refine ⟨qcc (fun b hb=>by rw [hb];exact hgt),?_⟩
       have M8:=qkm (M7.out.grow (qaa W7 (.cells #[.int .i64 (xk:Int),.int .i64 (tk:Int)] 197)))
       refine qag 12 _ rfl (by kernel_rfl) ?_
       simp only [qkj,qkk,qkl]
       refine qz2 163 197 qf2 Try.underlying163 rfl (by decide) (y:=.int .i64 (xk:Int)) (z':=.int .i64 (tk:Int)) M8.out.back rfl rfl rfl rfl (by simp) (by simp) rfl rfl HB1.out M8.out.Bw ?_
       intro v2 w2 h2 hg2 ha2
       have M9:=qkm (M8.out.backs hg2 h2 ha2)
       have HK2:=qkm (qc8 (S:=fun b=>b=gt) hg2 (fun b hb=>by rw [hb];exact ⟨by simp;omega,n5⟩))
       have hbw2:bw<w2.heap.size:=Nat.lt_of_lt_of_le (by simp;omega) hg2.size
       have qn2:bv.ownBlock≠some bw:=fun e=>by have:=(M8.out.back.lt bw e).1;have:=M8.out.bwB;omega
       have qw2:w2.frozen? ⟨bw,8,none⟩=false:=(qa9 hg2 (by simp;omega) qn2).trans (M8.out.wk.frozenAt 8)
       have qc2:w2.cell? ⟨bw,8,none⟩=some bv:=(qaq hg2 (by simp;omega) qn2).trans ((M8.out.see hL).2.2.1)
       obtain ⟨a2,c2,rfl⟩:=qa6 h2
       clear h2 hg2 ha2 qn2
       go_wp2_with fail
       refine ⟨HK2.out,?_⟩
       refine qax 13 _ rfl (by kernel_rfl) ?_
       simp only [qkj,qkk,qkl]
       go_big_quiet_step (fail)
       refine wpQuiet_nil ?_
       refine qax 14 _ rfl (by kernel_rfl) ?_
       simp only [qkj,qkk,qkl]
       go_big_quiet_step (fail)
       refine wpQuiet_nil ?_
       refine qag 15 _ rfl (by kernel_rfl) ?_
       simp only [qkj,qkk,qkl]
       go_wp2_with fail
       refine ⟨qef _ n1,?_⟩
       refine qao (by kernel_rfl) ?_ _
       clear q6 q7 q8 kx kv kf qw qs hbw hbs hgt n1 n2 n3 n4 n5 M7 M8 HK2 hbw2 qw2 qc2
       generalize w2.setCell ⟨bw,8,none⟩ _=W10 at M9 ⊢
       go_wp2_with fail
       go_roundg (qa2 (S'++[⟨(xk:Int),[],(.slice (some ⟨b,o,none⟩) 0 0)⟩]) (s'.loop xk tk))
       case rel=>exact ⟨s'.loop xk tk,_,ov,_,rfl,M9,I1⟩
       case measure=>exact hm1.out
      ·simp only [qkj,qkk,qkl]
       go_wp2_with fail
       refine ⟨qcc (fun b hb=>by rw [hb];exact hgt),?_⟩
       refine qag 4 _ rfl (by kernel_rfl) ?_
       simp only [qkj,qkk,qkl]
       go_wp2_with fail
       refine ⟨qcl.refl _ _,?_⟩
       have M8:=qkm (M7.out.grow (qaa W7 (.cells #[.int .i64 (xk:Int),.int .i64 (tk:Int)] 197)))
       refine qag 12 _ rfl (by kernel_rfl) ?_
       simp only [qkj,qkk,qkl]
       refine qz2 163 197 qf2 Try.underlying163 rfl (by decide) (y:=.int .i64 (xk:Int)) (z':=.int .i64 (tk:Int)) M8.out.back rfl rfl rfl rfl (by simp) (by simp) rfl rfl HB1.out M8.out.Bw ?_
       intro v2 w2 h2 hg2 ha2
       have M9:=qkm (M8.out.backs hg2 h2 ha2)
       have HK2:=qkm (qc8 (S:=fun b=>b=gt) hg2 (fun b hb=>by rw [hb];exact ⟨by simp;omega,n5⟩))
       have hbw2:bw<w2.heap.size:=Nat.lt_of_lt_of_le (by simp;omega) hg2.size
       have qn2:bv.ownBlock≠some bw:=fun e=>by have:=(M8.out.back.lt bw e).1;have:=M8.out.bwB;omega
       have qw2:w2.frozen? ⟨bw,8,none⟩=false:=(qa9 hg2 (by simp;omega) qn2).trans (M8.out.wk.frozenAt 8)
       have qc2:w2.cell? ⟨bw,8,none⟩=some bv:=(qaq hg2 (by simp;omega) qn2).trans ((M8.out.see hL).2.2.1)
       obtain ⟨a2,c2,rfl⟩:=qa6 h2
       clear h2 hg2 ha2 qn2
       go_wp2_with fail
       refine ⟨HK2.out,?_⟩
       refine qax 13 _ rfl (by kernel_rfl) ?_
       simp only [qkj,qkk,qkl]
       go_big_quiet_step (fail)
       refine wpQuiet_nil ?_
       refine qax 14 _ rfl (by kernel_rfl) ?_
       simp only [qkj,qkk,qkl]
       go_big_quiet_step (fail)
       refine wpQuiet_nil ?_
       refine qag 15 _ rfl (by kernel_rfl) ?_
       simp only [qkj,qkk,qkl]
       go_wp2_with fail
       refine ⟨qef _ n1,?_⟩
       refine qao (by kernel_rfl) ?_ _
       clear q6 q7 q8 kx kv kf qw qs hbw hbs hgt n1 n2 n3 n4 n5 M7 M8 HK2 hbw2 qw2 qc2
       generalize w2.setCell ⟨bw,8,none⟩ _=W10 at M9 ⊢
       go_wp2_with fail
       go_roundg (qa2 (S'++[⟨(xk:Int),[],(.slice (some ⟨b,o,none⟩) 0 0)⟩]) (s'.loop xk tk))
       case rel=>exact ⟨s'.loop xk tk,_,ov,_,rfl,M9,I1⟩
       case measure=>exact hm1.out
     ·have hy1':(y ==1)=false:=beq_eq_false_iff_ne.2 hy1
      by_cases hy0:y=0
      ·subst hy0
       have hm1:Hid (∀ v2,qa2 (S'++[⟨(xk:Int),[],(.slice (some ⟨b,o,none⟩) 0 0)⟩]++[⟨(tk:Int),qa1 p tk,v2⟩]) (s'.enter tk)<gk):=fun v2=>by have:=qjk p S' xk tk [] V0 (.slice (some ⟨b,o,none⟩) 0 0) v2 s' (by simpa [hsl] using htk) hyl.out;rw [←Hm.out] at this;exact this
       have I1:Hid (∀ v2,WkI p f R (s'.enter tk) (S'++[⟨(xk:Int),[],(.slice (some ⟨b,o,none⟩) 0 0)⟩]++[⟨(tk:Int),qa1 p tk,v2⟩])):=fun v2=>I.out.new (.slice (some ⟨b,o,none⟩) 0 0) v2 hyl.out
       have qq:∀ j:Nat,j<6→wr.cell? ⟨bw,j,none⟩=#[.string nm,.bool p.void,.int .i64 p.params,.int .i64 p.regs,vo,vb][j]?:=fun j hj=>(M.out.wk.cellAt j (by omega)).trans (by rw [List.getElem?_append_left (by simpa using hj)];simp)
       have q0:=qq 0 (by decide)
       have q1:=qq 1 (by decide)
       have q2:=qq 2 (by decide)
       have q3:=qq 3 (by decide)
       have q4:=qq 4 (by decide)
       have q5:=qq 5 (by decide)
       simp at q0 q1 q2 q3 q4 q5
       clear qq I Hm M
       have M2:Hid (WM _ _ _ _ _ _ _ (s'.enter (tk:Int)) _ _ _ _):=M1.out.setSt tk 1
       clear M1
       go_wp2_with (first | (go_at_call 115;refine (EO.out tk _ M2.out.below htk).mono ?_;rintro e w3 ⟨v3,rfl,hr3,hb3⟩;have M3:=qkm (M2.out.grow hb3);have HA3:=qkm (qbt.of_ret M2.out hr3);obtain ⟨⟨a3,c3,rfl, -, -, -⟩, -⟩:=hr3;clear hb3;have M4:=qkm (M3.out.grow (qaa w3 (.cells #[.int .i64 (tk:Int),.slice a3 (qa1 p tk).length c3] 194)))) | (at_builtin;refine qz2 195 194 qii Try.underlying195 rfl (by decide) (y:=.int .i64 (tk:Int)) (z':=.slice a3 (qa1 p tk).length c3) M4.out.stk rfl rfl rfl rfl (by simp) (by simp) rfl rfl (by rw [List.length_append,hL,List.length_singleton];omega) M4.out.Bw ?_;intro v5 w5 h5 hg5 ha5))
       have HA4:=qkm (HA3.out.kept (World.grownBy_alloc w3 (.cells #[.int .i64 (tk:Int),.slice a3 (qa1 p tk).length c3] 194) none) (fun b e=>by cases e) (.refl _ _) (.refl _ _) (.refl _ _))
       have M5:=qkm (M4.out.push (k:=⟨(tk:Int),qa1 p tk,.slice a3 (qa1 p tk).length c3⟩) HA4.out hg5 h5 ha5)
       clear M2 M3 M4 HA3 HA4 hg5 h5 ha5
       go_roundg (qa2 (S'++[⟨(xk:Int),[],(.slice (some ⟨b,o,none⟩) 0 0)⟩]++[⟨(tk:Int),qa1 p tk,.slice a3 (qa1 p tk).length c3⟩]) (s'.enter tk))
       case rel=>exact ⟨s'.enter tk,_,ov,bv,rfl,M5,I1.out _⟩
       case measure=>exact hm1.out _
      ·have hy0':(y ==0)=false:=beq_eq_false_iff_ne.2 hy0
       have I1:=qkm (I.out.old (.slice (some ⟨b,o,none⟩) 0 0) (by rw [hyl.out];exact hy1) (by rw [hyl.out];exact hy0))
       have hm1:Hid (qa2 (S'++[⟨(xk:Int),[],(.slice (some ⟨b,o,none⟩) 0 0)⟩]) s'<gk):=by have:=qe2 S' xk tk [] V0 (.slice (some ⟨b,o,none⟩) 0 0) s' s' rfl;rw [←Hm.out] at this;exact this
       clear I Hm M
       go_wp2_with fail
       go_roundg (qa2 (S'++[⟨(xk:Int),[],(.slice (some ⟨b,o,none⟩) 0 0)⟩]) s')
       case rel=>exact ⟨s',_,ov,bv,rfl,M1,I1⟩
       case measure=>exact hm1.out
    ·have hvc1:(vc ==1)=false:=beq_eq_false_iff_ne.2 hvc
     have M1:Hid (WM wp (wr.setCell ⟨gt,L*2+1,none⟩ (.slice (some ⟨b,o+1,none⟩) l.length (vc-1))) bw bs B p.blks.length [.string nm,.bool p.void,.int .i64 p.params,.int .i64 p.regs,vo,vb] s' ov bv (.slice (some ⟨gt,0,none⟩) (L+1) tc) (S'++[⟨(xk:Int),l,.slice (some ⟨b,o+1,none⟩) l.length (vc-1)⟩])):=by
      have h1:=M.out
      have h2:=HO.out.drop1
      rw [←hL] at h1 h2
      have:=h1.setTop h2
      rwa [hL] at this
     clear HO
     obtain ⟨V0,hV0⟩:∃ V0,Hid (V0=Value.slice (some ⟨b,o,none⟩) ((tk:Int)::l).length vc):=⟨_,rfl⟩
     rw [←hV0.out] at I Hm
     have hne1:bw≠gt:=by have:=M.out.bwB;omega
     have hne2:bs≠gt:=by have:=M.out.bsB;omega
     have hne3:bw≠bs:=M.out.bne
     have hyl:Hid (s'.look (tk:Int)=s'.st.getD tk 0):=rfl
     have qt:=M.out.stAt htk
     have qtf:=M.out.st.frozenAt tk
     generalize s'.st.getD tk 0=y at hyl qt
     by_cases hy1:y=1
     ·subst hy1
      have I1:=qkm (I.out.back (.slice (some ⟨b,o+1,none⟩) l.length (vc-1)) hyl.out)
      have hm1:Hid (qa2 (S'++[⟨(xk:Int),l,(.slice (some ⟨b,o+1,none⟩) l.length (vc-1))⟩]) (s'.loop xk tk)<gk):=by have:=qe2 S' xk tk l V0 (.slice (some ⟨b,o+1,none⟩) l.length (vc-1)) s' (s'.loop xk tk) rfl;rw [←Hm.out] at this;exact this
      have HB1:Hid (s'.back.length≤1000000000):=by
       have:=I.out.room
       show _≤_
       omega
      clear hyl I Hm M
      go_wp2_with fail
      clear qt qtf q6 kx kv kf hct hbw hbs hgt hne1 hne2 hne3
      generalize wr.setCell ⟨gt,L*2+1,none⟩ _=W6 at M1 ⊢
      have M7:=qkm (M1.out.grow (Below.drew (Below.refl _ _)))
      refine qae (fun b=>b=gt) (by kernel_rfl) ?_
      show wpE _ _ _ _ _ _ _ W6.drew
      clear M1
      generalize W6.drew=W7 at M7 ⊢
      obtain ⟨q6,q7,q8,kx,kv,kf,qw,qs,hbw,hbs,hgt,n1,n2,n3,n4,n5⟩:=M7.out.see hL
      replace qw:=qw 8
      simp only at kx kv
      refine qax 0 _ rfl (by kernel_rfl) ?_
      simp only [qkj,qkk,qkl]
      go_big_quiet_step (fail)
      refine wpQuiet_nil ?_
      refine qax 1 _ rfl (by kernel_rfl) ?_
      simp only [qkj,qkk,qkl]
      go_big_quiet_step (fail)
      refine wpQuiet_nil ?_
      refine qax 2 _ rfl (by kernel_rfl) ?_
      simp only [qkj,qkk,qkl]
      go_big_quiet_step (fail)
      refine wpQuiet_nil ?_
      refine qax 3 _ rfl (by kernel_rfl) ?_
      simp only [qkj,qkk,qkl]
      go_big_quiet_step (fail)
      refine wpQuiet_nil ?_
      refine qax 5 _ rfl (by kernel_rfl) ?_
      simp only [qkj,qkk,qkl]
      go_big_quiet_step (fail)
      refine wpQuiet_nil ?_
      refine qax 6 _ rfl (by kernel_rfl) ?_
      simp only [qkj,qkk,qkl]
      go_big_quiet_step (fail)
      refine wpQuiet_nil ?_
      refine qax 7 _ rfl (by kernel_rfl) ?_
      simp only [qkj,qkk,qkl]
      go_big_quiet_step (fail)
      refine wpQuiet_nil ?_
      refine qax 8 _ rfl (by kernel_rfl) ?_
      simp only [qkj,qkk,qkl]
      go_big_quiet_step (fail)
      refine wpQuiet_nil ?_
      refine qax 9 _ rfl (by kernel_rfl) ?_
      simp only [qkj,qkk,qkl]
      go_big_quiet_step (fail)
      refine wpQuiet_nil ?_
      refine qax 10 _ rfl (by kernel_rfl) ?_
      simp only [qkj,qkk,qkl]
      go_big_quiet_step (fail)
      refine wpQuiet_nil ?_
      refine qi1 4 11 _ _ rfl rfl (by kernel_rfl) ?_ ?_
      ·simp only [qkj,qkk,qkl]
       go_wp2_with fail
       refine ⟨qcl.refl _ _,?_⟩
       refine qag 11 _ rfl (by kernel_rfl) ?_
       simp only [qkj,qkk,qkl]
       go_wp2_with fail
       refine ⟨qcc (fun b hb=>by rw [hb];exact hgt),?_⟩
       have M8:=qkm (M7.out.grow (qaa W7 (.cells #[.int .i64 (xk:Int),.int .i64 (tk:Int)] 197)))
       refine qag 12 _ rfl (by kernel_rfl) ?_
       simp only [qkj,qkk,qkl]
       refine qz2 163 197 qf2 Try.underlying163 rfl (by decide) (y:=.int .i64 (xk:Int)) (z':=.int .i64 (tk:Int)) M8.out.back rfl rfl rfl rfl (by simp) (by simp) rfl rfl HB1.out M8.out.Bw ?_
       intro v2 w2 h2 hg2 ha2
       have M9:=qkm (M8.out.backs hg2 h2 ha2)
       have HK2:=qkm (qc8 (S:=fun b=>b=gt) hg2 (fun b hb=>by rw [hb];exact ⟨by simp;omega,n5⟩))
       have hbw2:bw<w2.heap.size:=Nat.lt_of_lt_of_le (by simp;omega) hg2.size
       have qn2:bv.ownBlock≠some bw:=fun e=>by have:=(M8.out.back.lt bw e).1;have:=M8.out.bwB;omega
       have qw2:w2.frozen? ⟨bw,8,none⟩=false:=(qa9 hg2 (by simp;omega) qn2).trans (M8.out.wk.frozenAt 8)
       have qc2:w2.cell? ⟨bw,8,none⟩=some bv:=(qaq hg2 (by simp;omega) qn2).trans ((M8.out.see hL).2.2.1)
       obtain ⟨a2,c2,rfl⟩:=qa6 h2
       clear h2 hg2 ha2 qn2
       go_wp2_with fail
       refine ⟨HK2.out,?_⟩
       refine qax 13 _ rfl (by kernel_rfl) ?_
       simp only [qkj,qkk,qkl]
       go_big_quiet_step (fail)
       refine wpQuiet_nil ?_
       refine qax 14 _ rfl (by kernel_rfl) ?_
       simp only [qkj,qkk,qkl]
       go_big_quiet_step (fail)
       refine wpQuiet_nil ?_
       refine qag 15 _ rfl (by kernel_rfl) ?_
       simp only [qkj,qkk,qkl]
       go_wp2_with fail
       refine ⟨qef _ n1,?_⟩
       refine qao (by kernel_rfl) ?_ _
       clear q6 q7 q8 kx kv kf qw qs hbw hbs hgt n1 n2 n3 n4 n5 M7 M8 HK2 hbw2 qw2 qc2
       generalize w2.setCell ⟨bw,8,none⟩ _=W10 at M9 ⊢
       go_wp2_with fail
       go_roundg (qa2 (S'++[⟨(xk:Int),l,(.slice (some ⟨b,o+1,none⟩) l.length (vc-1))⟩]) (s'.loop xk tk))
       case rel=>exact ⟨s'.loop xk tk,_,ov,_,rfl,M9,I1⟩
       case measure=>exact hm1.out
      ·simp only [qkj,qkk,qkl]
       go_wp2_with fail
       refine ⟨qcc (fun b hb=>by rw [hb];exact hgt),?_⟩
       refine qag 4 _ rfl (by kernel_rfl) ?_
       simp only [qkj,qkk,qkl]
       go_wp2_with fail
       refine ⟨qcl.refl _ _,?_⟩
       have M8:=qkm (M7.out.grow (qaa W7 (.cells #[.int .i64 (xk:Int),.int .i64 (tk:Int)] 197)))
       refine qag 12 _ rfl (by kernel_rfl) ?_
       simp only [qkj,qkk,qkl]
       refine qz2 163 197 qf2 Try.underlying163 rfl (by decide) (y:=.int .i64 (xk:Int)) (z':=.int .i64 (tk:Int)) M8.out.back rfl rfl rfl rfl (by simp) (by simp) rfl rfl HB1.out M8.out.Bw ?_
       intro v2 w2 h2 hg2 ha2
       have M9:=qkm (M8.out.backs hg2 h2 ha2)
       have HK2:=qkm (qc8 (S:=fun b=>b=gt) hg2 (fun b hb=>by rw [hb];exact ⟨by simp;omega,n5⟩))
       have hbw2:bw<w2.heap.size:=Nat.lt_of_lt_of_le (by simp;omega) hg2.size
       have qn2:bv.ownBlock≠some bw:=fun e=>by have:=(M8.out.back.lt bw e).1;have:=M8.out.bwB;omega
       have qw2:w2.frozen? ⟨bw,8,none⟩=false:=(qa9 hg2 (by simp;omega) qn2).trans (M8.out.wk.frozenAt 8)
       have qc2:w2.cell? ⟨bw,8,none⟩=some bv:=(qaq hg2 (by simp;omega) qn2).trans ((M8.out.see hL).2.2.1)
       obtain ⟨a2,c2,rfl⟩:=qa6 h2
       clear h2 hg2 ha2 qn2
       go_wp2_with fail
       refine ⟨HK2.out,?_⟩
       refine qax 13 _ rfl (by kernel_rfl) ?_
       simp only [qkj,qkk,qkl]
       go_big_quiet_step (fail)
       refine wpQuiet_nil ?_
       refine qax 14 _ rfl (by kernel_rfl) ?_
       simp only [qkj,qkk,qkl]
       go_big_quiet_step (fail)
       refine wpQuiet_nil ?_
       refine qag 15 _ rfl (by kernel_rfl) ?_
       simp only [qkj,qkk,qkl]
       go_wp2_with fail
       refine ⟨qef _ n1,?_⟩
       refine qao (by kernel_rfl) ?_ _
       clear q6 q7 q8 kx kv kf qw qs hbw hbs hgt n1 n2 n3 n4 n5 M7 M8 HK2 hbw2 qw2 qc2
       generalize w2.setCell ⟨bw,8,none⟩ _=W10 at M9 ⊢
       go_wp2_with fail
       go_roundg (qa2 (S'++[⟨(xk:Int),l,(.slice (some ⟨b,o+1,none⟩) l.length (vc-1))⟩]) (s'.loop xk tk))
       case rel=>exact ⟨s'.loop xk tk,_,ov,_,rfl,M9,I1⟩
       case measure=>exact hm1.out
     ·have hy1':(y ==1)=false:=beq_eq_false_iff_ne.2 hy1
      by_cases hy0:y=0
      ·subst hy0
       have hm1:Hid (∀ v2,qa2 (S'++[⟨(xk:Int),l,(.slice (some ⟨b,o+1,none⟩) l.length (vc-1))⟩]++[⟨(tk:Int),qa1 p tk,v2⟩]) (s'.enter tk)<gk):=fun v2=>by have:=qjk p S' xk tk l V0 (.slice (some ⟨b,o+1,none⟩) l.length (vc-1)) v2 s' (by simpa [hsl] using htk) hyl.out;rw [←Hm.out] at this;exact this
       have I1:Hid (∀ v2,WkI p f R (s'.enter tk) (S'++[⟨(xk:Int),l,(.slice (some ⟨b,o+1,none⟩) l.length (vc-1))⟩]++[⟨(tk:Int),qa1 p tk,v2⟩])):=fun v2=>I.out.new (.slice (some ⟨b,o+1,none⟩) l.length (vc-1)) v2 hyl.out
       have qq:∀ j:Nat,j<6→wr.cell? ⟨bw,j,none⟩=#[.string nm,.bool p.void,.int .i64 p.params,.int .i64 p.regs,vo,vb][j]?:=fun j hj=>(M.out.wk.cellAt j (by omega)).trans (by rw [List.getElem?_append_left (by simpa using hj)];simp)
       have q0:=qq 0 (by decide)
       have q1:=qq 1 (by decide)
       have q2:=qq 2 (by decide)
       have q3:=qq 3 (by decide)
       have q4:=qq 4 (by decide)
       have q5:=qq 5 (by decide)
       simp at q0 q1 q2 q3 q4 q5
       clear qq I Hm M
       have M2:Hid (WM _ _ _ _ _ _ _ (s'.enter (tk:Int)) _ _ _ _):=M1.out.setSt tk 1
       clear M1
       go_wp2_with (first | (go_at_call 115;refine (EO.out tk _ M2.out.below htk).mono ?_;rintro e w3 ⟨v3,rfl,hr3,hb3⟩;have M3:=qkm (M2.out.grow hb3);have HA3:=qkm (qbt.of_ret M2.out hr3);obtain ⟨⟨a3,c3,rfl, -, -, -⟩, -⟩:=hr3;clear hb3;have M4:=qkm (M3.out.grow (qaa w3 (.cells #[.int .i64 (tk:Int),.slice a3 (qa1 p tk).length c3] 194)))) | (at_builtin;refine qz2 195 194 qii Try.underlying195 rfl (by decide) (y:=.int .i64 (tk:Int)) (z':=.slice a3 (qa1 p tk).length c3) M4.out.stk rfl rfl rfl rfl (by simp) (by simp) rfl rfl (by rw [List.length_append,hL,List.length_singleton];omega) M4.out.Bw ?_;intro v5 w5 h5 hg5 ha5))
       have HA4:=qkm (HA3.out.kept (World.grownBy_alloc w3 (.cells #[.int .i64 (tk:Int),.slice a3 (qa1 p tk).length c3] 194) none) (fun b e=>by cases e) (.refl _ _) (.refl _ _) (.refl _ _))
       have M5:=qkm (M4.out.push (k:=⟨(tk:Int),qa1 p tk,.slice a3 (qa1 p tk).length c3⟩) HA4.out hg5 h5 ha5)
       clear M2 M3 M4 HA3 HA4 hg5 h5 ha5
       go_roundg (qa2 (S'++[⟨(xk:Int),l,(.slice (some ⟨b,o+1,none⟩) l.length (vc-1))⟩]++[⟨(tk:Int),qa1 p tk,.slice a3 (qa1 p tk).length c3⟩]) (s'.enter tk))
       case rel=>exact ⟨s'.enter tk,_,ov,bv,rfl,M5,I1.out _⟩
       case measure=>exact hm1.out _
      ·have hy0':(y ==0)=false:=beq_eq_false_iff_ne.2 hy0
       have I1:=qkm (I.out.old (.slice (some ⟨b,o+1,none⟩) l.length (vc-1)) (by rw [hyl.out];exact hy1) (by rw [hyl.out];exact hy0))
       have hm1:Hid (qa2 (S'++[⟨(xk:Int),l,(.slice (some ⟨b,o+1,none⟩) l.length (vc-1))⟩]) s'<gk):=by have:=qe2 S' xk tk l V0 (.slice (some ⟨b,o+1,none⟩) l.length (vc-1)) s' s' rfl;rw [←Hm.out] at this;exact this
       clear I Hm M
       go_wp2_with fail
       go_roundg (qa2 (S'++[⟨(xk:Int),l,(.slice (some ⟨b,o+1,none⟩) l.length (vc-1))⟩]) s')
       case rel=>exact ⟨s',_,ov,bv,rfl,M1,I1⟩
       case measure=>exact hm1.out
end Go.Proofs.Ytmcddolkpcgddaa
