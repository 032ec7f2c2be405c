/-
hazard: what is told of a pass through a block: what stays.
-/
import Derived.Test.YtmcddolkpcgddaaZHazardFinds26
set_option maxHeartbeats 4000000
set_option maxRecDepth 100000
set_option linter.all false
namespace Go.Proofs.Ytmcddolkpcgddaa
open Go.ChangeShapes Go.WideShapes Go.ChangeAt Go.RowKit
section
theorem qs9 (L R:Nat):∀ u∈qb7 L R,u.oneCell'=true:=fun u hu=>by
 unfold qb7 at hu
 rw [List.mem_map] at hu
 obtain ⟨j, -,rfl⟩:=hu
 rfl
theorem qwz (g c L R:Nat) (w:World) (h:qb3 w g c L R) (hl:L≤1000000) :
  Calls Try.prog 72 #[.slice (some ⟨g,0,none⟩) L c] w fun e w'=>∃ g' c',e=.returned (.slice (some ⟨g',0,none⟩) L c')∧qb3 w' g' c' L R∧w.heap.size≤g'∧Below w.heap.size w w':=by
 have hnil:=fun w=>Lib.run_eql_slice_nil (P:=Try.prog) w 87 134 (some ⟨g,0,none⟩) L c 0 0 Try.underlying87
 obtain ⟨i0,hi,hz0,hz1,hz2⟩:=info_parts qh3
 have HC:Hid (∀ j u,(qb7 L R)[j]?=some u→(w.alloc (.cells #[] 134)).cell? ((⟨g,0,none⟩:Addr).add j)=some u):=fun j u hj=>by
  rw [add_plain,Nat.zero_add]
  have hjl:j<L:=by have:=(List.getElem?_eq_some_iff.1 hj).1;rwa [qcq] at this
  have hx:w.cell? ⟨g,j,none⟩=some u:=by
   have:=(h.cell hjl).1
   rw [this,←hj,qh7 L R j hjl]
  exact ((qaa w _).cell (p:=⟨g,j,none⟩) (World.block_lt_of_cell? w _ hx)).trans hx
 have h1:=qs9 L R
 have hlen:=qcq L R
 have hlen1:(qb7 L R).length=L*1:=by rw [hlen,Nat.mul_one]
 clear h hlen
 unfold qb3
 generalize qb7 L R=xs at *
 go_enter Try.func72,Try.ntmps72
 go_wp2_with (at_builtin;refine wpList_append_own _ rfl _ _ 87 rfl w.heap.size 134 i0 (.int .u64 0) 1 8 Try.underlying87 hi hz0 hz1 hz2 rfl (by decide) (.slice (some ⟨w.heap.size,0,none⟩) 0 0) 0 [] rfl (World.ownsRow_made w #[] 0 (Nat.le_refl _) (by simp [maxLen]) (by simp)) ⟨g,0,none⟩ L c xs rfl hlen1 HC.out h1 (by unfold maxLen;omega) (by omega) (by simp) ?_;intro v' w1 hown hgrow hnn)
 simp only [Nat.zero_add,List.nil_append] at hown
 have hnv:v'≠.slice none 0 0:=fun e=>by
  have:=hnn.1 e
  simp at this
 have hB:=(qaa w (.cells #[] 134)).grown hgrow (by simp) fun k hk=>by simp [Value.ownBlock] at hk;omega
 obtain ⟨e1,⟨e2, -⟩|⟨g',cap,cur,rfl,hb,hg,r⟩⟩:=hown
 ·exact absurd e2 hnv
 ·go_ret
  exact ⟨g',cap,rfl,⟨e1,.inr ⟨g',cap,cur,rfl,Nat.zero_le _,hg,r⟩⟩,hb,hB⟩
theorem quz (w:World):(zeroValue 134).run Try.prog w=.ok (.int .u64 0) w:=by
 obtain ⟨i0,hi,hz0,hz1,hz2⟩:=info_parts qh3
 simp [zeroValue,typeInfo,hi,hz0]
theorem ql1 {B e n g cap:Nat} {z:Value}:∀ (m k:Nat) (xs:List Value) (w:World),k+m≤xs.length→w.ownsRow B e 1 (.slice (some ⟨g,0,none⟩) n cap) n xs→
  (w.setCells g k (List.replicate m z)).ownsRow B e 1 (.slice (some ⟨g,0,none⟩) n cap) n (xs.take k++List.replicate m z++xs.drop (k+m))∧But g w (w.setCells g k (List.replicate m z))
 | 0,k,xs,w,_,h=>by
  refine ⟨?_,But.refl _ _⟩
  rw [List.replicate_zero,List.append_nil,Nat.add_zero,List.take_append_drop]
  exact h
 | m+1,k,xs,w,hk,h=>by
  obtain ⟨h1,h2⟩:=ql1 (z:=z) m (k+1) (xs.set k z) (w.setCell ⟨g,k,none⟩ z) (by rw [List.length_set];omega) (World.ownsRow.stored h k z).1
  refine ⟨?_,(But.setCell g k w z).trans h2⟩
  have e:(xs.set k z).take (k+1)++List.replicate m z++(xs.set k z).drop (k+1+m)=xs.take k++List.replicate (m+1) z++xs.drop (k+(m+1)):=by
   rw [List.drop_set_of_lt (by omega),List.take_set,List.take_succ_eq_append_getElem (by omega),show k+1+m=k+(m+1) by omega,List.replicate_succ]
   rw [List.set_append_right _ _ (by rw [List.length_take];omega),List.length_take,Nat.min_eq_left (by omega),Nat.sub_self]
   simp
  rw [e] at h1
  exact h1
theorem qnj (L:Nat):qb7 L 0=List.replicate L (.int .u64 0):=by
 apply List.ext_getElem (by simp [qb7])
 intro i h1 h2
 simp [qb7,qsr]
theorem qb3.clear {w:World} {g c L R:Nat} (h:qb3 w g c L R):∃ w',(∀ ty,(Builtin.clear_ #[87] ty #[.slice (some ⟨g,0,none⟩) L c]).run Try.prog w=.ok (.tuple #[]) w')∧qb3 w' g c L 0∧But g w w':=by
 by_cases h0:L=0
 ·subst h0
  refine ⟨w,fun ty=>by simp [Builtin.clear_,run_underlying Try.underlying87],?_,But.refl _ _⟩
  have e:qb7 0 R=qb7 0 0:=rfl
  unfold qb3 at h ⊢
  rw [←e];exact h
 ·obtain ⟨h1,h2⟩:=ql1 (z:=.int .u64 0) L 0 _ w (by rw [qcq];omega) h
  refine ⟨_,fun ty=>Lib.run_clear_slice w 87 134 ty (.int .u64 0) Try.underlying87 quz rfl rfl g 0 L c (by omega) (fun j hj=>by rw [Nat.zero_add,(h.cell hj).1];rfl) (fun j hj=>by rw [Nat.zero_add,(h.cell hj).2]),?_,h2⟩
  unfold qb3
  rw [qnj]
  simpa [qcq,List.drop_of_length_le] using h1
end
section
end
section
end
section
def qhc (N:Nat) (F:Nat→List Int) (n:Nat) (r:List Int):List (List Int):=(List.range N).map fun t=>if t<n then F t else if t=n then r else []
theorem qvi (N:Nat) (F:Nat→List Int) (n:Nat) (r:List Int):(qhc N F n r).length=N:=by simp [qhc]
theorem qon (N:Nat) (F:Nat→List Int) (n:Nat) (r:List Int) {t:Nat} (h:t<N):(qhc N F n r).getD t []=if t<n then F t else if t=n then r else []:=by
 simp [qhc,List.getD,h]
theorem qrn (N:Nat) (F:Nat→List Int) (n:Nat) (r:List Int) (h:n<N):(qhc N F n r).getD n []=r:=by
 rw [qon _ _ _ _ h,if_neg (Nat.lt_irrefl n),if_pos rfl]
theorem q1o (N:Nat) (F:Nat→List Int):qhc N F 0 []=List.replicate N []:=by
 apply List.ext_getElem
 ·simp [qhc]
 ·intro i h1 h2
  simp [qhc]
theorem que (N:Nat) (F:Nat→List Int) (n:Nat) (r r':List Int):(qhc N F n r).set n r'=qhc N F n r':=by
 apply List.ext_getElem
 ·simp [qhc]
 ·intro i h1 h2
  rw [List.getElem_set]
  simp only [qhc,List.getElem_map,List.getElem_range]
  by_cases e:n=i
  ·subst e;simp
  ·rw [if_neg e];simp [Ne.symm e]
theorem qs0 (N:Nat) (F:Nat→List Int) (n:Nat):qhc N F n (F n)=qhc N F (n+1) []:=by
 unfold qhc
 refine List.map_congr_left fun t _=>?_
 by_cases h:t<n
 ·rw [if_pos h,if_pos (by omega)]
 ·by_cases e:t=n
  ·subst e;simp
  ·rw [if_neg h,if_neg e,if_neg (by omega)];simp
theorem qvd (N:Nat) (F:Nat→List Int) (r:List Int):qhc N F N r=(List.range N).map F:=by
 unfold qhc
 refine List.map_congr_left fun t ht=>?_
 rw [if_pos (List.mem_range.1 ht)]
theorem qbd.zero {w:World} {a:Option Addr} {n c:Nat} {L:List In} (h1:L.length=0) (h2:n=0) (h3:c≤maxLen):qbd w (.slice a n c) L:=⟨a,c,by rw [h1,h2],by omega,h3,fun i hi=>by omega⟩
theorem qbd.drop {w:World} {b o n c:Nat} {L:List In} (h:qbd w (.slice (some ⟨b,o,none⟩) n c) L) {k:Nat} (hk:k≤L.length):qbd w (.slice (some ⟨b,o+k*11,none⟩) (n-k) (c-k)) (L.drop k):=by
 obtain ⟨a',c',e,h1,h2,h3⟩:=h
 simp only [Value.slice.injEq] at e
 obtain ⟨rfl,rfl,rfl⟩:=e
 refine ⟨_,_,by rw [List.length_drop],by rw [List.length_drop];omega,by omega,fun i hi=>?_⟩
 rw [List.length_drop] at hi
 obtain ⟨b',o',e,hc⟩:=h3 (k+i) (by omega)
 simp only [Option.some.injEq,Addr.mk.injEq,and_true] at e
 obtain ⟨rfl,rfl⟩:=e
 refine ⟨b,o+k*11,rfl,?_⟩
 show InC w (fun j=>w.cell? ⟨b,o+k*11+i*11+j,none⟩) ((L.drop k).getD i default)
 have e2:(L.drop k).getD i default=L.getD (k+i) default:=by simp [List.getD]
 rw [e2]
 have e3:∀ j,o+k*11+i*11+j=o+(k+i)*11+j:=fun j=>by omega
 simp only [e3]
 exact hc
def q25 (n:Nat) (vs:List Value) (bx:Nat):Prop:=∀ i,i<n→(vs.getD i undef).ownBlock≠some bx
theorem q25.keep {n:Nat} {vs:List Value} {bx gP:Nat} {w w':World} {v':Value} {j:Nat} (h:q25 n vs bx) (hj:j<n) (hb:bx<w.heap.size) (hg:w.grownBy w' (vs.getD j undef).ownBlock) (hgp:bx≠gP):(w'.setCell ⟨gP,j,none⟩ v').heap[bx]?=w.heap[bx]? :=
 (Below.heap_setCell w' ⟨gP,j,none⟩ v' bx hgp).trans (hg.block bx hb (fun e=>h j hj e.symm))
end
section
attribute [local go_sem] Oper.semAt_some
section
variable {W0 w w':World} {gP B n:Nat} {vs:List Value} {rows:List (List Int)}
theorem PT.other (h:PT W0 w gP B n vs rows) {g:Nat} (hg:w.grownBy w' (some g)) (h0:W0.heap.size≤g) (hgp:gP≠g) (hr:∀ i,i<n→(vs.getD i undef).ownBlock≠some g):PT W0 w' gP B n vs rows :=
 ⟨qba h.below (by have:=h.Bw;have:=h.gB;have:=h.g0;omega) hg (fun b e=>by cases e;exact h0),World.ownsRow.kept h.tab hg (.inr (by simpa [Value.ownBlock] using hgp)),fun j hj=>World.ownsRow.kept (h.row j hj) hg (.inr (hr j hj)),h.ne,h.g0,h.gB,Nat.le_trans h.Bw hg.size,h.len⟩
end
def q3d (lo hi:Nat) (n:Nat) (vs:List Value) (pre:List EX):Prop:=∀ i,i<n→∀ b,(vs.getD i undef).ownBlock=some b→b<lo∨(hi≤b∧pre≠[]∧∀ y∈pre,y.g≠b)
structure IdI (W0 w4:World) (gP lo n:Nat) (ds:List Nat) (F:Nat→List Int) (k:Nat) (r:List Int) (pre:List EX) (vs:List Value) (W:World):Prop where
 pt:PT W0 W gP (gP+2) n vs (qhc n F k r)
 far:q3d lo (w4.heap.size+1+1) n vs pre
 keep:∀ b,b<w4.heap.size→(b=gP+1∨lo≤b∨b∈ds)→W.heap[b]?=w4.heap[b]?
 size:w4.heap.size≤W.heap.size
section
variable {W0 w4 W W':World} {gP lo n:Nat} {ds:List Nat} {F:Nat→List Int} {k:Nat} {r:List Int} {pre:List EX} {vs:List Value}
theorem IdI.below (h:IdI W0 w4 gP lo n ds F k r pre vs W) (hb:Below W.heap.size W W'):IdI W0 w4 gP lo n ds F k r pre vs W' :=
 ⟨h.pt.grow hb,h.far,fun b hb1 hb2=>(hb.block b (Nat.lt_of_lt_of_le hb1 h.size)).trans (h.keep b hb1 hb2),Nat.le_trans h.size hb.size⟩
theorem IdI.other (h:IdI W0 w4 gP lo n ds F k r pre vs W) {g:Nat} (hg:W.grownBy W' (some g)) (h1:w4.heap.size≤g) (h2:∀ i,i<n→(vs.getD i undef).ownBlock≠some g) (hgp:gP<w4.heap.size) (hw:W0.heap.size≤gP):IdI W0 w4 gP lo n ds F k r pre vs W' :=
 ⟨h.pt.other hg (by omega) (by omega) h2,h.far,fun b hb1 hb2=>(hg.block b (Nat.lt_of_lt_of_le hb1 h.size) (fun e=>by cases e;omega)).trans (h.keep b hb1 hb2),Nat.le_trans h.size hg.size⟩
theorem IdI.st (h:IdI W0 w4 gP lo n ds F k r pre vs W) (hs:StE (w4.heap.size+1+1) pre W W') (hgp:gP<w4.heap.size) (hw:W0.heap.size≤gP) (hlo:lo≤w4.heap.size):IdI W0 w4 gP lo n ds F k r pre vs W':=by
 cases pre with
 | nil=>exact h.below hs
 | cons x l=>
  obtain ⟨h1,h2⟩:=hs
  refine h.other (g:=x.g) ⟨h2.os,h2.tape,h2.output,h2.size,fun b hb hne=>h2.block b hb (fun e=>hne (by rw [e]))⟩ (by omega) (fun i hi e=>?_) hgp hw
  rcases h.far i hi _ e with h3|⟨-, -,h3⟩
  ·omega
  ·exact h3 x (List.mem_cons_self ..) rfl
theorem IdI.pass {x:EX} (h:IdI W0 w4 gP lo n ds F k r pre vs W) (hrx:∀ i,i<n→(vs.getD i undef).ownBlock≠some x.g):IdI W0 w4 gP lo n ds F k r (pre++[x]) vs W :=
 ⟨h.pt,fun i hi b e=>by
   rcases h.far i hi b e with h1|⟨h1,h2,h3⟩
   ·exact .inl h1
   ·refine .inr ⟨h1,by simp,fun z hz=>?_⟩
    rcases List.mem_append.1 hz with hz|hz
    ·exact h3 z hz
    ·rw [List.mem_singleton.1 hz];intro e2;exact hrx i hi (by rw [e,←e2]),h.keep,h.size⟩
theorem IdI.off {x:EX} {L:List In} {lo':List Bool} {R:Nat} {We:World} (h:IdI W0 w4 gP lo n ds F k r pre vs W) (hp:PrE We (w4.heap.size+1+1) L lo' R pre x W) (hlo:lo≤w4.heap.size):∀ i,i<n→(vs.getD i undef).ownBlock≠some x.g:=fun i hi e=>by
 rcases h.far i hi _ e with h1|⟨h1,h2,h3⟩
 ·have:=hp.g;omega
 ·cases pre with
  | nil=>exact h2 rfl
  | cons y l=>exact h3 y (List.mem_cons_self ..) (hp.same y (List.mem_cons_self ..))
end
def qnv (ds:List Nat):List Deferred:=ds.map fun D=>{ target:=.collected D,args:=#[] }
theorem qaz {P:Program} {n:Nat} {fn:Func} {R:Ending→World→Prop} {tmps:Array Value} {v:Value} (ds:List Nat):∀ (w:World),ds.Nodup→(∀ D∈ds,w.heap[D]?=some (.deferred (some [])))→
  (∀ w',(w'.os=w.os∧w'.tape=w.tape∧w'.output=w.output∧w'.heap.size=w.heap.size)→(∀ b,b ∉ ds→w'.heap[b]?=w.heap[b]?)→(results fn tmps).run P w'=.ok v w'∧R (.returned v) w')→bodyPostM Fence.wide n P fn R .ret { tmps:=tmps,defers:=qnv ds } w:=by
 intro w hn hd hr
 show LeavesInM Fence.wide n P fn tmps R (qnv ds) .returning w
 induction ds generalizing w with
 | nil=>
  obtain ⟨h1,h2⟩:=hr w ⟨rfl,rfl,rfl,rfl⟩ (fun _ _=>rfl)
  exact ⟨v,h1,h2⟩
 | cons D ds ih=>
  rw [List.nodup_cons] at hn
  refine ⟨by simp,.inl ⟨_,_,rfl,run_takeDeferred (hd D (List.mem_cons_self ..)),ih _ hn.2 (fun E hE=>?_) (fun w' h1 h2=>hr w' ?_ fun b hb=>?_)⟩⟩
  ·have hne:E≠D:=fun e=>hn.1 (e ▸ hE)
   exact (World.putObj_heap_other hne).trans (hd E (List.mem_cons_of_mem _ hE))
  ·obtain ⟨a,b,c,d⟩:=h1
   exact ⟨a,b,c,by rw [d];simp⟩
  ·rw [List.mem_cons,not_or] at hb
   exact (h2 b hb.2).trans (World.putObj_heap_other hb.1)
end
section
structure KpA (A B:World):Prop where
 keep:∀ b,b<A.heap.size→(∃ cs ty,A.heap[b]?=some (.cells cs ty)∧(ty=3∨ty=45))→B.heap[b]?=A.heap[b]?
structure KpD (A B:World):Prop where
 os:B.os=A.os
 tape:B.tape=A.tape
 output:B.output=A.output
 size:A.heap.size≤B.heap.size
 keep:∀ b,b<A.heap.size→(∀ cs ty fr,A.heap[b]?=some (.cells cs ty fr)→ty≠3∧ty≠45)→B.heap[b]?=A.heap[b]?
theorem KpA.below {A B:World} (h:Below A.heap.size A B):KpA A B:=⟨fun b hb _=>h.block b hb⟩
theorem KpA.trans {A B C:World} (h:KpA A B) (hs:A.heap.size≤B.heap.size) (k:KpA B C):KpA A C:=⟨fun b hb hc=>by
 have e:=h.keep b hb hc
 obtain ⟨cs,ty,h1,h2⟩:=hc
 exact (k.keep b (by omega) ⟨cs,ty,e.trans h1,h2⟩).trans e⟩
theorem KpA.but {A B:World} {g:Nat} (h:But g A B) {cs:Array Value} {ty:TypeId} {fr:Nat×Nat} (hg:A.heap[g]?=some (.cells cs ty fr)) (h1:ty≠3) (h2:ty≠45):KpA A B:=⟨fun b hb hc=>h.block b hb fun e=>by
 obtain ⟨c2,t2,e1,e2⟩:=hc
 rw [e,hg] at e1
 simp only [Option.some.injEq,Obj.cells.injEq] at e1
 rcases e2 with e2|e2
 ·exact h1 (e1.2.1.trans e2)
 ·exact h2 (e1.2.1.trans e2)⟩
theorem KpD.cells {A B:World} (h:KpD A B) {b:Nat} {cs:Array Value} {ty:TypeId} {fr:Nat×Nat} (hb:A.heap[b]?=some (.cells cs ty fr)) (h1:ty≠3) (h2:ty≠45):B.heap[b]?=some (.cells cs ty fr) :=
 (h.keep b (qkp hb).1 fun c2 t2 f2 e=>by
   rw [hb] at e
   simp only [Option.some.injEq,Obj.cells.injEq] at e
   exact ⟨e.2.1 ▸ h1,e.2.1 ▸ h2⟩).trans hb
theorem KpD.mark {A B:World} (h:KpD A B) {b:Nat} {o:Obj} (hb:A.heap[b]?=some o) (hn:∀ cs ty fr,o≠.cells cs ty fr):B.heap[b]?=some o :=
 (h.keep b (qkp hb).1 fun c2 t2 f2 e=>absurd (Option.some.inj (hb.symm.trans e)) (hn _ _ _)).trans hb
theorem KpD.row {A B:World} (h:KpD A B) {g c L R:Nat} (hr:qb3 A g c L R):qb3 B g c L R:=by
 obtain ⟨cur,hg⟩:=hr.heap
 have e:=h.cells hg (by decide) (by decide)
 obtain ⟨h1,h2|⟨g',cap,cur',h3,h4,h5,r⟩⟩:=hr
 ·exact ⟨h1,.inl h2⟩
 ·have h3':=h3
  simp only [Value.slice.injEq,Option.some.injEq,Addr.mk.injEq,and_true,true_and] at h3'
  obtain ⟨rfl, -⟩:=h3'
  refine ⟨h1,.inr ⟨g,cap,cur',h3,h4,?_,r⟩⟩
  rw [e,←hg,h5]
theorem KpD.refl (A:World):KpD A A:=⟨rfl,rfl,rfl,Nat.le_refl _,fun _ _ _=>rfl⟩
structure qjq (FD:World→Prop) (I:Nat→World→Prop) (w:World) (bk:Obj) (gh ch b8 L H k:Nat) (ds:List Nat) (W:World):Prop where
 fd:FD W
 row:qb3 W gh ch L H
 b7:W.heap[w.heap.size]?=some bk
 b8:W.heap[b8]?=some (.cells #[.slice (some ⟨gh,0,none⟩) L ch] 87)
 it:I k W
 nd:ds.Nodup
 df:∀ D∈ds,W.heap[D]?=some (.deferred (some []))
 ge:∀ D∈ds,w.heap.size≤D
 gB:w.heap.size≤gh
 le:w.heap.size≤W.heap.size
structure EaH (FD:World→Prop) (I:Nat→World→Prop) (w:World) (L:Nat):Prop where
 below:∀ W W',FD W→Below W.heap.size W W'→FD W'
 row:∀ W W' g c R,FD W→w.heap.size≤g→qb3 W g c L R→But g W W'→FD W'
 it:∀ k W W',I k W→Below w.heap.size W W'→KpA W W'→I k W'
 mrk:∀ W W',FD W→Below w.heap.size W W'→(∀ (b:Nat) (cs:Array Value) (ty:TypeId),W.heap[b]?=some (.cells cs ty)→W'.heap[b]?=some (.cells cs ty))→FD W'
theorem qdz {W W':World} (hk:∀ (b:Nat) (cs:Array Value) (ty:TypeId),W.heap[b]?=some (.cells cs ty)→W'.heap[b]?=some (.cells cs ty)) {B s n:Nat} {e:TypeId} {v:Value} {xs:List Value} (h:W.ownsRow B e s v n xs):W'.ownsRow B e s v n xs:=by
 obtain ⟨h1,h2|⟨g,cap,cur,h3,h4,h5,r⟩⟩:=h
 ·exact ⟨h1,.inl h2⟩
 ·exact ⟨h1,.inr ⟨g,cap,cur,h3,h4,hk _ _ _ h5,r⟩⟩
theorem FdM.cellsK {w0 W W':World} {bf bv L:Nat} {nm:ByteArray} {p:Pr} {vo vb vs vl vf vg:Value} {LL:List In} {F:List Int} {rs:List (Nat×Nat)} {X:List Nat} (h:FdM w0 bf nm p vo vb bv vs vl vf vg LL F rs X L W) (hb:Below w0.heap.size w0 W') (hk:∀ (b:Nat) (cs:Array Value) (ty:TypeId),W.heap[b]?=some (.cells cs ty)→W'.heap[b]?=some (.cells cs ty)):FdM w0 bf nm p vo vb bv vs vl vf vg LL F rs X L W':=by
 obtain ⟨K,hK,hL⟩:=h.lo
 exact ⟨hk _ _ _ h.box,⟨K,⟨qdz hk hK.own,hK.args⟩,hL⟩,qdz hk h.fr,⟨h.tb.len,qdz hk h.tb.tab,fun i hi=>⟨qdz hk (h.tb.row i hi).1,(h.tb.row i hi).2⟩,h.tb.inj⟩,hb,h.hB⟩
section
variable {FD:World→Prop} {I:Nat→World→Prop} {w W W':World} {bk:Obj} {gh ch b8 L H k:Nat} {ds:List Nat}
theorem qjq.below (h:qjq FD I w bk gh ch b8 L H k ds W) (hh:EaH FD I w L) (hb:Below W.heap.size W W'):qjq FD I w bk gh ch b8 L H k ds W':=by
 have key:∀ {b:Nat} {o:Obj},W.heap[b]?=some o→W'.heap[b]?=some o:=fun {b o} hc=>(hb.block b (qkp hc).1).trans hc
 exact ⟨hh.below _ _ h.fd hb,h.row.below hb,key h.b7,key h.b8,hh.it _ _ _ h.it (hb.mono h.le) (KpA.below hb),h.nd,fun D hD=>key (h.df D hD),h.ge,h.gB,Nat.le_trans h.le hb.size⟩
theorem qjq.turn (h:qjq FD I w bk gh ch b8 L H k ds W) (hh:EaH FD I w L) {R:Nat} (hb:But gh W W') (hr:qb3 W' gh ch L R) (hk:∃ cs ty,bk=.cells cs ty∧ty≠134):qjq FD I w bk gh ch b8 L R k ds W':=by
 obtain ⟨cur,hg⟩:=h.row.heap
 have key:∀ {b:Nat} {cs:Array Value} {ty:TypeId},ty≠134→W.heap[b]?=some (.cells cs ty)→W'.heap[b]?=some (.cells cs ty):=fun {b cs ty} hne hc=>by
  refine (hb.block b (qkp hc).1 fun e=>?_).trans hc
  rw [e,hg] at hc
  simp only [Option.some.injEq,Obj.cells.injEq] at hc
  exact hne hc.2.1.symm
 obtain ⟨cs,ty,rfl,hty⟩:=hk
 refine ⟨hh.row _ _ _ _ _ h.fd h.gB h.row hb,hr,key hty h.b7,key (by decide) h.b8,hh.it _ _ _ h.it (hb.toBelow h.gB h.le) (KpA.but hb hg (by decide) (by decide)),h.nd,fun D hD=>?_,h.ge,h.gB,Nat.le_trans h.le hb.size⟩
 refine (hb.block D (qkp (h.df D hD)).1 fun e=>?_).trans (h.df D hD)
 have hc:=h.df D hD
 rw [e,hg] at hc
 cases hc
theorem qjq.mark (h:qjq FD I w bk gh ch b8 L H k ds W) {D:Nat} (hD:W.heap[D]?=some (.deferred (some []))) (hn:D ∉ ds) (hB:w.heap.size≤D):qjq FD I w bk gh ch b8 L H k (D::ds) W :=
 ⟨h.fd,h.row,h.b7,h.b8,h.it,List.nodup_cons.2 ⟨hn,h.nd⟩,fun E hE=>by
   rcases List.mem_cons.1 hE with rfl|hE
   ·exact hD
   ·exact h.df E hE,fun E hE=>by
   rcases List.mem_cons.1 hE with rfl|hE
   ·exact hB
   ·exact h.ge E hE,h.gB,h.le⟩
theorem qjq.done (h:qjq FD I w bk gh ch b8 L H k ds W) (hk:∃ cs ty,bk=.cells cs ty∧ty≠3∧ty≠45) (hd:KpD W W') (hf:FD W') (hi:I (k+1) W'):qjq FD I w bk gh ch b8 L H (k+1) ds W':=by
 obtain ⟨cs,ty,rfl,h1,h2⟩:=hk
 exact ⟨hf,hd.row h.row,hd.cells h.b7 h1 h2,hd.cells h.b8 (by decide) (by decide),hi,h.nd,fun D hD=>hd.mark (h.df D hD) (fun _ _ _ e=>by cases e),h.ge,h.gB,Nat.le_trans h.le hd.size⟩
theorem qjq.leave (h:qjq FD I w bk gh ch b8 L H k ds W) (hh:EaH FD I w L) (h1:W'.os=W.os∧W'.tape=W.tape∧W'.output=W.output∧W'.heap.size=W.heap.size) (h2:∀ b,b ∉ ds→W'.heap[b]?=W.heap[b]?):qb3 W' gh ch L H∧I k W'∧FD W'∧w.heap.size≤W'.heap.size:=by
 have hn:∀ (b:Nat) (cs:Array Value) (ty:TypeId),W.heap[b]?=some (.cells cs ty)→W'.heap[b]?=some (.cells cs ty):=fun b cs ty hc=>(h2 b fun hD=>by rw [h.df b hD] at hc;cases hc).trans hc
 have hb:Below w.heap.size W W':=⟨h1.1,h1.2.1,h1.2.2.1,by omega,fun b hb=>h2 b fun hD=>by have:=h.ge b hD;omega⟩
 exact ⟨qdz hn h.row,hh.it _ _ _ h.it hb ⟨fun b hb hc=>by obtain ⟨cs,ty,hc, -⟩:=hc;rw [hc];exact hn _ _ _ hc⟩,hh.mrk _ _ h.fd hb hn,by have:=h.le;omega⟩
end
end
end Go.Proofs.Ytmcddolkpcgddaa
