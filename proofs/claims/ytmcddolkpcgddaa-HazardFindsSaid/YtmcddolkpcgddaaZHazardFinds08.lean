/-
Into which things registers may point, as plain data: two ways to reckon it, round by round, that come to the same least answer.
-/
import Derived.Test.YtmcddolkpcgddaaZHazardFinds07
set_option maxHeartbeats 2000000
set_option maxRecDepth 20000
set_option linter.all false
namespace Go.Proofs.Ytmcddolkpcgddaa
open Go.ChangeShapes Go.WideShapes Go.ChangeAt Go.RowKit
section
open Go Go.RowKit
theorem qjb (l:List Int) (n x v:Int) (h:n.toNat<l.length):(l.set n.toNat v).getD x.toNat 0=if x.toNat=n.toNat then v else l.getD x.toNat 0:=by
 simp only [List.getD,List.getElem?_set]
 by_cases e:n.toNat=x.toNat
 ·rw [if_pos e,if_pos h,if_pos e.symm];rfl
 ·rw [if_neg e,if_neg (Ne.symm e)]
theorem qez {s:S3} {n:Int} (h:n.toNat<s.st.length) (x:Int):(s.enter n).look x=if x.toNat=n.toNat then 1 else s.look x:=qjb s.st n x 1 h
structure DI (p:Pr) (s:S3):Prop where
 len:s.st.length=p.blks.length
 tri:∀ x,s.look x=0∨s.look x=1∨s.look x=2
 bk:∀ y t,(y,t)∈s.back→0≤y∧s.look y≠0
 od:∀ x,x∈s.ord↔0≤x∧x<p.blks.length∧s.look x=2
 nd:s.ord.Nodup
 ed:∀ i,i<s.ord.length→∀ t∈qa1 p (s.ord.getD i 0).toNat,((s.ord.getD i 0,t)∈s.back↔t ∉ s.ord.take i)
 out:∀ x∈s.ord,∀ t∈qa1 p x.toNat,s.look t≠0
structure DR (E:Int→Prop) (s s':S3):Prop where
 grey:∀ x,s'.look x=1→s.look x=1
 keep:∀ x,s.look x≠0→s'.look x=s.look x
 ord:∃ l,s'.ord=s.ord++l
 back1:∀ e∈s.back,e∈s'.back
 back2:∀ y t,(y,t)∈s'.back→(y,t)∈s.back∨s.look y=0∨E y
theorem DR.trans {E:Int→Prop} {s s' s'':S3} (h:DR E s s') (k:DR E s' s''):DR E s s'':=by
 obtain ⟨l,hl⟩:=h.ord
 obtain ⟨l',hl'⟩:=k.ord
 refine ⟨fun x hx=>h.grey x (k.grey x hx),fun x hx=>?_,⟨l++l',by rw [hl',hl,List.append_assoc]⟩,fun e he=>k.back1 e (h.back1 e he),fun y t hy=>?_⟩
 ·rw [k.keep x (by rw [h.keep x hx];exact hx),h.keep x hx]
 ·rcases k.back2 y t hy with hy|hy|hy
  ·exact h.back2 y t hy
  ·right;left
   rcases Decidable.em (s.look y=0) with e|e
   ·exact e
   ·rw [h.keep y e] at hy;exact absurd hy e
  ·exact .inr (.inr hy)
theorem DI.enter {p:Pr} {s:S3} {n:Int} (h:DI p s) (h0:0≤n) (h1:n<p.blks.length) (hn:s.look n=0):DI p (s.enter n):=by
 have hl:n.toNat<s.st.length:=by rw [h.len];omega
 refine ⟨by rw [qd2];exact h.len,fun x=>?_,fun y t hy=>⟨(h.bk y t hy).1,?_⟩,fun x=>?_,h.nd,h.ed,fun x hx t ht=>?_⟩
 ·rw [qez hl];split
  ·exact .inr (.inl rfl)
  ·exact h.tri x
 ·rw [qez hl];split
  ·decide
  ·exact (h.bk y t hy).2
 ·rw [qez hl]
  show x∈s.ord↔_
  rw [h.od]
  by_cases e:x.toNat=n.toNat
  ·rw [if_pos e]
   constructor
   ·rintro ⟨a,b,c⟩
    obtain rfl:x=n:=by omega
    omega
   ·rintro ⟨-, -,c⟩;exact absurd c (by decide)
  ·rw [if_neg e]
 ·rw [qez hl];split
  ·decide
  ·exact h.out x hx t ht
theorem qp4 (p:Pr) (n:Nat) (hn:n<p.blks.length):(qc3 p).getD n false=qr2 (wkD p).ord n:=by
 unfold qc3
 rw [qpq _ _ _ (by simpa using hn)]
 unfold qr2
 simp [List.getD,List.getElem?_replicate,hn]
structure AtR (o:List Int) (N k:Nat) (A:List Int):Prop where
 len:A.length=N
 yes:∀ i,i<k→A.getD (o.getD i 0).toNat 0=(i:Int)+1
 no:∀ x:Nat,x<N→(x:Int) ∉ o.take k→A.getD x 0=0
theorem qfz {o:List Int} {k:Nat} {x:Int} (h:x∈o.take k):∃ i,i<k∧i<o.length∧o.getD i 0=x:=by
 obtain ⟨i,hi,e⟩:=List.mem_iff_getElem.1 h
 rw [List.length_take] at hi
 refine ⟨i,by omega,by omega,?_⟩
 rw [←e,List.getElem_take]
 simp [List.getD,show i<o.length by omega]
theorem qf0 {o:List Int} {k i:Nat} (h:i<k) (hi:i<o.length):o.getD i 0∈o.take k:=by
 rw [List.mem_iff_getElem]
 exact ⟨i,by rw [List.length_take];omega,by rw [List.getElem_take];simp [List.getD,hi]⟩
theorem qo2 {o:List Int} {i:Nat} (hi:i<o.length):o.getD i 0∈o:=by simp [List.getD,hi]
theorem qn6 {o:List Int} (h:o.Nodup) {i j:Nat} (hi:i<o.length) (hj:j<o.length) (e:o.getD i 0=o.getD j 0):i=j:=by
 have h1:o[i]=o[j]:=by simpa [List.getD,hi,hj] using e
 exact (List.getElem_inj h).1 h1
theorem AtR.zero {o:List Int} {N k:Nat} {A:List Int} (h:AtR o N k A) (nd:o.Nodup) (hk:k<o.length) (hr:0≤o.getD k 0∧o.getD k 0<N):A.getD (o.getD k 0).toNat 0=0:=by
 refine h.no _ (by omega) fun hm=>?_
 rw [show (((o.getD k 0).toNat:Nat):Int)=o.getD k 0 by omega] at hm
 obtain ⟨i,hi,hi',e⟩:=qfz hm
 have:=qn6 nd hi' hk e
 omega
theorem AtR.step {o:List Int} {N k:Nat} {A:List Int} (h:AtR o N k A) (nd:o.Nodup) (hk:k<o.length) (hr:∀ x∈o,0≤x∧x<N):AtR o N (k+1) (A.set (o.getD k 0).toNat ((k:Int)+1)):=by
 have hk':=hr _ (qo2 hk)
 have hl:(o.getD k 0).toNat<A.length:=by rw [h.len];omega
 refine ⟨by simpa using h.len,fun i hi=>?_,fun x hx hm=>?_⟩
 ·rw [qjb A (o.getD k 0) (o.getD i 0) _ hl]
  have hi':i<o.length:=by omega
  have hri:=hr _ (qo2 hi')
  by_cases e:i=k
  ·subst e;rw [if_pos rfl]
  ·rw [if_neg (fun e2=>e (qn6 nd hi' hk (by omega)))]
   exact h.yes i (by omega)
 ·have:=qjb A (o.getD k 0) (x:Int) ((k:Int)+1) hl
  rw [Int.toNat_natCast] at this
  rw [this,if_neg]
  ·refine h.no x hx fun hm'=>hm ?_
   obtain ⟨i,hi,hi',e⟩:=qfz hm'
   exact e ▸ qf0 (by omega) hi'
  ·rintro rfl
   refine hm ?_
   rw [show (((o.getD k 0).toNat:Nat):Int)=o.getD k 0 by omega]
   exact qf0 (Nat.lt_succ_self _) hk
theorem AtR.pos {o:List Int} {N:Nat} {A:List Int} (h:AtR o N o.length A) {n:Nat} (hn:n<N):decide (0<A.getD n 0)=qr2 o n:=by
 unfold qr2
 rw [Bool.eq_iff_iff,decide_eq_true_eq,List.contains_iff_mem]
 constructor
 ·intro h1
  rcases Decidable.em ((n:Int)∈o) with e|e
  ·exact e
  ·rw [h.no n hn (by rw [List.take_length];exact e)] at h1;exact absurd h1 (by decide)
 ·intro h1
  obtain ⟨i,hi,e⟩:=List.mem_iff_getElem.1 h1
  have:=h.yes i hi
  rw [show o.getD i 0=n by simp [List.getD,hi,e],Int.toNat_natCast] at this
  omega
def rcK (p:Pr) (i:Nat) (out:List Bool) (k:Nat):List Bool:=if out.getD k false && qr2 (qa1 p k) i then out.set i true else out
def rcI (p:Pr) (out:List Bool) (i:Nat):List Bool:=(List.range p.blks.length).foldl (rcK p i) (if i=0 then out.set 0 true else out)
def rcP (p:Pr) (out:List Bool):List Bool:=(List.range p.blks.length).foldl (rcI p) out
def Up (a b:List Bool):Prop:=b.length=a.length∧∀ x,a.getD x false=true→b.getD x false=true
theorem Up.trans {a b c:List Bool} (h:Up a b) (k:Up b c):Up a c:=⟨k.1.trans h.1,fun x hx=>k.2 x (h.2 x hx)⟩
theorem Up.set (a:List Bool) (i:Nat):Up a (a.set i true):=by
 refine ⟨by simp,fun x hx=>?_⟩
 by_cases e:i<a.length
 ·rw [qqy _ _ _ e];split
  ·rfl
  ·exact hx
 ·rw [List.set_eq_of_length_le (by omega)];exact hx
def q23 (p:Pr) (a:List Bool):Prop:=a.getD 0 false=true∧∀ k,k<p.blks.length→a.getD k false=true→∀ t∈qa1 p k,a.getD t.toNat false=true
theorem qnx (l:List Int) (x:Int):qr2 l x=true↔x∈l:=by unfold qr2;exact List.contains_iff_mem
theorem qio {α:Type} (f:List Bool→α→List Bool) (a:List Bool) (l:List α) (h:∀ x∈l,f a x=a):l.foldl f a=a:=by
 induction l with
 | nil=>rfl
 | cons x l ih=>rw [List.foldl_cons,h x List.mem_cons_self];exact ih fun y hy=>h y (List.mem_cons_of_mem _ hy)
theorem qfw (a:List Bool) (i:Nat) (h:a.getD i false=true):a.set i true=a:=by
 apply List.ext_getElem (by simp)
 intro j h1 h2
 rw [List.getElem_set]
 split
 ·rename_i e;subst e;simpa [List.getD,h2] using h.symm
 ·rfl
theorem q23.same {p:Pr} {a:List Bool} (h:q23 p a):rcP p a=a:=by
 unfold rcP
 refine qio _ _ _ fun i hi=>?_
 unfold rcI
 have e:(if i=0 then a.set 0 true else a)=a:=by split;exact qfw _ _ h.1;rfl
 rw [e]
 refine qio _ _ _ fun k hk=>?_
 unfold rcK
 split
 ·rename_i hc
  rw [Bool.and_eq_true,qnx] at hc
  have:=h.2 k (List.mem_range.1 hk) hc.1 _ hc.2
  rw [Int.toNat_natCast] at this
  exact qfw _ _ this
 ·rfl
end
section
section
variable {w w':World} {bw bs B n:Nat} {s:S3} {ov bv ov' bv':Value}
theorem FrR.cell (h:FrR w w' bw bs ov bv ov' bv') {k o:Nat} (hk:k<w.heap.size) (k1:k≠bw) (k2:k≠bs) (k3:ov.ownBlock≠some k) (k4:bv.ownBlock≠some k):w'.cell? ⟨k,o,none⟩=w.cell? ⟨k,o,none⟩ :=
 World.cell?_of_block (w:=w) (a:=⟨k,o,none⟩) (h.block k hk k1 k2 k3 k4)
end
end
section
theorem qs8 {w:World} {B n sz g i:Nat} {e:TypeId} {v x:Value} {xs:List Value} (h:w.ownsRow B e sz v n xs) (hg:g<B):(w.setCell ⟨g,i,none⟩ x).ownsRow B e sz v n xs:=by
 have hgr:w.grownBy (w.setCell ⟨g,i,none⟩ x) (some g):=⟨rfl,rfl,rfl,by simp,fun k _ hk=>Below.heap_setCell w ⟨g,i,none⟩ _ k (fun e=>hk (by rw [show k=g from e]))⟩
 exact World.ownsRow.kept h hgr (qj9 (qev h hg))
end
section
end
section
end
section
theorem qyp:(Try.prog.info? 45).map (fun i=>(i.zero,i.size,i.bytes))=some (some (.slice none 0 0),1,24):=by kernel_rfl
structure PT (W0 w:World) (gP B n:Nat) (vs:List Value) (rows:List (List Int)):Prop where
 below:Below W0.heap.size W0 w
 tab:w.ownsRow 0 45 1 (.slice (some ⟨gP,0,none⟩) n n) n vs
 row:∀ j,j<n→qa8 w B (vs.getD j undef) (rows.getD j [])
 ne:∀ i j,i<n→j<n→i≠j→(vs.getD i undef).ownBlock=none∨(vs.getD i undef).ownBlock≠(vs.getD j undef).ownBlock
 g0:W0.heap.size≤gP
 gB:gP<B
 Bw:B≤w.heap.size
 len:rows.length=n
section
variable {W0 w w':World} {gP B n:Nat} {vs:List Value} {rows:List (List Int)}
theorem PT.vlen (h:PT W0 w gP B n vs rows):vs.length=n:=by have:=h.tab.1;omega
theorem PT.grow (h:PT W0 w gP B n vs rows) (hb:Below w.heap.size w w'):PT W0 w' gP B n vs rows:=by
 have hg:w.grownBy w' none:=⟨hb.os,hb.tape,hb.output,hb.size,fun k hk _=>hb.block k hk⟩
 have h1:=h.g0
 have h2:=h.gB
 have h3:=h.Bw
 exact ⟨h.below.trans (hb.mono (by omega)),World.ownsRow.kept h.tab hg (.inr (by simp [Value.ownBlock])),fun j hj=>(h.row j hj).below hb,h.ne,h.g0,h.gB,Nat.le_trans h.Bw hb.size,h.len⟩
theorem PT.cell (h:PT W0 w gP B n vs rows) {j:Nat} (hj:j<n):w.cell? ⟨gP,j,none⟩=some (vs.getD j undef):=by
 have:=h.tab.cellAt j (by omega)
 rw [this]
 simp [List.getD,h.vlen,hj]
theorem qgg (l:List Value) (i j:Nat) (x:Value) (h:i<l.length):(l.set i x).getD j undef=if j=i then x else l.getD j undef:=by
 simp only [List.getD,List.getElem?_set]
 by_cases e:i=j
 ·subst e;simp [h]
 ·simp [e,Ne.symm e]
theorem qr3 (l:List (List Int)) (i j:Nat) (x:List Int) (h:i<l.length):(l.set i x).getD j []=if j=i then x else l.getD j []:=by
 simp only [List.getD,List.getElem?_set]
 by_cases e:i=j
 ·subst e;simp [h]
 ·simp [e,Ne.symm e]
theorem PT.push {v':Value} {j:Nat} {x:Int} (h:PT W0 w gP B n vs rows) (hj:j<n) (hg:w.grownBy w' (vs.getD j undef).ownBlock)
  (ho:w'.ownsRow B 3 1 v' ((rows.getD j []).length+1) ((rows.getD j []).map (Value.int .i64)++[.int .i64 x])) (hat:v'.ownBlock=(vs.getD j undef).ownBlock∨v'.ownBlock=some w.heap.size) :
  PT W0 (w'.setCell ⟨gP,j,none⟩ v') gP B n (vs.set j v') (rows.set j (rows.getD j []++[x])):=by
 have h1:=h.g0
 have h2:=h.gB
 have h3:=h.Bw
 have hvl:=h.vlen
 have hrl:=h.len
 have fr:∀ i,i<n→∀ b,(vs.getD i undef).ownBlock=some b→B≤b∧b<w.heap.size:=fun i hi b e=>World.ownsRow.lt (h.row i hi) b e
 have htab:=World.ownsRow.kept h.tab hg (.inr (fun e=>by have:=(fr j hj gP e.symm).1;omega))
 obtain ⟨htab2,hg2⟩:=htab.stored j v'
 have hB1:=Nat.le_trans h.Bw hg.size
 refine ⟨?_,htab2,fun i hi=>?_,fun i k hi hk hik=>?_,h.g0,h.gB,by simpa using hB1,by simpa using h.len⟩
 ·exact (qba h.below (Nat.le_trans (by omega) h.Bw) hg (fun b e=>by have:=(fr j hj b e).1;omega)).setCell h.g0 _
 ·rw [qgg _ _ _ _ (by omega),qr3 _ _ _ _ (by omega)]
  by_cases e:i=j
  ·rw [if_pos e,if_pos e]
   have hown:qa8 w' B v' (rows.getD j []++[x]):=by unfold qa8;simpa using ho
   exact qs8 hown h.gB
  ·rw [if_neg e,if_neg e]
   exact qs8 (World.ownsRow.kept (h.row i hi) hg (h.ne i j hi hj e)) h.gB
 ·rw [qgg _ _ _ _ (by omega),qgg _ _ _ _ (by omega)]
  by_cases e:i=j
  ·rw [if_pos e,if_neg (fun e2=>hik (e.trans e2.symm))]
   rcases hat with e2|e2
   ·rw [e2];exact h.ne j k hj hk (fun e3=>hik (e.trans e3))
   ·right
    rw [e2]
    intro e3
    have:=(fr k hk _ e3.symm).2
    omega
  ·rw [if_neg e]
   by_cases e4:k=j
   ·rw [if_pos e4]
    rcases hat with e2|e2
    ·rw [e2];exact h.ne i j hi hj e
    ·by_cases e5:(vs.getD i undef).ownBlock=none
     ·exact .inl e5
     ·right
      rw [e2]
      intro e3
      have:=(fr i hi _ e3).2
      omega
   ·rw [if_neg e4];exact h.ne i k hi hk hik
end
end
section
theorem q2a (w:World) (n:Nat) (hn:n≤maxLen):(w.alloc (.cells (madeCells #[.slice none 0 0] n) 45)).ownsRow 0 45 1 (.slice (some ⟨w.heap.size,0,none⟩) n n) n (List.replicate n (.slice none 0 0)):=by
 have hl:(madeCells #[Value.slice none 0 0] n).toList=List.replicate n (Value.slice none 0 0):=by
  apply List.ext_getElem
  ·simp [madeCells]
  ·intro i h1 h2
   simp [madeCells,Nat.mod_one]
 refine ⟨by simp,.inr ⟨w.heap.size,n,_,rfl,Nat.zero_le _,heap_alloc_new w _,by simp,hn,by simp [madeCells],?_⟩⟩
 rw [hl]
 simp [List.take_of_length_le]
end
section
inductive Con where
 | sub (s d:Option Nat)
 | put (t d:Nat)
def Con.holds (S:Option Nat→Nat→Prop):Con→Prop
 | .sub s d=>∀ t,S s t→S d t
 | .put t d=>S (some d) t
structure AS where
 regs:List Nat
 out:Nat
def AS.get (x:AS):Option Nat→Nat
 | none=>x.out
 | some r=>x.regs.getD r 0
def AS.join (x:AS) (d:Option Nat) (w:Nat):AS :=
 match d with
 | none=>{ x with out:=x.out ||| w }
 | some r=>{ x with regs:=x.regs.set r (x.regs.getD r 0 ||| w) }
def AS.con (x:AS):Con→AS
 | .sub s d=>x.join d (x.get s)
 | .put t d=>x.join (some d) (1 <<< t)
def AS.news (x:AS):Con→Bool
 | .sub s d=>x.get d ||| x.get s !=x.get d
 | .put t d=>x.get (some d) ||| (1 <<< t) !=x.get (some d)
def AS.sem (x:AS) (o:Option Nat) (t:Nat):Prop:=(x.get o).testBit t=true
def AS.pass (x:AS) (l:List Con):AS×Bool:=l.foldl (fun s c=>(s.1.con c,s.1.news c || s.2)) (x,false)
structure AR where
 regs:List (List Bool)
 out:List Bool
def orL (a b:List Bool):List Bool:=(List.range a.length).map fun i=>a.getD i false || b.getD i false
def qhy (a:List Bool) (n:Int):List Bool:=(List.range a.length).map fun i=>a.getD i false || decide ((i:Int)=n)
def AR.get (x:AR):Option Nat→List Bool
 | none=>x.out
 | some r=>x.regs.getD r []
def AR.put (x:AR) (d:Option Nat) (l:List Bool):AR :=
 match d with
 | none=>{ x with out:=l }
 | some r=>{ x with regs:=x.regs.set r l }
def AR.con (x:AR):Con→AR
 | .sub s d=>x.put d (orL (x.get d) (x.get s))
 | .put t d=>x.put (some d) (qhy (x.get (some d)) t)
def AR.sem (x:AR) (o:Option Nat) (t:Nat):Prop:=(x.get o).getD t false=true
def qe0 (l:List Bool):Nat:=l.countP id
def AR.count (x:AR):Nat:=(x.regs.map qe0).sum+qe0 x.out
def AR.pass (x:AR) (l:List Con):AR:=l.foldl AR.con x
theorem AS.get_join (x:AS) (d o:Option Nat) (w:Nat) (hd:∀ r,d=some r→r<x.regs.length):(x.join d w).get o=if o=d then x.get o ||| w else x.get o:=by
 cases d with
 | none=>cases o <;> simp [AS.join,AS.get]
 | some r=>
  have hr:=hd r rfl
  cases o with
  | none=>simp [AS.join,AS.get]
  | some q=>
   by_cases e:q=r
   ·subst e;simp [AS.join,AS.get,hr]
   ·have e2:¬ (some q=some r):=fun h=>e (Option.some.inj h)
    have e3:¬ (r=q):=fun h=>e h.symm
    rw [if_neg e2]
    show (x.regs.set r _).getD q 0=x.regs.getD q 0
    rw [List.getD_eq_getElem?_getD,List.getElem?_set,if_neg e3,←List.getD_eq_getElem?_getD]
theorem AS.join_len (x:AS) (d:Option Nat) (w:Nat):(x.join d w).regs.length=x.regs.length:=by cases d <;> simp [AS.join]
def Con.inn (n:Nat):Con→Prop
 | .sub s d=>(∀ r,s=some r→r<n)∧(∀ r,d=some r→r<n)
 | .put _ d=>d<n
theorem AS.con_len (x:AS) (c:Con):(x.con c).regs.length=x.regs.length:=by cases c <;> exact AS.join_len _ _ _
theorem AS.sem_con (x:AS) (c:Con) (hc:c.inn x.regs.length) (o:Option Nat) (t:Nat) :
  (x.con c).sem o t↔x.sem o t∨(match c with | .sub s d=>o=d∧x.sem s t | .put u d=>o=some d∧t=u):=by
 cases c with
 | sub s d=>
  unfold AS.sem AS.con
  rw [AS.get_join x d o _ hc.2]
  by_cases e:o=d
  ·rw [if_pos e,Nat.testBit_or];simp [e]
  ·rw [if_neg e];simp [e]
 | put u d=>
  unfold AS.sem AS.con
  rw [AS.get_join x (some d) o _ (fun r h=>by cases h;exact hc)]
  by_cases e:o=some d
  ·rw [if_pos e,Nat.testBit_or]
   simp only [e,true_and,Bool.or_eq_true]
   rw [Nat.one_shiftLeft,Nat.testBit_two_pow]
   rw [decide_eq_true_eq]
   exact or_congr Iff.rfl ⟨Eq.symm,Eq.symm⟩
  ·rw [if_neg e];simp [e]
theorem AS.ext' {x y:AS} (hl:x.regs.length=y.regs.length) (h:∀ o,x.get o=y.get o):x=y:=by
 obtain ⟨xr,xo⟩:=x
 obtain ⟨yr,yo⟩:=y
 have h1:xo=yo:=h none
 subst h1
 congr 1
 refine List.ext_getElem hl fun i hi hj=>?_
 have:=h (some i)
 simpa [AS.get,List.getD,hi,hj,show i<xr.length from hi,show i<yr.length from hj] using this
theorem AS.news_no {x:AS} {c:Con} (hc:c.inn x.regs.length) (h:x.news c=false):x.con c=x∧c.holds x.sem:=by
 have key:x.con c=x:=by
  refine AS.ext' (AS.con_len _ _) fun o=>?_
  cases c with
  | sub s d=>
   have h:x.get d ||| x.get s=x.get d:=by simpa [AS.news] using h
   show (x.join d _).get o=_
   rw [AS.get_join x d o _ hc.2]
   split
   ·rename_i e;rw [e,h]
   ·rfl
  | put t d=>
   have h:x.get (some d) ||| (1 <<< t)=x.get (some d):=by simpa [AS.news] using h
   show (x.join (some d) _).get o=_
   rw [AS.get_join x (some d) o _ (fun r h=>by cases h;exact hc)]
   split
   ·rename_i e;rw [e,h]
   ·rfl
 refine ⟨key,?_⟩
 cases c with
 | sub s d=>
  intro t ht
  have:=(AS.sem_con x (.sub s d) hc d t).2 (.inr ⟨rfl,ht⟩)
  rwa [key] at this
 | put t d=>
  have:=(AS.sem_con x (.put t d) hc (some d) t).2 (.inr ⟨rfl,rfl⟩)
  rwa [key] at this
theorem AS.pass_fold (l:List Con) (x:AS) (b:Bool):l.foldl (fun s c=>(s.1.con c,s.1.news c || s.2)) (x,b)=((x.pass l).1,(x.pass l).2 || b):=by
 induction l generalizing x b with
 | nil=>simp [AS.pass]
 | cons c l ih=>
  unfold AS.pass
  rw [List.foldl_cons,List.foldl_cons,ih,ih (b:=_ || false)]
  simp [Bool.or_assoc]
theorem AS.pass_cons (c:Con) (l:List Con) (x:AS):x.pass (c::l)=(((x.con c).pass l).1,((x.con c).pass l).2 || x.news c):=by
 conv=>lhs;unfold AS.pass
 rw [List.foldl_cons,AS.pass_fold];simp
theorem AS.pass_append (l k:List Con) (x:AS):x.pass (l++k)=(((x.pass l).1.pass k).1,((x.pass l).1.pass k).2 || (x.pass l).2):=by
 conv=>lhs;unfold AS.pass
 rw [List.foldl_append,AS.pass_fold l,AS.pass_fold];simp
theorem AS.pass_len (l:List Con) (x:AS):(x.pass l).1.regs.length=x.regs.length:=by
 induction l generalizing x with
 | nil=>rfl
 | cons c l ih=>rw [AS.pass_cons];exact (ih _).trans (AS.con_len _ _)
theorem AS.pass_no {l:List Con} {x:AS} (hl:∀ c∈l,c.inn x.regs.length) (h:(x.pass l).2=false):(x.pass l).1=x∧∀ c∈l,c.holds x.sem:=by
 induction l generalizing x with
 | nil=>exact ⟨rfl,fun _ h=>by cases h⟩
 | cons c l ih=>
  rw [AS.pass_cons] at h ⊢
  simp only [Bool.or_eq_false_iff] at h
  obtain ⟨e,hc⟩:=AS.news_no (hl c (List.mem_cons_self ..)) h.2
  rw [e] at h ⊢
  obtain ⟨e2,h2⟩:=ih (fun c hc=>hl c (List.mem_cons_of_mem _ hc)) h.1
  refine ⟨e2,fun c' hc'=>?_⟩
  rcases List.mem_cons.1 hc' with rfl|hc'
  ·exact hc
  ·exact h2 c' hc'
theorem AS.pass_in {l:List Con} {x:AS} {S:Option Nat→Nat→Prop} (hl:∀ c∈l,c.inn x.regs.length) (hS:∀ c∈l,c.holds S) (h:∀ o t,x.sem o t→S o t):∀ o t,(x.pass l).1.sem o t→S o t:=by
 induction l generalizing x with
 | nil=>exact h
 | cons c l ih=>
  rw [AS.pass_cons]
  refine ih (fun c' hc'=>by rw [AS.con_len];exact hl c' (List.mem_cons_of_mem _ hc')) (fun c' hc'=>hS c' (List.mem_cons_of_mem _ hc')) fun o t ht=>?_
  rcases (AS.sem_con x c (hl c (List.mem_cons_self ..)) o t).1 ht with h1|h1
  ·exact h o t h1
  ·have:=hS c (List.mem_cons_self ..)
   cases c with
   | sub s d=>obtain ⟨rfl,h2⟩:=h1;exact this t (h s t h2)
   | put u d=>obtain ⟨rfl,rfl⟩:=h1;exact this
theorem AS.pass_up {l:List Con} {x:AS} (hl:∀ c∈l,c.inn x.regs.length):∀ o t,x.sem o t→(x.pass l).1.sem o t:=by
 induction l generalizing x with
 | nil=>exact fun _ _ h=>h
 | cons c l ih=>
  rw [AS.pass_cons]
  exact fun o t h=>ih (fun c' hc'=>by rw [AS.con_len];exact hl c' (List.mem_cons_of_mem _ hc')) o t ((AS.sem_con x c (hl c (List.mem_cons_self ..)) o t).2 (.inl h))
end
end Go.Proofs.Ytmcddolkpcgddaa
