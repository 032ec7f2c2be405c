/-
Which instructions and stores nobody asks for, as plain data; places of which something holds, rising.
-/
import Derived.Test.YtmcddolkpcgddaaZHazardFinds10
set_option linter.all false
namespace Go.Proofs.Ytmcddolkpcgddaa
section
def qam (s:List Bool) (r:Int):Bool:=decide (0≤r) && (decide (r<(s.length:Int)) && s.getD r.toNat false)
def qa7 (l:List In):List In:=l.filter (·.op ==5)
def ldN (l:List In):Nat:=(qa7 l).length
def qad (p:Pr):List In:=p.blks.flatMap fun b=>qa7 b.ins
def qar (p:Pr) (n:Nat):Nat:=((p.blks.take n).flatMap fun b=>qa7 b.ins).length
def ql9 (R x:Nat):Nat:=R ||| 2 ^ x
def qbm (s:List Bool) (NL load:Nat) (i:In):List Nat:=(if i.op=5 then [load] else [])++((qbb i).filter (qam s)).map fun r=>NL+r.toNat
def qgt (i:In):Bool:=i.op ==12 || i.op ==9
def qjs (s:List Bool) (NL:Nat) (st:Nat×Nat) (i:In):Nat×Nat:=(if qgt i=true then 0 else (qbm s NL st.2 i).foldl ql9 st.1,if i.op=5 then st.2+1 else st.2)
def qek (s:List Bool) (NL:Nat) (l:List In) (st:Nat×Nat):Nat×Nat:=l.foldl (qjs s NL) st
def qbs (s:List Bool) (b:Bk):Bool:=(b.fin ==2 || b.fin ==3) && qam s b.a
def qxd (s:List Bool) (NL:Nat) (b:Bk) (h:Nat):Nat:=if qbs s b=true then ql9 h (NL+b.a.toNat) else h
def qci (s:List Bool) (NL:Nat) (b:Bk) (load had:Nat):Nat:=qxd s NL b (qek s NL b.ins (had,load)).1
def qbc (l:List In):Bool:=l.all fun i=> !qgt i
theorem qgd (R x y:Nat):(ql9 R x).testBit y=(R.testBit y || decide (x=y)):=by
 unfold ql9;rw [Nat.testBit_or,Nat.testBit_two_pow]
theorem qo4 (l:List Nat) (R y:Nat):(l.foldl ql9 R).testBit y=(R.testBit y || decide (y∈l)):=by
 induction l generalizing R with
 | nil=>simp
 | cons a l ih=>
  rw [List.foldl_cons,ih,qgd,Bool.or_assoc]
  congr 1
  rw [Bool.eq_iff_iff]
  simp only [Bool.or_eq_true,decide_eq_true_eq,List.mem_cons]
  constructor
  ·rintro (h | h)
   ·exact .inl h.symm
   ·exact .inr h
  ·rintro (h | h)
   ·exact .inl h.symm
   ·exact .inr h
theorem qrr (s:List Bool) (NL:Nat) (st:Nat×Nat) (i:In) (y:Nat):(qjs s NL st i).1.testBit y=(!qgt i && (st.1.testBit y || decide (y∈qbm s NL st.2 i))):=by
 unfold qjs
 dsimp only
 cases hb:qgt i
 ·rw [if_neg (by simp),qo4];rfl
 ·rw [if_pos rfl];simp
theorem qjx (s:List Bool) (NL:Nat) (st:Nat×Nat) (i:In):(qjs s NL st i).2=st.2+ldN [i]:=by
 unfold qjs ldN qa7
 by_cases h:i.op=5
 ·simp [h]
 ·simp [h]
theorem qi4 (i:In) (l:List In):ldN (i::l)=ldN [i]+ldN l:=by
 unfold ldN qa7
 rw [show i::l=[i]++l from rfl,List.filter_append,List.length_append]
theorem qj8 (s:List Bool) (NL:Nat) (l:List In):∀ st:Nat×Nat,(qek s NL l st).2=st.2+ldN l:=by
 induction l with
 | nil=>intro st;rfl
 | cons i l ih=>
  intro st
  show (qek s NL l (qjs s NL st i)).2=_
  rw [ih,qjx,qi4 i l];omega
theorem qqp (s:List Bool) (NL:Nat) (l:List In) (i:In) (st:Nat×Nat):qek s NL (l++[i]) st=qjs s NL (qek s NL l st) i:=by unfold qek;rw [List.foldl_append];rfl
theorem qj1 (s:List Bool) (NL y:Nat) (l:List In):∀ h ld:Nat,(qek s NL l (h,ld)).1.testBit y=true↔(h.testBit y=true∧qbc l=true)∨∃ k,k<l.length∧y∈qbm s NL (ld+ldN (l.take k)) (l.getD k default)∧qbc (l.drop k)=true:=by
 induction l with
 | nil=>intro h ld;simp [qek,qbc]
 | cons i l ih=>
  intro h ld
  have e:qek s NL (i::l) (h,ld)=qek s NL l ((qjs s NL (h,ld) i).1,(qjs s NL (h,ld) i).2):=rfl
  rw [e,ih,qrr,qjx]
  dsimp only
  simp only [Bool.and_eq_true,Bool.or_eq_true,decide_eq_true_eq,Bool.not_eq_true']
  have hf:qbc (i::l)=true↔qgt i=false∧qbc l=true:=by unfold qbc;simp
  constructor
  ·rintro (⟨⟨hb,hh | hr⟩,hl⟩ | ⟨k,hk,hr,hd⟩)
   ·exact .inl ⟨hh,hf.2 ⟨hb,hl⟩⟩
   ·refine .inr ⟨0,by simp,?_,?_⟩
    ·simpa [ldN,qa7,List.getD] using hr
    ·simpa using hf.2 ⟨hb,hl⟩
   ·refine .inr ⟨k+1,by simpa using hk,?_,by simpa using hd⟩
    rw [List.take_succ_cons,qi4,←Nat.add_assoc]
    simpa [List.getD] using hr
  ·rintro (⟨hh,hl⟩ | ⟨k,hk,hr,hd⟩)
   ·obtain ⟨hb,hl⟩:=hf.1 hl
    exact .inl ⟨⟨hb,.inl hh⟩,hl⟩
   ·cases k with
    | zero=>
     have hd:qbc (i::l)=true:=by simpa using hd
     obtain ⟨hb,hl⟩:=hf.1 hd
     refine .inl ⟨⟨hb,.inr ?_⟩,hl⟩
     simpa [ldN,qa7,List.getD] using hr
    | succ k=>
     refine .inr ⟨k,by simpa using hk,?_,by simpa using hd⟩
     rw [List.take_succ_cons,qi4,←Nat.add_assoc] at hr
     simpa [List.getD] using hr
theorem qtj (s:List Bool) (NL:Nat) (b:Bk) (h y:Nat):(qxd s NL b h).testBit y=true↔h.testBit y=true∨qbs s b=true∧y=NL+b.a.toNat:=by
 unfold qxd
 by_cases e:qbs s b=true
 ·rw [if_pos e,qgd]
  simp only [Bool.or_eq_true,decide_eq_true_eq,e,true_and]
  constructor
  ·rintro (h | h)
   ·exact .inl h
   ·exact .inr h.symm
  ·rintro (h | h)
   ·exact .inl h
   ·exact .inr h.symm
 ·rw [if_neg e]
  simp [e]
def q1l (s:List Bool) (NL:Nat) (p:Pr) (n k y:Nat):Prop :=
 (k<(p.blks.getD n default).ins.length∧y∈qbm s NL (qar p n+ldN ((p.blks.getD n default).ins.take k)) ((p.blks.getD n default).ins.getD k default))∨
 (k=(p.blks.getD n default).ins.length∧qbs s (p.blks.getD n default)=true∧y=NL+(p.blks.getD n default).a.toNat)
theorem qdy (s:List Bool) (NL:Nat) (p:Pr) (n h y:Nat):(qci s NL (p.blks.getD n default) (qar p n) h).testBit y=true↔
  (h.testBit y=true∧qbc (p.blks.getD n default).ins=true)∨∃ k,q1l s NL p n k y∧qbc ((p.blks.getD n default).ins.drop k)=true:=by
 unfold qci
 rw [qtj,qj1]
 unfold q1l
 constructor
 ·rintro ((h | ⟨k,hk,hr,hf⟩) | ⟨he,hy⟩)
  ·exact .inl h
  ·exact .inr ⟨k,.inl ⟨hk,hr⟩,hf⟩
  ·exact .inr ⟨_,.inr ⟨rfl,he,hy⟩,by simp [qbc]⟩
 ·rintro (h | ⟨k,⟨hk,hr⟩ | ⟨hk,he,hy⟩,hf⟩)
  ·exact .inl (.inl h)
  ·exact .inl (.inr ⟨k,hk,hr,hf⟩)
  ·exact .inr ⟨he,hy⟩
theorem qpx (s:List Bool) (NL:Nat) (p:Pr) (n h h' y:Nat) (hh:∀ z,h.testBit z=true→h'.testBit z=true) (he:(qci s NL (p.blks.getD n default) (qar p n) h).testBit y=true):(qci s NL (p.blks.getD n default) (qar p n) h').testBit y=true:=by
 rw [qdy] at he ⊢
 rcases he with ⟨h1,h2⟩|h
 ·exact .inl ⟨hh _ h1,h2⟩
 ·exact .inr h
def qja (s:List Bool) (NL:Nat) (p:Pr) (n k h:Nat):Nat:=(qek s NL ((p.blks.getD n default).ins.take (k+1)) (h,qar p n)).1
theorem qgz {α:Type} (l:List α) (j k:Nat) (h:j≤k):(l.take k).take j=l.take j:=by rw [List.take_take,Nat.min_eq_left h]
theorem qry (s:List Bool) (NL:Nat) (p:Pr) (n k h y:Nat) (hk:k<(p.blks.getD n default).ins.length):(qja s NL p n k h).testBit y=true↔
  (h.testBit y=true∧qbc ((p.blks.getD n default).ins.take (k+1))=true)∨∃ j,j≤k∧q1l s NL p n j y∧qbc (((p.blks.getD n default).ins.take (k+1)).drop j)=true:=by
 unfold qja
 rw [qj1]
 have hl:((p.blks.getD n default).ins.take (k+1)).length=k+1:=by rw [List.length_take];omega
 have hg:∀ j,j≤k→((p.blks.getD n default).ins.take (k+1)).getD j default=(p.blks.getD n default).ins.getD j default:=fun j hj=>by
  simp only [List.getD,List.getElem?_take]
  rw [if_pos (by omega)]
 constructor
 ·rintro (h | ⟨j,hj,hr,hf⟩)
  ·exact .inl h
  ·rw [hl] at hj
   rw [qgz _ _ _ (by omega),hg j (by omega)] at hr
   exact .inr ⟨j,by omega,.inl ⟨by omega,hr⟩,hf⟩
 ·rintro (h | ⟨j,hj,⟨hk2,hr⟩ | ⟨hk2, -⟩,hf⟩)
  ·exact .inl h
  ·refine .inr ⟨j,by rw [hl];omega,?_,hf⟩
   rw [qgz _ _ _ (by omega),hg j (by omega)]
   exact hr
  ·omega
inductive qwe (s:List Bool) (NL:Nat) (p:Pr):Nat→Nat→Prop
 | mk (n t h y:Nat) (hn:n<p.blks.length) (hw:∀ z,h.testBit z=true→qwe s NL p z n) (he:(qci s NL (p.blks.getD n default) (qar p n) h).testBit y=true) (ht:(t:Int)∈qbr (p.blks.getD n default)):qwe s NL p y t
def qcf (s:List Bool) (NL:Nat) (p:Pr) (X:List Nat):Prop:=∀ n y,(X.getD n 0).testBit y=true→qwe s NL p y n
def qg5 (s:List Bool) (NL:Nat) (p:Pr) (X:List Nat):Prop:=∀ n,n<p.blks.length→∀ t:Nat,(t:Int)∈qbr (p.blks.getD n default)→∀ y,(qci s NL (p.blks.getD n default) (qar p n) (X.getD n 0)).testBit y=true→(X.getD t 0).testBit y=true
theorem qwe.in {s:List Bool} {NL:Nat} {p:Pr} {y n:Nat} (h:qwe s NL p y n) {X:List Nat} (hs:qg5 s NL p X):(X.getD n 0).testBit y=true:=by
 induction h with
 | mk n t h y hn hw he ht ih=>exact hs n hn t ht y (qpx s NL p n h _ y (fun z hz=>ih z hz) he)
theorem qcf.zero (s:List Bool) (NL:Nat) (p:Pr) (N:Nat):qcf s NL p (List.replicate N 0):=fun n y h=>by
 have:(List.replicate N 0).getD n 0=0:=by simp [List.getD,List.getElem?_replicate];split <;> rfl
 rw [this] at h;simp at h
theorem qcf.step {s:List Bool} {NL:Nat} {p:Pr} {X:List Nat} (hX:qcf s NL p X) {n t h:Nat} (hn:n<p.blks.length) (ht:(t:Int)∈qbr (p.blks.getD n default)) (hh:∀ z,h.testBit z=true→qwe s NL p z n):qcf s NL p (X.set t (X.getD t 0 ||| qci s NL (p.blks.getD n default) (qar p n) h)):=fun m y hy=>by
 by_cases e:m=t
 ·subst e
  by_cases hl:m<X.length
  ·have:(X.set m (X.getD m 0 ||| qci s NL (p.blks.getD n default) (qar p n) h)).getD m 0=X.getD m 0 ||| qci s NL (p.blks.getD n default) (qar p n) h:=by simp [List.getD,hl]
   rw [this,Nat.testBit_or,Bool.or_eq_true] at hy
   rcases hy with hy|hy
   ·exact hX m y hy
   ·exact .mk n m h y hn hh hy ht
  ·rw [List.set_eq_of_length_le (by omega)] at hy
   exact hX m y hy
 ·have:(X.set t (X.getD t 0 ||| qci s NL (p.blks.getD n default) (qar p n) h)).getD m 0=X.getD m 0:=by simp [List.getD,List.getElem?_set_ne (Ne.symm e)]
  rw [this] at hy
  exact hX m y hy
theorem qsg {s:List Bool} {NL:Nat} {p:Pr} {X:List Nat} (h1:qcf s NL p X) (h2:qg5 s NL p X) (n y:Nat):(X.getD n 0).testBit y=true↔qwe s NL p y n:=⟨h1 n y,fun h=>h.in h2⟩
inductive qtg (p:Pr) (S:Nat→Prop):Nat→Prop
 | here (n:Nat) (h:S n):qtg p S n
 | on (m n:Nat) (h:qtg p S m) (hm:m<p.blks.length) (hf:qbc (p.blks.getD m default).ins=true) (ht:(n:Int)∈qbr (p.blks.getD m default)):qtg p S n
def qum (p:Pr) (n t:Nat):Prop:=(t:Int)∈qbr (p.blks.getD n default)
theorem qxz (s:List Bool) (NL:Nat) (p:Pr) (n y:Nat):qwe s NL p y n↔∃ b k,b<p.blks.length∧q1l s NL p b k y∧qbc ((p.blks.getD b default).ins.drop k)=true∧qtg p (qum p b) n:=by
 constructor
 ·intro h
  induction h with
  | mk n t h y hn hw he ht ih=>
   rw [qdy] at he
   rcases he with ⟨h1,h2⟩|⟨k,ho,hf⟩
   ·obtain ⟨b,k,hb,ho,hf,hv⟩:=ih y h1
    exact ⟨b,k,hb,ho,hf,.on n t hv hn h2 ht⟩
   ·exact ⟨n,k,hn,ho,hf,.here t ht⟩
 ·rintro ⟨b,k,hb,ho,hf,hv⟩
  induction hv with
  | here n h=>exact .mk b n 0 y hb (fun z hz=>by simp at hz) ((qdy ..).2 (.inr ⟨k,ho,hf⟩)) h
  | on m n h hm hfm ht ih=>
   refine .mk m n (2 ^ y) y hm (fun z hz=>?_) ((qdy ..).2 (.inl ⟨by simp,hfm⟩)) ht
   rw [Nat.testBit_two_pow,decide_eq_true_eq] at hz
   subst hz;exact ih
def qg4 (p:Pr) (b k n j:Nat):Prop :=
 (n=b∧k≤j∧qbc (((p.blks.getD n default).ins.take (j+1)).drop k)=true)∨
 (qbc ((p.blks.getD b default).ins.drop k)=true∧qtg p (qum p b) n∧qbc ((p.blks.getD n default).ins.take (j+1))=true)
theorem qtu {s:List Bool} {NL:Nat} {p:Pr} {X:List Nat} (h1:qcf s NL p X) (h2:qg5 s NL p X) {n j:Nat} (hn:n<p.blks.length) (hj:j<(p.blks.getD n default).ins.length) (y:Nat) :
  (qja s NL p n j (X.getD n 0)).testBit y=true↔∃ b k,b<p.blks.length∧q1l s NL p b k y∧qg4 p b k n j:=by
 rw [qry s NL p n j _ y hj,qsg h1 h2,qxz]
 constructor
 ·rintro (⟨⟨b,k,hb,ho,hf,hv⟩,hl⟩ | ⟨k,hk,ho,hf⟩)
  ·exact ⟨b,k,hb,ho,.inr ⟨hf,hv,hl⟩⟩
  ·exact ⟨n,k,hn,ho,.inl ⟨rfl,hk,hf⟩⟩
 ·rintro ⟨b,k,hb,ho,⟨rfl,hk,hf⟩ | ⟨hf,hv,hl⟩⟩
  ·exact .inr ⟨k,hk,ho,hf⟩
  ·exact .inl ⟨⟨b,k,hb,ho,hf,hv⟩,hl⟩
end
section
structure Sp where
 thing:Int
 off:Int
 sets:Int
 is:Bool
def spI (o:Nat) (s:Sp) (i:In):Sp :=
 if i.op=7 then ⟨i.obj,i.off,s.sets+1,true⟩ else if i.op=8 then ⟨o+i.obj,i.off,s.sets+1,true⟩ else ⟨s.thing,s.off,s.sets+1,false⟩
def q10 (p:Pr):List In:=p.blks.flatMap (·.ins)
def qls (p:Pr) (r:Int):List In:=(q10 p).filter fun i=>qbn i ==r
def spP (p:Pr) (r:Nat):Sp:=(qls p r).foldl (spI p.objs.length) ⟨0,0,if (r:Int)<p.params then 1 else 0,false⟩
structure Ex where
 thing:Int
 off:Int
 is:Bool
def exF (p:Pr) (r:Int):Ex :=
 if 0≤r∧r<p.regs then (if (spP p r.toNat).sets=1∧(spP p r.toNat).is=true then ⟨(spP p r.toNat).thing,(spP p r.toNat).off,true⟩ else ⟨0,0,false⟩) else ⟨0,0,false⟩
def exI (o:Nat) (e:Ex) (i:In):Ex:=if i.op=7 then ⟨i.obj,i.off,true⟩ else if i.op=8 then ⟨o+i.obj,i.off,true⟩ else e
def exR (p:Pr) (r:Int):Ex :=
 if r<p.params∨p.regs≤r then ⟨0,0,false⟩ else if (qls p r).length=1 then (qls p r).foldl (exI p.objs.length) ⟨0,0,false⟩ else ⟨0,0,false⟩
theorem qob (o:Nat) (s:Sp) (i:In):(spI o s i).sets=s.sets+1:=by
 unfold spI
 by_cases h7:i.op=7
 ·rw [if_pos h7]
 ·rw [if_neg h7]
  by_cases h8:i.op=8
  ·rw [if_pos h8]
  ·rw [if_neg h8]
theorem qy9 (o:Nat) (l:List In) (s:Sp):(l.foldl (spI o) s).sets=s.sets+l.length:=by
 induction l generalizing s with
 | nil=>simp
 | cons i l ih=>rw [List.foldl_cons,ih,qob];simp;omega
theorem qzu (p:Pr) (r:Int) (h0:0≤r) (hp:p.params≤p.regs):exF p r=exR p r:=by
 unfold exF exR
 by_cases h1:r<p.regs
 ·rw [if_pos ⟨h0,h1⟩]
  have hr:((r.toNat:Nat):Int)=r:=Int.toNat_of_nonneg h0
  unfold spP
  rw [hr]
  have hs:=qy9 p.objs.length (qls p r) ⟨0,0,if r<p.params then 1 else 0,false⟩
  by_cases h2:r<p.params
  ·rw [if_pos (Or.inl h2:r<p.params∨p.regs≤r)]
   rw [if_pos h2] at hs ⊢
   cases hl:qls p r with
   | nil=>simp
   | cons i l=>
    rw [hl] at hs
    rw [if_neg]
    rintro ⟨e, -⟩
    rw [e] at hs
    simp at hs
    omega
  ·rw [if_neg (show ¬ (r<p.params∨p.regs≤r) by omega)]
   rw [if_neg h2] at hs ⊢
   cases hl:qls p r with
   | nil=>simp
   | cons i l=>
    cases l with
    | nil=>
     simp only [List.foldl_cons,List.foldl_nil,List.length_cons,List.length_nil]
     unfold spI exI
     by_cases e7:i.op=7
     ·simp [e7]
     ·by_cases e8:i.op=8
      ·simp [e8]
      ·simp [e7,e8]
    | cons j l=>
     rw [hl] at hs
     rw [if_neg,if_neg (by simp)]
     rintro ⟨e, -⟩
     rw [e] at hs
     simp at hs
     omega
 ·rw [if_neg (by omega),if_pos (Or.inr (by omega):r<p.params∨p.regs≤r)]
def qqe (x y sa sb:Int):Bool:=decide (x<y+sb) && decide (y<x+sa)
theorem qxp {x y sa sb i k:Int} (hi:0≤i∧i<sa) (hk:0≤k∧k<sb) (h:x+i=y+k):qqe x y sa sb=true:=by
 unfold qqe
 simp only [Bool.and_eq_true,decide_eq_true_eq]
 omega
theorem q0n {x y sa sb:Int} (ha:1≤sa) (hb:1≤sb) (h:∀ i k:Int,0≤i→i<sa→0≤k→k<sb→x+i≠y+k):qqe x y sa sb=false:=by
 unfold qqe
 rw [Bool.eq_false_iff]
 intro e
 simp only [Bool.and_eq_true,decide_eq_true_eq] at e
 by_cases hxy:x≤y
 ·exact h (y-x) 0 (by omega) (by omega) (by omega) (by omega) (by omega)
 ·exact h 0 (x-y) (by omega) (by omega) (by omega) (by omega) (by omega)
end
section
end
section
end
end Go.Proofs.Ytmcddolkpcgddaa
