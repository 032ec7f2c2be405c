/-
The cells of an own row of numbers.
-/
import Derived.Test.YtmcddolkpcgddaaZHazardFinds00
import Derived.BigQuiet
import Derived.Below
import Derived.Laws.OwnMore
set_option maxHeartbeats 1000000
set_option maxRecDepth 20000
set_option linter.all false
namespace Go.Proofs.Ytmcddolkpcgddaa
open Go.ChangeShapes Go.WideShapes Go.ChangeAt Go.RowKit
section
theorem qrb {B:Nat} {W w1:World} (hb:Below B W w1):(∀ b o,b<B→w1.cell? ⟨b,o,none⟩=W.cell? ⟨b,o,none⟩)∧(∀ b o,b<B→w1.frozen? ⟨b,o,none⟩=W.frozen? ⟨b,o,none⟩) :=
 ⟨fun b o h=>hb.cell (p:=⟨b,o,none⟩) h,fun b o h=>hb.frozen (p:=⟨b,o,none⟩) h⟩
theorem qf3 (op:Int) (h1:1≤op) (h2:op≤12):fld op 0=decide (op≠6∧op≠10∧op≠12)∧fld op 1=qdc op∧fld op 2=qdp op∧fld op 3=decide (op=3∨op=4)∧
  fld op 4=decide (op=7∨op=8∨op=9)∧fld op 5=decide (5≤op∧op≤8)∧fld op 6=decide (op=5∨op=6)∧fld op 7=decide (op=1)∧fld op 8=decide (op=9)∧fld op 9=decide (op≠10∧op≠12):=by
 obtain ⟨k,rfl⟩:=Int.eq_ofNat_of_zero_le (show 0≤op by omega)
 obtain ⟨a0,a1,a2,a3,a4,a5,a6,a7,a8,a9⟩:=qz0 ⟨k,by omega⟩
 simp only [] at a0 a1 a2 a3 a4 a5 a6 a7 a8 a9
 refine ⟨(a0 (by omega)).trans ?_,a1,a2,a3.trans ?_,a4.trans ?_,a5.trans ?_,a6.trans ?_,a7.trans ?_,a8.trans ?_,(a9 (by omega)).trans ?_⟩ <;> (congr 1;apply propext;omega)
theorem q0e (i:In) (h:i.op<1∨12<i.op):qbn i= -1:=by unfold qbn;rw [if_neg (by omega)]
theorem q0d (i:In) (h1:1≤i.op) (h2:i.op≤12) (h:fld i.op 0=true):qbn i=i.d:=by
 rw [(qf3 i.op h1 h2).1] at h;simp at h;unfold qbn;rw [if_pos (by omega)]
theorem q0w (i:In) (h1:1≤i.op) (h2:i.op≤12) (h:fld i.op 0=false):qbn i= -1:=by
 rw [(qf3 i.op h1 h2).1] at h;simp at h;unfold qbn;rw [if_neg (by omega)]
theorem qta (i:In) (v:Value) (w:World) (hv:InV w v i) :
  Calls Try.prog 46 #[v] w fun e w'=>e=.returned (.int .i64 (qbn i))∧Below w.heap.size w w':=by
 obtain ⟨va,rfl,hva⟩:=hv
 by_cases h:i.op<1∨12<i.op
 ·have H:=qkm (q0e i h)
  go_enter Try.func46,Try.ntmps46
  go_wp2_with (go_at_call 83;refine (qno _ _ h).mono ?_;rintro e w1 ⟨rfl,hb⟩)
  go_ret
  exact ⟨qdm H.out.symm,(qaa _ _).trans (hb.mono (by simp))⟩
 ·have h1:1≤i.op:=by omega
  have h2:i.op≤12:=by omega
  cases hd:fld i.op 0
  ·have H:=qkm (q0w i h1 h2 hd)
   go_enter Try.func46,Try.ntmps46
   go_wp2_with (go_at_call 83;refine (qhe _ _ h1 h2).mono ?_;rintro e w1 ⟨g,rfl,hg,ha,hb⟩;have c0:=ha.c0)
   go_ret
   exact ⟨qdm H.out.symm,(qaa _ _).trans (hb.mono (by simp))⟩
  ·have H:=qkm (q0d i h1 h2 hd)
   go_enter Try.func46,Try.ntmps46
   go_wp2_with (go_at_call 83;refine (qhe _ _ h1 h2).mono ?_;rintro e w1 ⟨g,rfl,hg,ha,hb⟩;have c0:=ha.c0;obtain ⟨hc1,_⟩:=qrb hb)
   go_ret
   exact ⟨qdm H.out.symm,(qaa _ _).trans (hb.mono (by simp))⟩
theorem qzm (b:Bk) (v:Value) (w:World) (hv:BkV w v b) :
  Calls Try.prog 105 #[v] w (qij w (qbr b)):=by
 obtain ⟨ins,fin,a,to,els⟩:=b
 obtain ⟨vi,rfl,hvi⟩:=hv
 have O0:=Own.nil (w0:=w.alloc (.cells #[vi,.int .i64 fin,.int .i64 a,.int .i64 to,.int .i64 els] 51)) (B:=w.heap.size+1) (by simp)
 have E1:=qh8 ⟨ins,fin,a,to,els⟩
 have E2:=qm2 ⟨ins,fin,a,to,els⟩
 have E3:=qng ⟨ins,fin,a,to,els⟩
 by_cases h1:fin=1
 ·subst h1
  have E:=qkm (E1 (.inl rfl))
  clear E1 E2 E3
  go_enter Try.func105,Try.ntmps105
  go_wp2_with (first | (at_builtin;refine qr7 O0 rfl rfl rfl rfl (by first | rfl | simp) (by simp) ?_;intro v1 w1 O1;have hc1:=O1.bcell;have hz1:=O1.below.size;simp at hz1))
  go_ret
  rw [E.out]
  exact O1.ret (qaa _ _) (by omega)
 by_cases h2:fin=2
 ·subst h2
  by_cases h3:to=els
  ·subst h3
   have E:=qkm (E1 (.inr ⟨rfl,rfl⟩))
   clear E1 E2 E3 h1
   go_enter Try.func105,Try.ntmps105
   go_wp2_with (first | (at_builtin;refine qr7 O0 rfl rfl rfl rfl (by first | rfl | simp) (by simp) ?_;intro v1 w1 O1;have hc1:=O1.bcell;have hz1:=O1.below.size;simp at hz1))
   go_ret
   rw [E.out]
   exact O1.ret (qaa _ _) (by omega)
  ·have E:=qkm (E2 (by simp [h3]) rfl)
   have h3':(els !=to)=true:=bne_iff_ne.2 (Ne.symm h3)
   clear E1 E2 E3 h1
   go_enter Try.func105,Try.ntmps105
   go_wp2_with (first | (at_builtin;refine qr7 O1 rfl rfl rfl rfl (by first | rfl | simp) (by simp) ?_;intro v2 w2 O2) | (at_builtin;refine qr7 O0 rfl rfl rfl rfl (by first | rfl | simp) (by simp) ?_;intro v1 w1 O1;have hc1:=O1.bcell;have hz1:=O1.below.size;simp at hz1))
   go_ret
   rw [E.out]
   exact O2.ret (qaa _ _) (by omega)
 ·have E:=qkm (E3 h1 h2)
  have h1':(fin ==1)=false:=by simpa using h1
  have h2':(fin ==2)=false:=by simpa using h2
  clear E1 E2 E3 h1 h2
  go_enter Try.func105,Try.ntmps105
  go_wp2
  go_ret
  rw [E.out]
  exact O0.ret (qaa _ _) (by omega)
theorem qxt (i:In) (v:Value) (w:World) (hv:InV w v i) (h:i.op<1∨12<i.op) :
  Calls Try.prog 42 #[v] w (qij w (qbb i)):=by
 have H:Hid (qbb i=[]):=by
  show _=_
  unfold qbb qdc qdp
  have e:∀ k:Int,1≤k→k≤12→(i.op ==k)=false:=fun k _ _=>by simp;omega
  simp [e,show i.op≠9 by omega]
 obtain ⟨va,rfl,hva⟩:=hv
 have O0:=Own.nil (w0:=w.alloc (.cells #[.int .i64 i.op,.int .i64 i.d,.int .i64 i.a,.int .i64 i.b,.int .i64 i.fn,.int .i64 i.obj,.int .i64 i.off,.int .i64 i.size,.int .u32 i.num,va,.bool i.log] 58)) (B:=w.heap.size+1) (by simp)
 go_enter Try.func42,Try.ntmps42
 go_wp2_with (go_at_call 83;refine (qno _ _ h).mono ?_;rintro e w1 ⟨rfl,hb⟩)
 go_loopw [3,5] (fun v k wr=>v=.slice none 0 0∧k=.int .i64 0∧wr=w1) (fun _ _ _=>0)
 case atStart=>exact ⟨rfl,rfl,rfl⟩
 case round=>
  obtain ⟨rfl,rfl,rfl⟩:=hrel
  go_wp2
  go_ret
  rw [H.out]
  exact ⟨_,rfl,qa8.nil _ _,(qaa _ _).trans (hb.mono (by simp))⟩
theorem qvk (i:In) (h1:1≤i.op) (h2:i.op≤12):qbb i=(if fld i.op 1 && i.a != -1 then [i.a] else [])++(if fld i.op 2 && i.b != -1 then [i.b] else [])++(if fld i.op 8 then i.args.filter (· != -1) else []):=by
 obtain ⟨_,a1,a2,_,_,_,_,_,a8,_⟩:=qf3 i.op h1 h2
 unfold qbb
 rw [a1,a2,a8]
 simp
theorem qyr (i:In) (v:Value) (w:World) (hv:InV w v i) (h1:1≤i.op) (h2:i.op≤12) (h9:fld i.op 8=false) :
  Calls Try.prog 42 #[v] w (qij w (qbb i)):=by
 have H:=qvk i h1 h2
 rw [h9] at H
 obtain ⟨va,rfl,hva⟩:=hv
 cases e1:fld i.op 1 <;> cases e2:fld i.op 2
 all_goals
  rw [e1,e2] at H
  by_cases ha:(i.a != -1)=true <;> by_cases hb:(i.b != -1)=true
 all_goals
  obtain ⟨L,hL⟩:∃ L,qbb i=L:=⟨_,rfl⟩
  rw [hL] at H ⊢
  first|(have ha:=eq_false_of_ne_true ha)|skip
  first|(have hb:=eq_false_of_ne_true hb)|skip
  simp only [ha,hb,Bool.and_true,Bool.and_false,Bool.false_and,Bool.true_and,if_true,if_false,Bool.false_eq_true,List.nil_append,List.append_nil] at H
  have H:=qkm H
  clear hL
  go_enter Try.func42,Try.ntmps42
  go_wp2_with (first | (go_at_call 83;refine (qhe _ _ h1 h2).mono ?_;rintro e w1 ⟨g,rfl,hg,hfl,hbl⟩;have c1:=hfl.c1;have c2:=hfl.c2;have c8:=hfl.c8;obtain ⟨hc,_⟩:=qrb hbl;have hz:=hbl.size;(simp at hz);have hz':w.heap.size < w1.heap.size:=(by omega);have hgl:=hfl.lt;have O0:=Own.nil (w0:=w1) (B:=w1.heap.size) (Nat.le_refl _)) | (at_builtin;refine qr7 O1 rfl rfl rfl rfl (by first | rfl | simp) (by simp) ?_;intro v2 w3 O2;have hc2:=O2.bcell;have hz2:=O2.below.size) | (at_builtin;refine qr7 O0 rfl rfl rfl rfl (by first | rfl | simp) (by simp) ?_;intro v1 w2 O1;have hc1:=O1.bcell;have hz1:=O1.below.size))
  go_loopw [3,5] (fun v k wr=>Own w1 w1.heap.size wr v L∧k=.int .i64 0) (fun _ _ _=>0)
  case atStart=>exact ⟨by rw [H.out];assumption,rfl⟩
  case round=>
   obtain ⟨O,rfl⟩:=hrel
   have hcr:=O.bcell
   go_wp2
   go_ret
   exact O.ret ((qaa _ _).trans (hbl.mono (by simp))) (by omega)
end
section
open Go Go.RowKit
def q2j (W x:World):World:={ W with heap:=W.heap++x.heap,drawn:=x.drawn }
def qok (W x:World) (a:Addr):Option Value:=if a.block<W.heap.size then none else (q2j W x).cell? a
theorem qpu (W x:World):Below W.heap.size W (q2j W x):=by
 refine ⟨rfl,rfl,rfl,?_,fun k hk=>?_⟩
 ·show W.heap.size≤(W.heap++x.heap).size
  simp
 ·show (W.heap++x.heap)[k]?=W.heap[k]?
  rw [Array.getElem?_append,if_pos hk]
theorem qpw (W x:World) (a:Addr):(q2j W x).cell? a=(W.cell? a).or (qok W x a):=by
 unfold qok
 by_cases h:a.block<W.heap.size
 ·rw [if_pos h,(qpu W x).cell h];simp
 ·rw [if_neg h]
  have:W.cell? a=none:=by
   unfold World.cell?
   rw [Array.getElem?_eq_none (by omega)]
  rw [this];simp
attribute [go_sem] qpw
end
section
theorem q0c:fld 9 1=false:=by decide
theorem q1v:fld 9 2=false:=by decide
theorem q1q:fld 9 8=true:=by decide
theorem qyd (i:In) (v:Value) (w:World) (hv:InV w v i) (h9:i.op=9) (hn:i.args.length≤1000) :
  Calls Try.prog 42 #[v] w (qij w (qbb i)):=by
 obtain ⟨va,rfl,a,c,rfl,hl1,hl2,hcell⟩:=hv
 have H:=qkm (qrv i h9)
 have rA:=q0c
 have rB:=q1v
 have rC:=q1q
 have HC:=qkm hcell
 clear hcell
 go_enter Try.func42,Try.ntmps42
 go_wp2_with (go_at_call 83;refine (qhe 9 _ (by decide) (by decide)).mono ?_;rintro e w1 ⟨g,rfl,hg,hfl,hbl⟩;have c1:=hfl.c1;have c2:=hfl.c2;have c8:=hfl.c8;obtain ⟨hc,_⟩:=qrb hbl;have hz:=hbl.size;(simp at hz);have hz':w.heap.size < w1.heap.size:=(by omega);have hgl:=hfl.lt;have O0:=Own.nil (w0:=w1) (B:=w1.heap.size) (Nat.le_refl _))
 have HX:=qkm ((Ext.alloc w (.cells #[.int .i64 9,.int .i64 i.d,.int .i64 i.a,.int .i64 i.b,.int .i64 i.fn,.int .i64 i.obj,.int .i64 i.off,.int .i64 i.size,.int .u32 i.num,.slice a i.args.length c,.bool i.log] 58)).trans (Ext.below hbl))
 go_loopw [3,5] (fun v k wr=>∃ n:Nat,n≤i.args.length∧k=.int .i64 n∧Own w1 w1.heap.size wr v ((i.args.take n).filter (· != -1))) (fun _ k _=>i.args.length-(intOf k).toNat)
 case atStart=>exact ⟨0,Nat.zero_le _,rfl,O0⟩
 case round=>
  obtain ⟨n,hk,rfl,O⟩:=hrel
  have hl:=qds (· != -1) i.args n
  have hcr:=O.bcell
  by_cases hlt:n<i.args.length
  ·obtain ⟨b,o,rfl,hcx⟩:=HC.out n hlt
   have hc':=O.old HX.out (by omega) _ _ hcx
   simp only [Nat.mul_one,Nat.add_zero] at hc'
   clear hcx
   have hF1:=qdf (· != -1) i.args n hlt
   have hF2:=qdr (· != -1) i.args n hlt
   generalize i.args.getD n 0=x at hc' hF1 hF2
   by_cases hp:(x != -1)=true
   ·have HF:=qkm (hF1 hp)
    clear hF1 hF2
    go_wp2_with (at_builtin;refine qr7 O rfl rfl rfl rfl (by simp) (by omega) ?_;intro v1 w2 O1)
    go_roundw
    case rel=>exact ⟨n+1,by omega,by go_num,by rw [HF.out];exact O1⟩
    case measure=>simp [intOf];omega
   ·have hp:(x != -1)=false:=by simpa using hp
    have HF:=qkm (hF2 hp)
    clear hF1 hF2
    go_wp2
    go_roundw
    case rel=>exact ⟨n+1,by omega,by go_num,by rw [HF.out];exact O⟩
    case measure=>simp [intOf];omega
  ·have HF:Hid ((i.args.take n).filter (· != -1)=i.args.filter (· != -1)):=by show _=_;rw [List.take_of_length_le (by omega)]
   go_wp2
   go_ret
   rw [H.out,←HF.out]
   exact O.ret ((qaa _ _).trans (hbl.mono (by simp))) (by omega)
theorem qxc (i:In) (v:Value) (w:World) (hv:InV w v i) (hn:i.args.length≤1000) :
  Calls Try.prog 42 #[v] w (qij w (qbb i)):=by
 by_cases h:i.op<1∨12<i.op
 ·exact qxt i v w hv h
 ·by_cases h9:i.op=9
  ·exact qyd i v w hv h9 hn
  ·refine qyr i v w hv (by omega) (by omega) ?_
   rw [(qf3 i.op (by omega) (by omega)).2.2.2.2.2.2.2.2.1]
   simp [h9]
def qnu (n:Nat) (x:Int):Bool:=decide (x<0) || decide ((n:Int)≤x)
theorem qi8 (w:World) (x:Int) (pb:Nat) (a:Option Addr) (n c:Nat) (hc:w.cell? ⟨pb,5,none⟩=some (.slice a n c)) :
  Calls Try.prog 140 #[.int .i64 x,.pointer (some ⟨pb,0,none⟩)] w fun e w'=>e=.returned (.bool (qnu n x))∧w=w':=by
 by_cases h:x<0
 ·have H:Hid (qnu n x=true):=by show _=_;unfold qnu;simp [h]
  go_enter Try.func140,Try.ntmps140
  go_wp2
  go_ret
  exact ⟨qah H.out.symm,rfl⟩
 ·have H:Hid (qnu n x=decide ((n:Int)≤x)):=by show _=_;unfold qnu;simp [h]
  have h':decide (x<0)=false:=by simpa using h
  go_enter Try.func140,Try.ntmps140
  go_wp2
  go_ret
  exact ⟨qah H.out.symm,rfl⟩
def q2z (p:Int→Bool) (l:List Int) (r:Int):Prop:=(r= -1∧∀ j,j<l.length→p (l.getD j 0)=false)∨∃ k:Nat,k<l.length∧r=k∧p (l.getD k 0)=true∧∀ j,j<k→p (l.getD j 0)=false
theorem qw9 (l:List Int) (v:Value) (w:World) (hv:RdI w v l) (pb:Nat) (a:Option Addr) (n c:Nat) (hc:w.cell? ⟨pb,5,none⟩=some (.slice a n c)) (hn:l.length≤1000000) :
  Calls Try.prog 147 #[v,.func (.func 140) #[] #[.pointer (some ⟨pb,0,none⟩)]] w fun e w'=>∃ r,e=.returned (.int .i64 r)∧q2z (qnu n) l r∧w=w':=by
 obtain ⟨ad,cp,rfl,hl1,hl2,hcell⟩:=hv
 have HC:=qkm hcell
 clear hcell
 go_enter Try.func147,Try.ntmps147
 go_wp2
 go_loop [8] (fun i=>∃ k:Nat,k≤l.length∧i=.int .i64 k∧Hid (∀ j,j<k→qnu n (l.getD j 0)=false)) (fun i=>l.length-(intOf i).toNat)
 case atStart=>exact ⟨0,Nat.zero_le _,rfl,fun j hj=>absurd hj (by omega)⟩
 case round=>
  obtain ⟨k,hk,rfl,hno⟩:=hrel
  by_cases hlt:k<l.length
  ·obtain ⟨b,o,rfl,hcx⟩:=HC.out k hlt
   simp only [Nat.mul_one,Nat.add_zero] at hcx
   obtain ⟨x,hx⟩:∃ x,l.getD k 0=x:=⟨_,rfl⟩
   rw [hx] at hcx
   have HX:=qkm hx
   clear hx
   cases hp:qnu n x
   ·have HP:=qkm hp
    have E:Hid (∀ w:World,w.cell? ⟨pb,5,none⟩=some (.slice a n c)→Calls Try.prog 140 #[.int .i64 x,.pointer (some ⟨pb,0,none⟩)] w fun e w'=>e=.returned (.bool false)∧w=w'):=fun w hw=>(qi8 w x pb a n c hw).mono fun _ _ h=>⟨h.1.trans (qah hp),h.2⟩
    clear hp
    go_wp2_with (go_at_call 140;refine (E.out _ hc).mono ?_;rintro e w' ⟨rfl,rfl⟩)
    go_round
    case rel=>
     refine ⟨k+1,by omega,by go_num,fun j hj=>?_⟩
     by_cases hjk:j=k
     ·subst hjk;rw [HX.out];exact HP.out
     ·exact hno.out j (by omega)
    case measure=>simp [intOf];omega
   ·have HP:=qkm hp
    have E:Hid (∀ w:World,w.cell? ⟨pb,5,none⟩=some (.slice a n c)→Calls Try.prog 140 #[.int .i64 x,.pointer (some ⟨pb,0,none⟩)] w fun e w'=>e=.returned (.bool true)∧w=w'):=fun w hw=>(qi8 w x pb a n c hw).mono fun _ _ h=>⟨h.1.trans (qah hp),h.2⟩
    clear hp
    go_wp2_with (go_at_call 140;refine (E.out _ hc).mono ?_;rintro e w' ⟨rfl,rfl⟩)
    go_ret
    exact ⟨_,rfl,.inr ⟨k,hlt,rfl,by rw [HX.out];exact HP.out,hno.out⟩,rfl⟩
  ·go_wp2
   go_ret
   exact ⟨_,rfl,.inl ⟨rfl,fun j hj=>hno.out j (by omega)⟩,rfl⟩
end
section
theorem qa8.cellAt {w:World} {B g n c:Nat} {l:List Int} (h:qa8 w B (.slice (some ⟨g,0,none⟩) n c) l):n=l.length∧n≤c∧c≤maxLen∧B≤g∧(∀ i,i<n→w.cell? ⟨g,i,none⟩=some (.int .i64 (l.getD i 0)))∧∀ i,w.frozen? ⟨g,i,none⟩=false:=by
 obtain ⟨ad,cp,h1,h2,h3,h4⟩:=h.rd
 simp only [Value.slice.injEq] at h1
 obtain ⟨rfl,rfl,rfl⟩:=h1
 have hf:=World.ownsRow.frozenAt h
 obtain ⟨_,⟨h5,_⟩|⟨g',cap,cur,h5,hb,_⟩⟩:=h
 ·simp at h5
 ·simp only [Value.slice.injEq,Option.some.injEq,Addr.mk.injEq] at h5
  refine ⟨rfl,h2,h3,by omega,fun i hi=>?_,hf⟩
  obtain ⟨b,o,e,hc⟩:=h4 i hi
  simp only [Option.some.injEq,Addr.mk.injEq] at e
  obtain ⟨rfl,rfl,_⟩:=e
  simpa using hc
end
end Go.Proofs.Ytmcddolkpcgddaa
