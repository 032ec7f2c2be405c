/-
The marking of live registers finds what going all ways on finds (plain lists, no program).
-/
import Derived.Test.YtmcddolkpcgddaaZHazardFinds06
set_option maxHeartbeats 2000000
set_option maxRecDepth 20000
set_option linter.all false
namespace Go.Proofs.Ytmcddolkpcgddaa
open Go.ChangeShapes Go.WideShapes Go.ChangeAt Go.RowKit
section
def okN (x:Int):Bool:= !(decide (1099511627776<x) || decide (x < -1099511627776))
def qhi (i:In):List Int:=[i.op,i.d,i.a,i.b,i.fn,i.obj,i.off,i.size]
def qot (i:In):Bool:=(qhi i).all okN && (i.args.all okN && decide (i.args.length≤12))
theorem qoq (l:List Int) (k:Nat) (h:k<l.length) (h1:(l.take k).all okN=true) (h2:okN (l.getD k 0)=true):(l.take (k+1)).all okN=true:=by
 rw [qcw l k h,List.all_append,h1];simp at h2 ⊢;exact h2
theorem qwt (l:List Int) (k:Nat) (h:k<l.length) (h2:okN (l.getD k 0)=false):l.all okN=false:=by
 rw [List.all_eq_false]
 exact ⟨l.getD k 0,by simp [List.getD,h],by rw [h2];decide⟩
theorem qw1 {x:Int} (h:okN x=false):1099511627776<x∨(¬ 1099511627776<x∧x < -1099511627776):=by
 unfold okN at h;simp at h;omega
theorem qtn {x:Int} (h:okN x=true):¬ 1099511627776<x∧¬ x < -1099511627776:=by
 unfold okN at h;simp at h;omega
theorem q2w (i:In) (v:Value) (w:World) (hv:InV w v i) (hn:i.args.length≤9223372036854775807) :
  Calls Try.prog 47 #[v] w fun e w'=>e=.returned (.bool (qot i))∧Below w.heap.size w w':=by
 obtain ⟨va,rfl,a,c,rfl,hc1,hc2,hcell⟩:=hv
 have HC:=qkm hcell
 clear hcell
 have HI:Hid (qot i=((qhi i).all okN && (i.args.all okN && decide (i.args.length≤12)))):=rfl
 have hnl:(qhi i).length=8:=rfl
 have HN:Hid (∀ (w1:World),qa8 (w1.alloc (.cells #[.int .i64 i.op,.int .i64 i.d,.int .i64 i.a,.int .i64 i.b,.int .i64 i.fn,.int .i64 i.obj,.int .i64 i.off,.int .i64 i.size] 3)) 0 (.slice (some ⟨w1.heap.size,0,none⟩) 8 8) (qhi i)):=fun w1=>qa8.mk w1 0 (qhi i) (Nat.zero_le _) (by rw [hnl];simp [maxLen])
 have hB:Hid (∀ o o',Below w.heap.size w ((w.alloc o).alloc o')):=fun o o'=>(qaa w o).trans ((qaa _ o').mono (by simp))
 go_enter Try.func47,Try.ntmps47
 go_wp2_with fail
 go_loopw [4] (fun k wr=>∃ n:Nat,n≤8∧k=.int .i64 (n:Int)∧wr=((w.alloc (.cells #[.int .i64 i.op,.int .i64 i.d,.int .i64 i.a,.int .i64 i.b,.int .i64 i.fn,.int .i64 i.obj,.int .i64 i.off,.int .i64 i.size,.int .u32 i.num,.slice a i.args.length c,.bool i.log] 58)).alloc (.cells #[.int .i64 i.op,.int .i64 i.d,.int .i64 i.a,.int .i64 i.b,.int .i64 i.fn,.int .i64 i.obj,.int .i64 i.off,.int .i64 i.size] 3))∧Hid (((qhi i).take n).all okN=true)) (fun k _=>8-(intOf k).toNat)
 case atStart=>exact ⟨0,Nat.zero_le _,rfl,rfl,rfl⟩
 case round=>
  obtain ⟨n,hn8,rfl,hwr,HA⟩:=hrel
  have hBr:Hid (Below w.heap.size w wr):=by rw [hwr];exact hB.out _ _
  have HNr:qa8 wr 0 (.slice (some ⟨w.heap.size+1,0,none⟩) 8 8) (qhi i):=by
   rw [hwr]
   have:=HN.out (w.alloc (.cells #[.int .i64 i.op,.int .i64 i.d,.int .i64 i.a,.int .i64 i.b,.int .i64 i.fn,.int .i64 i.obj,.int .i64 i.off,.int .i64 i.size,.int .u32 i.num,.slice a i.args.length c,.bool i.log] 58))
   simpa using this
  have q9:wr.cell? ⟨w.heap.size,9,none⟩=some (.slice a i.args.length c):=by rw [hwr];simp
  by_cases hlt:n<8
  ·have hcn:=HNr.cellAt.2.2.2.2.1 n hlt
   have hY:=qoq (qhi i) n (by rw [hnl];exact hlt) HA.out
   have hZ:=qwt (qhi i) n (by rw [hnl];exact hlt)
   generalize (qhi i).getD n 0=x at *
   cases hx:okN x
   ·have HF:Hid (qot i=false):=by show _=_;rw [HI.out,hZ hx];rfl
    have hx':=qw1 hx
    clear hY hZ hx HNr hwr
    rcases hx' with hx'|⟨hx',hx2⟩
    ·have e1:decide (1099511627776<x)=true:=qkn hx'
     go_wp2_with fail
     go_ret
     exact ⟨qah HF.out.symm,hBr.out⟩
    ·have e1:decide (1099511627776<x)=false:=qko hx'
     have e2:decide (x < -1099511627776)=true:=qkn hx2
     go_wp2_with fail
     go_ret
     exact ⟨qah HF.out.symm,hBr.out⟩
   ·have HA2:=qkm (hY hx)
    obtain ⟨hx1,hx2⟩:=qtn hx
    have e1:decide (1099511627776<x)=false:=qko hx1
    have e2:decide (x < -1099511627776)=false:=qko hx2
    clear hY hZ hx HNr
    have hwr2:=qkm hwr
    clear hwr
    go_wp2_with fail
    go_roundw
    case rel=>exact ⟨n+1,by omega,by go_num,hwr2.out,HA2⟩
    case measure=>simp [intOf];omega
  ·have HA3:Hid ((qhi i).all okN=true):=by have:=HA.out;rwa [List.take_of_length_le (by rw [hnl];omega)] at this
   clear HNr hwr HA
   go_wp2_with fail
   go_loopw [5] (fun k wr=>∃ n:Nat,n≤i.args.length∧k=.int .i64 (n:Int)∧Hid (Below w.heap.size w wr)∧wr.cell? ⟨w.heap.size,9,none⟩=some (.slice a i.args.length c)∧Hid ((i.args.take n).all okN=true)) (fun k _=>i.args.length-(intOf k).toNat)
   case atStart=>exact ⟨0,Nat.zero_le _,rfl,hBr,q9,rfl⟩
   case round=>
    clear q9
    obtain ⟨n,hnn,rfl,hBr,q9,HA⟩:=hrel
    by_cases hlt:n<i.args.length
    ·obtain ⟨b,o,rfl,hc⟩:=HC.out n hlt
     simp only [Nat.mul_one,Nat.add_zero] at hc
     replace hc:=Ext.below hBr.out _ _ hc
     have hY:=qoq i.args n hlt HA.out
     have hZ:=qwt i.args n hlt
     generalize i.args.getD n 0=x at *
     cases hx:okN x
     ·have HF:Hid (qot i=false):=by show _=_;rw [HI.out,HA3.out,hZ hx];rfl
      have hx':=qw1 hx
      clear hY hZ hx
      rcases hx' with hx'|⟨hx',hx2⟩
      ·have e1:decide (1099511627776<x)=true:=qkn hx'
       go_wp2_with fail
       go_ret
       exact ⟨qah HF.out.symm,hBr.out⟩
      ·have e1:decide (1099511627776<x)=false:=qko hx'
       have e2:decide (x < -1099511627776)=true:=qkn hx2
       go_wp2_with fail
       go_ret
       exact ⟨qah HF.out.symm,hBr.out⟩
     ·have HA2:=qkm (hY hx)
      obtain ⟨hx1,hx2⟩:=qtn hx
      have e1:decide (1099511627776<x)=false:=qko hx1
      have e2:decide (x < -1099511627776)=false:=qko hx2
      clear hY hZ hx
      go_wp2_with fail
      go_roundw
      case rel=>exact ⟨n+1,by omega,by go_num,hBr,q9,HA2⟩
      case measure=>simp [intOf];omega
    ·have HA4:Hid (i.args.all okN=true):=by have:=HA.out;rwa [List.take_of_length_le (by omega)] at this
     have HF:Hid (qot i=decide ((i.args.length:Int)≤12)):=by show _=_;rw [HI.out,HA3.out,HA4.out];simp;omega
     go_wp2_with fail
     go_ret
     exact ⟨qah HF.out.symm,hBr.out⟩
end
section
def qt1 (p:Pr) (l:List Int):Prop:=∀ t∈l,0≤t∧t<(p.blks.length:Int)
theorem qlv (p:Pr) (f:Nat) (n:Int) (ih:∀ t s,(0≤t∧t<(p.blks.length:Int))→qt1 p s.ord→qt1 p (rI p f t s).ord):∀ (l:List Int) (s:S3),qt1 p l→qt1 p s.ord→qt1 p (l.foldl (hI p f n) s).ord
 | [],_,_,hs=>hs
 | t::l,s,hl,hs=>by
  rw [List.foldl_cons]
  refine qlv p f n ih l _ (fun x hx=>hl x (List.mem_cons_of_mem _ hx)) ?_
  unfold hI
  split
  ·exact hs
  ·split
   ·exact ih t s (hl t List.mem_cons_self) hs
   ·exact hs
theorem qwx (p:Pr):∀ (f:Nat) (n:Int) (s:S3),(0≤n∧n<(p.blks.length:Int))→qt1 p s.ord→qt1 p (rI p f n s).ord
 | 0,_,_,_,hs=>hs
 | f+1,n,s,hn,hs=>by
  rw [qfs]
  have:=qlv p f n (qwx p f) (qa1 p n.toNat) (s.enter n) (fun t ht=>qck ht) hs
  intro t ht
  rcases List.mem_append.1 ht with ht|ht
  ·exact this t ht
  ·rw [List.mem_singleton.1 ht];exact hn
theorem qrp (p:Pr):qt1 p (wkD p).ord:=by
 rcases Nat.eq_zero_or_pos p.blks.length with h0|h0
 ·unfold wkD
  rw [h0]
  intro t ht
  cases ht
 ·exact qwx p _ 0 _ (by omega) (fun t ht=>by cases ht)
def qc3 (p:Pr):List Bool:=qei (List.replicate p.blks.length false) (wkD p).ord.reverse
end
section
theorem qzl (l:List Bool) (k:Nat) (h:k<l.length):setB l (k:Int) true=l.set k true:=by unfold setB;rw [if_pos ⟨by omega,by omega⟩];rfl
theorem qxs (p:Pr) (V:Value) (w:World) (hP:PrV w V p) (hlen:p.blks.length≤1000000) :
  Calls Try.prog 68 #[V] w fun e w'=>∃ g,e=.returned (.slice (some ⟨g,0,none⟩) p.blks.length p.blks.length)∧w.heap.size≤g∧qcn w' g p.blks.length p.blks.length (qc3 p)∧Below w.heap.size w w':=by
 have EW:Hid (∀ w',Ext w w'→Calls Try.prog 96 #[V] w' (WkR w' p)):=fun w' he=>qoa p V _ (hP.ext he) hlen
 obtain ⟨nm,vo,vb,rfl, -,a,c,rfl, -, -, -⟩:=hP
 have hmk:=run_make_row' (P:=Try.prog) 37 4 (.bool false) 1 Try.underlying37 qht rfl .i64 .i64 p.blks.length (by omega) (by omega)
 have hOB:=qkm (qrp p)
 go_enter Try.func68,Try.ntmps68
 go_wp2_with fail
 refine (EW.out _ ((Ext.alloc w _).trans (Ext.alloc _ _))).mono ?_
 rintro e w1 ⟨bw,bs,B,ov,bv,tv,hd,s,rfl,M,ho,hb,hr⟩
 have M:=qkm M
 have Ho:=qkm ho
 have hrm:s.ord.length≤10000000:=by omega
 clear ho hb hr
 have q7:w1.cell? ⟨bw,7,none⟩=some ov:=(M.out.wk.cellAt 7 (by decide)).trans (by rw [List.getElem?_append_right (by rw [M.out.hd6];decide),M.out.hd6];rfl)
 obtain ⟨a1,c1,rfl,h1,h2,h3⟩:=qa8.rd (show qa8 w1 B ov s.ord from M.out.ord)
 have H3:=qkm h3
 clear h3
 go_wp2_with fail
 have hOS:Hid (qt1 p s.ord):=by
  show qt1 p s.ord
  rw [Ho.out]
  exact fun t ht=>hOB.out t (List.mem_reverse.1 ht)
 have hRE:Hid (qc3 p=qei (List.replicate p.blks.length false) s.ord):=by show _=_;unfold qc3;rw [Ho.out]
 have hbl:=M.out.below
 have hR1:Hid (qcn w1 (w.heap.size+1) p.blks.length p.blks.length (List.replicate p.blks.length false)):=by
  have:=(q1r (w.alloc (.cells #[.string nm,.bool p.void,.int .i64 p.params,.int .i64 p.regs,vo,.slice a p.blks.length c] 32)) p.blks.length (by unfold maxLen;omega)).below hbl
  show qcn _ _ _ _ _
  simpa using this
 have hB1:Hid (Below w.heap.size w w1):=((qaa w _).trans ((qaa _ _).mono (by simp))).trans (hbl.mono (by simp;omega))
 have hw1:Hid (∀ b o l c,qa8 w1 B (.slice (some ⟨b,o,none⟩) l c) s.ord→b≠w.heap.size+1):=fun b o l c h=>by
  have h1:=(qa8.rf h).2 _ _ _ rfl
  have h2:=M.out.pB
  simp at h1 h2
  omega
 have hMO:Hid (qa8 w1 B (.slice a1 s.ord.length c1) s.ord):=M.out.ord
 clear hbl M q7 EW hmk Ho
 generalize s.ord=l at *
 go_loopw [16] (fun i wr=>∃ k:Nat,k≤l.length∧i=.int .i64 (k:Int)∧Hid (qcn wr (w.heap.size+1) p.blks.length p.blks.length (qei (List.replicate p.blks.length false) (l.take k)))∧Hid (But (w.heap.size+1) w1 wr)) (fun i _=>l.length-(intOf i).toNat)
 case atStart=>exact ⟨0,Nat.zero_le _,rfl,hR1,But.refl _ _⟩
 case round=>
  obtain ⟨k,hk,rfl,R,Bu⟩:=hrel
  by_cases hlt:k<l.length
  ·obtain ⟨b,o,rfl,hc⟩:=H3.out k hlt
   simp only [Nat.mul_one,Nat.add_zero] at hc
   have hbn:=hw1.out _ _ _ _ hMO.out
   replace hc:=Bu.out.ext _ _ hbn hc
   have hin:=hOS.out (l.getD k 0) (by simp [List.getD,hlt])
   have HM:=qnb (List.replicate p.blks.length false) l k hlt
   generalize l.getD k 0=t at *
   obtain ⟨tk,rfl⟩:=Int.eq_ofNat_of_zero_le hin.1
   have htk:tk<p.blks.length:=by omega
   obtain ⟨-, -, -, -,hcells,hfr,hgs⟩:=qfh.cellAt R.out
   have hcs:=hcells tk htk
   have hfs:=hfr tk
   have R2:Hid (qcn (wr.setCell ⟨w.heap.size+1,tk,none⟩ (.bool true)) (w.heap.size+1) p.blks.length p.blks.length (qei (List.replicate p.blks.length false) (l.take (k+1)))):=by
    have:=qfh.set R.out tk true
    rw [HM,qzl _ _ (by rw [qqd];simpa using htk)]
    exact this
   have B2:Hid (But (w.heap.size+1) w1 (wr.setCell ⟨w.heap.size+1,tk,none⟩ (.bool true))):=Bu.out.trans (But.setCell _ _ _ _)
   clear hcells hfr HM R Bu
   go_wp2_with fail
   go_roundw
   case rel=>exact ⟨k+1,by omega,by go_num,R2,B2⟩
   case measure=>simp [intOf];omega
  ·have hT:Hid (qcn wr (w.heap.size+1) p.blks.length p.blks.length (qc3 p)):=by
    have:=R.out
    rw [List.take_of_length_le (by omega)] at this
    show qcn _ _ _ _ _
    rw [hRE.out]
    exact this
   go_wp2_with fail
   go_ret
   exact ⟨_,rfl,by omega,hT.out,hB1.out.trans (Bu.out.toBelow (by omega) hB1.out.size)⟩
end
section
structure FrR (w w':World) (bw bs:Nat) (ov bv ov' bv':Value):Prop where
 os:w'.os=w.os
 tape:w'.tape=w.tape
 output:w'.output=w.output
 size:w.heap.size≤w'.heap.size
 block:∀ k,k<w.heap.size→k≠bw→k≠bs→ov.ownBlock≠some k→bv.ownBlock≠some k→w'.heap[k]?=w.heap[k]?
 no:qos w ov ov'
 nb:qos w bv bv'
theorem qn5 {w:World} {v v':Value} {k:Nat} (h:qos w v v') (hk:k<w.heap.size) (hv:v.ownBlock≠some k):v'.ownBlock≠some k:=by
 rcases h with e|⟨j,hj,e⟩
 ·rw [e];exact hv
 ·rw [e];intro e2;simp only [Option.some.injEq] at e2;omega
theorem qos.trans {w w1:World} {v v1 v2:Value} (h:qos w v v1) (h1:qos w1 v1 v2) (hs:w.heap.size≤w1.heap.size):qos w v v2:=by
 rcases h1 with e|⟨j,hj,e⟩
 ·rcases h with e0|⟨k,hk,e0⟩
  ·exact .inl (e.trans e0)
  ·exact .inr ⟨k,hk,e.trans e0⟩
 ·exact .inr ⟨j,Nat.le_trans hs hj,e⟩
theorem FrR.trans {a b c:World} {bw bs:Nat} {o1 b1 o2 b2 o3 b3:Value} (h:FrR a b bw bs o1 b1 o2 b2) (h':FrR b c bw bs o2 b2 o3 b3):FrR a c bw bs o1 b1 o3 b3 :=
 ⟨h'.os.trans h.os,h'.tape.trans h.tape,h'.output.trans h.output,Nat.le_trans h.size h'.size,
   fun k hk k1 k2 k3 k4=>(h'.block k (Nat.lt_of_lt_of_le hk h.size) k1 k2 (qn5 h.no hk k3) (qn5 h.nb hk k4)).trans (h.block k hk k1 k2 k3 k4),
   h.no.trans h'.no h.size,h.nb.trans h'.nb h.size⟩
section
variable {w:World} {bw bs B n:Nat} {s:S3} {ov bv:Value}
end
end
section
open Go Go.RowKit
def LvS (p:Pr) (r:Int) (n:Nat):Prop :=
 ∀ S:Nat→Prop,(∀ n,qgv (p.blks.getD n default) 0 r=1→S n)→(∀ n t,qgv (p.blks.getD n default) 0 r=0→t∈qa1 p n→S t.toNat→S n)→S n
theorem LvS.on {p:Pr} {r:Int} (n:Nat) (t:Int) (h:qgv (p.blks.getD n default) 0 r=0) (ht:t∈qa1 p n) (h':LvS p r t.toNat):LvS p r n:=fun S h1 h2=>h2 n t h ht (h' S h1 h2)
theorem qqy (l:List Bool) (i j:Nat) (h:i<l.length):(l.set i true).getD j false=if j=i then true else l.getD j false:=by
 simp only [List.getD,List.getElem?_set]
 by_cases e:i=j
 ·subst e;simp [h]
 ·simp [e,Ne.symm e]
theorem qva (l:List Bool) (x:Int) (is:Bool) (r:Nat) (h:r<l.length):(setB l x is).getD r false=if x=r then is else l.getD r false:=by
 unfold setB
 split
 ·simp only [List.getD,List.getElem?_set]
  by_cases e:x.toNat=r
  ·rw [if_pos e,if_pos (by omega),if_pos (by omega)];rfl
  ·rw [if_neg e,if_neg (by omega)]
 ·rw [if_neg (by omega)]
theorem qpq (l:List Bool) (rs:List Int) (r:Nat) (h:r<l.length):(qei l rs).getD r false=(l.getD r false || qr2 rs r):=by
 unfold qei
 induction rs generalizing l with
 | nil=>simp [qr2]
 | cons x rs ih=>
  rw [List.foldl_cons,ih _ (by rw [qn4];exact h),qva _ _ _ _ h]
  unfold qr2
  rw [List.contains_cons]
  by_cases e:x=r
  ·subst e;simp
  ·rw [if_neg e,show ((r:Int) ==x)=false from beq_eq_false_iff_ne.2 (Ne.symm e),Bool.false_or]
end
end Go.Proofs.Ytmcddolkpcgddaa
