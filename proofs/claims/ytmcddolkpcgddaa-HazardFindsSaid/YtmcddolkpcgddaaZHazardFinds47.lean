/-
Is a module right, and not too large: the walk of the statements' Right.
-/
import Derived.Test.YtmcddolkpcgddaaZHazardFinds46
set_option maxHeartbeats 4000000
set_option maxRecDepth 100000
set_option linter.all false
namespace Go.Proofs.Ytmcddolkpcgddaa
open Go.ChangeShapes Go.WideShapes Go.ChangeAt Go.RowKit
section
def q2d:In:=⟨8,0, -1, -1,0,0,0,0,0,[],false⟩
def qif:In:=⟨5,1,0, -1,0,0,0,4,0,[],false⟩
def qlh:In:=⟨6, -1,0,1,0,0,0,4,0,[],false⟩
def qej:Pr:=⟨false,0,2,[],[⟨[q2d,qif,qlh],3,0,0,0⟩]⟩
def qz4:Md:=⟨[⟨4,4,0⟩],[[0,0,0,0]],[qej],0⟩
def qmb (w:World):List Obj:=[.cells #[.string ⟨#[]⟩,.int .i64 4,.int .i64 4,.int .i64 0] 92,
 .cells #[.int .i64 8,.int .i64 0,.int .i64 (-1),.int .i64 (-1),.int .i64 0,.int .i64 0,.int .i64 0,.int .i64 0,.int .u32 0,.slice none 0 0,.bool false,.int .i64 5,.int .i64 1,.int .i64 0,.int .i64 (-1),.int .i64 0,.int .i64 0,.int .i64 0,.int .i64 4,.int .u32 0,.slice none 0 0,.bool false,.int .i64 6,.int .i64 (-1),.int .i64 0,.int .i64 1,.int .i64 0,.int .i64 0,.int .i64 0,.int .i64 4,.int .u32 0,.slice none 0 0,.bool false] 58,
 .cells #[.string ⟨#[]⟩,.int .i64 4,.int .i64 4,.int .i64 0] 92,
 .cells #[.int .u8 0,.int .u8 0,.int .u8 0,.int .u8 0] 5,
 .cells #[.slice (some ⟨w.heap.size+1+1+1,0,none⟩) 4 4] 93,
 .cells #[.slice (some ⟨w.heap.size+1,0,none⟩) 3 3,.int .i64 3,.int .i64 0,.int .i64 0,.int .i64 0] 51,
 .cells #[.string ⟨#[]⟩,.bool false,.int .i64 0,.int .i64 2,.slice none 0 0,.slice (some ⟨w.heap.size+1+1+1+1+1,0,none⟩) 1 1] 32,
 .cells #[.slice (some ⟨w.heap.size+1+1,0,none⟩) 1 1,.slice (some ⟨w.heap.size+1+1+1+1,0,none⟩) 1 1,.slice (some ⟨w.heap.size+1+1+1+1+1+1,0,none⟩) 1 1,.int .i64 0] 26]
def q21 (w:World):Value:=.agg #[.slice (some ⟨w.heap.size+1+1,0,none⟩) 1 1,.slice (some ⟨w.heap.size+1+1+1+1,0,none⟩) 1 1,.slice (some ⟨w.heap.size+1+1+1+1+1+1,0,none⟩) 1 1,.int .i64 0]
theorem q2h (w:World):MdV (qbj w (qmb w)) (q21 w) qz4:=by
 have H:=qai (qmb w) w
 have hi:=qbd.lit (w:=qbj w (qmb w)) (g:=w.heap.size+1) [(q2d,qqr),(qif,qqr),(qlh,qqr)] (by simp) (H 1 (by simp [qmb])) (fun x hx=>by
  simp only [List.mem_cons,List.not_mem_nil,or_false] at hx
  rcases hx with rfl|rfl|rfl <;> exact RdI.nil _)
 have hb:=qbl.lit (w:=qbj w (qmb w)) (g:=w.heap.size+5) [((⟨_,3,0,0,0⟩:Bk),qf4 (w.heap.size+1) 3)] (by simp) (H 5 (by simp [qmb])) (fun x hx=>by
  simp only [List.mem_cons,List.not_mem_nil,or_false] at hx
  subst hx;exact hi)
 have hs:=qce.lit (w:=qbj w (qmb w)) (g:=w.heap.size+2) [((⟨4,4,0⟩:Sl),⟨#[]⟩)] (by simp) (H 2 (by simp [qmb]))
 have hy:=RdY.lit (w:=qbj w (qmb w)) (g:=w.heap.size+3) [0,0,0,0] (by simp) (H 3 (by simp [qmb]))
 have hp:=qcx.lit (w:=qbj w (qmb w)) (g:=w.heap.size+6) [((⟨false,0,2,[],_⟩:Pr),⟨#[]⟩,qqr,qf4 (w.heap.size+5) 1)] (by simp) (H 6 (by simp [qmb])) (fun x hx=>by
  simp only [List.mem_cons,List.not_mem_nil,or_false] at hx
  subst hx;exact ⟨qce.nil _,hb⟩)
 have h4:=H 4 (by simp [qmb])
 refine ⟨_,_,_,rfl,hs,⟨_,_,rfl,Nat.le_refl _,by decide,fun i hi=>?_⟩,hp⟩
 have e:i=0:=by have:i<1:=hi;omega
 subst e
 exact ⟨_,_,rfl,_,qab h4 0,hy⟩
theorem q17:quq qej:=by
 refine ⟨by unfold I64;decide,by unfold I64;decide,(fun s hs=>by cases hs),fun b hb=>?_⟩
 simp only [qej,List.mem_singleton] at hb;subst hb
 refine ⟨fun i hi=>?_,by unfold I64;decide,by unfold I64;decide,by unfold I64;decide,by unfold I64;decide⟩
 simp only [List.mem_cons,List.not_mem_nil,or_false] at hi
 rcases hi with rfl|rfl|rfl
 all_goals exact ⟨by unfold I64;decide,by unfold I64;decide,by unfold I64;decide,by unfold I64;decide,by unfold I64;decide,by unfold I64;decide,by unfold I64;decide,by unfold I64;decide,by decide,(fun x hx=>by cases hx)⟩
theorem q2b:FiA qz4 0 where
 hn:=by decide
 pl:=by decide
 gl:=by decide
 r0:=by decide
 r40:=by decide
 ob:=by decide
 ok:=by decide
 pr:=q17
 b0:=by decide
 bl:=by decide
 il:=fun b hb=>by
  have hb:b∈qej.blks:=hb
  simp only [qej,List.mem_singleton] at hb;subst hb
  exact ⟨by decide,fun i hi=>by
   simp only [List.mem_cons,List.not_mem_nil,or_false] at hi
   rcases hi with rfl|rfl|rfl <;> decide⟩
 ou:=fun j hj t ht=>by
  have hj:j<1:=hj
  obtain rfl:j=0:=by omega
  have ht:t∈([]:List Int):=ht
  cases ht
 ac:=fun b hb i hi hm=>by
  have hb:b∈qej.blks:=hb
  simp only [qej,List.mem_singleton] at hb;subst hb
  simp only [List.mem_cons,List.not_mem_nil,or_false] at hi
  rcases hi with rfl|rfl|rfl
  ·exact absurd hm (by decide)
  ·exact ⟨⟨by decide,by decide⟩,⟨by decide,by decide⟩,by decide,by decide⟩
  ·exact ⟨⟨by decide,by decide⟩,⟨by decide,by decide⟩,by decide,by decide⟩
 hof:=fun r=>by
  show -100000≤(exF qej r).off∧(exF qej r).off≤100000
  unfold exF
  split
  ·rename_i h
   have h3:r=0∨r=1:=by have:qej.regs=2:=rfl;omega
   rcases h3 with rfl|rfl <;> decide
  ·decide
theorem qye {k:VwK} {x:AS} {sp:List Sp} (hbl:k.bs.length=qej.regs.toNat) (hC:∀ c∈qeh qej,c.holds x.sem) (hsp:∀ r,r<qej.regs.toNat→sp.getD r default=spP qej r):qbe k x sp qif qlh=true:=by
 have e0:=qit hbl (by decide) hsp 0
 have f0:exF qej 0=⟨0,0,true⟩:=by rfl
 have c0:(x.regs.getD 0 0).testBit 0=true:=hC (.put 0 0) (by simp [qeh,qej,qz6,qeo,q2d,qlh,qif])
 have hne:((x.regs.getD 0 0 &&& x.regs.getD 0 0) !=0)=true:=by
  rw [bne_iff_ne]
  intro h
  have:(x.regs.getD 0 0 &&& x.regs.getD 0 0).testBit 0=true:=by rw [Nat.testBit_and,c0];rfl
  rw [h] at this
  simp at this
 unfold qbe
 rw [show qif.a=0 from rfl,show qlh.a=0 from rfl,e0,f0]
 show (_ && _ && (x.regs.getD 0 0 &&& x.regs.getD 0 0 !=0) && _)=_
 rw [hne]
 rfl
theorem q1z {meet:In→In→Bool} (h:meet qif qlh=true) {X:List Nat} (hS:qcf [] 1 qej X):qv1 [] qej meet X 0=[2]:=by
 have h0:X.getD 0 0=0:=by
  apply Nat.eq_of_testBit_eq
  intro y
  rw [Nat.zero_testBit]
  cases hx:(X.getD 0 0).testBit y with
  | false=>rfl
  | true=>
   exfalso
   have hw:=hS 0 y hx
   generalize hz:(0:Nat)=z at hw
   cases hw with
   | mk n t hh y hn hw he ht=>
    have hn:n<1:=hn
    obtain rfl:n=0:=by omega
    have:((z:Nat):Int)∈([]:List Int):=ht
    cases this
 unfold qv1
 rw [h0]
 show (List.range 3).filter _=_
 have e:List.range 3=[0,1,2]:=rfl
 rw [e]
 have k0:qiq [] (qad qej) meet (qja [] (qad qej).length qej 0 0 0) ((qej.blks.getD 0 default).ins.getD 0 default)=false:=rfl
 have k1:qiq [] (qad qej) meet (qja [] (qad qej).length qej 0 1 0) ((qej.blks.getD 0 default).ins.getD 1 default)=false:=rfl
 have k2:qiq [] (qad qej) meet (qja [] (qad qej).length qej 0 2 0) ((qej.blks.getD 0 default).ins.getD 2 default)=true:=by
  unfold qiq
  rw [show ((qej.blks.getD 0 default).ins.getD 2 default)=qlh from rfl,show (qja [] (qad qej).length qej 0 2 0)=1 from rfl,show qad qej=[qif] from rfl]
  show (_ || (_ && (List.range 1).any fun x=>(1:Nat).testBit x && meet ([qif].getD x default) qlh))=true
  rw [show List.range 1=[0] from rfl]
  simp only [List.any_cons,List.any_nil]
  rw [show [qif].getD 0 default=qif from rfl,h]
  rfl
 simp only [List.filter_cons,List.filter_nil,k0,k1,k2,if_true,if_false,Bool.false_eq_true]
theorem qf9 (w:World):Calls Try.prog 15 #[] w fun e w'=>e=.returned (.bool true)∧Below w.heap.size w w':=by
 have HB:=qkm (qa0 (qmb w) w)
 obtain ⟨W0,hW0⟩:∃ W0,W0=qbj w (qmb w):=⟨_,rfl⟩
 have HR:=qkm (qw4 qz4 0 [] (q21 w) (.slice none 0 0) (qbj w (qmb w)) (q2h w) ⟨none,0,rfl,Nat.le_refl _,by decide,fun i hi=>absurd hi (Nat.not_lt_zero i)⟩ q2b)
 rw [←hW0] at HB HR
 have HW0:=qkm hW0
 clear hW0
 go_enter Try.func15,Try.ntmps15
 go_wp2_with fail
 have HR2:=HR.out
 rw [HW0.out] at HR2
 refine Calls.mono HR2 ?_
 clear HR2
 rw [←HW0.out]
 rintro e w1 ⟨gP,vs,X,k,x,sp,rfl,hP,hS,hSt,hbl,hkT,hE,hC,hsp,hkp,hN⟩
 have hm:=qye (sp:=sp) (x:=x) hbl hC hsp
 have hz:qv1 (qb8 qej []) qej (qbe k x sp) X 0=[2]:=q1z hm hS
 have hrow:qa8 w1 (gP+2) (vs.getD 0 undef) [2]:=by
  have h:=hP.row 0 (by decide)
  have e:((List.range (qz4.procs.getD 0 default).blks.length).map fun b=>(qv1 (qb8 (qz4.procs.getD 0 default) []) (qz4.procs.getD 0 default) (qbe k x sp) X b).map fun j:Nat=>(j:Int)).getD 0 []=(qv1 (qb8 qej []) qej (qbe k x sp) X 0).map fun j:Nat=>(j:Int):=rfl
  rw [e,hz] at h
  exact h
 have HP0:Hid (w1.cell? ⟨gP,0,none⟩=some (vs.getD 0 undef)):=hP.cell (j:=0) (by decide)
 obtain ⟨ar,cr,ev,hr1,hr2,hrc⟩:=qa8.rd hrow
 obtain ⟨br,or,har,hc⟩:=hrc 0 (by decide)
 subst har
 rw [ev] at HP0
 have hp0:=HP0.out
 unfold maxLen at hr2
 have BB:=qkm (HB.out.trans (hP.below.mono HB.out.size))
 simp only [Nat.mul_one,Nat.add_zero] at hc
 have hc:w1.cell? ⟨br,or,none⟩=some (.int .i64 2):=hc
 clear hP hS hSt hbl hkT hE hC hsp hkp hN hm hz hrow HP0 ev hrc HR HB
 go_wp2_with fail
 go_ret
 exact ⟨rfl,BB.out⟩
end
section
theorem qxk {m:Md} (h:qia m=true):SzM m:=by
 unfold qia at h
 simp only [Bool.and_eq_true,List.all_eq_true] at h
 refine ⟨fun p hp=>?_⟩
 have h2:=h.2.2.2 p hp
 unfold prF at h2
 simp only [Bool.and_eq_true,decide_eq_true_eq,List.all_eq_true] at h2
 refine ⟨by omega,fun b hb=>?_⟩
 have h3:=h2.2.2 b hb
 unfold qr5 at h3
 simp only [Bool.and_eq_true,decide_eq_true_eq] at h3
 omega
theorem qzn {m:Md} (h:qia m=true) {p:Pr} (hp:p∈m.procs):p.blks.length≤40∧p.objs.length≤20∧∀ b∈p.blks,b.ins.length≤60∧∀ i∈b.ins,qot i=true:=by
 unfold qia at h
 simp only [Bool.and_eq_true,List.all_eq_true] at h
 have h2:=h.2.2.2 p hp
 unfold prF at h2
 simp only [Bool.and_eq_true,decide_eq_true_eq,List.all_eq_true] at h2
 refine ⟨h2.1,h2.2.1,fun b hb=>?_⟩
 have h3:=h2.2.2 b hb
 unfold qr5 at h3
 simp only [Bool.and_eq_true,decide_eq_true_eq,List.all_eq_true] at h3
 exact h3
end
section
def qc4 (m:Md) (n:Int):Bool:=qia m && (decide (0≤n) && (decide (n<(m.procs.length:Int)) && (decide ((m.procs.getD n.toNat default).regs≤40) && okM m)))
theorem qvl (m:Md) (v:Value) (n:Int) (w:World) (hv:MdV w v m) :
  Calls Try.prog 8 #[v,.int .i64 n] w fun e w'=>e=.returned (.bool (qc4 m n))∧Below w.heap.size w w':=by
 have HF:Hid (∀ w',Ext w w'→Calls Try.prog 22 #[v] w' fun e w''=>e=.returned (.bool (qia m))∧Below w'.heap.size w' w''):=fun w' he=>q2c m v w' (hv.ext he)
 have HV:=qkm hv
 obtain ⟨vg,vd,vp,rfl,hvg,hvd,hvp⟩:=hv
 have hvp':=hvp
 obtain ⟨ap,cp,rfl,hp1,hp2, -⟩:=hvp'
 unfold maxLen at hp2
 have HPS:=qkm (qcx.at6 hvp).2
 clear hvg hvd hvp
 obtain ⟨W0,hW0⟩:∃ W0,W0=w.alloc (.cells #[vg,vd,.slice ap m.procs.length cp,.int .i64 m.main] 26):=⟨_,rfl⟩
 have B0:Hid (Below w.heap.size w W0):=by rw [hW0];exact qaa w _
 have H0:=qkm (qb0 w _ _ hW0)
 have HW0:=qkm hW0
 clear hW0
 go_enter Try.func8,Try.ntmps8
 go_wp2_with fail
 rw [←HW0.out]
 refine (HF.out W0 (Ext.below B0.out)).mono ?_
 rintro e w1 ⟨rfl,hb1⟩
 have H0:=qkm ((hb1.block w.heap.size (qkp H0.out).1).trans H0.out)
 have BB:=qkm (B0.out.trans (hb1.mono B0.out.size))
 clear hb1 HF HW0 B0
 obtain ⟨y0,y1,y2,y3,l0⟩:=cl4 H0.out
 cases hfw:qia m
 ·have hR:Hid (qc4 m n=false):=by show _=_;unfold qc4;rw [hfw];rfl
  clear hfw
  go_wp2_with fail
  go_ret
  exact ⟨qah hR.out.symm,BB.out⟩
 ·by_cases h0:0≤n
  ·obtain ⟨k,rfl⟩:=Int.eq_ofNat_of_zero_le h0
   have g0:decide (0≤(k:Int))=true:=qkn (by omega)
   by_cases h1:k<m.procs.length
   ·have g1:decide ((k:Int)<(m.procs.length:Int))=true:=qkn (by omega)
    have g2:decide (k<m.procs.length)=true:=qkn h1
    obtain ⟨bp,op,tnm,tvo,tvb,hap,hto,htb,t0,t1,t2,t3,t4,t5⟩:=HPS.out k h1
    subst hap
    have hE:Ext w w1:=Ext.below BB.out
    replace t3:=hE _ _ t3
    have lbp:bp<w1.heap.size:=World.block_lt_of_cell? w1 _ t3
    clear hto htb t0 t1 t2 t4 t5 hE
    have HRG:Hid (qc4 m (k:Int)=(decide ((m.procs.getD k default).regs≤40) && okM m)):=by
     show _=_
     unfold qc4
     rw [hfw,g0,g1,Int.toNat_natCast];rfl
    have HSZ:=qkm (qxk hfw)
    clear hfw HPS
    generalize (m.procs.getD k default).regs=rg at *
    by_cases h2:rg≤40
    ·have g3:decide (rg≤40)=true:=qkn h2
     go_wp2_with fail
     refine (qxv m _ w1 (HV.out.ext (Ext.below BB.out)) HSZ.out).mono ?_
     rintro e w2 ⟨rfl,hb2⟩
     have BB:=qkm (BB.out.trans (hb2.mono BB.out.size))
     clear hb2
     cases hok:okM m
     ·have hR:Hid (qc4 m (k:Int)=false):=by show _=_;rw [HRG.out,g3,hok];rfl
      have hk:okE m=3:=by unfold okE;rw [hok];rfl
      rw [hk]
      clear hok hk
      go_wp2_with fail
      go_ret
      exact ⟨qah hR.out.symm,BB.out⟩
     ·have hR:Hid (qc4 m (k:Int)=true):=by show _=_;rw [HRG.out,g3,hok];rfl
      have hk:okE m=0:=by unfold okE;rw [hok];rfl
      rw [hk]
      clear hok hk
      go_wp2_with fail
      go_ret
      exact ⟨qah hR.out.symm,BB.out⟩
    ·have g3:decide (rg≤40)=false:=qko h2
     have hR:Hid (qc4 m (k:Int)=false):=by show _=_;rw [HRG.out,g3];rfl
     go_wp2_with fail
     go_ret
     exact ⟨qah hR.out.symm,BB.out⟩
   ·have g1:decide ((k:Int)<(m.procs.length:Int))=false:=qko (by omega)
    have g2:decide (k<m.procs.length)=false:=qko h1
    have hR:Hid (qc4 m (k:Int)=false):=by show _=_;unfold qc4;rw [hfw,g0,g1];rfl
    clear hfw
    go_wp2_with fail
    go_ret
    exact ⟨qah hR.out.symm,BB.out⟩
  ·have g0:decide (0≤n)=false:=qko h0
   have hR:Hid (qc4 m n=false):=by show _=_;unfold qc4;rw [hfw,g0];rfl
   clear hfw
   go_wp2_with fail
   go_ret
   exact ⟨qah hR.out.symm,BB.out⟩
theorem qtb {m:Md} {n:Int} (h:qc4 m n=true):qia m=true∧∃ k:Nat,n=(k:Int)∧k<m.procs.length∧(m.procs.getD k default).regs≤40∧okM m=true:=by
 unfold qc4 at h
 simp only [Bool.and_eq_true,decide_eq_true_eq] at h
 obtain ⟨h0,h1,h2,h3,h4⟩:=h
 exact ⟨h0,n.toNat,by omega,by omega,h3,h4⟩
end
end Go.Proofs.Ytmcddolkpcgddaa
