/-
Two machines of single steps side by side: if one follows the other, runs that end have the same outcome; what holds of a machine's calls. Plain.
-/
import Derived.Test.YtmcddolkpcgddaaZHazardFinds21
set_option maxHeartbeats 8000000
set_option maxRecDepth 100000
set_option linter.all false
namespace Go.Proofs.Ytmcddolkpcgddaa
section
open Go.ChangeShapes Go.WideShapes Go.ChangeAt Go.RowKit
structure RI (m:Md) (w W6:World) (br bm:Nat) (vg vd vp vi:Value) (en fuel:Int) (ja jm:Nat) (vat:Value) (wr:World):Prop where
 bx:wr.ownsRow w.heap.size 108 14 (qib br 1) 1 [vg,vd,vp,.int .i64 m.main,qib bm 65536,vat,.int .i64 en,vi,.slice none 0 0,.int .i64 0,.int .u32 0,.int .i64 0,.int .i64 fuel,.int .i64 0]
 mm:wr.ownsRow w.heap.size 5 1 (qib bm 65536) 65536 ((q22 m jm).map (Value.int .u8))
 aa:wr.ownsRow w.heap.size 3 1 vat ja (((slL m.globs ja).map (4096+·)).map (Value.int .i64))
 be:Below w.heap.size w wr
 kp:∀ b,b<W6.heap.size→b≠br→b≠bm→wr.heap[b]?=W6.heap[b]?
 vb:∀ g,vat.ownBlock=some g→W6.heap.size≤g
 sz:W6.heap.size≤wr.heap.size
section
variable {m:Md} {w W6 wr w1 w3:World} {br bm:Nat} {vg vd vp vi vat v':Value} {en fuel:Int} {ja jm:Nat}
theorem RI.grow (h:RI m w W6 br bm vg vd vp vi en fuel ja jm vat wr) (hb:Below wr.heap.size wr w1):RI m w W6 br bm vg vd vp vi en fuel ja jm vat w1 :=
 ⟨qav h.bx hb,qav h.mm hb,qav h.aa hb,h.be.trans (hb.mono h.be.size),fun b hl h1 h2=>(hb.block b (Nat.lt_of_lt_of_le hl h.sz)).trans (h.kp b hl h1 h2),h.vb,Nat.le_trans h.sz hb.size⟩
end
theorem RdY.cells {w:World} {a:Option Addr} {n c:Nat} {l:List Int} (h:RdY w (.slice a n c) l):n=l.length∧(0<l.length→∃ ad,a=some ad∧∀ j v,(l.map (Value.int .u8))[j]?=some v→w.cell? (ad.add j)=some v):=by
 obtain ⟨a',c',e,h1,h2,hc⟩:=h
 simp only [Value.slice.injEq] at e
 obtain ⟨rfl,rfl,rfl⟩:=e
 refine ⟨rfl,fun h0=>?_⟩
 obtain ⟨b,o,rfl, -⟩:=hc 0 h0
 refine ⟨_,rfl,fun j v hj=>?_⟩
 have hl:j<l.length:=by
  have:=(List.getElem?_eq_some_iff.1 hj).1;simpa using this
 obtain ⟨b2,o2,e2,hq⟩:=hc j hl
 simp only [Option.some.injEq,Addr.mk.injEq,and_true] at e2
 obtain ⟨rfl,rfl⟩:=e2
 have e3:({ block:=b,off:=o }:Addr).add j=⟨b,o+j,none⟩:=by by_cases hj0:j=0 <;> simp [Addr.add,hj0]
 rw [e3]
 rw [List.getElem?_map] at hj
 simp only [Nat.mul_one,Nat.add_zero] at hq
 rw [hq]
 simp [List.getD,hl] at hj ⊢
 exact hj
end
section
def itM (m:Md) (inp:List Int):Nat→Ms→Ms
 | 0,M=>M
 | k+1,M=>if M.fin=true then M else itM m inp k (qfi m inp M)
theorem qmx {m:Md} {inp:List Int} (k:Nat) {M:Ms} (h:M.fin=true):itM m inp k M=M:=by cases k <;> simp [itM,h]
theorem qhh {m:Md} {inp:List Int} (k:Nat) {M:Ms} (h:M.fin=false):itM m inp (k+1) M=itM m inp k (qfi m inp M):=by simp [itM,h]
theorem qri {m:Md} {inp:List Int}:∀ (a b:Nat) (M:Ms),itM m inp (a+b) M=itM m inp b (itM m inp a M)
 | 0,b,M=>by rw [Nat.zero_add];rfl
 | a+1,b,M=>by
  cases h:M.fin
  ·rw [show a+1+b=(a+b)+1 by omega,qhh _ h,qhh _ h,qri a b]
  ·rw [qmx _ h,qmx _ h,qmx _ h]
structure qwb (a b:Oc):Prop where
 out:a.out=b.out
 ins:a.ins=b.ins
 exit:a.exit=b.exit
 e:a.e=b.e
theorem qwb.trans {a b c:Oc} (h:qwb a b) (k:qwb b c):qwb a c:=⟨h.out.trans k.out,h.ins.trans k.ins,h.exit.trans k.exit,h.e.trans k.e⟩
def fBk (m:Md) (f:Fr):Bk:=(pk m f.n).blks.getD f.b default
def fIn (m:Md) (f:Fr):In:=(fBk m f).ins.getD f.i default
theorem qn1 {m:Md} {inp:List Int} {f:Fr} {K:List Fr} {s:Oc} (hl:f.i=(fBk m f).ins.length) (h3:(fBk m f).fin=3):qfi m inp ⟨f::K,false,s⟩=qm5 m K (if (fBk m f).a≠ -1 then rg f.regs (fBk m f).a else 0) s:=(if_pos hl).trans (if_pos h3)
def qp3 (m:Md) (f:Fr):Fr:={ f with b:=(if (fBk m f).fin=2∧rg f.regs (fBk m f).a=0 then (fBk m f).els else (fBk m f).to).toNat,i:=0 }
theorem qoy {m:Md} {inp:List Int} {f:Fr} {K:List Fr} {s:Oc} (hl:f.i=(fBk m f).ins.length) (h3:(fBk m f).fin≠3):qfi m inp ⟨f::K,false,s⟩=⟨qp3 m f::K,false,s⟩:=(if_pos hl).trans (if_neg h3)
def fUp (f:Fr):Fr:={ f with i:=f.i+1 }
theorem qiz {m:Md} {inp:List Int} {f:Fr} {K:List Fr} {s:Oc} (hl:f.i≠(fBk m f).ins.length) (h9:(fIn m f).op=9):qfi m inp ⟨f::K,false,s⟩=qeu m (fUp f::K) (fIn m f).obj.toNat ((fIn m f).args.map (rg f.regs)) f.low s:=(if_neg hl).trans (if_pos h9)
theorem qso {m:Md} {inp:List Int} {f:Fr} {K:List Fr} {s:Oc} (hl:f.i≠(fBk m f).ins.length) (h9:(fIn m f).op≠9) (h:qjt m inp (pk m f.n) f.low (fIn m f) f.regs s=none):qfi m inp ⟨f::K,false,s⟩=⟨fUp f::K,true,{ s with e:=12 }⟩:=by
 refine (if_neg hl).trans ((if_neg h9).trans ?_)
 show (match qjt m inp (pk m f.n) f.low (fIn m f) f.regs s with|none=>_|some (regs,s)=>_)=_
 rw [h]
 rfl
theorem qoi {m:Md} {inp:List Int} {f:Fr} {K:List Fr} {s:Oc} {r:List Int×Oc} (hl:f.i≠(fBk m f).ins.length) (h9:(fIn m f).op≠9) (h:qjt m inp (pk m f.n) f.low (fIn m f) f.regs s=some r):qfi m inp ⟨f::K,false,s⟩=⟨{ f with regs:=r.1,i:=f.i+1 }::K,false,r.2⟩:=by
 refine (if_neg hl).trans ((if_neg h9).trans ?_)
 show (match qjt m inp (pk m f.n) f.low (fIn m f) f.regs s with|none=>_|some (regs,s)=>_)=_
 rw [h]
theorem q1u {m:Md} (h:qtw m) {n b i:Nat} (hn:n<m.procs.length) (hb:b<(pk m n).blks.length) (hi:i<((pk m n).blks.getD b default).ins.length):q0a (((pk m n).blks.getD b default).ins.getD i default):=by
 have h1:=h.procs (pk m n) (by unfold pk;simp [List.getD,hn])
 have h2:=h1.blks ((pk m n).blks.getD b default) (by simp [List.getD,hb])
 generalize (pk m n).blks.getD b default=B at *
 exact h2.ins _ (by simp [List.getD,hi])
theorem qy2 {m:Md} {inp:List Int} {p:Pr} {low:Int} {i:In} {regs:List Int} {s:Oc} (hw:∀ x∈regs,0≤x∧x<4294967296) (hi:∀ x∈inp,0≤x∧x<4294967296) (hn:0≤i.num∧i.num<4294967296) (hm:qhv s.mem) (hs:i.op=5→i.size=1∨i.size=4) :
  ∀ r,qjt m inp p low i regs s=some r→∀ x∈r.1,0≤x∧x<4294967296:=by
 have hrg:=qji hw
 have M4:∀ x:Int,0≤x % 4294967296∧x % 4294967296<4294967296:=fun x=>⟨Int.emod_nonneg _ (by decide),Int.emod_lt_of_pos _ (by decide)⟩
 have S:∀ (n:Nat) (v:Int),(0≤v∧v<4294967296)→∀ (s':Oc) r,some (regs.set n v,s')=some r→∀ x∈r.1,0≤x∧x<4294967296:=fun n v hv s' r hr x hx=>by
  cases hr
  rcases List.mem_or_eq_of_mem_set hx with h|rfl
  ·exact hw x h
  ·exact hv
 have S0:∀ (s':Oc) r,some (regs,s')=some r→∀ x∈r.1,0≤x∧x<4294967296:=fun s' r hr x hx=>by cases hr;exact hw x hx
 have I:∀ n,0≤inp.getD n 0∧inp.getD n 0<4294967296:=fun n=>by
  by_cases h:n<inp.length
  ·exact hi _ (by simp [List.getD,h])
  ·have:inp.getD n 0=0:=by simp [List.getD,Nat.le_of_not_lt h]
   rw [this];exact ⟨by decide,by decide⟩
 intro r hr
 unfold qjt at hr
 by_cases h1:i.op=1
 ·rw [if_pos h1] at hr;exact S _ _ hn _ r hr
 rw [if_neg h1] at hr
 by_cases h2:i.op=2
 ·rw [if_pos h2] at hr;exact S _ _ (hrg _) _ r hr
 rw [if_neg h2] at hr
 by_cases h3:i.op=3
 ·rw [if_pos h3] at hr;exact S _ _ (qws _ _ _ (hrg _).1 (hrg _).2 (hrg _).1 (hrg _).2) _ r hr
 rw [if_neg h3] at hr
 by_cases h4:i.op=4
 ·rw [if_pos h4] at hr;exact S _ _ (qws _ _ _ (hrg _).1 (hrg _).2 (by decide) (by decide)) _ r hr
 rw [if_neg h4] at hr
 by_cases h5:i.op=5
 ·rw [if_pos h5] at hr
  split at hr
  ·refine S _ _ ?_ _ r hr
   have hb:=qog s.mem hm (qsw regs i-268435456).toNat i.size.toNat
   have:(256:Int) ^ i.size.toNat≤4294967296:=by rcases hs h5 with h|h <;> rw [h] <;> decide
   omega
  ·cases hr
 rw [if_neg h5] at hr
 by_cases h6:i.op=6
 ·rw [if_pos h6] at hr
  split at hr
  ·exact S0 _ r hr
  ·cases hr
 rw [if_neg h6] at hr
 by_cases h7:i.op=7
 ·rw [if_pos h7] at hr;exact S _ _ (M4 _) _ r hr
 rw [if_neg h7] at hr
 by_cases h8:i.op=8
 ·rw [if_pos h8] at hr;exact S _ _ (M4 _) _ r hr
 rw [if_neg h8] at hr
 by_cases h10:i.op=10
 ·rw [if_pos h10] at hr;exact S0 _ r hr
 rw [if_neg h10] at hr
 by_cases h11:i.op=11
 ·rw [if_pos h11] at hr
  refine S _ _ ?_ _ r hr
  split
  ·exact I _
  ·exact ⟨by decide,by decide⟩
 rw [if_neg h11] at hr
 exact S0 _ r hr
theorem q0o {m:Md} {p:Pr} {i:In} (h:okI m p i=true) (h5:i.op=5∨i.op=6):i.size=1∨i.size=4:=by
 unfold okI at h
 simp only [Bool.and_eq_true] at h
 obtain ⟨-,h⟩:=h
 rw [if_neg (by omega)] at h
 simp only [Bool.and_eq_true] at h
 have hm:=h.2
 unfold qeb at hm
 rw [if_neg (by omega),if_neg (by omega),if_pos h5] at hm
 simp at hm
 exact hm.1
theorem qtl {m:Md} (hok:okM m=true) {n:Nat} (hn:n<m.procs.length):0≤qmu (pk m n):=by
 have hH:=qe7 (qgf hok hn)
 exact (ql2 hH.sl hH.ol _ (Nat.le_refl _)).1
theorem qfx {m:Md} {p:Pr} {i:In} (h:okI m p i=true) (h9:i.op=9):0≤i.obj∧i.obj<(m.procs.length:Int)∧(i.args.length:Int)=(pk m i.obj.toNat).params∧qby p i.d (!(pk m i.obj.toNat).void)=true∧(i.args.all fun r=>qby p r true)=true:=by
 unfold okI at h
 simp only [Bool.and_eq_true] at h
 have h:=h.2
 rw [if_pos h9] at h
 simp only [qd0,Bool.and_eq_true,decide_eq_true_eq] at h
 exact ⟨h.1.1,h.1.2.1,h.1.2.2.1,h.1.2.2.2.1,h.1.2.2.2.2⟩
theorem qhu (mem:List Int) (n:Nat) (v:Int):∀ k,(ql7 mem n v k).length=mem.length
 | 0=>rfl
 | k+1=>by rw [ql7,List.length_set,qhu]
def q0b (s:Oc) (o:Option (List Int×Oc)):Prop:=∀ r,o=some r→r.2.mem.length=s.mem.length
theorem qxn {s:Oc} {q:Prop} [Decidable q] {a b:Option (List Int×Oc)} (h:q0b s a) (h':q0b s b):q0b s (if q then a else b):=by split <;> assumption
theorem qv3 {s:Oc}:q0b s none:=fun _ h=>by cases h
theorem qod {s:Oc} {x:List Int} {y:Oc} (h:y.mem.length=s.mem.length):q0b s (some (x,y)):=fun _ h2=>by cases h2;exact h
theorem qua {m:Md} {inp:List Int} {p:Pr} {low:Int} {i:In} {regs:List Int} {s:Oc} {r:List Int×Oc} (h:qjt m inp p low i regs s=some r):r.2.mem.length=s.mem.length:=by
 have H:q0b s (qjt m inp p low i regs s):=by
  unfold qjt
  repeat' apply qxn
  all_goals first
   | exact qv3
   | exact qod rfl
   | exact qod (qhu _ _ _ _)
 exact H r h
structure qty (mem:List Int):Prop where
 ok:qhv mem
 len:mem.length=65536
structure GFr (m:Md) (fr:Fr):Prop where
 n:fr.n<m.procs.length
 b:fr.b<(pk m fr.n).blks.length
 i:fr.i≤((pk m fr.n).blks.getD fr.b default).ins.length
 r:(fr.regs.length:Int)=(pk m fr.n).regs
 w:∀ x∈fr.regs,0≤x∧x<4294967296
 l:0≤fr.low∧fr.low≤65536
structure UFr (m:Md) (fr:Fr):Prop where
 g:GFr m fr
 i:1≤fr.i
 c:(((pk m fr.n).blks.getD fr.b default).ins.getD (fr.i-1) default).op=9
structure MIv (m:Md) (M:Ms):Prop where
 fr:∀ fr∈M.stk,GFr m fr
 up:∀ fr∈M.stk.tail,UFr m fr
 mem:qty M.s.mem
theorem GFr.set {m:Md} {fr:Fr} (h:GFr m fr) (n:Nat) (v:Int) (hv:0≤v∧v<4294967296):GFr m { fr with regs:=fr.regs.set n v } :=
 ⟨h.n,h.b,h.i,by simpa using h.r,fun x hx=>by
   rcases List.mem_or_eq_of_mem_set hx with h2|rfl
   ·exact h.w x h2
   ·exact hv,h.l⟩
def qpv (m:Md) (c:Fr) (v:Int):Fr :=
 if (((pk m c.n).blks.getD c.b default).ins.getD (c.i-1) default).d≠ -1 then { c with regs:=c.regs.set (((pk m c.n).blks.getD c.b default).ins.getD (c.i-1) default).d.toNat v } else c
theorem qe9 (m:Md) (c:Fr) (K:List Fr) (v:Int) (s:Oc):qm5 m (c::K) v s=⟨qpv m c v::K,false,s⟩:=rfl
theorem qq6 (m:Md) (c:Fr) (v:Int):(qpv m c v).n=c.n∧(qpv m c v).low=c.low∧(qpv m c v).b=c.b∧(qpv m c v).i=c.i:=by
 unfold qpv;split <;> exact ⟨rfl,rfl,rfl,rfl⟩
theorem GFr.ret {m:Md} {c:Fr} (h:GFr m c) (v:Int) (hv:0≤v∧v<4294967296):GFr m (qpv m c v):=by
 unfold qpv;split
 ·exact h.set _ _ hv
 ·exact h
theorem MIv.back {m:Md} {K:List Fr} {s:Oc} {v:Int} (hv:0≤v∧v<4294967296) (hfr:∀ fr∈K,UFr m fr) (hm:qty s.mem):MIv m (qm5 m K v s):=by
 match K with
 | []=>exact ⟨fun fr h=>(by cases h),fun fr h=>(by cases h),hm⟩
 | c::K'=>
  rw [qe9]
  refine ⟨fun fr h=>?_,fun fr h=>hfr fr (List.mem_cons_of_mem _ h),hm⟩
  rcases List.mem_cons.1 h with rfl|h
  ·exact (hfr c List.mem_cons_self).g.ret v hv
  ·exact (hfr fr (List.mem_cons_of_mem _ h)).g
theorem MIv.step {m:Md} {inp:List Int} {f:Fr} {K:List Fr} {s:Oc} (hok:okM m=true) (hmd:qtw m) (hiw:∀ x∈inp,0≤x∧x<4294967296) (h:MIv m ⟨f::K,false,s⟩) (hh:(qfi m inp ⟨f::K,false,s⟩).halt=false):MIv m (qfi m inp ⟨f::K,false,s⟩):=by
 have hf:=h.fr f List.mem_cons_self
 have hP:=qgf hok hf.n
 have hB:=qjm hP hf.b
 have hK:∀ fr∈K,UFr m fr:=fun fr hfr=>h.up fr hfr
 have hrg:=qji hf.w
 by_cases hl:f.i=(fBk m f).ins.length
 ·by_cases h3:(fBk m f).fin=3
  ·rw [qn1 hl h3]
   exact MIv.back (by split;exact hrg _;exact ⟨by decide,by decide⟩) hK h.mem
  ·rw [qoy hl h3]
   refine ⟨fun fr hfr=>?_,fun fr hfr=>hK fr hfr,h.mem⟩
   rcases List.mem_cons.1 hfr with rfl|hfr
   ·refine ⟨hf.n,?_,Nat.zero_le _,hf.r,hf.w,hf.l⟩
    unfold qp3 fBk at *
    dsimp only
    rcases qh6 (qi9 hB) with ⟨q1,q2,q3⟩|⟨q1,q2,q3,q4,q5, -, -⟩|⟨q1, -⟩
    ·rw [if_neg (by omega)];omega
    ·split <;> omega
    ·exact absurd q1 h3
   ·exact (hK fr hfr).g
 ·have hlt:f.i<(fBk m f).ins.length:=by have:=hf.i;unfold fBk at *;omega
  have hI:okI m (pk m f.n) (fIn m f)=true:=qgw hB hlt
  have hIn:q0a (fIn m f):=q1u hmd hf.n hf.b hlt
  have hf1:GFr m (fUp f):=⟨hf.n,hf.b,hlt,hf.r,hf.w,hf.l⟩
  by_cases h9:(fIn m f).op=9
  ·have hu:UFr m (fUp f):=⟨hf1,Nat.succ_le_succ (Nat.zero_le _),h9⟩
   rw [qiz hl h9] at hh ⊢
   generalize fIn m f=I at *
   revert hh
   unfold qeu
   split
   ·intro hh;cases hh
   ·rename_i hne
    intro _
    obtain ⟨c1,c2,hpar, -, -⟩:=qfx hI h9
    have hno:I.obj.toNat<m.procs.length:=by omega
    have hH:=qe7 (qgf hok hno)
    refine ⟨fun fr hfr=>?_,fun fr hfr=>?_,h.mem⟩
    ·rcases List.mem_cons.1 hfr with rfl|hfr
     ·refine ⟨hno,by have:=hH.b1;exact this,Nat.zero_le _,?_,fun x hx=>?_,?_⟩
      ·simp only [List.length_append,List.length_map,List.length_replicate]
       have:=hH.p0
       have:=hH.pr
       omega
      ·rcases List.mem_append.1 hx with h2|h2
       ·obtain ⟨y, -,rfl⟩:=List.mem_map.1 h2;exact hrg y
       ·rw [List.eq_of_mem_replicate h2];exact ⟨by decide,by decide⟩
      ·have h1:=qtl hok hno
       have h2:=hf.l
       have h3:0≤enM m:=by
        have hG:=qsu hok
        have:=(ql2 hG.1 (by have:=hG.2.1;omega) m.globs.length (Nat.le_refl _)).1
        unfold enM;omega
       dsimp only
       omega
     ·rcases List.mem_cons.1 hfr with rfl|hfr
      ·exact hf1
      ·exact (hK fr hfr).g
    ·rcases List.mem_cons.1 hfr with rfl|hfr
     ·exact hu
     ·exact hK fr hfr
  ·generalize hX:qjt m inp (pk m f.n) f.low (fIn m f) f.regs s=X
   have hgood:=qs1 (m:=m) (inp:=inp) (p:=pk m f.n) (low:=f.low) (i:=fIn m f) (regs:=f.regs) h.mem.ok
   have hwd:=qy2 (m:=m) (inp:=inp) (p:=pk m f.n) (low:=f.low) (i:=fIn m f) hf.w hiw hIn.num h.mem.ok (fun h5=>q0o hI (.inl h5))
   rw [hX] at hgood hwd
   cases X with
   | none=>
    rw [qso hl h9 hX] at hh
    cases hh
   | some r=>
    rw [qoi hl h9 hX]
    obtain ⟨g1, -, -, -,g5⟩:=hgood r rfl
    refine ⟨fun fr hfr=>?_,fun fr hfr=>hK fr hfr,g1,(qua hX).trans h.mem.len⟩
    rcases List.mem_cons.1 hfr with rfl|hfr
    ·exact ⟨hf.n,hf.b,hlt,by dsimp only;rw [g5];exact hf.r,hwd r rfl,hf.l⟩
    ·exact (hK fr hfr).g
end
end Go.Proofs.Ytmcddolkpcgddaa
