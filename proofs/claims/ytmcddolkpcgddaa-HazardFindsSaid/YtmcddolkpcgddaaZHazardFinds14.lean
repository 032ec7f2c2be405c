/-
Contracts of the parts of ir.Check: slots, offsets, registers, blocks, ends, bare instructions.
-/
import Derived.Test.YtmcddolkpcgddaaZHazardFinds13
import Derived.IntWalk
set_option maxHeartbeats 4000000
set_option maxRecDepth 100000
set_option linter.all false
namespace Go.Proofs.Ytmcddolkpcgddaa
open Go.ChangeShapes Go.WideShapes Go.ChangeAt Go.RowKit
section
theorem qc5 (v:Value) (s:List Bool) (r:Int) (w:World) (h:RdB w v s) :
  Calls Try.prog 44 #[v,.int .i64 r] w fun e w'=>e=.returned (.bool (qam s r))∧w'=w:=by
 obtain ⟨a,c,rfl,h1,h2,hc⟩:=h
 unfold maxLen at h2
 have HB:Hid (qam s r=(decide (0≤r) && (decide (r<(s.length:Int)) && s.getD r.toNat false))):=rfl
 by_cases h0:0≤r
 ·obtain ⟨n,rfl⟩:=Int.eq_ofNat_of_zero_le h0
  have q0:decide ((n:Int) ≥ 0)=true:=qkn h0
  have q0':decide (0≤(n:Int))=true:=qkn h0
  by_cases hl:n<s.length
  ·have q1:decide ((n:Int)<(s.length:Int))=true:=qkn (by omega)
   have q2:decide (n<s.length)=true:=qkn hl
   obtain ⟨b,o,rfl,hcell⟩:=hc n hl
   simp only [Nat.mul_one,Nat.add_zero] at hcell
   have HX:Hid (qam s (n:Int)=s.getD n false):=by
    show _=_
    rw [HB.out,q0',q1];rfl
   clear hc HB h0
   generalize s.getD n false=z at *
   cases z
   all_goals
    go_enter Try.func44,Try.ntmps44
    go_wp2_with fail
    go_ret
    exact ⟨qah HX.out.symm,rfl⟩
  ·have q1:decide ((n:Int)<(s.length:Int))=false:=qko (by omega)
   have HX:Hid (qam s (n:Int)=false):=by
    show _=_
    rw [HB.out,q1];simp
   clear hc HB h0
   go_enter Try.func44,Try.ntmps44
   go_wp2_with fail
   go_ret
   exact ⟨qah HX.out.symm,rfl⟩
 ·have q0:decide (r ≥ 0)=false:=qko (by omega)
  have q0':decide (0≤r)=false:=qko (by omega)
  have HX:Hid (qam s r=false):=by
   show _=_
   rw [HB.out,q0'];rfl
  clear hc HB h0
  go_enter Try.func44,Try.ntmps44
  go_wp2_with fail
  go_ret
  exact ⟨qah HX.out.symm,rfl⟩
theorem qgl (v:Value) (s:List Bool) (r:Int) (w:World) (h:RdB w v s) :
  Calls Try.prog 43 #[v,.int .i64 r] w fun e w'=>e=.returned (.bool (qam s r))∧w'=w:=by
 obtain ⟨a,c,rfl,h1,h2,hc⟩:=h
 unfold maxLen at h2
 have HB:Hid (qam s r=(decide (0≤r) && (decide (r<(s.length:Int)) && s.getD r.toNat false))):=rfl
 by_cases h0:0≤r
 ·obtain ⟨n,rfl⟩:=Int.eq_ofNat_of_zero_le h0
  have q0:decide ((n:Int) ≥ 0)=true:=qkn h0
  have q0':decide (0≤(n:Int))=true:=qkn h0
  by_cases hl:n<s.length
  ·have q1:decide ((n:Int)<(s.length:Int))=true:=qkn (by omega)
   have q2:decide (n<s.length)=true:=qkn hl
   obtain ⟨b,o,rfl,hcell⟩:=hc n hl
   simp only [Nat.mul_one,Nat.add_zero] at hcell
   have HX:Hid (qam s (n:Int)=s.getD n false):=by
    show _=_
    rw [HB.out,q0',q1];rfl
   clear hc HB h0
   generalize s.getD n false=z at *
   cases z
   all_goals
    go_enter Try.func43,Try.ntmps43
    go_wp2_with fail
    go_ret
    exact ⟨qah HX.out.symm,rfl⟩
  ·have q1:decide ((n:Int)<(s.length:Int))=false:=qko (by omega)
   have HX:Hid (qam s (n:Int)=false):=by
    show _=_
    rw [HB.out,q1];simp
   clear hc HB h0
   go_enter Try.func43,Try.ntmps43
   go_wp2_with fail
   go_ret
   exact ⟨qah HX.out.symm,rfl⟩
 ·have q0:decide (r ≥ 0)=false:=qko (by omega)
  have q0':decide (0≤r)=false:=qko (by omega)
  have HX:Hid (qam s r=false):=by
   show _=_
   rw [HB.out,q0'];rfl
  clear hc HB h0
  go_enter Try.func43,Try.ntmps43
  go_wp2_with fail
  go_ret
  exact ⟨qah HX.out.symm,rfl⟩
theorem qoh {S L:Nat} (h:S<2 ^ (64*L)):S % 2 ^ (64*L)=S:=Nat.mod_eq_of_lt h
theorem qgq {R S:Nat}:R ||| S=R↔∀ x,S.testBit x=true→R.testBit x=true:=by
 constructor
 ·intro h x hx
  rw [←h,Nat.testBit_or,hx,Bool.or_true]
 ·intro h
  apply Nat.eq_of_testBit_eq
  intro i
  rw [Nat.testBit_or]
  cases hs:S.testBit i
  ·simp
  ·rw [h i hs];rfl
def qix (R S k:Nat):Bool:=(R ||| S % 2 ^ (64*k)) !=R
theorem qps (R S:Nat):qix R S 0=false:=by unfold qix;simp [Nat.mod_one]
theorem qpp (R S k:Nat):qix R S (k+1)=(qix R S k || ((wU R k ||| wU S k) !=wU R k)):=by
 rw [Bool.eq_iff_iff]
 unfold qix
 rw [Bool.or_eq_true,bne_iff_ne,bne_iff_ne,bne_iff_ne]
 have key:(R ||| S % 2 ^ (64*(k+1)))=R↔((R ||| S % 2 ^ (64*k))=R∧(wU R k ||| wU S k)=wU R k):=by
  rw [qgq,qgq,qgq]
  constructor
  ·intro h
   refine ⟨fun x hx=>h x ?_,fun x hx=>?_⟩
   ·rw [Nat.testBit_mod_two_pow,Bool.and_eq_true,decide_eq_true_eq] at hx ⊢
    exact ⟨by omega,hx.2⟩
   ·rw [qd3,Bool.and_eq_true,decide_eq_true_eq] at hx ⊢
    refine ⟨hx.1,h _ ?_⟩
    rw [Nat.testBit_mod_two_pow,Bool.and_eq_true,decide_eq_true_eq]
    exact ⟨by omega,hx.2⟩
  ·rintro ⟨h1,h2⟩ x hx
   rw [Nat.testBit_mod_two_pow,Bool.and_eq_true,decide_eq_true_eq] at hx
   by_cases hk:x<64*k
   ·exact h1 x (by rw [Nat.testBit_mod_two_pow,Bool.and_eq_true,decide_eq_true_eq];exact ⟨hk,hx.2⟩)
   ·have:=h2 (x-64*k)
    rw [qd3,qd3,Bool.and_eq_true,Bool.and_eq_true,decide_eq_true_eq,show 64*k+(x-64*k)=x by omega] at this
    exact (this ⟨by omega,hx.2⟩).2
 constructor
 ·intro h
  rw [Ne,key] at h
  by_cases h1:(R ||| S % 2 ^ (64*k))=R
  ·exact .inr fun h2=>h ⟨h1,h2⟩
  ·exact .inl h1
 ·rintro (h | h) e
  ·exact h (key.1 e).1
  ·exact h (key.1 e).2
theorem qp5 (R S k:Nat):wU (R ||| S % 2 ^ (64*k)) k=wU R k:=by rw [qve,qnr,if_neg (Nat.lt_irrefl _),Nat.or_zero]
theorem qlx (R S k:Nat):wU (R ||| S % 2 ^ (64*(k+1))) k=wU R k ||| wU S k:=by rw [qve,qnr,if_pos (Nat.lt_succ_self _)]
theorem qo7 (R S k i:Nat) (h:i≠k):wU (R ||| S % 2 ^ (64*(k+1))) i=wU (R ||| S % 2 ^ (64*k)) i:=by
 rw [qve,qve,qnr,qnr]
 by_cases h1:i<k
 ·rw [if_pos h1,if_pos (by omega)]
 ·rw [if_neg h1,if_neg (by omega)]
theorem qyk (g c g' c' L R S:Nat) (w:World) (h:qb3 w g c L R) (h':qb3 w g' c' L S) (hne:g≠g') (hS:S<2 ^ (64*L)) :
  Calls Try.prog 71 #[.slice (some ⟨g,0,none⟩) L c,.slice (some ⟨g',0,none⟩) L c'] w fun e w'=>e=.returned (.bool ((R ||| S) !=R))∧qb3 w' g c L (R ||| S)∧But g w w':=by
 obtain ⟨hc1,hc2⟩:=h.caps
 unfold maxLen at hc2
 have H0:Hid (qb3 w g c L (R ||| S % 2 ^ (64*0))):=by
  show qb3 _ _ _ _ _
  simpa [Nat.mod_one] using h
 have H1:=qkm h'
 have HF:Hid (qix R S L=((R ||| S) !=R)):=by
  show _=_
  unfold qix;rw [qoh hS]
 have HF2:Hid ((R ||| S % 2 ^ (64*L))=(R ||| S)):=by
  show _=_
  rw [qoh hS]
 have HZ:=qkm (qps R S)
 clear h h' hS
 go_enter Try.func71,Try.ntmps71
 go_wp2_with fail
 go_loopw [5,10] (fun b i wr=>∃ k:Nat,k≤L∧i=.int .i64 (k:Int)∧b=.bool (qix R S k)∧Hid (qb3 wr g c L (R ||| S % 2 ^ (64*k)))∧Hid (qb3 wr g' c' L S)∧Hid (But g w wr)) (fun _ i _=>L-(intOf i).toNat)
 case atStart=>exact ⟨0,Nat.zero_le _,rfl,by rw [HZ.out],H0,H1,But.refl _ _⟩
 case round=>
  clear H0 H1
  obtain ⟨k,hk,rfl,rfl,HR,HS,HB⟩:=hrel
  by_cases hlt:k<L
  ·have g1:decide (k<L)=true:=qkn hlt
   have g2:decide ((k:Int)<(L:Int))=true:=qkn (by omega)
   obtain ⟨c0,f0⟩:=HR.out.cell hlt
   obtain ⟨d0, -⟩:=HS.out.cell hlt
   rw [qp5] at c0
   have HO:Hid (bits .or .u64 ((wU R k:Nat):Int) ((wU S k:Nat):Int)=((wU R k ||| wU S k:Nat):Int)):=q14 (qt5 _ _) (qt5 _ _)
   have HST:=qkm (qpp R S k)
   have HN:Hid ((((wU R k ||| wU S k:Nat):Int) !=((wU R k:Nat):Int))=((wU R k ||| wU S k) !=wU R k)):=qy6 _ _
   have HR2:Hid (∀ W,qb3 W g c L (R ||| S % 2 ^ (64*k))→qb3 (W.setCell ⟨g,k,none⟩ (.int .u64 ((wU R k ||| wU S k:Nat):Int))) g c L (R ||| S % 2 ^ (64*(k+1)))):=fun W hW=>by
    have:=hW.store (R':=R ||| S % 2 ^ (64*(k+1))) k (fun i hi=>qo7 R S k i hi)
    rw [qlx] at this
    exact this
   generalize qix R S k=NK at *
   cases NK
   all_goals
    go_wp2_with fail
    go_quiet (fail)
    go_wp2_with fail
    rw [HO.out]
    go_roundw
    case rel=>
     refine ⟨k+1,hlt,by go_num,?_,HR2.out _ (HR.out.but (qdj (g+1) _ _) (by omega)),(HS.out.but (qdj (g'+1) _ _) (by omega)).but (But.setCell g k _ _) (Ne.symm hne),(HB.out.trans (qdj _ _ nq)).trans (But.setCell _ _ _ _)⟩
     rw [HST.out]
     first|rfl|(rw [HN.out];rfl)|(simp [HN.out])
    case measure=>simp [intOf];omega
  ·obtain rfl:k=L:=by omega
   go_wp2_with fail
   go_ret
   exact ⟨qah HF.out,by rw [←HF2.out];exact HR.out,HB.out⟩
end
section
def qib (b n:Nat):Value:=.slice (some ⟨b,0,none⟩) n n
structure RK where
 wp:World
 br:Nat
 bm:Nat
 vg:Value
 vd:Value
 vp:Value
 va:Value
 vi:Value
 m:Md
 at':List Int
 en:Int
 inp:List Int
structure RS where
 mem:List Int
 out:List Int
 ins:Int
 exit:Int
 e:Int
 fuel:Int
 deep:Int
def RS.cells (k:RK) (vo:Value) (s:RS):List Value:=[k.vg,k.vd,k.vp,.int .i64 k.m.main,qib k.bm 65536,k.va,.int .i64 k.en,k.vi,vo,.int .i64 s.ins,.int .u32 s.exit,.int .i64 s.e,.int .i64 s.fuel,.int .i64 s.deep]
structure Rn (k:RK) (w:World) (vo:Value) (s:RS):Prop where
 bx:w.ownsRow k.wp.heap.size 108 14 (qib k.br 1) 1 (s.cells k vo)
 mm:w.ownsRow k.wp.heap.size 5 1 (qib k.bm 65536) 65536 (s.mem.map (Value.int .u8))
 oo:w.ownsRow k.wp.heap.size 56 1 vo s.out.length (s.out.map (Value.int .u32))
 aa:w.ownsRow k.wp.heap.size 3 1 k.va k.at'.length (k.at'.map (Value.int .i64))
 md:MdV k.wp (.agg #[k.vg,k.vd,k.vp,.int .i64 k.m.main]) k.m
 ii:RdW k.wp k.vi k.inp
 below:Below k.wp.heap.size k.wp w
theorem qct {w:World} {B B' s s' n n':Nat} {e e':TypeId} {v v':Value} {xs xs':List Value} (h:w.ownsRow B e s v n xs) (h':w.ownsRow B' e' s' v' n' xs') (he:e≠e'):v.ownBlock=none∨v.ownBlock≠v'.ownBlock:=by
 obtain ⟨-,⟨rfl, -⟩|⟨g,cap,cur,rfl, -,hg, -⟩⟩:=h
 ·exact .inl rfl
 ·obtain ⟨-,⟨rfl, -⟩|⟨g',cap',cur',rfl, -,hg', -⟩⟩:=h'
  ·exact .inr (by simp [Value.ownBlock])
  ·refine .inr fun e2=>he ?_
   simp only [Value.ownBlock,Option.some.injEq] at e2
   subst e2
   rw [hg] at hg'
   simp at hg'
   exact hg'.2
structure Kp (k:RK) (vo vo':Value) (w w':World):Prop where
 size:w.heap.size≤w'.heap.size
 «to»:vo'.ownBlock=vo.ownBlock∨∃ g,vo'.ownBlock=some g∧w.heap.size≤g
 keep:∀ b,b<w.heap.size→b≠k.br→b≠k.bm→some b≠vo.ownBlock→w'.heap[b]?=w.heap[b]?
theorem Kp.trans {k:RK} {v1 v2 v3:Value} {w1 w2 w3:World} (h:Kp k v1 v2 w1 w2) (h':Kp k v2 v3 w2 w3):Kp k v1 v3 w1 w3:=by
 refine ⟨Nat.le_trans h.size h'.size,?_,fun b hb h1 h2 h3=>?_⟩
 ·rcases h'.to with e|⟨g,e,hg⟩
  ·rw [e];exact h.to
  ·exact .inr ⟨g,e,Nat.le_trans h.size hg⟩
 ·rw [h'.keep b (Nat.lt_of_lt_of_le hb h.size) h1 h2,h.keep b hb h1 h2 h3]
  rcases h.to with e|⟨g,e,hg⟩
  ·rw [e];exact h3
  ·rw [e];intro e2;simp only [Option.some.injEq] at e2;omega
theorem Kp.of_below {k:RK} {vo:Value} {w w':World} (h:Below w.heap.size w w'):Kp k vo vo w w':=⟨h.size,.inl rfl,fun b hb _ _ _=>h.block b hb⟩
theorem Kp.cell {k:RK} {vo vo':Value} {w w':World} (h:Kp k vo vo' w w') {b o:Nat} {v:Value} (h1:b≠k.br) (h2:b≠k.bm) (h3:some b≠vo.ownBlock) (hv:w.cell? ⟨b,o,none⟩=some v):w'.cell? ⟨b,o,none⟩=some v :=
 (World.cell?_of_block (a:=⟨b,o,none⟩) (h.keep b (World.block_lt_of_cell? w _ hv) h1 h2 h3)).trans hv
section
variable {k:RK} {w w':World} {vo:Value} {s:RS}
theorem Rn.grow (h:Rn k w vo s) (hb:Below w.heap.size w w'):Rn k w' vo s :=
 ⟨qav h.bx hb,qav h.mm hb,qav h.oo hb,qav h.aa hb,h.md,h.ii,h.below.trans (hb.mono h.below.size)⟩
theorem Rn.ne (h:Rn k w vo s):k.br≠k.bm:=fun e=>by
 rcases qct h.bx h.mm (by decide) with h|h
 ·cases h
 ·exact h (congrArg some e)
theorem Rn.c (h:Rn k w vo s) (j:Nat) (hj:j<14):w.cell? ⟨k.br,j,none⟩=(s.cells k vo)[j]?:=h.bx.cellAt j (by omega)
end
end
section
section
variable {k:RK} {w:World} {vo:Value} {s:RS}
def qw0 (a size:Int):Bool:=decide (0≤a-268435456) && (decide (a-268435456≤65536-size) && decide ((a-268435456) % size=0))
def qna (mem:List Int) (n:Nat):Nat→Int
 | 0=>0
 | i+1=>qna mem n i+mem.getD (n+i) 0*256 ^ i
def qhv (mem:List Int):Prop:=∀ j,0≤mem.getD j 0∧mem.getD j 0<256
theorem qog (mem:List Int) (h:qhv mem) (n:Nat):∀ i,0≤qna mem n i∧qna mem n i<256 ^ i
 | 0=>by simp [qna]
 | i+1=>by
  have ih:=qog mem h n i
  have hb:=h (n+i)
  have hp:(0:Int)<256 ^ i:=Int.pow_pos (by decide)
  unfold qna
  generalize mem.getD (n+i) 0=b at *
  generalize qna mem n i=l at *
  rw [Int.pow_succ]
  generalize (256:Int) ^ i=q at *
  refine ⟨Int.add_nonneg ih.1 (Int.mul_nonneg hb.1 (by omega)),?_⟩
  have:b*q≤255*q:=Int.mul_le_mul_of_nonneg_right (by omega) (by omega)
  omega
def ql7 (mem:List Int) (n:Nat) (v:Int):Nat→List Int
 | 0=>mem
 | i+1=>(ql7 mem n v i).set (n+i) (v / 256 ^ i % 256)
end
end
section
section
variable {k:RK} {w:World} {vo:Value} {s:RS}
end
end
section
def LkV (w:World) (v:Value) (m:Md) (p:Pr):Prop :=
 ∃ vg vd vp nm vo vb,v=.agg #[vg,vd,vp,.int .i64 m.main,.string nm,.bool p.void,.int .i64 p.params,.int .i64 p.regs,vo,vb]∧qce w vg m.globs∧qqf w vd m.data∧qcx w vp m.procs∧qce w vo p.objs∧qbl w vb p.blks
theorem LkV.ext {w w':World} {v:Value} {m:Md} {p:Pr} (h:LkV w v m p) (he:Ext w w'):LkV w' v m p:=by
 obtain ⟨vg,vd,vp,nm,vo,vb,e,h1,h2,h3,h4,h5⟩:=h
 exact ⟨vg,vd,vp,nm,vo,vb,e,h1.ext he,h2.ext he,h3.ext he,h4.ext he,h5.ext he⟩
theorem qce.at {w:World} {a:Option Addr} {n c:Nat} {l:List Sl} (h:qce w (.slice a n c) l):n=l.length∧∀ k,k<l.length→∃ b o nm,a=some ⟨b,o,none⟩∧w.cell? ⟨b,o+k*4,none⟩=some (.string nm)∧w.cell? ⟨b,o+k*4+1,none⟩=some (.int .i64 (l.getD k default).size)∧
  w.cell? ⟨b,o+k*4+2,none⟩=some (.int .i64 (l.getD k default).align)∧w.cell? ⟨b,o+k*4+3,none⟩=some (.int .i64 (l.getD k default).cell):=by
 obtain ⟨a',c',e,h1,h2,hc⟩:=h
 simp only [Value.slice.injEq] at e
 obtain ⟨rfl,rfl,rfl⟩:=e
 refine ⟨rfl,fun k hk=>?_⟩
 obtain ⟨b,o,rfl,⟨nm,h0⟩,h1,h2,h3⟩:=hc k hk
 exact ⟨b,o,nm,rfl,by simpa using h0,h1,h2,h3⟩
theorem qp6 (n:Int) (w:World):Calls Try.prog 126 #[.int .i64 n] w fun e w'=>e=.returned (.bool (qg9 n))∧w=w':=by
 by_cases h1: -32768≤n
 ·have e1:decide (-32768≤n)=true:=qkn h1
  have HF:Hid (qg9 n=decide (n≤32768)):=by show _=_;unfold qg9;rw [e1];rfl
  go_enter Try.func126,Try.ntmps126
  go_wp2
  go_ret
  exact ⟨qah HF.out.symm,rfl⟩
 ·have e1:decide (-32768≤n)=false:=qko h1
  have HF:Hid (qg9 n=false):=by show _=_;unfold qg9;rw [e1];rfl
  go_enter Try.func126,Try.ntmps126
  go_wp2
  go_ret
  exact ⟨qah HF.out.symm,rfl⟩
theorem qsa (l:List Sl) (v:Value) (w:World) (h:qce w v l) :
  Calls Try.prog 48 #[v] w fun e w'=>e=.returned (.bool (l.all qdi))∧Below w.heap.size w w':=by
 have h':=h
 obtain ⟨a,c,rfl,h1,h2, -⟩:=h'
 have HC:=qkm (qce.at h).2
 clear h
 unfold maxLen at h2
 go_enter Try.func48,Try.ntmps48
 go_wp2_with fail
 go_loopw [7] (fun i wr=>∃ k:Nat,k≤l.length∧i=.int .i64 (k:Int)∧Hid (Below w.heap.size w wr)∧Hid ((l.take k).all qdi=true)) (fun i _=>l.length-(intOf i).toNat)
 case atStart=>exact ⟨0,Nat.zero_le _,rfl,Below.refl _ _,rfl⟩
 case round=>
  obtain ⟨k,hk,rfl,hB,HA⟩:=hrel
  by_cases hlt:k<l.length
  ·obtain ⟨b,o,nm,rfl,c0,c1,c2,c3⟩:=HC.out k hlt
   replace c0:=Ext.below hB.out _ _ c0
   replace c1:=Ext.below hB.out _ _ c1
   replace c2:=Ext.below hB.out _ _ c2
   replace c3:=Ext.below hB.out _ _ c3
   have hY:=qcu qdi l k hlt HA.out
   have hZ:=qex qdi l k hlt
   generalize l.getD k default=s at *
   have hz:=hB.out.size
   cases hs:qdi s
   ·have HF:Hid (l.all qdi=false):=hZ hs
    have hs':¬ (1≤s.size∧s.size≤32768∧(s.align=1∨s.align=4)):=by
     unfold qdi at hs
     intro h
     rw [qkn h.1,qkn h.2.1] at hs
     rcases h.2.2 with h|h <;> rw [h] at hs <;> simp at hs
    clear hY hZ hs
    have END:Hid (∀ o,(Ending.returned (.bool false)=.returned (.bool (l.all qdi)))∧Below w.heap.size w (wr.alloc o)):=fun o=>⟨qah HF.out.symm,hB.out.alloc hz o⟩
    by_cases h3:1≤s.size
    ·have e1:decide (s.size<1)=false:=qko (by omega)
     by_cases h4:s.size≤32768
     ·have e2:decide (32768<s.size)=false:=qko (by omega)
      have e3:(s.align !=1)=true:=by rw [bne_iff_ne];omega
      have e4:(s.align !=4)=true:=by rw [bne_iff_ne];omega
      clear hs'
      go_wp2_with fail
      go_ret
      exact END.out _
     ·have e2:decide (32768<s.size)=true:=qkn (by omega)
      clear hs'
      go_wp2_with fail
      go_ret
      exact END.out _
    ·have e1:decide (s.size<1)=true:=qkn (by omega)
     clear hs'
     go_wp2_with fail
     go_ret
     exact END.out _
   ·have HA2:=qkm (hY hs)
    have hs':1≤s.size∧s.size≤32768∧(s.align=1∨s.align=4):=by
     unfold qdi at hs
     simpa using hs
    clear hY hZ hs
    have e1:decide (s.size<1)=false:=qko (by omega)
    have e2:decide (32768<s.size)=false:=qko (by omega)
    obtain ⟨-, -,h5⟩:=hs'
    rcases h5 with h5|h5
    ·have e3:(s.align !=1)=false:=by rw [h5];rfl
     clear h5
     go_wp2_with fail
     go_roundw
     case rel=>exact ⟨k+1,by omega,by go_num,hB.out.alloc hz _,HA2⟩
     case measure=>simp [intOf];omega
    ·have e3:(s.align !=1)=true:=by rw [h5];rfl
     have e4:(s.align !=4)=false:=by rw [h5];rfl
     clear h5
     go_wp2_with fail
     go_roundw
     case rel=>exact ⟨k+1,by omega,by go_num,hB.out.alloc hz _,HA2⟩
     case measure=>simp [intOf];omega
  ·have HF:Hid (l.all qdi=true):=by have:=HA.out;rwa [List.take_of_length_le (by omega)] at this
   go_wp2_with fail
   go_ret
   exact ⟨qah HF.out.symm,hB.out⟩
theorem qzj (m:Md) (p:Pr) (v:Value) (r:Int) (should:Bool) (w:World) (h:LkV w v m p) :
  Calls Try.prog 125 #[v,.int .i64 r,.bool should] w fun e w'=>e=.returned (.bool (qby p r should))∧Below w.heap.size w w':=by
 obtain ⟨vg,vd,vp,nm,vo,vb,rfl,⟨ag,cg,rfl, -⟩,⟨ad,cd,rfl, -⟩,⟨ap,cp,rfl, -⟩,⟨ao,co,rfl, -⟩,⟨ab,cb,rfl, -⟩⟩:=h
 have HF:Hid (qby p r should=if should=true then decide (0≤r) && decide (r<p.regs) else r == -1):=rfl
 cases should
 ·have HF2:Hid (qby p r false=(r == -1)):=HF.out
  go_enter Try.func125,Try.ntmps125
  go_wp2
  go_ret
  exact ⟨qah HF2.out.symm,qaa _ _⟩
 ·by_cases h0:0≤r
  ·have e0:decide (0≤r)=true:=qkn h0
   have HF2:Hid (qby p r true=decide (r<p.regs)):=by show _=_;rw [HF.out,if_pos rfl,e0];rfl
   go_enter Try.func125,Try.ntmps125
   go_wp2
   go_ret
   exact ⟨qah HF2.out.symm,qaa _ _⟩
  ·have e0:decide (0≤r)=false:=qko h0
   have HF2:Hid (qby p r true=false):=by show _=_;rw [HF.out,if_pos rfl,e0];rfl
   go_enter Try.func125,Try.ntmps125
   go_wp2
   go_ret
   exact ⟨qah HF2.out.symm,qaa _ _⟩
theorem qxb (m:Md) (p:Pr) (v:Value) (n:Int) (w:World) (h:LkV w v m p) :
  Calls Try.prog 127 #[v,.int .i64 n] w fun e w'=>e=.returned (.bool (qco p n))∧Below w.heap.size w w':=by
 obtain ⟨vg,vd,vp,nm,vo,vb,rfl,⟨ag,cg,rfl, -⟩,⟨ad,cd,rfl, -⟩,⟨ap,cp,rfl, -⟩,⟨ao,co,rfl, -⟩,⟨ab,cb,rfl, -⟩⟩:=h
 by_cases h0:0≤n
 ·have e0:decide (0≤n)=true:=qkn h0
  have HF2:Hid (qco p n=decide (n<p.blks.length)):=by show _=_;unfold qco;rw [e0];rfl
  go_enter Try.func127,Try.ntmps127
  go_wp2
  go_ret
  exact ⟨qah HF2.out.symm,qaa _ _⟩
 ·have e0:decide (0≤n)=false:=qko h0
  have HF2:Hid (qco p n=false):=by show _=_;unfold qco;rw [e0];rfl
  go_enter Try.func127,Try.ntmps127
  go_wp2
  go_ret
  exact ⟨qah HF2.out.symm,qaa _ _⟩
end
end Go.Proofs.Ytmcddolkpcgddaa
