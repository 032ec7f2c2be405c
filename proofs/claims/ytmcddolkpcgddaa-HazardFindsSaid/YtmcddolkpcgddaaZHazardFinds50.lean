/-
law 22: the program's hazards are the document's, joined with what alias answers on both sides.
-/
import Derived.Test.YtmcddolkpcgddaaZHazardFinds49
set_option maxHeartbeats 4000000
set_option maxRecDepth 100000
set_option linter.all false
namespace Go.Proofs.Ytmcddolkpcgddaa
open Go.ChangeShapes Go.WideShapes Go.ChangeAt Go.RowKit
section
def OnP (w1 W:World) (K:FoK) (p:Pr) (MT:In→In→Bool) (ld:In) (r:Int) (n fr:Nat) (F:Nat→Nat→Bool) (e:Ending) (w':World):Prop :=
 e=.returned (.tuple #[])∧∃ F',FoS w1 w' K p F'∧FoR K p.blks.length W w'∧∀ i j,i<p.blks.length→j<(p.blks.getD i default).ins.length→(F' i j=true↔F i j=true∨(qg4 p n fr i j∧qde MT ld r ((p.blks.getD i default).ins.getD j default)=true))
theorem OnP.mk {w1 W:World} {K:FoK} {p:Pr} {MT:In→In→Bool} {ld:In} {r:Int} {n fr:Nat} {F:Nat→Nat→Bool} {e:Ending} {w':World} {F1 F':Nat→Nat→Bool} (h1:e=.returned (.tuple #[])) (h3:FoS w1 w' K p F') (h4:FoR K p.blks.length W w')
  (hF:∀ i j,j<(p.blks.getD i default).ins.length→(F1 i j=true↔F i j=true∨qfg p MT ld r n fr i j))
  (h2:(qbc ((p.blks.getD n default).ins.drop fr)=false∧F'=F1)∨(qbc ((p.blks.getD n default).ins.drop fr)=true∧∀ i j,i<p.blks.length→j<(p.blks.getD i default).ins.length→(F' i j=true↔F1 i j=true∨(qtg p (qum p n) i∧qfg p MT ld r i 0 i j)))):OnP w1 W K p MT ld r n fr F e w' :=
 ⟨h1,F',h3,h4,q07 hF h2⟩
theorem q29 (w0 w1 W:World) (K:FoK) (p:Pr) (x:AR) (F:Nat→Nat→Bool) (ld:In) (vl:Value) (n fr:Nat) (r:Int) (hS:FoS w1 W K p F) (hG:FoG w0 w1 K p x) (hld:qen ld=true→qsf K.k.n ld) (hvl:RdI w1 vl ld.args) (hn:n<p.blks.length) (hfr:fr≤(p.blks.getD n default).ins.length)
  (hou:∀ b,b<p.blks.length→∀ t∈qbr (p.blks.getD b default),0≤t∧t<(p.blks.length:Int)) :
  Calls Try.prog 41 #[.pointer (some ⟨K.bF,0,none⟩),.int .i64 (n:Int),.int .i64 (fr:Int),qbu ld vl,.int .i64 r] W (OnP w1 W K p (qc0 x K.k.T p) ld r n fr F):=by
 have hbl:=hG.mt.bl
 have HT:Hid (∀ (wr:World) (F':Nat→Nat→Bool) (n' fr':Nat),FoS w1 wr K p F'→n'<p.blks.length→fr'≤(p.blks.getD n' default).ins.length→Calls Try.prog 81 #[.pointer (some ⟨K.bF,0,none⟩),.int .i64 (n':Int),.int .i64 (fr':Int),qbu ld vl,.int .i64 r] wr (qy3 w1 wr K p (qc0 x K.k.T p) ld r n' fr' F')) :=
  fun wr F' n' fr' hS' hn' hf'=>qst w0 w1 wr K p x F' ld vl n' fr' r hS' hG hld hvl hn' hf'
 have HO:Hid (∀ (k:Nat) (wr:World),Below w1.heap.size w1 wr→k<p.blks.length→Calls Try.prog 82 #[.agg #[.string K.nm,.bool p.void,.int .i64 p.params,.int .i64 p.regs,K.vo,K.vb],.int .i64 (k:Int)] wr (qij wr (qa1 p k))):=fun k wr hb hk=>qvg p _ k wr (hG.pr.ext (Ext.below hb)) hk (by omega)
 have hvb:=hG.bks
 obtain ⟨ab,cb,evb,hcb1,hcb2, -⟩:=id hvb
 unfold maxLen at hcb2
 rw [evb] at HO
 obtain ⟨al,cl,rfl, -⟩:=hvl
 obtain ⟨W0,hW0⟩:∃ W0,W0=W.alloc (qz5 ld (.slice al ld.args.length cl)):=⟨_,rfl⟩
 have B0:Hid (Below W.heap.size W W0):=by rw [hW0];exact qaa W _
 have H0:Hid (W0.heap[W.heap.size]?=some (qz5 ld (.slice al ld.args.length cl))):=by rw [hW0];exact heap_alloc_new W _
 have S0:=qkm (hS.grow hG.b0 B0.out)
 have R0:Hid (FoR K p.blks.length W W0):=FoR.of B0.out
 have LG:Hid (∀ i,i<p.blks.length→K.gs i≠W.heap.size):=fun i hi e=>by have:=hS.rlt hi;omega
 have lW0:Hid (W.heap.size<W0.heap.size):=(qkp H0.out).1
 have HW0:=qkm hW0.symm
 have HEV:=qkm evb
 have Hn:=qkm hn
 have Hb0:=qkm hG.b0
 have HOU:=qkm hou
 have HT1:=qkm (HT.out W0 F n fr S0.out hn hfr)
 clear hW0 hvb hS hG hld evb hou hfr
 unfold qz5 at *
 unfold qbu at *
 generalize qc0 x K.k.T p=MT at *
 obtain ⟨x0,x1,x2,x3,x4,x5,x6,x7,x8,x9,x10,l0⟩:=qau H0.out
 go_enter Try.func41,Try.ntmps41
 go_upto_region 1 with (fail)
 rw [HW0.out]
 go_wp2_with fail
 refine HT1.out.mono ?_
 rintro e w2 ⟨rfl,F1,hS1,hR1,hF1⟩
 have S1:=qkm hS1
 have R1:=qkm hR1
 have HF1:=qkm hF1
 clear hS1 hR1 hF1 x0 x1 x2 x3 x4 x5 x6 x7 x8 x9 x10 l0 HT1
 obtain ⟨fb,hfb⟩:∃ fb,fb=qbc ((p.blks.getD n default).ins.drop fr):=⟨_,rfl⟩
 rw [←hfb]
 have HFB:=qkm hfb.symm
 clear hfb
 cases fb
 ·go_wp2_with fail
  go_end0
  exact OnP.mk rfl S1.out (R0.out.trans R1.out) HF1.out (.inl ⟨HFB.out,rfl⟩)
 ·have hmk:=run_make_row' (P:=Try.prog) 37 4 (.bool false) 1 Try.underlying37 qht rfl .i64 .i64 p.blks.length (by omega) (by omega)
  have HBX:Hid (∀ wr F',FoS w1 wr K p F'→wr.heap[K.bF]?=some (.cells #[.string K.nm,.bool p.void,.int .i64 p.params,.int .i64 p.regs,K.vo,.slice ab p.blks.length cb,K.k.vr,.slice (some ⟨K.k.ro.1,0,none⟩) K.k.T K.k.ro.2,.slice (some ⟨K.gA,0,none⟩) p.blks.length K.cA] 99)):=fun wr F' h=>by
   have h:=h.bx
   rw [HEV.out] at h
   exact h
  have HLD:Hid (w2.heap[W.heap.size]?=some (.cells #[.int .i64 ld.op,.int .i64 ld.d,.int .i64 ld.a,.int .i64 ld.b,.int .i64 ld.fn,.int .i64 ld.obj,.int .i64 ld.off,.int .i64 ld.size,.int .u32 ld.num,.slice al ld.args.length cl,.bool ld.log] 58)):=(R1.out.block _ lW0.out LG.out).trans H0.out
  have lW2:Hid (W.heap.size<w2.heap.size):=(qkp HLD.out).1
  have S2:=qkm (S1.out.grow Hb0.out (qaa w2 (.cells (madeCells #[.bool false] p.blks.length) 4)))
  obtain ⟨z0,z1,z2,z3,z4,z5,z6,z7,z8,k0⟩:=qz7 (HBX.out _ _ S1.out)
  go_wp2_with fail
  refine (HO.out n _ S2.out.below Hn.out).mono ?_
  rintro e w3 ⟨v3,rfl,ho3,hb3⟩
  have M0:Hid (OnM K p.blks.length w2 w3 w2.heap.size (w2.heap.size+1) p.blks.length (List.replicate p.blks.length false) v3 (qa1 p n)):=by
   refine ⟨FoR.of ((qaa w2 _).trans (hb3.mono (qaa w2 _).size)),(q1r w2 p.blks.length (by unfold maxLen;omega)).below hb3,by simpa using ho3,Nat.le_refl _,Nat.lt_succ_self _,by have:=hb3.size;simpa using this,fun i hi=>S1.out.rlt hi⟩
  have S3:=qkm (S2.out.grow Hb0.out hb3)
  have Q0:=qkm (OnQ.start' p MT ld r n F1)
  clear hb3 ho3 S2 z0 z1 z2 z3 z4 z5 z6 z7 z8 k0 hmk
  have HGS:Hid (w2.heap.size≤w2.heap.size):=Nat.le_refl _
  obtain ⟨gs,hgs⟩:∃ gs,gs=w2.heap.size:=⟨_,rfl⟩
  rw [←hgs] at M0
  rw [←hgs]
  have hg1:W.heap.size≠gs:=by have:=lW2.out;omega
  have HGE:=qkm hgs
  clear hgs HGS
  generalize qa1 p n=q0 at M0 Q0
  go_wp2_with fail
  go_loopg [11,12] (2+3*p.blks.length) (fun m tv i wr=>∃ (k:Nat) (qa2:List Int) (seen:List Bool) (F':Nat→Nat→Bool),i=.int .i64 (k:Int)∧Hid (OnQ p MT ld r n F1 m seen qa2 k F')∧Hid (OnM K p.blks.length w2 wr gs (gs+1) p.blks.length seen tv qa2)∧Hid (FoS w1 wr K p F'))
  case atStart=>exact ⟨0,_,_,_,rfl,Q0,M0,S3⟩
  case round=>
   clear Q0 M0 S3
   obtain ⟨k,qa2,seen,F',rfl,I,M,S⟩:=hrel
   obtain ⟨ad,cp,rfl,ht1,ht2,ht3⟩:=qa8.rd M.out.own
   have hroom:qa2.length≤10000:=by have:=I.out.room;omega
   by_cases hlt:k<qa2.length
   ·obtain ⟨b3,o3,rfl,hc3⟩:=ht3 k hlt
    simp only [Nat.mul_one,Nat.add_zero] at hc3
    have htk:=I.out.inAt hlt
    have I1:=I.out.old hlt
    have I2:=fun (hs:seen.getD (qa2.getD k 0).toNat false=false) (G:Nat→Nat→Bool) (more:List Int) hF hm=>I.out.new hlt hs (F':=G) (more:=more) hF hm
    generalize qa2.getD k 0=t at *
    obtain ⟨tk,rfl⟩:=Int.eq_ofNat_of_zero_le htk.1
    have htk':tk<p.blks.length:=by omega
    simp only [Int.toNat_natCast] at I1 I2
    obtain ⟨-, -, -, -,hcells,hfr,hgs⟩:=qfh.cellAt M.out.row
    have hcs:=hcells tk htk'
    have hfs:=hfr tk
    clear hcells hfr ht3
    cases hs:seen.getD tk false
    ·rw [hs] at hcs
     clear I1
     have I2:=qkm (I2 hs)
     have M1:=qkm (M.out.set tk)
     have S4:=qkm (S.out.keep (S1.out.low Hb0.out) (M.out.setB tk) S1.out.below.size)
     have HC:=qkm (HT.out _ F' tk 0 S4.out htk' (Nat.zero_le _))
     have HLR:=qkm ((M.out.rel.block _ lW2.out LG.out).trans HLD.out)
     obtain ⟨x0,x1,x2,x3,x4,x5,x6,x7,x8,x9,x10,l0⟩:=qau HLR.out
     clear hs
     go_wp2_with fail
     refine HC.out.mono ?_
     rintro e w4 ⟨rfl,F2,hS5,hR5,hF5⟩
     have S5:=qkm hS5
     have M2:=qkm (M1.out.foR hR5)
     have HF5:=qkm hF5
     clear hS5 hR5 hF5 HC HLR M1 S4 M S x0 x1 x2 x3 x4 x5 x6 x7 x8 x9 x10 l0 hcs hfs hc3
     have I3:=qkm (fun (more:List Int) hm=>I2.out F2 more HF5.out hm)
     clear I2
     obtain ⟨fb,hfb⟩:∃ fb,fb=qbc ((p.blks.getD tk default).ins):=⟨_,rfl⟩
     rw [List.drop_zero,←hfb]
     rw [←hfb] at I3
     clear hfb
     cases fb
     ·obtain ⟨f1,hf1,J⟩:=I3.out [] rfl
      rw [List.append_nil] at J
      have J:=qkm J
      clear I3
      go_wp2_with fail
      go_roundg f1
      case rel=>exact ⟨k+1,qa2,seen.set tk true,F2,by go_num,J,M2,S5⟩
      case measure=>exact hf1
     ·obtain ⟨f1,hf1,J⟩:=I3.out (qa1 p tk) rfl
      have J:=qkm J
      clear I3
      obtain ⟨z0,z1,z2,z3,z4,z5,z6,z7,z8,k0⟩:=qz7 (HBX.out _ _ S5.out)
      go_wp2_with fail
      refine (HO.out tk w4 S5.out.below htk').mono ?_
      rintro e w5 ⟨v5,rfl,ho5,hb5⟩
      have M3:=qkm (M2.out.grow hb5)
      have S6:=qkm (S5.out.grow Hb0.out hb5)
      have HA5:=qkm (M2.out.outs ho5.rf)
      obtain ⟨a5,c5,rfl,hl5,hm5, -⟩:=ho5.rd
      have hL2:=qdu p tk
      clear M2 S5 ho5 hb5 z0 z1 z2 z3 z4 z5 z6 z7 z8 k0
      generalize qa1 p tk=L at *
      generalize seen.set tk true=seen' at *
      go_wp2_with fail
      go_loopw [11,15] (fun tv' i wy=>∃ j:Nat,j≤L.length∧i=.int .i64 (j:Int)∧Hid (OnM K p.blks.length w2 wy gs (gs+1) p.blks.length seen' tv' (qa2++L.take j))∧Hid (qbt wy (gs+1) tv' (.slice none 0 0) (.slice none 0 0) (.slice a5 L.length c5) L)∧Hid (FoS w1 wy K p F2)) (fun _ i _=>L.length-(intOf i).toNat)
      case atStart=>exact ⟨0,Nat.zero_le _,rfl,by rw [List.take_zero,List.append_nil];exact M3,HA5,S6⟩
      case round=>
       clear M3 HA5 S6
       obtain ⟨j,hj,rfl,M4,HA,S7⟩:=hrel
       by_cases hjl:j<L.length
       ·obtain ⟨a6,c6,e6, -, -,hcell6⟩:=id HA.out
        simp only [Value.slice.injEq] at e6
        obtain ⟨rfl, -,rfl⟩:=e6
        obtain ⟨b6,o6,rfl, -, -, -, -,hc6⟩:=hcell6 j hjl
        have HTS:=qkm (qcw L j hjl)
        have hll:Hid ((qa2++L.take j).length≤1000000000):=by show _≤_;simp;omega
        have hb6:=World.block_lt_of_cell? _ _ hc6
        clear hcell6
        generalize L.getD j 0=y at *
        have M5:=qkm (M4.out.grow (qaa wr (.cells #[.int .i64 y] 3)))
        have S8:=qkm (S7.out.grow Hb0.out (qaa wr (.cells #[.int .i64 y] 3)))
        have HA2:=qkm (HA.out.kept (World.grownBy_alloc wr (.cells #[.int .i64 y] 3) none) (fun b e=>by cases e) (.refl _ _) (.refl _ _) (.refl _ _))
        go_wp2_with (at_builtin;refine qz3 (n:=y) M5.out.own rfl rfl rfl rfl (by simp) hll.out M5.out.Bw ?_;intro v7 w7 h7 hg7 ha7)
        have M6:=qkm (M5.out.app hg7 h7)
        have S9:=qkm (S8.out.keep (S1.out.low Hb0.out) (M5.out.appB hg7) S1.out.below.size)
        have HA3:=qkm (HA2.out.kept hg7 (fun b e=>.inl e) (qoj ha7) (.refl _ _) (.refl _ _))
        clear h7 hg7 ha7 M5 HA2 S8
        go_roundw
        case rel=>exact ⟨j+1,by omega,by go_num,by rw [HTS.out,←List.append_assoc];exact M6,HA3,S9⟩
        case measure=>simp [intOf];omega
       ·obtain rfl:j=L.length:=by omega
        rw [List.take_length] at M4
        go_wp2_with fail
        go_roundg f1
        case rel=>exact ⟨k+1,_,seen',F2,by go_num,J,M4,S7⟩
        case measure=>exact hf1
    ·rw [hs] at hcs
     obtain ⟨f1,hf1,J⟩:=I1 hs
     have J:=qkm J
     clear I1 I2 hs
     go_wp2_with fail
     go_roundg f1
     case rel=>exact ⟨k+1,qa2,seen,F',by go_num,J,M,S⟩
     case measure=>exact hf1
   ·have HD:=qkm (I.out.done hlt HOU.out Hn.out)
    have g3:decide (k<qa2.length)=false:=qko hlt
    have g4:decide ((k:Int)<(qa2.length:Int))=false:=qko (by omega)
    clear ht3
    go_wp2_with fail
    go_end0
    exact OnP.mk rfl S.out ((R0.out.trans R1.out).trans M.out.rel) HF1.out (.inr ⟨HFB.out,HD.out⟩)
end
section
def qf5 (s:List Bool) (p:Pr) (b:Nat) (b' k':Nat) (ld:In) (r:Int):Prop:=b'<b∧qm6 s p b' k' ld r
def qet (s:List Bool) (p:Pr) (b k:Nat) (b' k':Nat) (ld:In) (r:Int):Prop:=(b'<b∧qm6 s p b' k' ld r)∨(b'=b∧k'<k∧qm6 s p b' k' ld r)
def qdq (s:List Bool) (p:Pr) (b k u:Nat) (b' k':Nat) (ld:In) (r:Int):Prop:=qet s p b k b' k' ld r∨(b'=b∧k'=k∧((((p.blks.getD b default).ins.getD k default).op=5∧ld=(p.blks.getD b default).ins.getD k default∧r= -1)∨(r∈(qbb ((p.blks.getD b default).ins.getD k default)).take u∧qam s r=true)))
def qbi (meet:In→In→Bool) (p:Pr) (D:Nat→Nat→In→Int→Prop) (F:Nat→Nat→Bool):Prop :=
 ∀ i j,i<p.blks.length→j<(p.blks.getD i default).ins.length→(F i j=true↔∃ b k ld r,D b k ld r∧qg4 p b k i j∧qde meet ld r ((p.blks.getD i default).ins.getD j default)=true)
def onD (meet:In→In→Bool) (p:Pr) (n fr:Nat) (ld:In) (r:Int) (F F':Nat→Nat→Bool):Prop :=
 ∀ i j,i<p.blks.length→j<(p.blks.getD i default).ins.length→(F' i j=true↔F i j=true∨(qg4 p n fr i j∧qde meet ld r ((p.blks.getD i default).ins.getD j default)=true))
section
variable {meet:In→In→Bool} {p:Pr} {s:List Bool} {D D':Nat→Nat→In→Int→Prop} {F F':Nat→Nat→Bool} {b k u:Nat}
theorem qf6 (h:qbi meet p D F) (e:∀ b k ld r,D b k ld r↔D' b k ld r):qbi meet p D' F:=fun i j hi hj=>by
 rw [h i j hi hj]
 constructor
 ·rintro ⟨b,k,ld,r,h1,h2⟩;exact ⟨b,k,ld,r,(e ..).1 h1,h2⟩
 ·rintro ⟨b,k,ld,r,h1,h2⟩;exact ⟨b,k,ld,r,(e ..).2 h1,h2⟩
theorem qvu {ld ld':In} {r:Int} {i:In} (h:0≤r):qde meet ld r i=qde meet ld' r i:=by unfold qde;rw [if_pos h,if_pos h]
theorem qi2 {ld:In} {r:Int} (h:qbi meet p D F) (hF:onD meet p b k ld r F F') (e:∀ b' k' l' r',D' b' k' l' r'↔D b' k' l' r'∨(b'=b∧k'=k∧r'=r∧(0≤r∨l'=ld))):qbi meet p D' F':=fun i j hi hj=>by
 rw [hF i j hi hj,h i j hi hj]
 constructor
 ·rintro (⟨b',k',l',r',h1,h2⟩ | ⟨h1,h2⟩)
  ·exact ⟨b',k',l',r',(e ..).2 (.inl h1),h2⟩
  ·exact ⟨b,k,ld,r,(e ..).2 (.inr ⟨rfl,rfl,rfl,.inr rfl⟩),h1,h2⟩
 ·rintro ⟨b',k',l',r',h1,h2,h3⟩
  rcases (e ..).1 h1 with h1|⟨rfl,rfl,rfl,h4⟩
  ·exact .inl ⟨b',k',l',r',h1,h2,h3⟩
  ·refine .inr ⟨h2,?_⟩
   rcases h4 with h4|rfl
   ·rw [qvu (ld':=l') h4];exact h3
   ·exact h3
theorem qsb:qbi meet p (qf5 s p 0) (fun _ _=>false):=fun i j hi hj=>by
 constructor
 ·intro h;cases h
 ·rintro ⟨b,k,ld,r,⟨h, -⟩, -⟩;omega
theorem qyq (h:qbi meet p (qf5 s p b) F):qbi meet p (qet s p b 0) F:=qf6 h fun b' k' ld r=>by
 unfold qf5 qet
 constructor
 ·exact .inl
 ·rintro (h | ⟨-,h, -⟩)
  ·exact h
  ·omega
theorem qr6 (h:qbi meet p (qet s p b k) F) (h5:((p.blks.getD b default).ins.getD k default).op=5) (hF:onD meet p b k ((p.blks.getD b default).ins.getD k default) (-1) F F'):qbi meet p (qdq s p b k 0) F':=qi2 h hF fun b' k' l' r'=>by
 unfold qdq
 constructor
 ·rintro (h1 | ⟨h1,h2,⟨-,h3,h4⟩ | ⟨h3, -⟩⟩)
  ·exact .inl h1
  ·exact .inr ⟨h1,h2,h4,.inr h3⟩
  ·simp at h3
 ·rintro (h1 | ⟨h1,h2,h3,h4⟩)
  ·exact .inl h1
  ·refine .inr ⟨h1,h2,.inl ⟨h5,?_,h3⟩⟩
   rcases h4 with h4|h4
   ·omega
   ·exact h4
theorem qni (h:qbi meet p (qet s p b k) F) (h5:((p.blks.getD b default).ins.getD k default).op≠5):qbi meet p (qdq s p b k 0) F:=qf6 h fun b' k' l' r'=>by
 unfold qdq
 constructor
 ·exact .inl
 ·rintro (h1 | ⟨h1,h2,⟨h3, -⟩ | ⟨h3, -⟩⟩)
  ·exact h1
  ·exact absurd h3 h5
  ·simp at h3
theorem qey {l:List Int} {u:Nat} (hu:u<l.length) (x:Int):x∈l.take (u+1)↔x∈l.take u∨x=l.getD u 0:=by
 rw [qfq _ _ hu,List.mem_append,List.mem_singleton]
theorem quf {ld:In} (h:qbi meet p (qdq s p b k u) F) (hu:u<(qbb ((p.blks.getD b default).ins.getD k default)).length) (hs:qam s ((qbb ((p.blks.getD b default).ins.getD k default)).getD u 0)=true) (hF:onD meet p b k ld ((qbb ((p.blks.getD b default).ins.getD k default)).getD u 0) F F'):qbi meet p (qdq s p b k (u+1)) F':=qi2 h hF fun b' k' l' r'=>by
 unfold qdq
 rw [qey hu]
 constructor
 ·rintro (h1 | ⟨h1,h2,h3 | ⟨h3 | h3,h4⟩⟩)
  ·exact .inl (.inl h1)
  ·exact .inl (.inr ⟨h1,h2,.inl h3⟩)
  ·exact .inl (.inr ⟨h1,h2,.inr ⟨h3,h4⟩⟩)
  ·exact .inr ⟨h1,h2,h3,.inl (qa4 hs).1⟩
 ·rintro ((h1 | ⟨h1,h2,h3 | ⟨h3,h4⟩⟩) | ⟨h1,h2,h3, -⟩)
  ·exact .inl h1
  ·exact .inr ⟨h1,h2,.inl h3⟩
  ·exact .inr ⟨h1,h2,.inr ⟨.inl h3,h4⟩⟩
  ·exact .inr ⟨h1,h2,.inr ⟨.inr h3,by rw [h3];exact hs⟩⟩
theorem qpr (h:qbi meet p (qdq s p b k u) F) (hu:u<(qbb ((p.blks.getD b default).ins.getD k default)).length) (hs:qam s ((qbb ((p.blks.getD b default).ins.getD k default)).getD u 0)=false):qbi meet p (qdq s p b k (u+1)) F:=qf6 h fun b' k' l' r'=>by
 unfold qdq
 rw [qey hu]
 constructor
 ·rintro (h1 | ⟨h1,h2,h3 | ⟨h3,h4⟩⟩)
  ·exact .inl h1
  ·exact .inr ⟨h1,h2,.inl h3⟩
  ·exact .inr ⟨h1,h2,.inr ⟨.inl h3,h4⟩⟩
 ·rintro (h1 | ⟨h1,h2,h3 | ⟨h3 | h3,h4⟩⟩)
  ·exact .inl h1
  ·exact .inr ⟨h1,h2,.inl h3⟩
  ·exact .inr ⟨h1,h2,.inr ⟨h3,h4⟩⟩
  ·rw [h3,hs] at h4;cases h4
theorem q0u (h:qbi meet p (qdq s p b k u) F) (hu:¬ u<(qbb ((p.blks.getD b default).ins.getD k default)).length) (hk:k<(p.blks.getD b default).ins.length):qbi meet p (qet s p b (k+1)) F:=qf6 h fun b' k' l' r'=>by
 unfold qdq qet
 rw [List.take_of_length_le (by omega)]
 constructor
 ·rintro ((h1 | ⟨h1,h2,h3⟩) | ⟨rfl,rfl,h3⟩)
  ·exact .inl h1
  ·exact .inr ⟨h1,by omega,h3⟩
  ·exact .inr ⟨rfl,by omega,.inl ⟨hk,h3⟩⟩
 ·rintro (h1 | ⟨h1,h2,h3⟩)
  ·exact .inl (.inl h1)
  ·by_cases e:k'=k
   ·subst e
    subst h1
    rcases h3 with ⟨-,h3⟩|⟨h3, -⟩
    ·exact .inr ⟨rfl,rfl,h3⟩
    ·omega
   ·exact .inl (.inr ⟨h1,by omega,h3⟩)
theorem qt7 {ld:In} (h:qbi meet p (qet s p b k) F) (hk:k=(p.blks.getD b default).ins.length) (he:qbs s (p.blks.getD b default)=true) (hF:onD meet p b k ld (p.blks.getD b default).a F F'):qbi meet p (qf5 s p (b+1)) F':=qi2 h hF fun b' k' l' r'=>by
 have ha:0≤(p.blks.getD b default).a:=by
  unfold qbs at he
  rw [Bool.and_eq_true] at he
  exact (qa4 he.2).1
 unfold qf5 qet
 constructor
 ·rintro ⟨h1,h2⟩
  by_cases e:b'=b
  ·subst e
   rcases h2 with ⟨h2,h3⟩|⟨h2,h3,h4⟩
   ·exact .inl (.inr ⟨rfl,by omega,.inl ⟨h2,h3⟩⟩)
   ·exact .inr ⟨rfl,by omega,h4,.inl ha⟩
  ·exact .inl (.inl ⟨by omega,h2⟩)
 ·rintro ((h1 | ⟨rfl,h2,h3⟩) | ⟨rfl,rfl,h3, -⟩)
  ·exact ⟨by omega,h1.2⟩
  ·exact ⟨by omega,h3⟩
  ·exact ⟨by omega,.inr ⟨hk,he,h3⟩⟩
theorem qo5 (h:qbi meet p (qet s p b k) F) (hk:k=(p.blks.getD b default).ins.length) (he:qbs s (p.blks.getD b default)=false):qbi meet p (qf5 s p (b+1)) F:=qf6 h fun b' k' l' r'=>by
 unfold qf5 qet
 constructor
 ·rintro (h1 | ⟨rfl,h2,h3⟩)
  ·exact ⟨by omega,h1.2⟩
  ·exact ⟨by omega,h3⟩
 ·rintro ⟨h1,h2⟩
  by_cases e:b'=b
  ·subst e
   rcases h2 with ⟨h2,h3⟩|⟨h2,h3,h4⟩
   ·exact .inr ⟨rfl,by omega,.inl ⟨h2,h3⟩⟩
   ·rw [he] at h3;cases h3
  ·exact .inl ⟨by omega,h2⟩
theorem qwi (h:qbi meet p (qf5 s p p.blks.length) F) {i j:Nat} (hi:i<p.blks.length) (hj:j<(p.blks.getD i default).ins.length):F i j=true↔atD s p meet i j:=by
 rw [h i j hi hj]
 unfold atD qf5
 constructor
 ·rintro ⟨b,k,ld,r,⟨h1,h2⟩,h3,h4⟩;exact ⟨b,k,ld,r,h1,h2,h3,h4⟩
 ·rintro ⟨b,k,ld,r,h1,h2,h3,h4⟩;exact ⟨b,k,ld,r,⟨h1,h2⟩,h3,h4⟩
end
end
section
def qi7 (p:Pr) (g:List Nat):List Value:=(List.range g.length).map fun i=>qbf (g.getD i 0) (lenI p i) (lenI p i)
theorem qqb (p:Pr) (g:List Nat) (y:Nat):qi7 p (g++[y])=qi7 p g++[qbf y (lenI p g.length) (lenI p g.length)]:=by
 unfold qi7
 rw [List.length_append,List.length_singleton,List.range_succ,List.map_append]
 congr 1
 ·refine List.map_congr_left fun i hi=>?_
  have e:(g++[y]).getD i 0=g.getD i 0:=by simp [List.getD,List.getElem?_append_left (List.mem_range.1 hi)]
  rw [e]
 ·simp [List.getD]
theorem qf8 (p:Pr) (g:List Nat):(qi7 p g).length=g.length:=by unfold qi7;simp
theorem qpb (n:Nat):madeCells #[Value.bool false] n=qc1 (fun _=>false) n:=by
 apply Array.ext
 ·simp [madeCells,qc1]
 ·intro i h1 h2
  simp [madeCells,qc1,Nat.mod_one]
structure FoT (w1 wr:World) (bF:Nat) (nm:ByteArray) (p:Pr) (vo vb:Value) (k:AlK) (tv:Value) (g:List Nat):Prop where
 below:Below w1.heap.size w1 wr
 bx:wr.heap[bF]?=some (qnq nm p vo vb k tv)
 b1:w1.heap.size≤bF
 tab:qed wr w1.heap.size tv (qi7 p g)
 row:∀ i,i<g.length→wr.heap[g.getD i 0]?=some (.cells (qc1 (fun _=>false) (lenI p i)) 4)
 ge:∀ i,i<g.length→w1.heap.size≤g.getD i 0
 inj:∀ i j,i<g.length→j<g.length→g.getD i 0=g.getD j 0→i=j
section
variable {w1 wr w5 W':World} {bF:Nat} {nm:ByteArray} {p:Pr} {vo vb tv v1:Value} {k:AlK} {g:List Nat}
theorem FoT.lt (h:FoT w1 wr bF nm p vo vb k tv g):bF<wr.heap.size:=(qkp h.bx).1
theorem FoT.rlt (h:FoT w1 wr bF nm p vo vb k tv g) {i:Nat} (hi:i<g.length):g.getD i 0<wr.heap.size:=(qkp (h.row i hi)).1
theorem FoT.grow (h:FoT w1 wr bF nm p vo vb k tv g) (hb:Below wr.heap.size wr W'):FoT w1 W' bF nm p vo vb k tv g :=
 ⟨h.below.trans (hb.mono h.below.size),(hb.block _ h.lt).trans h.bx,h.b1,h.tab.below hb,fun i hi=>(hb.block _ (h.rlt hi)).trans (h.row i hi),h.ge,h.inj⟩
theorem FoT.ne_box (h:FoT w1 wr bF nm p vo vb k tv g):tv.ownBlock≠some bF:=by
 intro e
 obtain ⟨cur,h2⟩:=h.tab.heap e
 have:=h.bx
 rw [h2] at this
 simp [qnq] at this
theorem FoT.ne_row (h:FoT w1 wr bF nm p vo vb k tv g) {i:Nat} (hi:i<g.length):tv.ownBlock≠some (g.getD i 0):=by
 intro e
 obtain ⟨cur,h2⟩:=h.tab.heap e
 have:=h.row i hi
 rw [h2] at this
 simp at this
theorem FoT.row_box (h:FoT w1 wr bF nm p vo vb k tv g) {i:Nat} (hi:i<g.length):g.getD i 0≠bF:=by
 intro e
 have h2:=h.row i hi
 have:=h.bx
 rw [←e,h2] at this
 simp [qnq] at this
theorem qc7 (g:List Nat) (y i:Nat) (h:i<g.length):(g++[y]).getD i 0=g.getD i 0:=by simp [List.getD,List.getElem?_append_left h]
theorem qe3 (g:List Nat) (y:Nat):(g++[y]).getD g.length 0=y:=by simp [List.getD]
theorem FoT.push {n:Nat} (h:FoT w1 wr bF nm p vo vb k tv g) (hn:n=lenI p g.length) {y:Nat} (hy:wr.heap[y]?=some (.cells (madeCells #[.bool false] n) 4)) (hy1:w1.heap.size≤y) (hy2:∀ i,i<g.length→g.getD i 0≠y)
  (hT:qed w5 w1.heap.size v1 (qi7 p g++[qbf y n n])) (hg:wr.grownBy w5 tv.ownBlock):FoT w1 (w5.setCell ⟨bF,8,none⟩ v1) bF nm p vo vb k v1 (g++[y]):=by
 have ly:y<wr.heap.size:=(qkp hy).1
 have tv1:∀ b,tv.ownBlock=some b→w1.heap.size≤b:=fun b e=>(World.ownsRow.lt h.tab b e).1
 have bx5:w5.heap[bF]?=some (qnq nm p vo vb k tv):=(hg.block bF h.lt (fun e=>h.ne_box e.symm)).trans h.bx
 have B5:Below w1.heap.size w1 w5:=qba h.below h.below.size hg (fun b e=>tv1 b e)
 have y5:w5.heap[y]?=some (.cells (madeCells #[.bool false] n) 4):=by
  refine (hg.block y ly (fun e=>?_)).trans hy
  obtain ⟨cur,h2⟩:=h.tab.heap e.symm
  rw [hy] at h2
  simp at h2
 have yb:y≠bF:=fun e=>by
  rw [e,h.bx] at hy
  simp [qnq] at hy
 have r5:∀ i,i<g.length→w5.heap[g.getD i 0]?=some (.cells (qc1 (fun _=>false) (lenI p i)) 4):=fun i hi=>(hg.block _ (h.rlt hi) (fun e=>h.ne_row hi e.symm)).trans (h.row i hi)
 have hl:(g++[y]).length=g.length+1:=by simp
 refine ⟨B5.setCell (p:=⟨bF,8,none⟩) h.b1 _,heap_setCell_same w5 bF 8 _ _ _ bx5,h.b1,?_,fun i hi=>?_,fun i hi=>?_,fun i j hi hj e=>?_⟩
 ·rw [qqb,←hn]
  refine qed.set_other hT _ ?_
  intro e
  obtain ⟨cur,h2⟩:=hT.heap e
  rw [bx5] at h2
  simp [qnq] at h2
 ·by_cases e:i<g.length
  ·rw [qc7 _ _ _ e]
   exact (Below.heap_setCell w5 ⟨bF,8,none⟩ _ _ (h.row_box e)).trans (r5 i e)
  ·obtain rfl:i=g.length:=by omega
   rw [qe3,←hn,←qpb]
   exact (Below.heap_setCell w5 ⟨bF,8,none⟩ _ _ yb).trans y5
 ·by_cases e:i<g.length
  ·rw [qc7 _ _ _ e];exact h.ge i e
  ·obtain rfl:i=g.length:=by omega
   rw [qe3];exact hy1
 ·by_cases e1:i<g.length
  ·by_cases e2:j<g.length
   ·rw [qc7 _ _ _ e1,qc7 _ _ _ e2] at e
    exact h.inj i j e1 e2 e
   ·obtain rfl:j=g.length:=by omega
    rw [qc7 _ _ _ e1,qe3] at e
    exact absurd e (hy2 i e1)
  ·obtain rfl:i=g.length:=by omega
   by_cases e2:j<g.length
   ·rw [qc7 _ _ _ e2,qe3] at e
    exact absurd e.symm (hy2 j e2)
   ·omega
theorem FoT.done (h:FoT w1 wr bF nm p vo vb k tv g) (hl:g.length=p.blks.length) (h0:0<p.blks.length):∃ gA cA,tv=.slice (some ⟨gA,0,none⟩) p.blks.length cA∧p.blks.length≤cA∧cA≤maxLen∧FoS w1 wr ⟨bF,gA,cA,fun i=>g.getD i 0,nm,vo,vb,k⟩ p (fun _ _=>false):=by
 have hT:=h.tab
 unfold qed at hT
 rw [qf8,hl] at hT
 obtain ⟨-,⟨hv,h0'⟩|⟨gA,cap,cur,hv,hb,hh,hn,hc, -⟩⟩:=id hT
 ·omega
 ·rw [hv] at hT
  have hbx:=h.bx
  rw [hv] at hbx
  have hneb:=h.ne_box
  rw [hv] at hneb
  refine ⟨gA,cap,hv,hn,hc,h.below,hbx,fun i hi=>?_,fun i hi=>h.row i (by omega),⟨h.b1,hb,fun i hi=>h.ge i (by omega)⟩,fun i hi=>⟨h.row_box (by omega),fun e=>?_⟩,fun i j hi hj e=>h.inj i j (by omega) (by omega) e⟩
  ·have:=hT.cellAt i (by omega)
   rw [this]
   unfold qi7 qbf
   rw [List.getElem?_map,List.getElem?_range (by omega)]
   rfl
  ·have:=h.ne_row (i:=i) (by omega)
   rw [hv] at this
   exact this (by simp [Value.ownBlock];exact e.symm)
end
end
section
theorem qj5 {p:Pr} {r:Int} (h:qby p r true=true):0≤r∧r<p.regs:=by
 unfold qby at h;simpa using h
theorem qgm {p:Pr} {r:Int} {b:Bool} (h0:0≤p.regs) (h:qby p r b=true):r<p.regs:=by
 cases b
 ·unfold qby at h
  have:r= -1:=by simpa using h
  omega
 ·exact (qj5 h).2
theorem qqo {m:Md} {p:Pr} {i:In} (h0:0≤p.regs) (h:okI m p i=true) {r:Int} (hr:r∈qbb i):r<p.regs:=by
 unfold okI at h
 rw [Bool.and_eq_true] at h
 obtain ⟨-,h⟩:=h
 unfold qbb at hr
 rw [List.mem_append,List.mem_append] at hr
 by_cases h9:i.op=9
 ·rw [if_pos h9] at h hr
  rw [Bool.and_eq_true,Bool.and_eq_true] at h
  obtain ⟨hc,ha,hb⟩:=h
  rcases hr with (hr|hr)|hr
  ·split at hr
   ·rw [List.mem_singleton] at hr;rw [hr];exact qgm h0 ha
   ·cases hr
  ·split at hr
   ·rw [List.mem_singleton] at hr;rw [hr];exact qgm h0 hb
   ·cases hr
  ·unfold qd0 at hc
   simp only [Bool.and_eq_true,List.all_eq_true] at hc
   exact (qj5 (hc.2.2.2.2 r (List.mem_filter.1 hr).1)).2
 ·rw [if_neg h9] at h hr
  rw [Bool.and_eq_true,Bool.and_eq_true,Bool.and_eq_true] at h
  obtain ⟨⟨-,ha,hb⟩, -⟩:=h
  rcases hr with (hr|hr)|hr
  ·split at hr
   ·rw [List.mem_singleton] at hr;rw [hr];exact qgm h0 ha
   ·cases hr
  ·split at hr
   ·rw [List.mem_singleton] at hr;rw [hr];exact qgm h0 hb
   ·cases hr
  ·cases hr
theorem q0h {m:Md} {p:Pr} {b:Bk} (h0:0≤p.regs) (h:okB m p b=true) (he:b.fin=2∨b.fin=3):b.a<p.regs:=by
 unfold okB at h
 rw [Bool.and_eq_true] at h
 have h:=h.2
 unfold qha at h
 rcases he with he|he
 ·rw [if_neg (by omega),if_pos he] at h
  simp only [Bool.and_eq_true] at h
  exact qgm h0 h.2.2
 ·rw [if_neg (by omega),if_neg (by omega),if_pos he] at h
  simp only [Bool.and_eq_true] at h
  exact qgm h0 h.1
theorem qh1 {p:Pr} {s:List Bool} {r:Int} (h0:0≤p.regs) (h:r<p.regs):qam (qb8 p s) r=qam s r:=by
 unfold qb8
 rw [qpm]
 have:decide (r<((p.regs.toNat:Nat):Int))=true:=qkn (by omega)
 rw [this,Bool.and_true]
theorem qns {m:Md} {p:Pr} {s:List Bool} (h:AlP m p) {b:Nat} (hb:b<p.blks.length) (k:Nat) (ld:In) (r:Int):qm6 (qb8 p s) p b k ld r↔qm6 s p b k ld r:=by
 have hB:p.blks.getD b default∈p.blks:=qa5 hb
 have hok:okB m p (p.blks.getD b default)=true:=by
  have:=h.ok
  unfold okP at this
  rw [Bool.and_eq_true,List.all_eq_true] at this
  exact this.2 _ hB
 have he:qbs (qb8 p s) (p.blks.getD b default)=qbs s (p.blks.getD b default):=by
  unfold qbs
  by_cases e:(p.blks.getD b default).fin=2∨(p.blks.getD b default).fin=3
  ·rw [qh1 h.r0 (q0h h.r0 hok e)]
  ·have:((p.blks.getD b default).fin ==2 || (p.blks.getD b default).fin ==3)=false:=by
    rw [Bool.or_eq_false_iff]
    exact ⟨beq_eq_false_iff_ne.2 fun z=>e (.inl z),beq_eq_false_iff_ne.2 fun z=>e (.inr z)⟩
   rw [this,Bool.false_and,Bool.false_and]
 unfold qm6
 rw [he]
 constructor
 ·rintro (⟨hk,h1 | ⟨h1,h2⟩⟩ | h1)
  ·exact .inl ⟨hk,.inl h1⟩
  ·have hlt:=qqo h.r0 (h.okI hB (qa5 hk)) h1
   rw [qh1 h.r0 hlt] at h2
   exact .inl ⟨hk,.inr ⟨h1,h2⟩⟩
  ·exact .inr h1
 ·rintro (⟨hk,h1 | ⟨h1,h2⟩⟩ | h1)
  ·exact .inl ⟨hk,.inl h1⟩
  ·have hlt:=qqo h.r0 (h.okI hB (qa5 hk)) h1
   rw [←qh1 h.r0 hlt] at h2
   exact .inl ⟨hk,.inr ⟨h1,h2⟩⟩
  ·exact .inr h1
theorem q0l {m:Md} {p:Pr} {s:List Bool} (h:AlP m p) (meet:In→In→Bool) (n j:Nat):atD (qb8 p s) p meet n j↔atD s p meet n j:=by
 unfold atD
 constructor
 ·rintro ⟨b,k,ld,r,h1,h2,h3⟩;exact ⟨b,k,ld,r,h1,(qns h h1 ..).1 h2,h3⟩
 ·rintro ⟨b,k,ld,r,h1,h2,h3⟩;exact ⟨b,k,ld,r,h1,(qns h h1 ..).2 h2,h3⟩
theorem qmt {p:Pr} {i:In} (h:i∈qad p):∃ b∈p.blks,i∈b.ins:=by
 unfold qad at h
 rw [List.mem_flatMap] at h
 obtain ⟨b,hb,hi⟩:=h
 exact ⟨b,hb,(List.mem_filter.1 hi).1⟩
theorem qv9 {s:List Bool} {L:List In} {m1 m2:In→In→Bool} {had:Nat} {i:In} (h:∀ a∈L,m1 a i=m2 a i):qiq s L m1 had i=qiq s L m2 had i:=by
 unfold qiq
 congr 2
 rw [Bool.eq_iff_iff,List.any_eq_true,List.any_eq_true]
 constructor
 ·rintro ⟨x,hx,h1⟩
  refine ⟨x,hx,?_⟩
  rw [←h _ (qch (List.mem_range.1 hx))];exact h1
 ·rintro ⟨x,hx,h1⟩
  refine ⟨x,hx,?_⟩
  rw [h _ (qch (List.mem_range.1 hx))];exact h1
theorem qyw {m:Md} {p:Pr} {s:List Bool} (h:AlP m p) {X:List Nat} (h1:qcf (qb8 p s) (qad p).length p X) (h2:qg5 (qb8 p s) (qad p).length p X) {k:VwK} {x:AS} {sp:List Sp} {y:AR} {T:Nat} (he:qdo p T x y) (hbl:k.bs.length=p.regs.toNat) (hsp:∀ r,r<p.regs.toNat→sp.getD r default=spP p r)
  {F:Nat→Nat→Bool} {b j:Nat} (hb:b<p.blks.length) (hj:j<(p.blks.getD b default).ins.length) (hF:F b j=true↔atD s p (qc0 y T p) b j) :
  F b j=qiq (qb8 p s) (qad p) (qbe k x sp) (qja (qb8 p s) (qad p).length p b j (X.getD b 0)) ((p.blks.getD b default).ins.getD j default):=by
 have hi:=h.okI (qa5 hb) (qa5 hj)
 rw [qv9 (m2:=qc0 y T p) fun a ha=>by
  obtain ⟨B,hB,haB⟩:=qmt ha
  exact qq0 he h hbl hsp (h.okI hB haB) hi,Bool.eq_iff_iff,qpz h1 h2 hb hj,q0l h,hF]
end
end Go.Proofs.Ytmcddolkpcgddaa
