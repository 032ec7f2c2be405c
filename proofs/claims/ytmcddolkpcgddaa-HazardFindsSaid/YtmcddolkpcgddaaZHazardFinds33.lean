/-
alias: Things, Out, Exact, memory; the statements' rising.
-/
import Derived.Test.YtmcddolkpcgddaaZHazardFinds32
set_option maxHeartbeats 4000000
set_option maxRecDepth 100000
set_option linter.all false
namespace Go.Proofs.Ytmcddolkpcgddaa
open Go.ChangeShapes Go.WideShapes Go.ChangeAt Go.RowKit
section
theorem qbd.slY {w:World} {v:Value} {l:List In} (h:qbd w v l):∃ a c,v=.slice a l.length c∧l.length≤c∧c≤maxLen:=by
 obtain ⟨a,c,h1,h2,h3, -⟩:=h
 exact ⟨a,c,h1,h2,h3⟩
def cB (c:In→List Con) (b:Bk):List Con:=b.ins.flatMap c++qjr b
def eaL (c:In→List Con) (bs:List Bk) (n:Nat):List Con:=(bs.take n).flatMap (cB c)
def eaI (bs:List Bk) (n:Nat):List In:=(bs.take n).flatMap (·.ins)
theorem qe5 {α:Type} [Inhabited α] (l:List α) (k:Nat) (h:k<l.length):l.take (k+1)=l.take k++[l.getD k default]:=by
 rw [List.take_succ_eq_append_getElem h];simp [List.getD,h]
theorem qom (c:In→List Con) (bs:List Bk) (n:Nat) (h:n<bs.length):eaL c bs (n+1)=eaL c bs n++((bs.getD n default).ins.flatMap c++qjr (bs.getD n default)):=by
 unfold eaL;rw [qe5 _ _ h,List.flatMap_append];simp [cB]
theorem qoz (bs:List Bk) (n:Nat) (h:n<bs.length):eaI bs (n+1)=eaI bs n++(bs.getD n default).ins:=by
 unfold eaI;rw [qe5 _ _ h,List.flatMap_append];simp
theorem qq1 (bs:List Bk) (n j:Nat) (h:n<bs.length):∃ l',(eaI bs n++(bs.getD n default).ins.take j)++l'=bs.flatMap (·.ins):=by
 refine ⟨(bs.getD n default).ins.drop j++(bs.drop (n+1)).flatMap (·.ins),?_⟩
 have e:bs=bs.take n++bs.getD n default::bs.drop (n+1):=by
  conv=>lhs;rw [←List.take_append_drop n bs]
  congr 1
  rw [List.drop_eq_getElem_cons h];simp [List.getD,h]
 conv=>rhs;rw [e,List.flatMap_append,List.flatMap_cons]
 unfold eaI
 simp only [List.append_assoc]
 congr 1
 rw [←List.append_assoc,List.take_append_drop]
structure EaS (w0 w:World) (k:VwK) (x:AS) (sp:List Sp) (f:List Sp→In→List Sp) (l:List Con) (li:List In) (wr:World) (b:Bool):Prop where
 b:b=(x.pass l).2
 v:VwM w0 wr k (x.pass l).1 (li.foldl f sp)
 k:KpW k w wr
theorem EaS.step {w0 w wr w':World} {k:VwK} {x:AS} {sp:List Sp} {f:List Sp→In→List Sp} {l c:List Con} {li:List In} {i:List In} {b:Bool} (h:EaS w0 w k x sp f l li wr b) (hv:VwM w0 w' k ((x.pass l).1.pass c).1 (i.foldl f (li.foldl f sp))) (hk:KpW k wr w'):EaS w0 w k x sp f (l++c) (li++i) w' (((x.pass l).1.pass c).2 || b) :=
 ⟨by rw [AS.pass_append,h.b],by rw [AS.pass_append,List.foldl_append];exact hv,h.k.trans hk⟩
theorem EaS.grow {w0 w wr w':World} {k:VwK} {x:AS} {sp:List Sp} {f:List Sp→In→List Sp} {l:List Con} {li:List In} {b:Bool} (h:EaS w0 w k x sp f l li wr b) (hb:Below wr.heap.size wr w'):EaS w0 w k x sp f l li w' b :=
 ⟨h.b,h.v.grow hb,h.k.trans (KpW.of_below hb)⟩
theorem qxy (w0:World) (k:VwK) (x:AS) (sp:List Sp) (c:In→List Con) (f:List Sp→In→List Sp) (Q:List Sp→Prop) (w:World) (h:VwM w0 w k x sp)
  (hbl:k.p.blks.length≤1000∧∀ n,n<k.p.blks.length→(k.p.blks.getD n default).ins.length≤1000)
  (hend:∀ n,n<k.p.blks.length→(k.p.blks.getD n default).fin=3→(k.p.blks.getD n default).a≠ -1→0≤(k.p.blks.getD n default).a∧(k.p.blks.getD n default).a.toNat<k.bs.length)
  (hQ:∀ l l',l++l'=k.p.blks.flatMap (·.ins)→Q (l.foldl f sp))
  (hdo:∀ (n j:Nat) X SP va wr,n<k.p.blks.length→j<(k.p.blks.getD n default).ins.length→VwM w0 wr k X SP→Q SP→RdI w0 va ((k.p.blks.getD n default).ins.getD j default).args→
    Calls Try.prog 65 #[.pointer (some ⟨k.bv,0,none⟩),qbu ((k.p.blks.getD n default).ins.getD j default) va] wr fun e w'=>e=.returned (.bool (X.pass (c ((k.p.blks.getD n default).ins.getD j default))).2)∧VwM w0 w' k (X.pass (c ((k.p.blks.getD n default).ins.getD j default))).1 (f SP ((k.p.blks.getD n default).ins.getD j default))∧KpW k wr w') :
  Calls Try.prog 64 #[.pointer (some ⟨k.bv,0,none⟩),.func (.func 65) #[.pointer (some ⟨k.bv,0,none⟩)] #[]] w fun e w'=>e=.returned (.bool (x.pass (k.p.blks.flatMap (cB c))).2)∧VwM w0 w' k (x.pass (k.p.blks.flatMap (cB c))).1 ((k.p.blks.flatMap (·.ins)).foldl f sp)∧KpW k w w':=by
 obtain ⟨pnm,pvo,pvb,pe, -,hbk⟩:=id h.pv
 simp only [Value.agg.injEq,Array.mk.injEq,List.cons.injEq] at pe
 obtain ⟨-, -, -, -, -,pe, -⟩:=pe
 subst pe
 obtain ⟨ab,cb,hvb,hb1,hb2, -⟩:=id hbk
 unfold maxLen at hb2
 have hvc:∀ wr X SP,VwM w0 wr k X SP→wr.cell? ⟨k.bv,5,none⟩=some (.slice ab k.p.blks.length cb):=fun wr X SP hv=>by rw [qab hv.hv 5,←hvb];rfl
 have HVC:=qkm hvc
 have HBK:=qkm hbk
 have HVB:=qkm hvb
 have c5:=hvc w x sp h
 have lv:=h.lv
 have HE:=qkm hend
 have HQ:=qkm hQ
 have HDO:=qkm hdo
 have HIL:=qkm hbl.2
 have hbl1:=hbl.1
 have H0:Hid (EaS w0 w k x sp f (eaL c k.p.blks 0) (eaI k.p.blks 0) w false):=⟨rfl,h,KpW.refl _ _⟩
 have HFIN:Hid (eaL c k.p.blks k.p.blks.length=k.p.blks.flatMap (cB c)∧eaI k.p.blks k.p.blks.length=k.p.blks.flatMap (·.ins)):=⟨by unfold eaL;rw [List.take_length],by unfold eaI;rw [List.take_length]⟩
 rw [←HFIN.out.1,←HFIN.out.2]
 clear h hbk hvc hend hQ hdo hbl hvb HFIN
 go_enter Try.func64,Try.ntmps64
 go_wp2_with fail
 go_loopw [5,16] (fun d i wr=>∃ (n:Nat) (b:Bool),n≤k.p.blks.length∧d=.bool b∧i=.int .i64 (n:Int)∧Hid (EaS w0 w k x sp f (eaL c k.p.blks n) (eaI k.p.blks n) wr b)) (fun _ i _=>k.p.blks.length-(intOf i).toNat)
 case atStart=>exact ⟨0,false,Nat.zero_le _,rfl,rfl,H0⟩
 case round=>
  clear H0 c5
  obtain ⟨n,b,hn,rfl,rfl,E⟩:=hrel
  have c5:=HVC.out _ _ _ E.out.v
  have lvr:=E.out.v.lv
  by_cases hlt:n<k.p.blks.length
  ·have g1:decide ((n:Int)<(k.p.blks.length:Int))=true:=qkn (by omega)
   have g2:decide (n<k.p.blks.length)=true:=qkn hlt
   have hbk:=HBK.out
   rw [HVB.out] at hbk
   obtain ⟨bb,ob,vi,rfl,hvi,c0,c1,c2,c3,c4⟩:=(qbl.at hbk).2 n hlt
   have HX:=qkm E.out.v.ext
   replace c0:=HX.out _ _ c0
   replace c1:=HX.out _ _ c1
   replace c2:=HX.out _ _ c2
   replace c3:=HX.out _ _ c3
   replace c4:=HX.out _ _ c4
   have lbw:=World.block_lt_of_cell? wr _ c0
   have HVI:=qkm hvi
   obtain ⟨ai,ci,rfl,hi1,hi2⟩:=qbd.slY hvi
   unfold maxLen at hi2
   clear hvi HX hbk
   have hLk:=HIL.out n hlt
   have HDK:=qkm (fun j X SP va wr hj=>HDO.out n j X SP va wr hlt hj)
   have HEK:=qkm (HE.out n hlt)
   have HPK:=qkm (fun j=>qq1 k.p.blks n j hlt)
   have HS1:=qkm (qom c k.p.blks n hlt)
   have HS2:=qkm (qoz k.p.blks n hlt)
   generalize k.p.blks.getD n default=K at *
   have hnm:=qkm (E.out.v.notMine (Nat.le_refl wr.heap.size))
   go_wp2_with fail
   generalize wr=wo at *
   obtain ⟨W2,hW2⟩:∃ W2,W2=wo.alloc (.cells #[.slice ai K.ins.length ci,.int .i64 K.fin,.int .i64 K.a,.int .i64 K.to,.int .i64 K.els] 51):=⟨_,rfl⟩
   have G2:Hid (W2.heap[wo.heap.size]?=some (.cells #[.slice ai K.ins.length ci,.int .i64 K.fin,.int .i64 K.a,.int .i64 K.to,.int .i64 K.els] 51)):=by
    rw [hW2];exact heap_alloc_new wo _
   have E2:Hid (EaS w0 w k x sp f (eaL c k.p.blks n++(K.ins.take 0).flatMap c) (eaI k.p.blks n++K.ins.take 0) W2 b):=by
    simp only [List.take_zero,List.flatMap_nil,List.append_nil]
    rw [hW2];exact E.out.grow (qaa wo _)
   try rw [←hW2]
   clear hW2 c0 c1 c2 c3 c4 c5 E
   go_loopw [5,23] (fun d i wr=>∃ (j:Nat) (b:Bool),j≤K.ins.length∧d=.bool b∧i=.int .i64 (j:Int)∧Hid (EaS w0 w k x sp f (eaL c k.p.blks n++(K.ins.take j).flatMap c) (eaI k.p.blks n++K.ins.take j) wr b)∧Hid (wr.heap[wo.heap.size]?=some (.cells #[.slice ai K.ins.length ci,.int .i64 K.fin,.int .i64 K.a,.int .i64 K.to,.int .i64 K.els] 51))) (fun _ i _=>K.ins.length-(intOf i).toNat)
   case atStart=>exact ⟨0,b,Nat.zero_le _,rfl,rfl,E2,G2⟩
   case round=>
    clear E2 G2
    obtain ⟨j,b,hj,rfl,rfl,E,G⟩:=hrel
    have lg:=(qkp G.out).1
    by_cases hlj:j<K.ins.length
    ·have g3:decide ((j:Int)<(K.ins.length:Int))=true:=qkn (by omega)
     have g4:decide (j<K.ins.length)=true:=qkn hlj
     obtain ⟨bi,oi,vx,rfl,hbw,hva,d0,d1,d2,d3,d4,d5,d6,d7,d8,d9,d10⟩:=(qbd.at HVI.out).2 j hlj
     have HX:=qkm E.out.v.ext
     replace d0:=HX.out _ _ d0
     replace d1:=HX.out _ _ d1
     replace d2:=HX.out _ _ d2
     replace d3:=HX.out _ _ d3
     replace d4:=HX.out _ _ d4
     replace d5:=HX.out _ _ d5
     replace d6:=HX.out _ _ d6
     replace d7:=HX.out _ _ d7
     replace d8:=HX.out _ _ d8
     replace d9:=HX.out _ _ d9
     replace d10:=HX.out _ _ d10
     have lbi:=World.block_lt_of_cell? wr _ d0
     have HVA:=qkm hva
     obtain ⟨sa,sc,rfl, -⟩:=hva
     have HTS:Hid (K.ins.take (j+1)=K.ins.take j++[K.ins.getD j default]):=qe5 _ _ hlj
     have HQJ:Hid (Q ((eaI k.p.blks n++K.ins.take j).foldl f sp)):=by
      obtain ⟨l',hl'⟩:=HPK.out j
      exact HQ.out _ l' hl'
     have HDJ:=qkm (fun X SP va wr=>HDK.out j X SP va wr hlj)
     clear HX
     generalize K.ins.getD j default=y at *
     have hnm3:=qkm (E.out.v.notMine (Nat.le_refl wr.heap.size))
     go_wp2_with fail
     have hb3:=qaa wr (.cells #[.int .i64 y.op,.int .i64 y.d,.int .i64 y.a,.int .i64 y.b,.int .i64 y.fn,.int .i64 y.obj,.int .i64 y.off,.int .i64 y.size,.int .u32 y.num,.slice sa y.args.length sc,.bool y.log] 58)
     have E3:=qkm (E.out.grow hb3)
     have G3:=qkm ((hb3.block _ lg).trans G.out)
     generalize wr.alloc (.cells #[.int .i64 y.op,.int .i64 y.d,.int .i64 y.a,.int .i64 y.b,.int .i64 y.fn,.int .i64 y.obj,.int .i64 y.off,.int .i64 y.size,.int .u32 y.num,.slice sa y.args.length sc,.bool y.log] 58)=W3 at *
     clear hb3 E G d0 d1 d2 d3 d4 d5 d6 d7 d8 d9 d10
     have hcl:=HDJ.out _ _ (.slice sa y.args.length sc) W3 E3.out.v HQJ.out HVA.out
     unfold qbu at hcl
     refine Calls.mono hcl ?_
     clear hcl
     rintro e w4 ⟨rfl,hv4,hk4⟩
     have E4:=qkm (E3.out.step (i:=[y]) hv4 hk4)
     have G4:=qkm ((hk4.keep _ (qkp G3.out).1 hnm.out).trans G3.out)
     have E5:Hid (∀ b',((x.pass (eaL c k.p.blks n++(K.ins.take j).flatMap c)).1.pass (c y)).2=b'→EaS w0 w k x sp f (eaL c k.p.blks n++(K.ins.take (j+1)).flatMap c) (eaI k.p.blks n++K.ins.take (j+1)) w4 (b' || b)):=fun b' hb'=>by
      rw [HTS.out,List.flatMap_append,←List.append_assoc,←List.append_assoc,←hb']
      simpa using E4.out
     clear hv4 hk4 E3 E4 G3 HQJ HDJ
     generalize ((x.pass (eaL c k.p.blks n++(K.ins.take j).flatMap c)).1.pass (c y)).2=nb at *
     cases nb
     all_goals
      have E6:=qkm (E5.out _ rfl)
      clear E5
      go_wp2_with fail
      go_roundw
      case rel=>exact ⟨j+1,_,hlj,rfl,by go_num,E6,G4⟩
      case measure=>simp [intOf];omega
    ·obtain rfl:j=K.ins.length:=by omega
     obtain ⟨q0,q1,q2,q3,q4, -⟩:=cl5 G.out
     have E:Hid (EaS w0 w k x sp f (eaL c k.p.blks n++K.ins.flatMap c) (eaI k.p.blks n++K.ins) wr b):=by
      have:=E.out
      rwa [List.take_length] at this
     by_cases hfa:K.fin=3∧K.a≠ -1
     ·obtain ⟨h1,h2⟩:=hfa
      obtain ⟨k1,k2⟩:=HEK.out h1 h2
      obtain ⟨r,hr⟩:∃ r:Nat,K.a=(r:Int):=⟨K.a.toNat,by omega⟩
      have hr2:r<k.bs.length:=by omega
      have f3:(K.fin ==3)=true:=by rw [h1];rfl
      have f4:(K.a != -1)=true:=by rw [bne_iff_ne];exact h2
      have HCE:Hid (qjr K=[.sub (some r) none]):=by show _=_;unfold qjr;rw [if_pos ⟨h1,h2⟩,hr];rfl
      rw [hr] at q2 f4
      clear h1 h2 k1 k2 hr HEK
      go_wp2_with fail
      refine (qvf w0 k _ _ r wr E.out.v hr2).mono ?_
      rintro e w4 ⟨rfl,hv4,hk4⟩
      have E5:Hid (∀ b',((x.pass (eaL c k.p.blks n++K.ins.flatMap c)).1.news (.sub (some r) none))=b'→EaS w0 w k x sp f (eaL c k.p.blks (n+1)) (eaI k.p.blks (n+1)) w4 (b' || b)):=fun b' hb'=>by
       have h:=E.out.step (c:=[.sub (some r) none]) (i:=[]) (w':=w4) (by rw [AS.pass_one];exact hv4) hk4
       rw [AS.pass_one,List.append_nil] at h
       rw [HS1.out,HS2.out,HCE.out,←List.append_assoc,←hb']
       exact h
      clear hv4 hk4 E
      generalize ((x.pass (eaL c k.p.blks n++K.ins.flatMap c)).1.news (.sub (some r) none))=nb at *
      cases nb
      all_goals
       have E6:=qkm (E5.out _ rfl)
       clear E5
       go_wp2_with fail
       go_roundw
       case rel=>exact ⟨n+1,_,hlt,rfl,by go_num,E6⟩
       case measure=>simp [intOf];omega
     ·have HCE:Hid (qjr K=[]):=by show _=_;unfold qjr;rw [if_neg hfa]
      have E6:Hid (EaS w0 w k x sp f (eaL c k.p.blks (n+1)) (eaI k.p.blks (n+1)) wr b):=by
       show EaS _ _ _ _ _ _ _ _ _ _
       rw [HS1.out,HS2.out,HCE.out,List.append_nil]
       exact E.out
      clear HEK E
      by_cases h1:K.fin=3
      ·have f3:(K.fin ==3)=true:=by rw [h1];rfl
       have f4:(K.a != -1)=false:=by
        have:K.a= -1:=Classical.byContradiction fun h2=>hfa ⟨h1,h2⟩
        rw [this];rfl
       clear h1 hfa
       go_wp2_with fail
       go_roundw
       case rel=>exact ⟨n+1,_,hlt,rfl,by go_num,E6⟩
       case measure=>simp [intOf];omega
      ·have f3:(K.fin ==3)=false:=by rw [beq_eq_false_iff_ne];exact h1
       clear h1 hfa
       go_wp2_with fail
       go_roundw
       case rel=>exact ⟨n+1,_,hlt,rfl,by go_num,E6⟩
       case measure=>simp [intOf];omega
  ·obtain rfl:n=k.p.blks.length:=by omega
   go_wp2_with fail
   go_ret
   exact ⟨by rw [E.out.b];rfl,E.out.v,E.out.k⟩
theorem qyy (w0:World) (k:VwK) (x:AS) (sp:List Sp) (c:In→List Con) (f:List Sp→In→List Sp) (Q:List Sp→Prop) (w:World) (h:VwM w0 w k x sp)
  (hbl:k.p.blks.length≤1000∧∀ n,n<k.p.blks.length→(k.p.blks.getD n default).ins.length≤1000)
  (hend:∀ n,n<k.p.blks.length→(k.p.blks.getD n default).fin=3→(k.p.blks.getD n default).a≠ -1→0≤(k.p.blks.getD n default).a∧(k.p.blks.getD n default).a.toNat<k.bs.length)
  (hQ:∀ l l',l++l'=k.p.blks.flatMap (·.ins)→Q (l.foldl f sp))
  (hdo:∀ (n j:Nat) X SP va wr,n<k.p.blks.length→j<(k.p.blks.getD n default).ins.length→VwM w0 wr k X SP→Q SP→RdI w0 va ((k.p.blks.getD n default).ins.getD j default).args→
    Calls Try.prog 66 #[.pointer (some ⟨k.bv,0,none⟩),qbu ((k.p.blks.getD n default).ins.getD j default) va] wr fun e w'=>e=.returned (.bool (X.pass (c ((k.p.blks.getD n default).ins.getD j default))).2)∧VwM w0 w' k (X.pass (c ((k.p.blks.getD n default).ins.getD j default))).1 (f SP ((k.p.blks.getD n default).ins.getD j default))∧KpW k wr w') :
  Calls Try.prog 64 #[.pointer (some ⟨k.bv,0,none⟩),.func (.func 66) #[.pointer (some ⟨k.bv,0,none⟩)] #[]] w fun e w'=>e=.returned (.bool (x.pass (k.p.blks.flatMap (cB c))).2)∧VwM w0 w' k (x.pass (k.p.blks.flatMap (cB c))).1 ((k.p.blks.flatMap (·.ins)).foldl f sp)∧KpW k w w':=by
 obtain ⟨pnm,pvo,pvb,pe, -,hbk⟩:=id h.pv
 simp only [Value.agg.injEq,Array.mk.injEq,List.cons.injEq] at pe
 obtain ⟨-, -, -, -, -,pe, -⟩:=pe
 subst pe
 obtain ⟨ab,cb,hvb,hb1,hb2, -⟩:=id hbk
 unfold maxLen at hb2
 have hvc:∀ wr X SP,VwM w0 wr k X SP→wr.cell? ⟨k.bv,5,none⟩=some (.slice ab k.p.blks.length cb):=fun wr X SP hv=>by rw [qab hv.hv 5,←hvb];rfl
 have HVC:=qkm hvc
 have HBK:=qkm hbk
 have HVB:=qkm hvb
 have c5:=hvc w x sp h
 have lv:=h.lv
 have HE:=qkm hend
 have HQ:=qkm hQ
 have HDO:=qkm hdo
 have HIL:=qkm hbl.2
 have hbl1:=hbl.1
 have H0:Hid (EaS w0 w k x sp f (eaL c k.p.blks 0) (eaI k.p.blks 0) w false):=⟨rfl,h,KpW.refl _ _⟩
 have HFIN:Hid (eaL c k.p.blks k.p.blks.length=k.p.blks.flatMap (cB c)∧eaI k.p.blks k.p.blks.length=k.p.blks.flatMap (·.ins)):=⟨by unfold eaL;rw [List.take_length],by unfold eaI;rw [List.take_length]⟩
 rw [←HFIN.out.1,←HFIN.out.2]
 clear h hbk hvc hend hQ hdo hbl hvb HFIN
 go_enter Try.func64,Try.ntmps64
 go_wp2_with fail
 go_loopw [5,16] (fun d i wr=>∃ (n:Nat) (b:Bool),n≤k.p.blks.length∧d=.bool b∧i=.int .i64 (n:Int)∧Hid (EaS w0 w k x sp f (eaL c k.p.blks n) (eaI k.p.blks n) wr b)) (fun _ i _=>k.p.blks.length-(intOf i).toNat)
 case atStart=>exact ⟨0,false,Nat.zero_le _,rfl,rfl,H0⟩
 case round=>
  clear H0 c5
  obtain ⟨n,b,hn,rfl,rfl,E⟩:=hrel
  have c5:=HVC.out _ _ _ E.out.v
  have lvr:=E.out.v.lv
  by_cases hlt:n<k.p.blks.length
  ·have g1:decide ((n:Int)<(k.p.blks.length:Int))=true:=qkn (by omega)
   have g2:decide (n<k.p.blks.length)=true:=qkn hlt
   have hbk:=HBK.out
   rw [HVB.out] at hbk
   obtain ⟨bb,ob,vi,rfl,hvi,c0,c1,c2,c3,c4⟩:=(qbl.at hbk).2 n hlt
   have HX:=qkm E.out.v.ext
   replace c0:=HX.out _ _ c0
   replace c1:=HX.out _ _ c1
   replace c2:=HX.out _ _ c2
   replace c3:=HX.out _ _ c3
   replace c4:=HX.out _ _ c4
   have lbw:=World.block_lt_of_cell? wr _ c0
   have HVI:=qkm hvi
   obtain ⟨ai,ci,rfl,hi1,hi2⟩:=qbd.slY hvi
   unfold maxLen at hi2
   clear hvi HX hbk
   have hLk:=HIL.out n hlt
   have HDK:=qkm (fun j X SP va wr hj=>HDO.out n j X SP va wr hlt hj)
   have HEK:=qkm (HE.out n hlt)
   have HPK:=qkm (fun j=>qq1 k.p.blks n j hlt)
   have HS1:=qkm (qom c k.p.blks n hlt)
   have HS2:=qkm (qoz k.p.blks n hlt)
   generalize k.p.blks.getD n default=K at *
   have hnm:=qkm (E.out.v.notMine (Nat.le_refl wr.heap.size))
   go_wp2_with fail
   generalize wr=wo at *
   obtain ⟨W2,hW2⟩:∃ W2,W2=wo.alloc (.cells #[.slice ai K.ins.length ci,.int .i64 K.fin,.int .i64 K.a,.int .i64 K.to,.int .i64 K.els] 51):=⟨_,rfl⟩
   have G2:Hid (W2.heap[wo.heap.size]?=some (.cells #[.slice ai K.ins.length ci,.int .i64 K.fin,.int .i64 K.a,.int .i64 K.to,.int .i64 K.els] 51)):=by
    rw [hW2];exact heap_alloc_new wo _
   have E2:Hid (EaS w0 w k x sp f (eaL c k.p.blks n++(K.ins.take 0).flatMap c) (eaI k.p.blks n++K.ins.take 0) W2 b):=by
    simp only [List.take_zero,List.flatMap_nil,List.append_nil]
    rw [hW2];exact E.out.grow (qaa wo _)
   try rw [←hW2]
   clear hW2 c0 c1 c2 c3 c4 c5 E
   go_loopw [5,23] (fun d i wr=>∃ (j:Nat) (b:Bool),j≤K.ins.length∧d=.bool b∧i=.int .i64 (j:Int)∧Hid (EaS w0 w k x sp f (eaL c k.p.blks n++(K.ins.take j).flatMap c) (eaI k.p.blks n++K.ins.take j) wr b)∧Hid (wr.heap[wo.heap.size]?=some (.cells #[.slice ai K.ins.length ci,.int .i64 K.fin,.int .i64 K.a,.int .i64 K.to,.int .i64 K.els] 51))) (fun _ i _=>K.ins.length-(intOf i).toNat)
   case atStart=>exact ⟨0,b,Nat.zero_le _,rfl,rfl,E2,G2⟩
   case round=>
    clear E2 G2
    obtain ⟨j,b,hj,rfl,rfl,E,G⟩:=hrel
    have lg:=(qkp G.out).1
    by_cases hlj:j<K.ins.length
    ·have g3:decide ((j:Int)<(K.ins.length:Int))=true:=qkn (by omega)
     have g4:decide (j<K.ins.length)=true:=qkn hlj
     obtain ⟨bi,oi,vx,rfl,hbw,hva,d0,d1,d2,d3,d4,d5,d6,d7,d8,d9,d10⟩:=(qbd.at HVI.out).2 j hlj
     have HX:=qkm E.out.v.ext
     replace d0:=HX.out _ _ d0
     replace d1:=HX.out _ _ d1
     replace d2:=HX.out _ _ d2
     replace d3:=HX.out _ _ d3
     replace d4:=HX.out _ _ d4
     replace d5:=HX.out _ _ d5
     replace d6:=HX.out _ _ d6
     replace d7:=HX.out _ _ d7
     replace d8:=HX.out _ _ d8
     replace d9:=HX.out _ _ d9
     replace d10:=HX.out _ _ d10
     have lbi:=World.block_lt_of_cell? wr _ d0
     have HVA:=qkm hva
     obtain ⟨sa,sc,rfl, -⟩:=hva
     have HTS:Hid (K.ins.take (j+1)=K.ins.take j++[K.ins.getD j default]):=qe5 _ _ hlj
     have HQJ:Hid (Q ((eaI k.p.blks n++K.ins.take j).foldl f sp)):=by
      obtain ⟨l',hl'⟩:=HPK.out j
      exact HQ.out _ l' hl'
     have HDJ:=qkm (fun X SP va wr=>HDK.out j X SP va wr hlj)
     clear HX
     generalize K.ins.getD j default=y at *
     have hnm3:=qkm (E.out.v.notMine (Nat.le_refl wr.heap.size))
     go_wp2_with fail
     have hb3:=qaa wr (.cells #[.int .i64 y.op,.int .i64 y.d,.int .i64 y.a,.int .i64 y.b,.int .i64 y.fn,.int .i64 y.obj,.int .i64 y.off,.int .i64 y.size,.int .u32 y.num,.slice sa y.args.length sc,.bool y.log] 58)
     have E3:=qkm (E.out.grow hb3)
     have G3:=qkm ((hb3.block _ lg).trans G.out)
     generalize wr.alloc (.cells #[.int .i64 y.op,.int .i64 y.d,.int .i64 y.a,.int .i64 y.b,.int .i64 y.fn,.int .i64 y.obj,.int .i64 y.off,.int .i64 y.size,.int .u32 y.num,.slice sa y.args.length sc,.bool y.log] 58)=W3 at *
     clear hb3 E G d0 d1 d2 d3 d4 d5 d6 d7 d8 d9 d10
     have hcl:=HDJ.out _ _ (.slice sa y.args.length sc) W3 E3.out.v HQJ.out HVA.out
     unfold qbu at hcl
     refine Calls.mono hcl ?_
     clear hcl
     rintro e w4 ⟨rfl,hv4,hk4⟩
     have E4:=qkm (E3.out.step (i:=[y]) hv4 hk4)
     have G4:=qkm ((hk4.keep _ (qkp G3.out).1 hnm.out).trans G3.out)
     have E5:Hid (∀ b',((x.pass (eaL c k.p.blks n++(K.ins.take j).flatMap c)).1.pass (c y)).2=b'→EaS w0 w k x sp f (eaL c k.p.blks n++(K.ins.take (j+1)).flatMap c) (eaI k.p.blks n++K.ins.take (j+1)) w4 (b' || b)):=fun b' hb'=>by
      rw [HTS.out,List.flatMap_append,←List.append_assoc,←List.append_assoc,←hb']
      simpa using E4.out
     clear hv4 hk4 E3 E4 G3 HQJ HDJ
     generalize ((x.pass (eaL c k.p.blks n++(K.ins.take j).flatMap c)).1.pass (c y)).2=nb at *
     cases nb
     all_goals
      have E6:=qkm (E5.out _ rfl)
      clear E5
      go_wp2_with fail
      go_roundw
      case rel=>exact ⟨j+1,_,hlj,rfl,by go_num,E6,G4⟩
      case measure=>simp [intOf];omega
    ·obtain rfl:j=K.ins.length:=by omega
     obtain ⟨q0,q1,q2,q3,q4, -⟩:=cl5 G.out
     have E:Hid (EaS w0 w k x sp f (eaL c k.p.blks n++K.ins.flatMap c) (eaI k.p.blks n++K.ins) wr b):=by
      have:=E.out
      rwa [List.take_length] at this
     by_cases hfa:K.fin=3∧K.a≠ -1
     ·obtain ⟨h1,h2⟩:=hfa
      obtain ⟨k1,k2⟩:=HEK.out h1 h2
      obtain ⟨r,hr⟩:∃ r:Nat,K.a=(r:Int):=⟨K.a.toNat,by omega⟩
      have hr2:r<k.bs.length:=by omega
      have f3:(K.fin ==3)=true:=by rw [h1];rfl
      have f4:(K.a != -1)=true:=by rw [bne_iff_ne];exact h2
      have HCE:Hid (qjr K=[.sub (some r) none]):=by show _=_;unfold qjr;rw [if_pos ⟨h1,h2⟩,hr];rfl
      rw [hr] at q2 f4
      clear h1 h2 k1 k2 hr HEK
      go_wp2_with fail
      refine (qvf w0 k _ _ r wr E.out.v hr2).mono ?_
      rintro e w4 ⟨rfl,hv4,hk4⟩
      have E5:Hid (∀ b',((x.pass (eaL c k.p.blks n++K.ins.flatMap c)).1.news (.sub (some r) none))=b'→EaS w0 w k x sp f (eaL c k.p.blks (n+1)) (eaI k.p.blks (n+1)) w4 (b' || b)):=fun b' hb'=>by
       have h:=E.out.step (c:=[.sub (some r) none]) (i:=[]) (w':=w4) (by rw [AS.pass_one];exact hv4) hk4
       rw [AS.pass_one,List.append_nil] at h
       rw [HS1.out,HS2.out,HCE.out,←List.append_assoc,←hb']
       exact h
      clear hv4 hk4 E
      generalize ((x.pass (eaL c k.p.blks n++K.ins.flatMap c)).1.news (.sub (some r) none))=nb at *
      cases nb
      all_goals
       have E6:=qkm (E5.out _ rfl)
       clear E5
       go_wp2_with fail
       go_roundw
       case rel=>exact ⟨n+1,_,hlt,rfl,by go_num,E6⟩
       case measure=>simp [intOf];omega
     ·have HCE:Hid (qjr K=[]):=by show _=_;unfold qjr;rw [if_neg hfa]
      have E6:Hid (EaS w0 w k x sp f (eaL c k.p.blks (n+1)) (eaI k.p.blks (n+1)) wr b):=by
       show EaS _ _ _ _ _ _ _ _ _ _
       rw [HS1.out,HS2.out,HCE.out,List.append_nil]
       exact E.out
      clear HEK E
      by_cases h1:K.fin=3
      ·have f3:(K.fin ==3)=true:=by rw [h1];rfl
       have f4:(K.a != -1)=false:=by
        have:K.a= -1:=Classical.byContradiction fun h2=>hfa ⟨h1,h2⟩
        rw [this];rfl
       clear h1 hfa
       go_wp2_with fail
       go_roundw
       case rel=>exact ⟨n+1,_,hlt,rfl,by go_num,E6⟩
       case measure=>simp [intOf];omega
      ·have f3:(K.fin ==3)=false:=by rw [beq_eq_false_iff_ne];exact h1
       clear h1 hfa
       go_wp2_with fail
       go_roundw
       case rel=>exact ⟨n+1,_,hlt,rfl,by go_num,E6⟩
       case measure=>simp [intOf];omega
  ·obtain rfl:n=k.p.blks.length:=by omega
   go_wp2_with fail
   go_ret
   exact ⟨by rw [E.out.b];rfl,E.out.v,E.out.k⟩
end
section
theorem qyc {m:Md} {p:Pr} {i:In} (h:okI m p i=true) (ho:p.objs.length≤20) (hg:m.globs.length≤20) (hp:m.procs.length≤1000):0≤i.obj∧i.obj≤100000:=by
 obtain ⟨h12,hcall,hregs⟩:=qda h
 by_cases h7:i.op=7
 ·have q4:=(hregs (by omega)).2.2.2
  unfold qeb at q4
  rw [if_neg (by omega),if_neg (by omega),if_neg (by omega),if_pos h7] at q4
  simp only [Bool.and_eq_true,decide_eq_true_eq] at q4
  omega
 by_cases h8:i.op=8
 ·have q4:=(hregs (by omega)).2.2.2
  unfold qeb at q4
  rw [if_neg (by omega),if_neg (by omega),if_neg (by omega),if_neg (by omega),if_pos h8] at q4
  simp only [Bool.and_eq_true,decide_eq_true_eq] at q4
  omega
 by_cases h9:i.op=9
 ·have:=qfx h h9
  omega
 ·unfold okI at h
  simp only [Bool.and_eq_true] at h
  have hb:=h.1.2.2
  unfold qem qal at hb
  simp only [Bool.and_eq_true,beq_iff_eq] at hb
  have h2:=hb.2.1
  rw [if_neg (by omega)] at h2
  omega
theorem qr4 {m:Md} {p:Pr} {i:In} (h:okI m p i=true) (hd:qbn i≠ -1):0≤qbn i∧qbn i<p.regs:=by
 have h12:=q2o h
 by_cases h9:i.op=9
 ·have e:qbn i=i.d:=by unfold qbn;rw [if_pos (by omega)]
  rw [e] at hd ⊢
  have:=quj (qfx h h9).2.2.2.1
  omega
 ·by_cases hx:i.op=6∨i.op=10∨i.op=12
  ·exact absurd (show qbn i= -1 by unfold qbn;rw [if_neg (by omega)]) hd
  ·have e:qbn i=i.d:=by unfold qbn;rw [if_pos (by omega)]
   rw [e]
   exact q19 h (by omega)
def SpB (sp:List Sp):Prop:=∀ r,0≤(sp.getD r default).sets∧(sp.getD r default).sets≤1000000
theorem qhn (l:List Sp) (i j:Nat) (x:Sp):(l.set i x).getD j default=if j=i∧i<l.length then x else l.getD j default:=by
 simp only [List.getD,List.getElem?_set]
 by_cases e:i=j
 ·subst e
  by_cases h:i<l.length
  ·rw [if_pos rfl,if_pos h,if_pos ⟨rfl,h⟩];rfl
  ·rw [if_pos rfl,if_neg h,if_neg (fun z=>h z.2)];simp [Nat.le_of_not_lt h]
 ·rw [if_neg e,if_neg (fun z=>e z.1.symm)]
theorem qq9 (o:Nat) (sp:List Sp) (i:In):(qel o sp i).length=sp.length:=by unfold qel;split <;> simp
theorem qsh (o:Nat):∀ (l:List In) (sp:List Sp) (B:Int),(∀ r,0≤(sp.getD r default).sets∧(sp.getD r default).sets≤B)→∀ r,0≤((l.foldl (qel o) sp).getD r default).sets∧((l.foldl (qel o) sp).getD r default).sets≤B+l.length
 | [],sp,B,h=>fun r=>by have:=h r;simp only [List.foldl_nil,List.length_nil];omega
 | i::l,sp,B,h=>fun r=>by
  rw [List.foldl_cons]
  have:=qsh o l (qel o sp i) (B+1) (fun r=>by
   unfold qel
   split
   ·have:=h r;omega
   ·rw [qhn]
    split
    ·rw [qob];have:=h (qbn i).toNat;omega
    ·have:=h r;omega) r
  rw [List.length_cons]
  omega
theorem qtt (o N:Nat) {r:Nat} (hr:r<N):∀ (l:List In) (sp:List Sp),sp.length=N→(∀ i∈l,qbn i≠ -1→0≤qbn i∧(qbn i).toNat<N)→
  (l.foldl (qel o) sp).getD r default=(l.filter fun i=>qbn i ==(r:Int)).foldl (spI o) (sp.getD r default)
 | [],sp,_,_=>rfl
 | i::l,sp,hl,h=>by
  rw [List.foldl_cons,qtt o N hr l (qel o sp i) (by rw [qq9];exact hl) (fun j hj=>h j (List.mem_cons_of_mem _ hj)),List.filter_cons]
  by_cases e:qbn i=(r:Int)
  ·rw [if_pos (by rw [e];simp),List.foldl_cons]
   congr 1
   unfold qel
   rw [if_neg (by omega),e,qhn,if_pos ⟨by omega,by omega⟩]
   rfl
  ·rw [if_neg (by rw [beq_iff_eq];exact e)]
   congr 1
   unfold qel
   by_cases hd:qbn i= -1
   ·rw [if_pos hd]
   ·have:=h i List.mem_cons_self hd
    rw [if_neg hd,qhn,if_neg (fun z=>by omega)]
theorem AS.End.start (p:Pr) (T:Nat):(AS.start p T).End p T:=⟨start_len p T,fun _ _ h=>h,fun S _ h=>h⟩
theorem AS.End.pass {p:Pr} {T:Nat} {x:AS} {l:List Con} (hx:x.End p T) (hl:∀ c∈l,c∈qeh p) (hok:∀ c∈qeh p,c.inn p.regs.toNat):(x.pass l).1.End p T:=by
 have hi:∀ c∈l,c.inn x.regs.length:=fun c hc=>by rw [hx.len];exact hok c (hl c hc)
 refine ⟨by rw [AS.pass_len];exact hx.len,fun o t h=>AS.pass_up hi o t (hx.up o t h),fun S hS h0=>AS.pass_in hi (fun c hc=>hS c (hl c hc)) (hx.lo S hS h0)⟩
theorem AS.End.bound {p:Pr} {T:Nat} {x:AS} (hx:x.End p T) (ht:∀ c∈qeh p,c.thing T):∀ o t,x.sem o t→t<T :=
 hx.lo (fun _ t=>t<T) (fun c hc=>by
  have:=ht c hc
  cases c with
  | sub s d=>exact fun _ h=>h
  | put u d=>exact this) (fun o t h=>qmo p T o t h)
theorem qzd (p:Pr):∀ c∈p.blks.flatMap (cB fun _=>[]),c∈qeh p:=fun c hc=>by
 obtain ⟨b,hb,h⟩:=List.mem_flatMap.1 hc
 refine List.mem_flatMap.2 ⟨b,hb,?_⟩
 unfold cB at h
 unfold qz6
 rcases List.mem_append.1 h with h|h
 ·obtain ⟨i, -,h⟩:=List.mem_flatMap.1 h;cases h
 ·exact List.mem_append.2 (.inr h)
end
section
theorem VwM.vsl {w0 w:World} {k:VwK} {x:AS} {sp:List Sp} (h:VwM w0 w k x sp):∃ a c,k.vR=.slice a k.bs.length c:=by
 obtain ⟨a,c,e⟩:=qa6 h.own
 exact ⟨a,c,e⟩
theorem qrd (w0:World) (k:VwK) (x:AS) (sp:List Sp) (r:Int) (w:World) (h:VwM w0 w k x sp) (hl:k.bs.length≤1000) :
  Calls Try.prog 100 #[.pointer (some ⟨k.bv,0,none⟩),.int .i64 r] w fun e w'=>e=.returned (.bool (decide (0≤r) && decide (r<(k.bs.length:Int))))∧w'=w:=by
 obtain ⟨a,c,hv⟩:=h.vsl
 have lv:=h.lv
 have c7:w.cell? ⟨k.bv,7,none⟩=some (.slice a k.bs.length c):=by rw [qab h.hv 7,←hv];rfl
 clear h hv
 generalize k.bs.length=n at *
 generalize k.bv=bv at *
 cases h1:decide (0≤r)
 ·have h1':=h1
  have hn:r<0:=by have:=of_decide_eq_false h1;omega
  have h2:decide (r ≥ 0)=false:=h1
  go_enter Try.func100,Try.ntmps100
  go_wp2_with fail
  go_ret
  exact ⟨rfl,rfl⟩
 ·cases h2:decide (r<(n:Int))
  ·go_enter Try.func100,Try.ntmps100
   go_wp2_with fail
   go_ret
   exact ⟨rfl,rfl⟩
  ·go_enter Try.func100,Try.ntmps100
   go_wp2_with fail
   go_ret
   exact ⟨rfl,rfl⟩
end
section
def exV (k:VwK) (sp:List Sp) (r:Int):Ex :=
 if 0≤r∧r<(k.bs.length:Int) then (if (sp.getD r.toNat default).sets=1∧(sp.getD r.toNat default).is=true then ⟨(sp.getD r.toNat default).thing,(sp.getD r.toNat default).off,true⟩ else ⟨0,0,false⟩) else ⟨0,0,false⟩
def exT (e:Ex):Value:=.tuple #[.int .i64 e.thing,.int .i64 e.off,.bool e.is]
theorem qny (w0:World) (k:VwK) (x:AS) (sp:List Sp) (r:Int) (w:World) (h:VwM w0 w k x sp) (hl:k.bs.length≤1000) :
  Calls Try.prog 102 #[.pointer (some ⟨k.bv,0,none⟩),.int .i64 r] w fun e w'=>e=.returned (exT (exV k sp r))∧Below w.heap.size w w':=by
 have ER:=qkm (qrd w0 k x sp r w h hl)
 by_cases hr:0≤r∧r<(k.bs.length:Int)
 ·obtain ⟨q,rfl⟩:=Int.eq_ofNat_of_zero_le hr.1
  have hq:q<k.bs.length:=by omega
  have hqN:q<k.N:=Nat.lt_of_lt_of_le hq h.pl
  have hd:(decide (0≤(q:Int)) && decide ((q:Int)<(k.bs.length:Int)))=true:=by simp;omega
  rw [hd] at ER
  have HE:Hid (exV k sp (q:Int)=if (sp.getD q default).sets=1∧(sp.getD q default).is=true then ⟨(sp.getD q default).thing,(sp.getD q default).off,true⟩ else ⟨0,0,false⟩):=if_pos hr
  obtain ⟨g,c,hvS,hc1,hc2,hgl, -,hcs⟩:=h.sat hqN
  have c9:w.cell? ⟨k.bv,9,none⟩=some (.slice (some ⟨g,0,none⟩) k.N c):=by rw [qab h.hv 9,←hvS];rfl
  have x0:=hcs 0 (by decide)
  have x1:=hcs 1 (by decide)
  have x2:=hcs 2 (by decide)
  have x3:=hcs 3 (by decide)
  simp only [qbo,qke,qkd,Nat.add_zero] at x0 x1 x2 x3
  have x0:w.cell? ⟨g,q*4,none⟩=_:=x0
  have gr1:decide (q<k.N)=true:=qkn hqN
  have gr2:decide ((q:Int)<(k.N:Int))=true:=qkn (by omega)
  have lv:=h.lv
  unfold maxLen at hc2
  clear hd h hvS hcs hr
  rw [HE.out]
  generalize sp.getD q default=S at *
  unfold exT
  by_cases h1:S.sets=1
  ·have n1:(S.sets !=1)=false:=by rw [h1];rfl
   cases h2:S.is
   ·rw [if_neg (fun z=>by cases z.2)]
    rw [h2] at x3
    clear h1 h2
    go_enter Try.func102,Try.ntmps102
    go_wp2_with fail
    refine ER.out.mono ?_
    rintro e w1 ⟨rfl,rfl⟩
    go_wp2_with fail
    refine bodyPost_ret (v:=.tuple #[.int .i64 0,.int .i64 0,.bool false]) (by simp [results,Try.results102,go_sem]) rfl ?_
    exact ⟨rfl,Below.refl _ _⟩
   ·rw [if_pos ⟨h1,rfl⟩]
    rw [h2] at x3
    clear h1 h2
    go_enter Try.func102,Try.ntmps102
    go_wp2_with fail
    refine ER.out.mono ?_
    rintro e w1 ⟨rfl,rfl⟩
    go_wp2_with fail
    go_quiet (fail)
    go_wp2_with fail
    refine bodyPost_ret (v:=.tuple #[.int .i64 S.thing,.int .i64 S.off,.bool true]) (by simp [results,Try.results102,go_sem]) rfl ?_
    exact ⟨rfl,qm9 (Below.refl _ _) _⟩
  ·rw [if_neg (fun z=>h1 z.1)]
   have n1:(S.sets !=1)=true:=by rw [bne_iff_ne];exact h1
   clear h1
   go_enter Try.func102,Try.ntmps102
   go_wp2_with fail
   refine ER.out.mono ?_
   rintro e w1 ⟨rfl,rfl⟩
   go_wp2_with fail
   refine bodyPost_ret (v:=.tuple #[.int .i64 0,.int .i64 0,.bool false]) (by simp [results,Try.results102,go_sem]) rfl ?_
   exact ⟨rfl,Below.refl _ _⟩
 ·have hd:(decide (0≤r) && decide (r<(k.bs.length:Int)))=false:=by
   rw [←Bool.decide_and];exact qko hr
  rw [hd] at ER
  have HE:Hid (exV k sp r=⟨0,0,false⟩):=if_neg hr
  rw [HE.out]
  unfold exT
  clear hd h hr
  go_enter Try.func102,Try.ntmps102
  go_wp2_with fail
  refine ER.out.mono ?_
  rintro e w1 ⟨rfl,rfl⟩
  go_wp2_with fail
  refine bodyPost_ret (v:=.tuple #[.int .i64 0,.int .i64 0,.bool false]) (by simp [results,Try.results102,go_sem]) rfl ?_
  exact ⟨rfl,Below.refl _ _⟩
def qen (i:In):Bool:=i.op ==5 || i.op ==6
theorem qge (i:In) (va:Value) (w:World):Calls Try.prog 99 #[qbu i va] w fun e w'=>e=.returned (.bool (qen i))∧Below w.heap.size w w':=by
 unfold qbu
 have hR:Hid (qen i=(i.op ==5 || i.op ==6)):=rfl
 cases h5:(i.op ==5) <;> cases h6:(i.op ==6)
 all_goals
  rw [h5,h6] at hR
  go_enter Try.func99,Try.ntmps99
  go_wp2_with fail
  go_ret
  exact ⟨qah hR.out.symm,qaa _ _⟩
end
end Go.Proofs.Ytmcddolkpcgddaa
