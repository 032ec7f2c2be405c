/-
fold's desk: the value of what a key tells, of a number.
-/
import Derived.Test.YtkhfddodmjnecaaGreatDoorZFoldDoes36
set_option linter.all false
namespace Go.Proofs.YtkhfddodmjnecaaGreatDoor
section
open Go.ChangeShapes Go.WideShapes Go.ChangeAt Go.RowKit Go.Maps
set_option maxHeartbeats 4000000
set_option maxRecDepth 100000
theorem MapH.ext {α:Type} {K:KeyS α} {w:World} {b c:Nat} {M M':α→Option Value} (h:MapH K w b c M) (e:∀ x,M x=M' x):MapH K w b c M':=by rwa [show M'=M from (funext e).symm]
theorem haveD_fs (d:Dk) (r v y:Int):(haveD d r v).fs y=if y=v then d.fs v++[r] else d.fs y:=rfl
theorem DkX.have {w w':World} {S:Nat→Prop} {q:Dkb} {c:Nat} {R:Int} {d:Dk} {vf:Int→Value} (h:DkX w S q c R d vf) {r v:Int} {v':Value} (hr:0≤r∧r<R) (hv:1≤v∧v≤d.vs)
  (hos:w'.os=w.os) (hta:w'.tape=w.tape) (hou:w'.output=w.output) (hs:w.heap.size≤w'.heap.size) (hg:∀ b,b<w.heap.size→b≠q.bo→b≠q.bf→(d.fs v≠[]→(vf v).ownBlock≠some b)→w'.heap[b]?=w.heap[b]?)
  (hmo:MapH KyI w' q.bo (c+1) (fun y=>if y=r then some (Value.int .i64 v) else (d.of y).map (Value.int .i64))) (hmf:MapH KyI w' q.bf (c+1) (fun y=>if y=v then some v' else if d.fs y=[] then none else some (vf y)))
  (hrow:w'.ownsRow 0 3 1 v' ((d.fs v).length+1) (rowI (d.fs v)++[.int .i64 r])) (hblk:(d.fs v≠[]∧v'.ownBlock=(vf v).ownBlock)∨∃ g,v'.ownBlock=some g∧w.heap.size≤g) :
  ∃ S',DkM w' S' q (c+1) R (haveD d r v)∧Stp S w w' S':=by
 obtain ⟨a1,a2,a3,a4,a5⟩:=h.apart
 obtain ⟨n1,n2,n3,n4,n5,n6⟩:=h.n1
 have keep:∀ b,S b→b≠q.bo→b≠q.bf→(d.fs v≠[]→(vf v).ownBlock≠some b)→w'.heap[b]?=w.heap[b]?:=fun b hb=>hg b (h.sl b hb)
 have hlt:∀ g,v'.ownBlock=some g→g<w'.heap.size:=fun g hg=>(World.ownsRow.lt hrow g hg).2
 refine ⟨fun b=>S b∨v'.ownBlock=some b,⟨updI vf v v',?_,hmo.ext fun x=>?_,(h.mky.same (keep _ h.s1.2.2.1 (Ne.symm n1) n5 (fun z=>(a5 v z).2.2.1))).mono (by omega),(h.mn.same (keep _ h.s1.2.2.2.1 (Ne.symm n2) n6 (fun z=>(a5 v z).2.2.2.1))).mono (by omega),hmf.ext fun y=>?_,fun y hy=>?_,fun y u hy hu hne=>?_,fun y=>?_,fun y x hx=>?_,h.B.have hr hv,h.Rb,?_,?_,h.n1,⟨.inl h.s1.1,.inl h.s1.2.1,.inl h.s1.2.2.1,.inl h.s1.2.2.2.1,.inl h.s1.2.2.2.2⟩,fun y g hy e=>?_,fun b hb=>?_⟩,⟨hos,hta,hou,hs,fun b hb hn=>?_,fun b hb=>?_⟩⟩
 ·exact (keep _ h.s1.1 a1 a4 (fun z=>(a5 v z).1)).trans h.st
 ·show _=((updI d.of r (some v)) x).map _
  by_cases e:x=r
  ·rw [if_pos e,e,updI_same];rfl
  ·rw [if_neg e,updI_other _ _ e]
 ·rw [haveD_fs]
  by_cases e:y=v
  ·rw [if_pos e,if_pos e,if_neg (by simp),e,updI_same]
  ·rw [if_neg e,if_neg e,updI_other _ _ e]
 ·rw [haveD_fs] at hy ⊢
  by_cases e:y=v
  ·rw [if_pos e,e,updI_same,List.length_append]
   unfold rowI
   rw [List.map_append]
   exact hrow
  ·rw [if_neg e] at hy ⊢
   rw [updI_other _ _ e]
   refine ow_same (h.row y hy) fun g hgb=>keep g (h.s2 y g hy hgb) (fun e2=>(a5 y hy).2.1 (e2 ▸ hgb)) (fun e2=>(a5 y hy).2.2.2.2 (e2 ▸ hgb)) fun z e2=>h.ap y v hy z e (hgb.trans e2.symm)
 ·rw [haveD_fs] at hy hu
  have key:∀ x,x≠v→d.fs x≠[]→(vf x).ownBlock≠v'.ownBlock:=fun x hx hxe e=>by
   rcases hblk with ⟨h1,h2⟩|⟨g,h1,h2⟩
   ·exact h.ap x v hxe h1 hx (e.trans h2)
   ·have:=h.sl g (h.s2 x g hxe (e.trans h1));omega
  by_cases e:y=v
  ·have e2:u≠v:=fun z=>hne (e.trans z.symm)
   rw [if_neg e2] at hu
   rw [e,updI_same,updI_other _ _ e2]
   exact Ne.symm (key u e2 hu)
  ·rw [if_neg e] at hy
   rw [updI_other _ _ e]
   by_cases e2:u=v
   ·rw [e2,updI_same];exact key y e hy
   ·rw [if_neg e2] at hu
    rw [updI_other _ _ e2];exact h.ap y u hy hu hne
 ·rw [haveD_fs]
  split
  ·have:=h.fl v;rw [List.length_append,List.length_singleton];omega
  ·have:=h.fl y;omega
 ·rw [haveD_fs] at hx
  split at hx
  ·rcases List.mem_append.1 hx with hx|hx
   ·exact h.fr v x hx
   ·rw [List.mem_singleton] at hx;rw [hx];exact hr
  ·exact h.fr y x hx
 ·have:=h.vs;show d.vs≤_;omega
 ·have:=h.mm;show 0≤d.mm∧d.mm≤_;omega
 ·rw [haveD_fs] at hy
  by_cases e2:y=v
  ·rw [e2,updI_same] at e;exact .inr e
  ·rw [if_neg e2] at hy
   rw [updI_other _ _ e2] at e
   exact .inl (h.s2 y g hy e)
 ·rcases hb with hb|hb
  ·exact Nat.lt_of_lt_of_le (h.sl b hb) hs
  ·exact hlt b hb
 ·refine hg b hb (fun e=>hn (e ▸ h.s1.2.1)) (fun e=>hn (e ▸ h.s1.2.2.2.2)) fun z e=>hn (h.s2 v b z e)
 ·rcases hb with hb|hb
  ·exact .inl hb
  ·rcases hblk with ⟨h1,h2⟩|⟨g,h1,h2⟩
   ·exact .inl (h.s2 v b h1 (h2.symm.trans hb))
   ·rw [h1] at hb;cases hb;exact .inr h2
theorem zeroSl (w:World):(zeroValue 46).run Tryz.prog w=.ok (.slice none 0 0) w:=by kernel_rfl
theorem zeroIn (w:World):(zeroValue 3).run Tryz.prog w=.ok (.int .i64 0) w:=by kernel_rfl
theorem put_none (a:Act) (v:Value):a.put none v=a:=rfl
theorem have_c (w:World) (S:Nat→Prop) (q:Dkb) (c:Nat) (R:Int) (d:Dk) (r v:Int) (h:DkM w S q c R d) (hc:c≤1000000000) (hr:0≤r∧r<R) (hv:1≤v∧v≤d.vs) :
  Calls Tryz.prog 95 #[.pointer (some ⟨q.bd,0,none⟩),.int .i64 r,.int .i64 v] w fun e w'=>e=.returned (.tuple #[])∧∃ S',DkM w' S' q (c+1) R (haveD d r v)∧Stp S w w' S':=by
 obtain ⟨vf,h⟩:=h
 have H:=Lib.hid h
 obtain ⟨a1,a2,a3,a4,a5⟩:=h.apart
 obtain ⟨n1,n2,n3,n4,n5,n6⟩:=h.n1
 have hRb:=h.Rb
 have hv1:=h.vs
 have HS:=Lib.hid h.st
 obtain ⟨y0,y1,y2,y3,y4,y5,l0⟩:=cl6 HS.out
 have hwr:KyI.W r:=WalkArith.wf_i64 (by omega)
 have hwv:KyI.W v:=WalkArith.wf_i64 (by omega)
 obtain ⟨ov,hov⟩:∃ ov,ov=(if d.fs v=[] then none else some (vf v)).getD (Value.slice none 0 0):=⟨_,rfl⟩
 have HO:Hid (w.ownsRow 0 3 1 ov (d.fs v).length (rowI (d.fs v))):=by
  show World.ownsRow _ _ _ _ _ _ _
  rw [hov]
  by_cases e:d.fs v=[]
  ·rw [if_pos e,e];exact own_nil w 0 _ _
  ·rw [if_neg e];exact h.row v e
 have HOB:Hid ((d.fs v≠[]∧ov.ownBlock=(vf v).ownBlock)∨ov.ownBlock=none):=by
  show _∨_
  rw [hov]
  by_cases e:d.fs v=[]
  ·rw [if_pos e];exact .inr rfl
  ·rw [if_neg e];exact .inl ⟨e,rfl⟩
 have HLK:Hid (∀ W,W.heap[q.bf]?=w.heap[q.bf]?→(Instr.lookup 126 (.map (some q.bf)) (.int .i64 v) false).run Tryz.prog W=.ok ov W):=fun W hW=>by
  rw [hov];exact (h.mf.same hW).look0 Tryz.underlying126 zeroSl v hwv
 clear hov h
 have hcm:c<maxLen:=by unfold maxLen;omega
 have HL:Hid ((d.fs v).length≤1000000000):=by have:=H.out.fl v;show _≤_;omega
 have hbfl:q.bf<w.heap.size:=H.out.mf.lt
 go_enter Tryz.func95,Tryz.ntmps95
 go_wp2_with (at_mapUpdate;refine MapH.put H.out.mo Tryz.underlying123 r (.int .i64 v) hwr hcm rfl _ _ _ rfl rfl rfl rfl ?_;intro w1 hm1 hg1)
 have hk1:∀ b,b<w.heap.size→b≠q.bo→w1.heap[b]?=w.heap[b]?:=fun b hb hn=>hg1.block b hb (by simpa using hn)
 have hs1:=hg1.size
 have HS1:=Lib.hid ((hk1 _ l0 a1).trans HS.out)
 have HO1:Hid (w1.ownsRow 0 3 1 ov (d.fs v).length (rowI (d.fs v))):=by
  refine ow_same HO.out fun g hg=>hk1 g (World.ownsRow.lt HO.out g hg).2 fun e=>?_
  rcases HOB.out with ⟨z1,z2⟩|z
  ·exact (a5 v z1).2.1 (by rw [←z2,hg,e])
  ·rw [hg] at z;cases z
 have HLK1:Hid (∀ W,W.heap[q.bf]?=w1.heap[q.bf]?→(Instr.lookup 126 (.map (some q.bf)) (.int .i64 v) false).run Tryz.prog W=.ok ov W):=fun W hW=>HLK.out W (hW.trans (hk1 _ hbfl (Ne.symm n3)))
 have HM1:=Lib.hid hm1
 have HG1:=Lib.hid hg1
 have HF1:=Lib.hid (H.out.mf.same (hk1 _ hbfl (Ne.symm n3)))
 clear y0 y1 y2 y3 y4 y5 hm1 hg1 HO HLK
 obtain ⟨y0,y1,y2,y3,y4,y5,l1⟩:=cl6 HS1.out
 go_wp2_with fail
 refine wp_region_game (fun z=>z=q.bd) (by kernel_rfl) ?_
 show wpE _ _ _ _ _ _ _ w1.drew
 rw [put_none]
 refine E_mob2s [0,1,2,3,4,5,6,7,8,9,11] _ _ _ _ (by kernel_rfl) ?_
 simp only [List.map_cons,List.map_nil,List.getElem?_toArray,List.getElem?_cons_succ,List.getElem?_cons_zero,Option.getD_some,List.size_toArray,List.length_cons,List.length_nil,Nat.reduceAdd,Nat.reduceSub]
 repeat (go_big_quiet_step (fail))
 refine wpQuiet_nil ?_
 have HA:=Lib.hid (below_alloc w1.drew (.cells #[.int .i64 r] 3))
 have hbf1:q.bf<w1.heap.size:=by omega
 have hl2:=HLK1.out w1.drew rfl
 have hl3:=HLK1.out (w1.alloc (.cells #[.int .i64 r] 3)).drew (HA.out.block q.bf hbf1)
 refine E_loud2 10 12 _ _ rfl rfl (by kernel_rfl) ?_ ?_
 all_goals simp only [List.getElem_toArray,List.getElem_cons_succ,List.getElem_cons_zero]
 ·go_wp2_with fail
  refine ⟨Keep.refl _ _,?_⟩
  refine E_loud1 12 _ rfl (by kernel_rfl) ?_
  simp only [List.getElem_toArray,List.getElem_cons_succ,List.getElem_cons_zero]
  go_wp2_with fail
  refine ⟨keep_alloc (fun b hb=>by rw [hb];exact l1),?_⟩
  clear hl2 hl3
  have H3:Hid ((w1.drew.alloc (.cells #[.int .i64 r] 3)).ownsRow 0 3 1 ov (d.fs v).length (rowI (d.fs v))):=own_below HO1.out (Below.drew (Below.refl _ _) |>.trans HA.out)
  have HC3:Hid ((w1.drew.alloc (.cells #[.int .i64 r] 3)).cell? ⟨w1.heap.size,0,none⟩=some (.int .i64 r)):=cell_of_heap (heap_alloc_new w1.drew _) 0
  refine E_loud1 13 _ rfl (by kernel_rfl) ?_
  simp only [List.getElem_toArray,List.getElem_cons_succ,List.getElem_cons_zero]
  refine appI (n:=r) H3.out rfl rfl rfl rfl HC3.out HL.out (Nat.zero_le _) ?_
  intro v' w3 ho3 hg3 ha3
  have hsA:(w1.alloc (.cells #[.int .i64 r] 3)).drew.heap.size=w1.heap.size+1:=by simp
  have hob:∀ b,ov.ownBlock=some b→b≠q.bd∧b≠q.bo∧b≠q.bk∧b≠q.bn∧b≠q.bf:=fun b hb=>by
   rcases HOB.out with ⟨z1,z2⟩|z
   ·rw [hb] at z2
    have:=a5 v z1
    rw [←z2] at this
    exact ⟨fun e=>this.1 (by rw [e]),fun e=>this.2.1 (by rw [e]),fun e=>this.2.2.1 (by rw [e]),fun e=>this.2.2.2.1 (by rw [e]),fun e=>this.2.2.2.2 (by rw [e])⟩
   ·rw [hb] at z;cases z
  have hk3:∀ b,b<w1.heap.size→ov.ownBlock≠some b→w3.heap[b]?=w1.heap[b]?:=fun b hb hn=>(hg3.block b (by rw [hsA];omega) (fun e=>hn e.symm)).trans (HA.out.block b hb)
  have HK3:Hid (Keep (fun z=>z=q.bd) (w1.alloc (.cells #[.int .i64 r] 3)).drew w3):=keep_grown hg3 (fun b hb=>by
   rw [hb]
   exact ⟨by rw [hsA];omega,fun e=>(hob _ e).1 rfl⟩)
  have HF3:=Lib.hid (HF1.out.same (hk3 _ hbf1 (fun e=>(hob _ e).2.2.2.2 rfl)))
  have HM3:=Lib.hid (HM1.out.same (hk3 _ HM1.out.lt (fun e=>(hob _ e).2.1 rfl)))
  have hs3:=hg3.size
  rw [hsA] at hs3
  have HV3:=Lib.hid ho3
  have HA3:=Lib.hid ha3
  have HG3:=Lib.hid hg3
  obtain ⟨av,cv,hav⟩:=own_slice ho3 (Nat.succ_pos _)
  subst hav
  clear ho3 hg3 ha3 y0 y1 y2 y3 y4 y5
  go_wp2_with fail
  refine ⟨HK3.out,?_⟩
  refine E_last 14 _ rfl (by kernel_rfl) ?_
  simp only [List.getElem_toArray,List.getElem_cons_succ,List.getElem_cons_zero]
  go_wp2_with (at_mapUpdate;refine MapH.put HF3.out Tryz.underlying126 v _ hwv hcm rfl _ _ _ rfl rfl rfl rfl ?_;intro w4 hm4 hg4)
  refine E_done (by kernel_rfl) ?_ _
  have HEND:Hid (∃ S',DkM w4 S' q (c+1) R (haveD d r v)∧Stp S w w4 S'):=by
   have hk4:∀ b,b<w1.heap.size→b≠q.bf→ov.ownBlock≠some b→w4.heap[b]?=w1.heap[b]?:=fun b hb hn ho=>(hg4.block b (by omega) (by simpa using hn)).trans (hk3 b hb ho)
   have hs4:=hg4.size
   refine H.out.have (v':=.slice (some ⟨av,0,none⟩) ((d.fs v).length+1) cv) hr hv ((hg4.os.trans HG3.out.os).trans HG1.out.os) ((hg4.tape.trans HG3.out.tape).trans HG1.out.tape) ((hg4.output.trans HG3.out.output).trans HG1.out.output) (by omega) (fun b hb h1 h2 h3=>?_) ?_ ?_ ?_ ?_
   ·refine (hk4 b (by omega) h2 fun e=>?_).trans (hk1 b hb h1)
    rcases HOB.out with ⟨z1,z2⟩|z
    ·exact h3 z1 (z2.symm.trans e)
    ·rw [e] at z;cases z
   ·refine (HM3.out.same (hg4.block _ HM3.out.lt (by simpa using n3))).ext fun y=>?_
    split <;> rfl
   ·refine hm4.ext fun y=>?_
    split <;> rfl
   ·refine ow_same HV3.out fun g hg=>hg4.block g (World.ownsRow.lt HV3.out g hg).2 fun e=>?_
    simp only [Option.some.injEq] at e
    rcases HA3.out with z|z
    ·exact (hob g (z.symm.trans hg)).2.2.2.2 e
    ·rw [hg] at z
     simp only [Option.some.injEq] at z
     have:w1.heap.size≤g:=by rw [z];simp
     omega
   ·rcases HA3.out with z|z
    ·rcases HOB.out with ⟨z1,z2⟩|z2
     ·exact .inl ⟨z1,z.trans z2⟩
     ·rw [z2] at z;cases z
    ·exact .inr ⟨_,z,by simp;omega⟩
  clear HM3 HF3 HV3 HG3 HA3 hm4 hg4 HK3
  go_wp2_with fail
  go_end0
  exact ⟨rfl,HEND.out⟩
 ·go_wp2_with fail
  refine ⟨keep_alloc (fun b hb=>by rw [hb];exact l1),?_⟩
  refine E_loud1 10 _ rfl (by kernel_rfl) ?_
  simp only [List.getElem_toArray,List.getElem_cons_succ,List.getElem_cons_zero]
  go_wp2_with fail
  refine ⟨Keep.refl _ _,?_⟩
  clear hl2 hl3
  have H3:Hid ((w1.drew.alloc (.cells #[.int .i64 r] 3)).ownsRow 0 3 1 ov (d.fs v).length (rowI (d.fs v))):=own_below HO1.out (Below.drew (Below.refl _ _) |>.trans HA.out)
  have HC3:Hid ((w1.drew.alloc (.cells #[.int .i64 r] 3)).cell? ⟨w1.heap.size,0,none⟩=some (.int .i64 r)):=cell_of_heap (heap_alloc_new w1.drew _) 0
  refine E_loud1 13 _ rfl (by kernel_rfl) ?_
  simp only [List.getElem_toArray,List.getElem_cons_succ,List.getElem_cons_zero]
  refine appI (n:=r) H3.out rfl rfl rfl rfl HC3.out HL.out (Nat.zero_le _) ?_
  intro v' w3 ho3 hg3 ha3
  have hsA:(w1.alloc (.cells #[.int .i64 r] 3)).drew.heap.size=w1.heap.size+1:=by simp
  have hob:∀ b,ov.ownBlock=some b→b≠q.bd∧b≠q.bo∧b≠q.bk∧b≠q.bn∧b≠q.bf:=fun b hb=>by
   rcases HOB.out with ⟨z1,z2⟩|z
   ·rw [hb] at z2
    have:=a5 v z1
    rw [←z2] at this
    exact ⟨fun e=>this.1 (by rw [e]),fun e=>this.2.1 (by rw [e]),fun e=>this.2.2.1 (by rw [e]),fun e=>this.2.2.2.1 (by rw [e]),fun e=>this.2.2.2.2 (by rw [e])⟩
   ·rw [hb] at z;cases z
  have hk3:∀ b,b<w1.heap.size→ov.ownBlock≠some b→w3.heap[b]?=w1.heap[b]?:=fun b hb hn=>(hg3.block b (by rw [hsA];omega) (fun e=>hn e.symm)).trans (HA.out.block b hb)
  have HK3:Hid (Keep (fun z=>z=q.bd) (w1.alloc (.cells #[.int .i64 r] 3)).drew w3):=keep_grown hg3 (fun b hb=>by
   rw [hb]
   exact ⟨by rw [hsA];omega,fun e=>(hob _ e).1 rfl⟩)
  have HF3:=Lib.hid (HF1.out.same (hk3 _ hbf1 (fun e=>(hob _ e).2.2.2.2 rfl)))
  have HM3:=Lib.hid (HM1.out.same (hk3 _ HM1.out.lt (fun e=>(hob _ e).2.1 rfl)))
  have hs3:=hg3.size
  rw [hsA] at hs3
  have HV3:=Lib.hid ho3
  have HA3:=Lib.hid ha3
  have HG3:=Lib.hid hg3
  obtain ⟨av,cv,hav⟩:=own_slice ho3 (Nat.succ_pos _)
  subst hav
  clear ho3 hg3 ha3 y0 y1 y2 y3 y4 y5
  go_wp2_with fail
  refine ⟨HK3.out,?_⟩
  refine E_last 14 _ rfl (by kernel_rfl) ?_
  simp only [List.getElem_toArray,List.getElem_cons_succ,List.getElem_cons_zero]
  go_wp2_with (at_mapUpdate;refine MapH.put HF3.out Tryz.underlying126 v _ hwv hcm rfl _ _ _ rfl rfl rfl rfl ?_;intro w4 hm4 hg4)
  refine E_done (by kernel_rfl) ?_ _
  have HEND:Hid (∃ S',DkM w4 S' q (c+1) R (haveD d r v)∧Stp S w w4 S'):=by
   have hk4:∀ b,b<w1.heap.size→b≠q.bf→ov.ownBlock≠some b→w4.heap[b]?=w1.heap[b]?:=fun b hb hn ho=>(hg4.block b (by omega) (by simpa using hn)).trans (hk3 b hb ho)
   have hs4:=hg4.size
   refine H.out.have (v':=.slice (some ⟨av,0,none⟩) ((d.fs v).length+1) cv) hr hv ((hg4.os.trans HG3.out.os).trans HG1.out.os) ((hg4.tape.trans HG3.out.tape).trans HG1.out.tape) ((hg4.output.trans HG3.out.output).trans HG1.out.output) (by omega) (fun b hb h1 h2 h3=>?_) ?_ ?_ ?_ ?_
   ·refine (hk4 b (by omega) h2 fun e=>?_).trans (hk1 b hb h1)
    rcases HOB.out with ⟨z1,z2⟩|z
    ·exact h3 z1 (z2.symm.trans e)
    ·rw [e] at z;cases z
   ·refine (HM3.out.same (hg4.block _ HM3.out.lt (by simpa using n3))).ext fun y=>?_
    split <;> rfl
   ·refine hm4.ext fun y=>?_
    split <;> rfl
   ·refine ow_same HV3.out fun g hg=>hg4.block g (World.ownsRow.lt HV3.out g hg).2 fun e=>?_
    simp only [Option.some.injEq] at e
    rcases HA3.out with z|z
    ·exact (hob g (z.symm.trans hg)).2.2.2.2 e
    ·rw [hg] at z
     simp only [Option.some.injEq] at z
     have:w1.heap.size≤g:=by rw [z];simp
     omega
   ·rcases HA3.out with z|z
    ·rcases HOB.out with ⟨z1,z2⟩|z2
     ·exact .inl ⟨z1,z.trans z2⟩
     ·rw [z2] at z;cases z
    ·exact .inr ⟨_,z,by simp;omega⟩
  clear HM3 HF3 HV3 HG3 HA3 hm4 hg4 HK3
  go_wp2_with fail
  go_end0
  exact ⟨rfl,HEND.out⟩
end
section
open Go.ChangeShapes Go.WideShapes Go.ChangeAt Go.RowKit Go.Maps
set_option maxHeartbeats 4000000
set_option maxRecDepth 100000
theorem DkX.lookOf {w:World} {S:Nat→Prop} {q:Dkb} {c:Nat} {R:Int} {d:Dk} {vf:Int→Value} (h:DkX w S q c R d vf) {r:Int} (hr:0≤r∧r<R) :
  (Instr.lookup 123 (.map (some q.bo)) (.int .i64 r) true).run Tryz.prog w=.ok (.tuple #[.int .i64 ((d.of r).getD 0),.bool (d.of r).isSome]) w∧(Instr.lookup 123 (.map (some q.bo)) (.int .i64 r) false).run Tryz.prog w=.ok (.int .i64 ((d.of r).getD 0)) w:=by
 have hRb:=h.Rb
 have hw:KyI.W r:=WalkArith.wf_i64 (by omega)
 have e:((d.of r).map (Value.int .i64)).getD (.int .i64 0)=.int .i64 ((d.of r).getD 0):=by cases d.of r <;> rfl
 have h1:=h.mo.look1 Tryz.underlying123 zeroIn r hw
 have h0:=h.mo.look0 Tryz.underlying123 zeroIn r hw
 rw [e] at h0 h1
 rw [Option.isSome_map] at h1
 exact ⟨h1,h0⟩
theorem value_c (w:World) (S:Nat→Prop) (q:Dkb) (c:Nat) (R:Int) (d:Dk) (r:Int) (h:DkM w S q c R d) (hc:c+2≤1000000000) (hr:0≤r∧r<R) :
  Calls Tryz.prog 62 #[.pointer (some ⟨q.bd,0,none⟩),.int .i64 r] w (DkQ S q (c+2) R (.int .i64 (valueD d r).1) (valueD d r).2 w):=by
 have H:=Lib.hid h
 have hlk:(Instr.lookup 123 (.map (some q.bo)) (.int .i64 r) true).run Tryz.prog w=.ok (.tuple #[.int .i64 ((d.of r).getD 0),.bool (d.of r).isSome]) w:=let ⟨vf,h⟩:=h;(h.lookOf hr).1
 have HS:=Lib.hid h.st
 have hB:=h.B
 have hbd:=h.bd
 obtain ⟨y0,y1,y2,y3,y4,y5,l0⟩:=cl6 HS.out
 cases e:d.of r with
 | some v=>
  rw [valueD_some e]
  rw [e] at hlk
  simp only [Option.isSome_some,Option.getD_some] at hlk
  clear e hB h
  go_enter Tryz.func62,Tryz.ntmps62
  go_wp2_with fail
  go_ret
  exact ⟨rfl,S,H.out.mono (by omega),Stp.refl _ _⟩
 | none=>
  rw [valueD_none e]
  rw [e] at hlk
  simp only [Option.isSome_none,Option.getD_none] at hlk
  have EF:=Lib.hid (fresh_c w S q c R d h (by omega))
  clear e h
  go_enter Tryz.func62,Tryz.ntmps62
  go_wp2_with fail
  refine EF.out.mono ?_
  rintro e w1 ⟨rfl,S1,h1,p1⟩
  have EH:=Lib.hid (have_c w1 S1 q (c+1) R (freshD d) r (d.vs+1) h1 (by omega) hr ⟨by omega,Int.le_refl _⟩)
  go_wp2_with fail
  refine EH.out.mono ?_
  rintro e w2 ⟨rfl,S2,h2,p2⟩
  go_wp2_with fail
  go_ret
  exact ⟨rfl,S2,h2,p1.trans p2⟩
theorem holder_c (w:World) (S:Nat→Prop) (q:Dkb) (c:Nat) (R:Int) (d:Dk) (v:Int) (h:DkM w S q c R d) (hc:c≤1000000000) (hv:1≤v∧v≤d.vs) :
  Calls Tryz.prog 63 #[.pointer (some ⟨q.bd,0,none⟩),.int .i64 v] w fun e w'=>e=.returned (.int .i64 (holderD d v))∧w'=w:=by
 obtain ⟨vf,h⟩:=h
 have H:=Lib.hid h
 have hv1:=h.vs
 have hwv:KyI.W v:=WalkArith.wf_i64 (by omega)
 obtain ⟨ov,hov⟩:∃ ov,ov=(if d.fs v=[] then none else some (vf v)).getD (Value.slice none 0 0):=⟨_,rfl⟩
 have hO:w.ownsRow 0 3 1 ov (d.fs v).length (rowI (d.fs v)):=by
  rw [hov]
  by_cases e:d.fs v=[]
  ·rw [if_pos e,e];exact own_nil w 0 _ _
  ·rw [if_neg e];exact h.row v e
 have hlk:(Instr.lookup 126 (.map (some q.bf)) (.int .i64 v) false).run Tryz.prog w=.ok ov w:=by
  rw [hov];exact h.mf.look0 Tryz.underlying126 zeroSl v hwv
 have HC:Hid (∀ k,k<(d.fs v).length→(∃ g cc,ov=.slice (some ⟨g,0,none⟩) (d.fs v).length cc∧w.cell? ⟨g,k,none⟩=some (.int .i64 ((d.fs v).getD k 0)))∧0≤(d.fs v).getD k 0∧(d.fs v).getD k 0<R):=fun k hk=>by
  refine ⟨?_,h.fr v _ (by simp [List.getD,hk])⟩
  obtain ⟨g,cc,e⟩:=own_slice hO (by omega)
  rw [e] at hO ⊢
  refine ⟨g,cc,rfl,(World.ownsRow.cellAt hO k (by omega)).trans ?_⟩
  simp [rowI,List.getD,hk]
 have HLO:Hid (∀ r,0≤r∧r<R→(Instr.lookup 123 (.map (some q.bo)) (.int .i64 r) false).run Tryz.prog w=.ok (.int .i64 ((d.of r).getD 0)) w):=fun r hr=>(h.lookOf hr).2
 have HD:Hid (holderD d v=((d.fs v).find? fun r=>(d.of r).getD 0 ==v).getD (-1)):=rfl
 have hfl:=h.fl v
 obtain ⟨av,cv,e⟩:=ow_form hO
 subst e
 have hcv:(d.fs v).length≤cv∧cv≤2 ^ 63-1:=by
  obtain ⟨-,⟨e,e2⟩|⟨g,cap,cur,e, -, -,h1,h2, -⟩⟩:=hO
  ·simp only [Value.slice.injEq] at e;rw [e.2.2,e2];exact ⟨Nat.le_refl _,by decide⟩
  ·simp only [Value.slice.injEq] at e;rw [e.2.2];exact ⟨h1,h2⟩
 have HS:=Lib.hid h.st
 obtain ⟨y0,y1,y2,y3,y4,y5,l0⟩:=cl6 HS.out
 clear hov hO h hwv
 obtain ⟨l,hl⟩:∃ l,l=d.fs v:=⟨_,rfl⟩
 rw [←hl] at HC HD hfl hcv hlk
 clear hl
 go_enter Tryz.func63,Tryz.ntmps63
 go_wp2_with fail
 go_loopw [14] (fun i wr=>∃ (k:Nat),k≤l.length∧i=.int .i64 (k:Int)∧wr=w∧(l.take k).find? (fun r=>(d.of r).getD 0 ==v)=none) (fun i _=>l.length-(intOf i).toNat)
 case atStart=>exact ⟨0,Nat.zero_le _,rfl,rfl,rfl⟩
 case round=>
  obtain ⟨k,hk,rfl,rfl,hno⟩:=hrel
  by_cases hlt:k<l.length
  ·have g1:decide (k<l.length)=true:=decide_eq_true hlt
   have g2:decide ((k:Int)<(l.length:Int))=true:=decide_eq_true (by omega)
   obtain ⟨⟨g,cc,hg,c0⟩,hr⟩:=HC.out k hlt
   simp only [Value.slice.injEq] at hg
   obtain ⟨rfl, -,rfl⟩:=hg
   have hlo:=HLO.out _ hr
   have lg:=World.block_lt_of_cell? _ _ c0
   have HT:Hid ((l.take (k+1)).find? (fun r=>(d.of r).getD 0 ==v)=if (d.of (l.getD k 0)).getD 0 ==v then some (l.getD k 0) else none):=by
    show _=_
    rw [List.take_succ,List.getElem?_eq_getElem hlt,List.find?_append,hno]
    simp [List.getD,hlt]
   have HF:Hid (∀ r,(l.take (k+1)).find? (fun r=>(d.of r).getD 0 ==v)=some r→l.find? (fun r=>(d.of r).getD 0 ==v)=some r):=fun r hr=>by
    rw [←List.take_append_drop (k+1) l,List.find?_append,hr];rfl
   generalize l.getD k 0=x at *
   generalize (d.of x).getD 0=y at *
   cases hy:(y ==v)
   ·rw [hy] at HT
    clear hno
    go_wp2_with fail
    exact ⟨⟨k+1,hlt,by go_num,trivial,HT.out⟩,by simp [intOf];omega⟩
   ·rw [hy] at HT
    have HR:Hid (holderD d v=x):=by
     show _=_
     rw [HD.out,HF.out x HT.out];rfl
    clear hno HT HF
    go_wp2_with fail
    go_ret
    exact ⟨by rw [HR.out];rfl,rfl⟩
  ·obtain rfl:k=l.length:=by omega
   rw [List.take_length] at hno
   have HR:Hid (holderD d v= -1):=by
    show _=_
    rw [HD.out,hno];rfl
   clear hno
   go_wp2_with fail
   go_ret
   exact ⟨by rw [HR.out];rfl,rfl⟩
theorem read_c (w:World) (S:Nat→Prop) (q:Dkb) (c:Nat) (R:Int) (d:Dk) (r:Int) (h:DkM w S q c R d) (hc:c+2≤1000000000) (hr:r= -1∨0≤r∧r<R) :
  Calls Tryz.prog 131 #[.pointer (some ⟨q.bd,0,none⟩),.int .i64 r] w (DkQ S q (c+2) R (.int .i64 (readD d r).1) (readD d r).2 w):=by
 by_cases e:r= -1
 ·have g1:(r == -1)=true:=beq_iff_eq.2 e
  have HD:Hid (readD d r=(r,d)):=by
   show _=_
   unfold readD;rw [if_pos e]
  rw [HD.out]
  clear hr
  go_enter Tryz.func131,Tryz.ntmps131
  go_wp2_with fail
  go_ret
  exact ⟨rfl,S,h.mono (by omega),Stp.refl _ _⟩
 ·have g1:(r == -1)=false:=beq_eq_false_iff_ne.2 e
  have hr:0≤r∧r<R:=by omega
  have HD:Hid (readD d r=(holderD (valueD d r).2 (valueD d r).1,(valueD d r).2)):=by
   show _=_
   unfold readD;rw [if_neg e]
  have EV:=Lib.hid (value_c w S q c R d r h hc hr)
  have HV:=Lib.hid (h.B.value hr)
  rw [HD.out]
  clear h HD
  generalize valueD d r=vd at *
  obtain ⟨v,d1⟩:=vd
  go_enter Tryz.func131,Tryz.ntmps131
  go_wp2_with fail
  refine EV.out.mono ?_
  rintro e w1 ⟨rfl,S1,h1,p1⟩
  have H1:=Lib.hid h1
  go_wp2_with fail
  refine (holder_c w1 S1 q (c+2) R d1 v H1.out hc HV.out.2.1).mono ?_
  rintro e w2 ⟨rfl,rfl⟩
  go_wp2_with fail
  go_ret
  exact ⟨rfl,S1,H1.out,p1⟩
end
section
open Go.ChangeShapes Go.WideShapes Go.ChangeAt Go.RowKit Go.Maps
set_option maxHeartbeats 4000000
set_option maxRecDepth 100000
section
variable {w w':World} {S:Nat→Prop} {q:Dkb} {c:Nat} {R:Int} {d:Dk} {vf:Int→Value}
theorem DkX.setNum (h:DkX w S q c R d vf) {v n:Int} (hv:1≤v∧v≤d.vs) (hn:0≤n∧n<4294967296) (hg:w.grownBy w' (some q.bn)) (hm:MapH KyI w' q.bn (c+1) (fun y=>if y=v then some (Value.int .u32 n) else (d.num y).map (Value.int .u32))):DkX w' S q (c+1) R (setNum d v n) vf∧Stp S w w' S:=by
 obtain ⟨a1,a2,a3,a4,a5⟩:=h.apart
 obtain ⟨n1,n2,n3,n4,n5,n6⟩:=h.n1
 have keep:∀ b,S b→b≠q.bn→w'.heap[b]?=w.heap[b]?:=fun b hb hn=>hg.block b (h.sl b hb) (by simpa using hn)
 refine ⟨⟨(keep _ h.s1.1 a3).trans h.st,(h.mo.same (keep _ h.s1.2.1 n2)).mono (by omega),(h.mky.same (keep _ h.s1.2.2.1 n4)).mono (by omega),hm.ext fun y=>?_,(h.mf.same (keep _ h.s1.2.2.2.2 (Ne.symm n6))).mono (by omega),fun v hv=>ow_same (h.row v hv) fun g hgb=>keep g (h.s2 v g hv hgb) (fun e=>(a5 v hv).2.2.2.1 (e ▸ hgb)),h.ap,fun v=>by have:=h.fl v;show (d.fs v).length≤_;omega,h.fr,h.B.setNum hv hn,h.Rb,by have:=h.vs;show d.vs≤_;omega,by have:=h.mm;show 0≤d.mm∧d.mm≤_;omega,h.n1,h.s1,h.s2,fun b hb=>Nat.lt_of_lt_of_le (h.sl b hb) hg.size⟩,⟨hg.os,hg.tape,hg.output,hg.size,fun b hb hn=>hg.block b hb (fun e=>hn (by cases e;exact h.s1.2.2.2.1)),fun b hb=>.inl hb⟩⟩
 show _=(updI d.num v (some n) y).map _
 by_cases e:y=v
 ·rw [if_pos e,e,updI_same];rfl
 ·rw [if_neg e,updI_other _ _ e]
theorem DkX.setKy (h:DkX w S q c R d vf) {v:Int} {k:Ky} (hv:1≤v∧v≤d.vs) (hg:w.grownBy w' (some q.bk)) (hm:MapH KyK w' q.bk (c+1) (fun y=>if y=k then some (Value.int .i64 v) else (d.ky y).map (Value.int .i64))):DkX w' S q (c+1) R (setKy d k v) vf∧Stp S w w' S:=by
 obtain ⟨a1,a2,a3,a4,a5⟩:=h.apart
 obtain ⟨n1,n2,n3,n4,n5,n6⟩:=h.n1
 have keep:∀ b,S b→b≠q.bk→w'.heap[b]?=w.heap[b]?:=fun b hb hn=>hg.block b (h.sl b hb) (by simpa using hn)
 refine ⟨⟨(keep _ h.s1.1 a2).trans h.st,(h.mo.same (keep _ h.s1.2.1 n1)).mono (by omega),hm.ext fun y=>?_,(h.mn.same (keep _ h.s1.2.2.2.1 (Ne.symm n4))).mono (by omega),(h.mf.same (keep _ h.s1.2.2.2.2 (Ne.symm n5))).mono (by omega),fun v hv=>ow_same (h.row v hv) fun g hgb=>keep g (h.s2 v g hv hgb) (fun e=>(a5 v hv).2.2.1 (e ▸ hgb)),h.ap,fun v=>by have:=h.fl v;show (d.fs v).length≤_;omega,h.fr,h.B.setKy hv k,h.Rb,by have:=h.vs;show d.vs≤_;omega,by have:=h.mm;show 0≤d.mm∧d.mm≤_;omega,h.n1,h.s1,h.s2,fun b hb=>Nat.lt_of_lt_of_le (h.sl b hb) hg.size⟩,⟨hg.os,hg.tape,hg.output,hg.size,fun b hb hn=>hg.block b hb (fun e=>hn (by cases e;exact h.s1.2.2.1)),fun b hb=>.inl hb⟩⟩
 show _=(if y=k then some v else d.ky y).map _
 by_cases e:y=k
 ·rw [if_pos e,if_pos e];rfl
 ·rw [if_neg e,if_neg e]
theorem DkX.lookNum (h:DkX w S q c R d vf) {v:Int} (hv:0≤v∧v≤1000000000):(Instr.lookup 125 (.map (some q.bn)) (.int .i64 v) true).run Tryz.prog w=.ok (.tuple #[.int .u32 ((d.num v).getD 0),.bool (d.num v).isSome]) w:=by
 have hw:KyI.W v:=WalkArith.wf_i64 (by omega)
 have e:((d.num v).map (Value.int .u32)).getD (.int .u32 0)=.int .u32 ((d.num v).getD 0):=by cases d.num v <;> rfl
 have h1:=h.mn.look1 Tryz.underlying125 zeroU v hw
 rw [e,Option.isSome_map] at h1
 exact h1
end
theorem below_dN {B:Nat} {w w1:World} (h:Below B w w1) (n:Nat):Below B w (w1.drewN n):=⟨h.os,h.tape,h.output,h.size,h.block⟩
theorem cl9 {w:World} {b:Nat} {t:TypeId} {c0 c1 c2 c3 c4 c5 c6 c7 c8:Value} (h:w.heap[b]?=some (.cells #[c0,c1,c2,c3,c4,c5,c6,c7,c8] t (0,0))) :
  w.cell? ⟨b,0,none⟩=some c0∧w.cell? ⟨b,1,none⟩=some c1∧w.cell? ⟨b,2,none⟩=some c2∧w.cell? ⟨b,3,none⟩=some c3∧w.cell? ⟨b,4,none⟩=some c4∧w.cell? ⟨b,5,none⟩=some c5∧w.cell? ⟨b,6,none⟩=some c6∧w.cell? ⟨b,7,none⟩=some c7∧w.cell? ⟨b,8,none⟩=some c8∧b<w.heap.size :=
 ⟨cell_of_heap h 0,cell_of_heap h 1,cell_of_heap h 2,cell_of_heap h 3,cell_of_heap h 4,cell_of_heap h 5,cell_of_heap h 6,cell_of_heap h 7,cell_of_heap h 8,(Array.getElem?_eq_some_iff.1 h).1⟩
theorem named_c (w:World) (S:Nat→Prop) (q:Dkb) (c:Nat) (R:Int) (d:Dk) (k:Ky) (h:DkM w S q c R d) (hc:c+2≤1000000000) (hk:KyW k) :
  Calls Tryz.prog 135 #[.pointer (some ⟨q.bd,0,none⟩),keyV k] w (DkQ S q (c+2) R (.int .i64 (namedD d k).1) (namedD d k).2 w):=by
 have hA:=below_alloc w (.cells #[.int .i64 k.op,.int .i64 k.fn,.int .i64 k.a,.int .i64 k.b,.int .i64 k.obj,.int .i64 k.off,.int .i64 k.size,.int .u32 k.num,.int .i64 k.mem] 164)
 obtain ⟨W0,hW0⟩:∃ W0,W0=w.alloc (.cells #[.int .i64 k.op,.int .i64 k.fn,.int .i64 k.a,.int .i64 k.b,.int .i64 k.obj,.int .i64 k.off,.int .i64 k.size,.int .u32 k.num,.int .i64 k.mem] 164):=⟨_,rfl⟩
 have HB0:=Lib.hid (heap_of_alloc w _ _ hW0)
 rw [←hW0] at hA
 have HW0:=Lib.hid hW0.symm
 clear hW0
 have HA:=Lib.hid hA
 have hs0:w.heap.size<W0.heap.size:=(Array.getElem?_eq_some_iff.1 HB0.out).1
 have HNS:Hid (¬ S w.heap.size):=fun e=>by have:=h.lt e;omega
 have H0:=Lib.hid (h.below hA)
 have hbd:=h.bd
 have hst:=h.st
 have HLK:Hid (∀ W,W.heap[q.bk]?=W0.heap[q.bk]?→(Instr.lookup 124 (.map (some q.bk)) (keyV k) true).run Tryz.prog W=.ok (.tuple #[.int .i64 ((d.ky k).getD 0),.bool (d.ky k).isSome]) W):=fun W hW=>by
  obtain ⟨vf,h0⟩:=H0.out
  have e:((d.ky k).map (Value.int .i64)).getD (.int .i64 0)=.int .i64 ((d.ky k).getD 0):=by cases d.ky k <;> rfl
  have h1:=(h0.mky.same hW).look1 Tryz.underlying124 zeroIn k hk
  rw [e,Option.isSome_map] at h1
  exact h1
 have hlk:=fun n=>HLK.out (W0.drewN n) rfl
 clear HLK
 have HP0:Hid (Stp S w W0 S):=Stp.of_below hA
 obtain ⟨y0,y1,y2,y3,y4,y5,l0⟩:=cl6 H0.out.st
 obtain ⟨x0,x1,x2,x3,x4,x5,x6,x7,x8,lx⟩:=cl9 HB0.out
 clear hA h hst
 have HKW:=Lib.hid hk
 clear hk
 obtain ⟨ks,hks⟩:∃ ks,ks=w.heap.size:=⟨_,rfl⟩
 unfold keyV at hlk ⊢
 cases e:d.ky k with
 | some v=>
  rw [namedD_some e]
  rw [e] at hlk
  simp only [Option.isSome_some,Option.getD_some] at hlk
  clear e
  go_enter Tryz.func135,Tryz.ntmps135
  go_wp2_with fail
  rw [HW0.out]
  go_quiet (fail)
  go_wp2_with fail
  go_ret
  exact ⟨rfl,S,(H0.out.below (below_dN (Below.refl _ _) _)).mono (by omega),HP0.out.trans (Stp.of_below (below_dN (Below.refl _ _) _))⟩
 | none=>
  rw [namedD_none e]
  rw [e] at hlk
  simp only [Option.isSome_none,Option.getD_none] at hlk
  clear e
  go_enter Tryz.func135,Tryz.ntmps135
  go_wp2_with fail
  rw [HW0.out]
  clear HW0
  go_quiet (fail)
  go_wp2_with fail
  clear hlk y0 y1 y2 y3 y4 y5 x0 x1 x2 x3 x4 x5 x6 x7 x8
  have HB1:Hid (Below W0.heap.size W0 (W0.drewN nq)):=below_dN (Below.refl _ _) _
  refine (fresh_c (W0.drewN nq) S q c R d (H0.out.below HB1.out) (by omega)).mono ?_
  rintro e w1 ⟨rfl,S1,h1,p1⟩
  have p2:=(Stp.of_below HB1.out).trans p1
  have hS1:=p2.away hs0 HNS.out
  have hb1:=(p2.keep _ hs0 HNS.out).trans HB0.out
  have HP1:=Lib.hid (HP0.out.trans p2)
  have HS1:=Lib.hid hS1
  have HKB:=Lib.hid hb1
  have H1:=Lib.hid h1
  have hdv:(freshD d).vs=d.vs+1:=rfl
  clear p1 p2 hS1 HB1 HB0 HP0 HNS H0 HA h1 hb1
  obtain ⟨y0,y1,y2,y3,y4,y5,l0⟩:=cl6 H1.out.st
  obtain ⟨x0,x1,x2,x3,x4,x5,x6,x7,x8,lx⟩:=cl9 HKB.out
  have hcm:c+1<maxLen:=by unfold maxLen;omega
  generalize w.heap.size=ks at *
  go_wp2_with fail
  refine wp_region_game (fun z=>z=q.bd∨z=ks) (by kernel_rfl) ?_
  show wpE _ _ _ _ _ _ _ w1.drew
  refine E_mob2s [0,1,2,3,4,5] _ _ _ _ (by kernel_rfl) ?_
  simp only [List.map_cons,List.map_nil,List.getElem?_toArray,List.getElem?_cons_succ,List.getElem?_cons_zero,Option.getD_some,List.size_toArray,List.length_cons,List.length_nil,Nat.reduceAdd,Nat.reduceSub]
  repeat (go_big_quiet_step (fail))
  refine wpQuiet_nil ?_
  clear y0 y1 y2 y3 y4 y5 x0 x1 x2 x3 x4 x5 x6 x7 x8
  refine E_last 6 _ rfl (by kernel_rfl) ?_
  simp only [List.getElem_toArray,List.getElem_cons_succ,List.getElem_cons_zero]
  obtain ⟨vf,h1⟩:=H1.out
  have HX:=Lib.hid (h1.same (w':=w1.drew) (Nat.le_refl _) (fun _ _=>rfl))
  clear h1
  go_wp2_with (at_mapUpdate;refine MapH.put HX.out.mky Tryz.underlying124 k (.int .i64 (d.vs+1)) HKW.out hcm rfl _ _ _ rfl rfl rfl rfl ?_;intro w2 hm2 hg2)
  refine E_done (by kernel_rfl) ?_ _
  have HE:Hid (DkQ S q (c+2) R (.int .i64 (d.vs+1)) (setKy (freshD d) k (d.vs+1)) w (.returned (.int .i64 (d.vs+1))) w2):=by
   obtain ⟨hx2,px⟩:=HX.out.setKy (v:=d.vs+1) (k:=k) ⟨by omega,Int.le_refl _⟩ hg2 (hm2.ext fun y=>by split <;> rfl)
   exact ⟨rfl,S1,⟨vf,hx2⟩,HP1.out.trans ((Stp.of_below (Below.refl _ _).drew).trans px)⟩
  clear hm2 hg2 HX H1 HP1 HKB
  go_wp2_with fail
  go_ret
  exact HE.out
end
end Go.Proofs.YtkhfddodmjnecaaGreatDoor
