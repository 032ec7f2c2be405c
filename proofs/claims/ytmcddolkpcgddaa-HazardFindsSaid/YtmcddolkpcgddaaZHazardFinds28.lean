/-
 hazard: a pass through a block (each), for what it does with each instruction.
-/
import Derived.Test.YtmcddolkpcgddaaZHazardFinds27
set_option maxHeartbeats 8000000
set_option maxRecDepth 100000
set_option linter.all false
namespace Go.Proofs.Ytmcddolkpcgddaa
open Go.ChangeShapes Go.WideShapes Go.ChangeAt Go.RowKit
attribute [local go_sem] Oper.semAt_some
def FdP (w0:World) (bf:Nat) (nm:ByteArray) (p:Pr) (vo vb:Value) (bv:Nat) (vs:Value) (al:Option Addr) (cl:Nat) (vf vg:Value) (rs:List (Nat×Nat)) (X:List Nat) (W:World):Prop:=FdM w0 bf nm p vo vb bv vs (.slice al (qad p).length cl) vf vg (qad p) (qaw p p.blks.length) rs X (lwN p) W
def qpy (vi:Value) (b:Bk):Obj:=.cells #[vi,.int .i64 b.fin,.int .i64 b.a,.int .i64 b.to,.int .i64 b.els] 51
theorem FdP.hyp {w0 w:World} {bf:Nat} {nm:ByteArray} {p:Pr} {vo vb:Value} {bv:Nat} {vs:Value} {al:Option Addr} {cl:Nat} {vf vg:Value} {rs:List (Nat×Nat)} {X:List Nat} {I:Nat→World→Prop} (h:FdP w0 bf nm p vo vb bv vs al cl vf vg rs X w)
  (hi:∀ k W W',I k W→Below w.heap.size W W'→KpA W W'→I k W'):EaH (FdP w0 bf nm p vo vb bv vs al cl vf vg rs X) I w (lwN p) :=
 ⟨fun W W' hf hb=>FdM.below hf hb,fun W W' g c R hf hg hr hb=>FdM.other hf hr (by have:=h.lt;omega) (fun i hi=>by have:=h.tb.old hi;omega) hb,hi,fun W W' hf hb hk=>FdM.cellsK hf (hf.be.trans (hb.mono (Nat.le_trans h.hB (Nat.le_of_lt h.lt)))) hk⟩
theorem qly (W:World) (l:Nat) (o:Obj):But l W (W.putObj l o):=⟨rfl,rfl,rfl,by simp,fun k _ hne=>World.putObj_heap_other hne⟩
theorem qn8 (p:Pr) (n:Nat) (h:n<p.blks.length):(qaw p p.blks.length).getD n 0=((qar p n:Nat):Int):=by unfold qaw;simp [List.getD,h]
theorem qjz (s:List Bool) (NL:Nat) (l:List In) (st:Nat×Nat) (k:Nat) (hk:k<l.length):qek s NL (l.take (k+1)) st=qjs s NL (qek s NL (l.take k) st) (l.getD k default):=by
 have e:l.getD k default=l[k]:=by simp [List.getD,hk]
 rw [e,List.take_succ_eq_append_getElem hk,qqp]
theorem qhk {s:List Bool} {p:Pr} (hsl:s.length≤p.regs.toNat) {n k:Nat} (hn:n<p.blks.length) (hk:k<(p.blks.getD n default).ins.length):∀ x∈qbm s (qad p).length (qar p n+ldN ((p.blks.getD n default).ins.take k)) ((p.blks.getD n default).ins.getD k default),x<64*lwN p:=fun x hx=>by
 have hL:(qad p).length+p.regs.toNat≤64*lwN p:=by unfold lwN;omega
 unfold qbm at hx
 rw [List.mem_append,List.mem_map] at hx
 rcases hx with hx|⟨r,hr,rfl⟩
 ·by_cases h5:((p.blks.getD n default).ins.getD k default).op=5
  ·rw [if_pos h5,List.mem_singleton] at hx
   have:=(qhf hn hk h5).1
   omega
  ·rw [if_neg h5] at hx;cases hx
 ·have:=qa4 (List.mem_filter.1 hr).2
  omega
theorem qx0 (w0 w:World) (bf:Nat) (nm:ByteArray) (p:Pr) (vo vb:Value) (bv:Nat) (vs:Value) (al:Option Addr) (cl:Nat) (vf vg:Value) (rs:List (Nat×Nat)) (X:List Nat) (s:List Bool) (n:Nat) (I:Nat→World→Prop)
  (hF:FdP w0 bf nm p vo vb bv vs al cl vf vg rs X w) (hvb:qbl w0 vb p.blks) (hvs:RdB w0 vs s) (hsl:s.length≤p.regs.toNat) (hX:X.length=p.blks.length) (hn:n<p.blks.length) (hbl:p.blks.length≤1000) (hil:(p.blks.getD n default).ins.length≤1000) (hia:∀ i∈(p.blks.getD n default).ins,i.args.length≤1000) (hr:0≤p.regs∧p.regs≤10000) (hLL:(qad p).length≤1000000)
  (hI:∀ k W W',I k W→Below w.heap.size W W'→KpA W W'→I k W') (hI0:I 0 w)
  (hD:∀ k W gh ch,k<(p.blks.getD n default).ins.length→I k W→FdP w0 bf nm p vo vb bv vs al cl vf vg rs X W→w.heap.size≤gh→w.heap.size≤W.heap.size→qb3 W gh ch (lwN p) (qja s (qad p).length p n k (X.getD n 0))→Calls Try.prog 69 #[.int .i64 (k:Int),.slice (some ⟨gh,0,none⟩) (lwN p) ch] W fun e w'=>(∃ v,e=.returned v)∧I (k+1) w'∧FdP w0 bf nm p vo vb bv vs al cl vf vg rs X w'∧KpD W w') :
  Calls Try.prog 37 #[.pointer (some ⟨bf,0,none⟩),.int .i64 (n:Int),.func (.func 69) #[] #[]] w fun e w'=>∃ gh ch,e=.returned (.slice (some ⟨gh,0,none⟩) (lwN p) ch)∧qb3 w' gh ch (lwN p) (qci s (qad p).length (p.blks.getD n default) (qar p n) (X.getD n 0))∧w.heap.size≤gh∧I (p.blks.getD n default).ins.length w'∧FdP w0 bf nm p vo vb bv vs al cl vf vg rs X w'∧w.heap.size≤w'.heap.size:=by
 have HH:=qkm (hF.hyp hI)
 have HF:=qkm hF
 have HD:=qkm hD
 have HI0:=qkm hI0
 have HVS:=qkm hvs
 have HIA:=qkm hia
 have HRL:=qkm (fun k hk=>qhk (s:=s) hsl hn (k:=k) hk)
 have HFR:=qkm (qn8 p n hn)
 have hLW:lwN p≤1000000:=by unfold lwN;omega
 have HOUT:Hid (∀ h y:Nat,y<64*lwN p→True):=fun _ _ _=>trivial
 clear hF hI hD hI0 hvs hia HOUT
 have hvb':=hvb
 obtain ⟨ab,cb,rfl,b1,b2, -⟩:=hvb'
 unfold maxLen at b2
 have HBK:=qkm (qbl.at hvb).2
 clear hvb
 obtain ⟨b,o,vi,hab,hvi,c0,c1,c2,c3,c4⟩:=HBK.out n hn
 subst hab
 have hE:=Ext.below HF.out.be
 replace c0:=hE _ _ c0
 replace c1:=hE _ _ c1
 replace c2:=hE _ _ c2
 replace c3:=hE _ _ c3
 replace c4:=hE _ _ c4
 have HVI:=qkm hvi
 obtain ⟨ai,ci,rfl,i1,i2, -⟩:=hvi
 unfold maxLen at i2
 have g1:decide (n<p.blks.length)=true:=qkn hn
 have g2:decide ((n:Int)<(p.blks.length:Int))=true:=qkn (by omega)
 obtain ⟨gt,ct,hvg,hgB,ht1,ht2,hgt, -,htc⟩:=HF.out.tb.form (by omega)
 unfold maxLen at ht2
 rw [hX] at hvg ht1
 subst hvg
 have e1:=htc n (by omega)
 have HROW:=qkm (HF.out.tb.row n (by omega))
 unfold qft at e1
 obtain ⟨af,cf,rfl⟩:=qa6 HF.out.fr
 have hfl:(qaw p p.blks.length).length=p.blks.length:=by unfold qaw;simp
 obtain ⟨a',c',e,f1,f2,hfc⟩:=qa8.rd HF.out.fr
 simp only [Value.slice.injEq] at e
 obtain ⟨rfl, -,rfl⟩:=e
 unfold maxLen at f2
 obtain ⟨bF,oF,haf,e2⟩:=hfc n (by omega)
 subst haf
 simp only [Nat.mul_one,Nat.add_zero] at e2
 rw [HFR.out] at e2
 have g3:decide (n<(qaw p p.blks.length).length)=true:=qkn (by omega)
 have g4:decide ((n:Int)<((qaw p p.blks.length).length:Int))=true:=qkn (by omega)
 clear hfc htc hE
 have HK:Hid (∀ k,(qek s (qad p).length ((p.blks.getD n default).ins.take k) (X.getD n 0,qar p n)).2=qar p n+ldN ((p.blks.getD n default).ins.take k)):=fun k=>qj8 ..
 have HHD:Hid (∀ k,qja s (qad p).length p n k (X.getD n 0)=(qek s (qad p).length ((p.blks.getD n default).ins.take (k+1)) (X.getD n 0,qar p n)).1):=fun _=>rfl
 have HBT:Hid (∀ k,k<(p.blks.getD n default).ins.length→qek s (qad p).length ((p.blks.getD n default).ins.take (k+1)) (X.getD n 0,qar p n)=qjs s (qad p).length (qek s (qad p).length ((p.blks.getD n default).ins.take k) (X.getD n 0,qar p n)) ((p.blks.getD n default).ins.getD k default)):=fun k hk=>qjz _ _ _ _ k hk
 obtain ⟨hrow,hrB⟩:=HROW.out
 have HROW:=qkm hrow
 have hbfw:bf<w.heap.size:=HF.out.lt
 clear hrow hrB HBK
 generalize p.blks.getD n default=K at *
 generalize X.getD n 0=H0 at *
 generalize rs.getD n (0,0)=gc at *
 obtain ⟨gr,cr⟩:=gc
 dsimp only at HROW e1
 refine callsIn_wide.1 (callsIn_of_wp_marks (n:=6) Try.func37 rfl trivial ?_ rfl)
 simp only [Try.ntmps37,List.size_toArray,List.length_cons,List.length_nil,Nat.reduceAdd,Nat.reduceSub,Array.replicate_succ,Array.replicate_zero,List.push_toArray,List.append_toArray,List.nil_append,List.cons_append]
 refine wpIn_wide.2 ?_
 obtain ⟨y0,y1,y2,y3,y4,y5,y6,y7,y8,y9,y10,ly⟩:=qau HF.out.box
 have lb:=World.block_lt_of_cell? w _ c0
 have lF:=World.block_lt_of_cell? w _ e2
 go_wp2_with fail
 have HB1:=qkm (qaa w (.cells #[.slice ai K.ins.length ci,.int .i64 K.fin,.int .i64 K.a,.int .i64 K.to,.int .i64 K.els] 51))
 have H7:Hid ((w.alloc (.cells #[.slice ai K.ins.length ci,.int .i64 K.fin,.int .i64 K.a,.int .i64 K.to,.int .i64 K.els] 51)).heap[w.heap.size]?=some (qpy (.slice ai K.ins.length ci) K)):=heap_alloc_new w _
 generalize w.alloc (.cells #[.slice ai K.ins.length ci,.int .i64 K.fin,.int .i64 K.a,.int .i64 K.to,.int .i64 K.els] 51)=W1 at *
 refine (qwz gr cr (lwN p) H0 W1 (HROW.out.below HB1.out) hLW).mono ?_
 rintro e w2 ⟨gh,ch,rfl,hrh,hgh,hb2⟩
 have HRH:=qkm hrh
 have HB2:=qkm (HB1.out.trans (hb2.mono HB1.out.size))
 have H7:=qkm ((hb2.block _ (qkp H7.out).1).trans H7.out)
 have hg2:w.heap.size≤gh:=Nat.le_trans HB1.out.size hgh
 have hlg:=hrh.lt
 have HF2:Hid (FdP w0 bf nm p vo (.slice (some ⟨b,o,none⟩) p.blks.length cb) bv vs al cl (.slice (some ⟨bF,oF,none⟩) (qaw p p.blks.length).length cf) (.slice (some ⟨gt,0,none⟩) p.blks.length ct) rs X w2):=FdM.below HF.out HB2.out
 have HIT2:=qkm (HH.out.it _ _ _ HI0.out HB2.out (KpA.below HB2.out))
 clear hrh hgh hb2 HB1 HF y0 y1 y2 y3 y4 y5 y6 y7 y8 y9 y10 ly lb lF e1 c0 c1 c2 c3 c4 hgt HROW
 have e2:=(HB2.out.cell (p:=⟨bF,oF+n,none⟩) (World.block_lt_of_cell? w _ e2)).trans e2
 have lF:=World.block_lt_of_cell? w2 _ e2
 obtain ⟨y0,y1,y2,y3,y4,y5,y6,y7,y8,y9,y10,ly⟩:=qau HF2.out.box
 obtain ⟨x0,x1,x2,x3,x4,lx⟩:=cl5 H7.out
 go_wp2_with fail
 obtain ⟨FD,hFD⟩:∃ FD,FD=(FdP w0 bf nm p vo (.slice (some ⟨b,o,none⟩) p.blks.length cb) bv vs al cl (.slice (some ⟨bF,oF,none⟩) (qaw p p.blks.length).length cf) (.slice (some ⟨gt,0,none⟩) p.blks.length ct) rs X):=⟨_,rfl⟩
 have HFM:Hid (∀ W,FD W→FdM w0 bf nm p vo (.slice (some ⟨b,o,none⟩) p.blks.length cb) bv vs (.slice al (qad p).length cl) (.slice (some ⟨bF,oF,none⟩) (qaw p p.blks.length).length cf) (.slice (some ⟨gt,0,none⟩) p.blks.length ct) (qad p) (qaw p p.blks.length) rs X (lwN p) W):=fun W hW=>by rw [hFD] at hW;exact hW
 rw [←hFD] at HH HF2 HD
 have HFD:=qkm hFD
 clear hFD y0 y1 y2 y3 y4 y5 y6 y7 y8 y9 y10 ly x0 x1 x2 x3 x4 lx e2 lF
 have S0:Hid (qjq FD I w (qpy (.slice ai K.ins.length ci) K) gh ch w2.heap.size (lwN p) (qek s (qad p).length (K.ins.take 0) (H0,qar p n)).1 0 [] (w2.alloc (.cells #[.slice (some ⟨gh,0,none⟩) (lwN p) ch] 87))):=by
  have hb:=qaa w2 (.cells #[.slice (some ⟨gh,0,none⟩) (lwN p) ch] 87)
  refine ⟨HH.out.below _ _ HF2.out hb,?_,(hb.block _ (qkp H7.out).1).trans H7.out,heap_alloc_new w2 _,HH.out.it _ _ _ HIT2.out (hb.mono HB2.out.size) (KpA.below hb),List.nodup_nil,(fun D hD=>by cases hD),(fun D hD=>by cases hD),hg2,Nat.le_trans HB2.out.size hb.size⟩
  exact HRH.out.below hb
 clear HF2 HIT2 HRH H7 HI0 g3 g4
 refine wp_loop (fun a' w'=>∃ (k:Nat) (ds:List Nat) (u10 u11 u12 u40 u41 u42 u43 u44 u45 u46 u47 u48 u49 u50 u51 u52 u53 u54 u55 u56 u57 u58 u59 u60 u61 u62 u63 u64 u65 u66 u67 u68 u69 u70 u71 u72 u73 u74 u75 u76 u77 u78 u79 u80 u81 u82 u83 u84 u85 u86 u87 u88 u89 u90 u91 u92 u93 u94:Value),k≤K.ins.length∧Hid (qjq FD I w (qpy (.slice ai K.ins.length ci) K) gh ch w2.heap.size (lwN p) (qek s (qad p).length (K.ins.take k) (H0,qar p n)).1 k ds w')∧a'={ tmps:=#[.pointer (some ⟨bf,0,none⟩),.int .i64 (n:Int),.func (.func 69) #[] #[],undef,undef,undef,.slice none 0 0,.pointer (some ⟨w.heap.size,0,none⟩),.pointer (some ⟨w2.heap.size,0,none⟩),.int .i64 ((qar p n+ldN (K.ins.take k):Nat):Int),u10,u11,u12,.pointer (some ⟨bf,0,none⟩),.pointer (some ⟨bf,0,none⟩),.pointer (some ⟨bf,0,none⟩),.pointer (some ⟨bf,5,none⟩),.slice (some ⟨b,o,none⟩) p.blks.length cb,.int .i64 (n:Int),.pointer (some ⟨b,o+n*5,none⟩),.agg #[.slice ai K.ins.length ci,.int .i64 K.fin,.int .i64 K.a,.int .i64 K.to,.int .i64 K.els],.pointer (some ⟨bf,0,none⟩),.pointer (some ⟨bf,0,none⟩),.pointer (some ⟨bf,10,none⟩),.slice (some ⟨gt,0,none⟩) p.blks.length ct,.int .i64 (n:Int),.pointer (some ⟨gt,n,none⟩),.slice (some ⟨gr,0,none⟩) (lwN p) cr,.slice (some ⟨gh,0,none⟩) (lwN p) ch,.pointer (some ⟨bf,0,none⟩),.pointer (some ⟨bf,0,none⟩),.pointer (some ⟨bf,9,none⟩),.slice (some ⟨bF,oF,none⟩) p.blks.length cf,.int .i64 (n:Int),.pointer (some ⟨bF,oF+n,none⟩),.int .i64 ((qar p n:Nat):Int),.pointer (some ⟨w.heap.size,0,none⟩),.slice ai K.ins.length ci,.int .i64 (K.ins.length:Int),.int .i64 (k:Int),u40,u41,u42,u43,u44,u45,u46,u47,u48,u49,u50,u51,u52,u53,u54,u55,u56,u57,u58,u59,u60,u61,u62,u63,u64,u65,u66,u67,u68,u69,u70,u71,u72,u73,u74,u75,u76,u77,u78,u79,u80,u81,u82,u83,u84,u85,u86,u87,u88,u89,u90,u91,u92,u93,u94],defers:=qnv ds })
  (fun a' _=>K.ins.length-(intOf (a'.tmps.getD 39 undef)).toNat) ⟨0,[],_,_,_,_,_,_,_,_,_,_,_,_,_,_,_,_,_,_,_,_,_,_,_,_,_,_,_,_,_,_,_,_,_,_,_,_,_,_,_,_,_,_,_,_,_,_,_,_,_,_,_,_,_,_,_,_,_,_,Nat.zero_le _,S0,rfl⟩ ?_
 clear S0
 rintro a' wr ⟨k,ds,u10,u11,u12,u40,u41,u42,u43,u44,u45,u46,u47,u48,u49,u50,u51,u52,u53,u54,u55,u56,u57,u58,u59,u60,u61,u62,u63,u64,u65,u66,u67,u68,u69,u70,u71,u72,u73,u74,u75,u76,u77,u78,u79,u80,u81,u82,u83,u84,u85,u86,u87,u88,u89,u90,u91,u92,u93,u94,hk,S,rfl⟩
 by_cases hlt:k<K.ins.length
 ·have q1:decide (k<K.ins.length)=true:=qkn hlt
  have q2:decide ((k:Int)<(K.ins.length:Int))=true:=qkn (by omega)
  obtain ⟨bi,oi,v9,hai,lbi,hva,d0,d1,d2,d3,d4,d5,d6,d7,d8,d9,d10⟩:=(qbd.at HVI.out).2 k hlt
  subst hai
  have hM:=HFM.out _ S.out.fd
  have hE:=Ext.below hM.be
  replace d0:=hE _ _ d0
  replace d1:=hE _ _ d1
  replace d2:=hE _ _ d2
  replace d3:=hE _ _ d3
  replace d4:=hE _ _ d4
  replace d5:=hE _ _ d5
  replace d6:=hE _ _ d6
  replace d7:=hE _ _ d7
  replace d8:=hE _ _ d8
  replace d9:=hE _ _ d9
  replace d10:=hE _ _ d10
  replace lbi:=Nat.lt_of_lt_of_le lbi hM.be.size
  have HVA:=qkm hva
  obtain ⟨va,vc,rfl, -⟩:=hva
  have HRK:=qkm (HRL.out k hlt)
  have HBK:=qkm (HBT.out k hlt)
  have HKK:=qkm (HK.out k)
  have HK1:=qkm (HK.out (k+1))
  have HHK:=qkm (HHD.out k)
  have HAK:=qkm (HIA.out _ (qch (d:=default) hlt))
  clear hE hM
  generalize K.ins.getD k default=i at *
  obtain ⟨ld,hld⟩:∃ ld,ld=qar p n+ldN (K.ins.take k):=⟨_,rfl⟩
  rw [←hld] at HRK HKK ⊢
  have HLD:=qkm hld
  clear hld
  have HH3:=HH
  have hlgr:=S.out.row.lt
  have hghw:=S.out.gB
  have hwr:=S.out.le
  go_wp2_with fail
  have S5:=qkm (S.out.below HH.out (qaa wr (.cells #[.int .i64 i.op,.int .i64 i.d,.int .i64 i.a,.int .i64 i.b,.int .i64 i.fn,.int .i64 i.obj,.int .i64 i.off,.int .i64 i.size,.int .u32 i.num,.slice va i.args.length vc,.bool i.log] 58)))
  have H11:Hid ((wr.alloc (.cells #[.int .i64 i.op,.int .i64 i.d,.int .i64 i.a,.int .i64 i.b,.int .i64 i.fn,.int .i64 i.obj,.int .i64 i.off,.int .i64 i.size,.int .u32 i.num,.slice va i.args.length vc,.bool i.log] 58)).heap[wr.heap.size]?=some (qdd i (.slice va i.args.length vc))):=heap_alloc_new wr _
  have hz5:(wr.alloc (.cells #[.int .i64 i.op,.int .i64 i.d,.int .i64 i.a,.int .i64 i.b,.int .i64 i.fn,.int .i64 i.obj,.int .i64 i.off,.int .i64 i.size,.int .u32 i.num,.slice va i.args.length vc,.bool i.log] 58)).heap.size ≥ wr.heap.size+1:=by simp
  clear S d0 d1 d2 d3 d4 d5 d6 d7 d8 d9 d10 lbi
  generalize wr.alloc (.cells #[.int .i64 i.op,.int .i64 i.d,.int .i64 i.a,.int .i64 i.b,.int .i64 i.fn,.int .i64 i.obj,.int .i64 i.off,.int .i64 i.size,.int .u32 i.num,.slice va i.args.length vc,.bool i.log] 58)=W5 at *
  refine (qor bf i va i.args.length vc (ld:Int) W5).mono ?_
  rintro e w4 ⟨rfl,hw4⟩
  have R4:Hid (w4.heap[W5.heap.size]?=some (.cells #[.pointer (some ⟨bf,0,none⟩)] 79)∧w4.heap[W5.heap.size+1]?=some (qdd i (.slice va i.args.length vc))∧w4.heap[W5.heap.size+2]?=some (.cells #[.int .i64 (ld:Int)] 3)∧Below W5.heap.size W5 w4∧w4.heap.size=W5.heap.size+3):=by
   have h0:=qai [.cells #[.pointer (some ⟨bf,0,none⟩)] 79,qdd i (.slice va i.args.length vc),.cells #[.int .i64 (ld:Int)] 3] W5 0 (by simp)
   have h1:=qai [.cells #[.pointer (some ⟨bf,0,none⟩)] 79,qdd i (.slice va i.args.length vc),.cells #[.int .i64 (ld:Int)] 3] W5 1 (by simp)
   have h2:=qai [.cells #[.pointer (some ⟨bf,0,none⟩)] 79,qdd i (.slice va i.args.length vc),.cells #[.int .i64 (ld:Int)] 3] W5 2 (by simp)
   have h3:=qa0 [.cells #[.pointer (some ⟨bf,0,none⟩)] 79,qdd i (.slice va i.args.length vc),.cells #[.int .i64 (ld:Int)] 3] W5
   have h4:=qb9 [.cells #[.pointer (some ⟨bf,0,none⟩)] 79,qdd i (.slice va i.args.length vc),.cells #[.int .i64 (ld:Int)] 3] W5
   have e:w4=qbj W5 [.cells #[.pointer (some ⟨bf,0,none⟩)] 79,qdd i (.slice va i.args.length vc),.cells #[.int .i64 (ld:Int)] 3]:=hw4
   rw [←e] at h0 h1 h2 h3 h4
   exact ⟨h0,h1,h2,h3,h4⟩
  clear hw4
  obtain ⟨r0,r1,r2,r3,r4⟩:=R4.out
  have S4:=qkm (S5.out.below HH.out r3)
  have H11:=qkm ((r3.block _ (qkp H11.out).1).trans H11.out)
  have BOX:=qkm (HFM.out _ S4.out.fd)
  clear S5 R4
  go_wp2_with fail
  have hlg4:gh<w4.heap.size:=by omega
  have hb84:w2.heap.size<w4.heap.size:=(qkp S4.out.b8).1
  have hb8g:w2.heap.size≠gh:=by
   obtain ⟨cur,hg⟩:=S4.out.row.heap
   intro e
   have h8:=S4.out.b8
   rw [e,hg] at h8
   simp only [Option.some.injEq,Obj.cells.injEq] at h8
   exact absurd h8.2.1 (by decide)
  refine (wpIn_wide (n:=6)).1 ?_
  refine qg6 (n:=6) (α:=Nat) (gf:=97) rfl (enters_of Try.func97 (by kernel_rfl) rfl) (fun x=>#[.int .i64 (x:Int)]) (fun _=>rfl) (fun _ A B=>Below A.heap.size A B) (fun _ A B=>KpH gh (w4.heap.size+1) A B) (fun _ x _=>x∈qbm s (qad p).length ld i) (fun xs=>xs=qbm s (qad p).length ld i)
   (fun s A B h b hb hA=>h.block b hA) (fun _ _ _ _ h k=>h.trans k) (fun pre x W o h A=>KpH.put _ _ A o) (fun pre x W o h=>h)
   (fun r J Jx hJ hY h0=>?it)
   (fun pre W=>(w4.heap.size+2≤W.heap.size∧But gh w4 W)∧qb3 W gh ch (lwN p) (pre.foldl ql9 (qek s (qad p).length (K.ins.take k) (H0,qar p n)).1)) (fun _ _ _=>False) (fun s W o h=>?hi) (fun _ _ _ _ h=>h) (fun s A B h hs=>?his)
   (fun r=>?h0) ?_ ?assign ?body ?done (fun _ _ _ h=>h.elim)
  case it=>
   have hlw:=qd9 w4 r
   have key:∀ {b:Nat} {o:Obj},w4.heap[b]?=some o→(qfr w4 r).heap[b]?=some o:=fun {b o} hc=>(hlw.block b (qkp hc).1).trans hc
   have hz:=qfe w4 r
   have h0b:=BOX.out.hB
   exact qn7 w0 bf nm p vo (.slice (some ⟨b,o,none⟩) p.blks.length cb) bv vs (.slice (some ⟨bF,oF,none⟩) (qaw p p.blks.length).length cf) (.slice (some ⟨gt,0,none⟩) p.blks.length ct) al (qad p).length cl (W5.heap.size+1) (W5.heap.size+2) W5.heap.size gh (w4.heap.size+1) i (.slice va i.args.length vc) ld s 5 (w4.heap.size+1) (qfr w4 r) ⟨key BOX.out.box,key r1,key r2,key r0,BOX.out.be.trans (hlw.mono BOX.out.be.size)⟩ HVS.out HVA.out HAK.out (by omega) (by omega) (by omega) (by omega) (fun b hb=>by rcases hb with rfl|rfl|rfl|rfl <;> omega) (by omega) (by omega) J Jx hJ (fun pre x W hj hx=>hY pre x W hj hx) h0
  case hi=>
   exact ⟨⟨by simpa using h.1.1,h.1.2.os,h.1.2.tape,h.1.2.output,Nat.le_trans h.1.2.size (by simp),fun b hb hne=>(World.putObj_heap_other (by omega)).trans (h.1.2.block b hb hne)⟩,h.2.but (qly W _ o) (by omega)⟩
  case his=>
   exact ⟨⟨Nat.le_trans h.1.1 hs.size,hs.os.trans h.1.2.os,hs.tape.trans h.1.2.tape,hs.output.trans h.1.2.output,Nat.le_trans h.1.2.size hs.size,fun b hb hne=>(hs.block b (Nat.lt_of_lt_of_le hb h.1.2.size)).trans (h.1.2.block b hb hne)⟩,h.2.below hs⟩
  case h0=>
   have hlw:=qd9 w4 r
   exact ⟨⟨by rw [qfe];omega,hlw.os,hlw.tape,hlw.output,hlw.size,fun b hb _=>hlw.block b hb⟩,S4.out.row.below hlw⟩
  case assign=>
   intro l x W Kc hKc
   dsimp only
   gi_wp2
   exact hKc
  case body=>
   intro l pre x W hi hpr
   have HX:=qkm (HRK.out x hpr)
   have HI:=qkm hi
   have z8:=qab ((hi.1.2.block _ hb84 hb8g).trans S4.out.b8) 0
   simp only [qkc,qke] at z8
   have lz8:=World.block_lt_of_cell? W _ z8
   have HPU:=qkm (qg0 gh ch (lwN p) _ x W hi.2 HX.out)
   have hWs:=hi.1.1
   clear hi hpr
   gi_wp2
   refine (callsIn_wide.2 HPU.out).mono ?_
   clear HPU
   rintro e w7 ⟨⟨v,rfl⟩,hr7,hb7⟩
   gi_wp2
   refine ⟨⟨hb7.block _ (by omega) (by omega),hb7.block _ (by omega) (by omega)⟩,KpH.but hb7,⟨Nat.le_trans hWs hb7.size,HI.out.1.2.trans ?_⟩,?_⟩
   ·exact hb7
   ·rw [List.foldl_append]
    exact hr7
  case done=>
   intro xs W hS hi hK
   have hS:xs=qbm s (qad p).length ld i:=hS
   subst hS
   have HKW:=qkm hK
   have hWs:=hi.1.1
   have SW:=S4.out.turn HH.out hi.1.2 hi.2 ⟨_,_,rfl,by decide⟩
   have hD:w4.heap.size ∉ ds:=fun h=>by have:=(qkp (S4.out.df _ h)).1;omega
   have SW:=qkm (SW.mark HKW.out hD (by omega))
   have lw11:=(qkp H11.out).1
   have H11:=qkm ((hi.1.2.block _ lw11 (by omega)).trans H11.out)
   have HN0:Hid (qgt i=true→(qek s (qad p).length (K.ins.take (k+1)) (H0,qar p n)).1=0):=fun h=>by
    rw [HBK.out];unfold qjs;rw [if_pos h]
   have HN1:Hid (qgt i=false→(qek s (qad p).length (K.ins.take (k+1)) (H0,qar p n)).1=(qbm s (qad p).length ld i).foldl ql9 (qek s (qad p).length (K.ins.take k) (H0,qar p n)).1):=fun h=>by
    rw [HBK.out];unfold qjs;rw [if_neg (by simp [h]),HKK.out]
   have HL5:Hid (qar p n+ldN (K.ins.take (k+1))=if i.op=5 then ld+1 else ld):=by
    show _=_
    rw [←HK1.out,HBK.out];unfold qjs;rw [HKK.out]
   have HLB:Hid (i.op=5→ld≤64000000):=fun h=>by
    have:=HRK.out ld (by unfold qbm;rw [if_pos h];simp)
    omega
   clear hi hK hS S4 HBK HKK HK1 HRK r0 r1 r2 r3 r4 BOX hD
   obtain ⟨d0, -, -, -, -, -, -, -, -, -, -,ld0⟩:=qau H11.out
   have z8:=qab SW.out.b8 0
   simp only [qkc,qke] at z8
   have lz8:=World.block_lt_of_cell? W _ z8
   dsimp only
   cases h5:(i.op ==5)
   ·have HLN:Hid (qar p n+ldN (K.ins.take (k+1))=ld):=by
     show _=_
     rw [HL5.out,if_neg (by simpa using h5)]
    cases h12:(i.op ==12)
    ·cases h9:(i.op ==9)
     ·have HNN:=qkm (HN1.out (by unfold qgt;rw [h12,h9];rfl))
      go_wp2_with fail
      refine (HD.out k W gh ch hlt SW.out.it SW.out.fd SW.out.gB SW.out.le (by rw [HHK.out,HNN.out];exact SW.out.row)).mono ?_
      rintro e w8 ⟨⟨v,rfl⟩,hi8,hf8,hd8⟩
      have S8:=qkm (SW.out.done ⟨_,_,rfl,by decide,by decide⟩ hd8 hf8 hi8)
      rw [←HNN.out] at S8
      clear hi8 hf8 hd8
      go_wp2_with fail
      rw [show (k:Int)+1=((k+1:Nat):Int) by omega]
      refine ⟨⟨k+1,w4.heap.size::ds,_,_,_,_,_,_,_,_,_,_,_,_,_,_,_,_,_,_,_,_,_,_,_,_,_,_,_,_,_,_,_,_,_,_,_,_,_,_,_,_,_,_,_,_,_,_,_,_,_,_,_,_,_,_,_,_,_,_,hlt,S8,by rw [HLN.out];rfl⟩,?_⟩
      simp [intOf]
      omega
     ·have HNN:=qkm (HN0.out (by unfold qgt;rw [h12,h9];rfl))
      obtain ⟨wC,hcl,hrC,hbC⟩:=SW.out.row.clear
      have SC:=qkm (SW.out.turn HH.out hbC hrC ⟨_,_,rfl,by decide⟩)
      have z8:=qab SC.out.b8 0
      simp only [qkc,qke] at z8
      have lz8:=World.block_lt_of_cell? wC _ z8
      go_wp2_with fail
      refine (HD.out k wC gh ch hlt SC.out.it SC.out.fd SC.out.gB SC.out.le (by rw [HHK.out,HNN.out];exact SC.out.row)).mono ?_
      rintro e w8 ⟨⟨v,rfl⟩,hi8,hf8,hd8⟩
      have S8:=qkm (SC.out.done ⟨_,_,rfl,by decide,by decide⟩ hd8 hf8 hi8)
      rw [←HNN.out] at S8
      clear hi8 hf8 hd8
      go_wp2_with fail
      rw [show (k:Int)+1=((k+1:Nat):Int) by omega]
      refine ⟨⟨k+1,w4.heap.size::ds,_,_,_,_,_,_,_,_,_,_,_,_,_,_,_,_,_,_,_,_,_,_,_,_,_,_,_,_,_,_,_,_,_,_,_,_,_,_,_,_,_,_,_,_,_,_,_,_,_,_,_,_,_,_,_,_,_,_,hlt,S8,by rw [HLN.out];rfl⟩,?_⟩
      simp [intOf]
      omega
    ·have HNN:=qkm (HN0.out (by unfold qgt;rw [h12];rfl))
     obtain ⟨wC,hcl,hrC,hbC⟩:=SW.out.row.clear
     have SC:=qkm (SW.out.turn HH.out hbC hrC ⟨_,_,rfl,by decide⟩)
     have z8:=qab SC.out.b8 0
     simp only [qkc,qke] at z8
     have lz8:=World.block_lt_of_cell? wC _ z8
     go_wp2_with fail
     refine (HD.out k wC gh ch hlt SC.out.it SC.out.fd SC.out.gB SC.out.le (by rw [HHK.out,HNN.out];exact SC.out.row)).mono ?_
     rintro e w8 ⟨⟨v,rfl⟩,hi8,hf8,hd8⟩
     have S8:=qkm (SC.out.done ⟨_,_,rfl,by decide,by decide⟩ hd8 hf8 hi8)
     rw [←HNN.out] at S8
     clear hi8 hf8 hd8
     go_wp2_with fail
     rw [show (k:Int)+1=((k+1:Nat):Int) by omega]
     refine ⟨⟨k+1,w4.heap.size::ds,_,_,_,_,_,_,_,_,_,_,_,_,_,_,_,_,_,_,_,_,_,_,_,_,_,_,_,_,_,_,_,_,_,_,_,_,_,_,_,_,_,_,_,_,_,_,_,_,_,_,_,_,_,_,_,_,_,_,hlt,S8,by rw [HLN.out];rfl⟩,?_⟩
     simp [intOf]
     omega
   ·have HLN:Hid (qar p n+ldN (K.ins.take (k+1))=ld+1):=by
     show _=_
     rw [HL5.out,if_pos (by simpa using h5)]
    have h12:(i.op ==12)=false:=by
     have e:i.op=5:=by simpa using h5
     rw [e];rfl
    have h9:(i.op ==9)=false:=by
     have e:i.op=5:=by simpa using h5
     rw [e];rfl
    have HNN:=qkm (HN1.out (by unfold qgt;rw [h12,h9];rfl))
    have hlb:=HLB.out (by simpa using h5)
    go_wp2_with fail
    refine (HD.out k W gh ch hlt SW.out.it SW.out.fd SW.out.gB SW.out.le (by rw [HHK.out,HNN.out];exact SW.out.row)).mono ?_
    rintro e w8 ⟨⟨v,rfl⟩,hi8,hf8,hd8⟩
    have S8:=qkm (SW.out.done ⟨_,_,rfl,by decide,by decide⟩ hd8 hf8 hi8)
    rw [←HNN.out] at S8
    clear hi8 hf8 hd8
    go_wp2_with fail
    rw [show (k:Int)+1=((k+1:Nat):Int) by omega,show (ld:Int)+1=((ld+1:Nat):Int) by omega]
    refine ⟨⟨k+1,w4.heap.size::ds,_,_,_,_,_,_,_,_,_,_,_,_,_,_,_,_,_,_,_,_,_,_,_,_,_,_,_,_,_,_,_,_,_,_,_,_,_,_,_,_,_,_,_,_,_,_,_,_,_,_,_,_,_,_,_,_,_,_,hlt,S8,by rw [HLN.out];rfl⟩,?_⟩
    simp [intOf]
    omega
 ·obtain rfl:k=K.ins.length:=by omega
  rw [List.take_length] at S
  have HEA:Hid (qbs s K=false→qci s (qad p).length K (qar p n) H0=(qek s (qad p).length K.ins (H0,qar p n)).1):=fun h=>by
   unfold qci qxd;rw [if_neg (by simp [h])]
  have HEB:Hid (qbs s K=true→qci s (qad p).length K (qar p n) H0=ql9 (qek s (qad p).length K.ins (H0,qar p n)).1 ((qad p).length+K.a.toNat)):=fun h=>by
   unfold qci qxd;rw [if_pos h]
  have HES:Hid (qbs s K=((K.fin ==2 || K.fin ==3) && qam s K.a)):=rfl
  have HLS:Hid ((qad p).length+p.regs.toNat≤64*lwN p):=by
   show _≤_
   unfold lwN;omega
  have hgw:=S.out.gB
  clear HRL HBT HHD HK HVI
  obtain ⟨x0,x1,x2,x3,x4,lx⟩:=cl5 S.out.b7
  have BOX:=qkm (HFM.out _ S.out.fd)
  obtain ⟨-, -, -, -, -, -, -,y7, -, -, -,ly⟩:=qau BOX.out.box
  have hvs':=HVS.out
  obtain ⟨sa,sc,rfl,s1,s2, -⟩:=hvs'
  unfold maxLen at s2
  cases e2':(K.fin ==2)
  ·cases e3':(K.fin ==3)
   ·have HNO:=qkm (HEA.out (by rw [HES.out,e2',e3'];rfl))
    go_wp2_with fail
    refine qak (fun _=>True) (by kernel_rfl) ?_
    refine qan [0,1,2,3,4,5,6,7,8,9,10,11,12,13,14] _ _ _ _ (by kernel_rfl) ?_
    simp only [qka,qkb,qkc,qkd,qke,qkf,qkg,qkh,qki,Nat.reduceAdd,Nat.reduceSub]
    repeat (go_big_quiet_step (fail))
    refine wpQuiet_nil ?_
    clear x0 x1 x2 x3 x4 lx y7 ly BOX
    refine qay 15 _ rfl (by kernel_rfl) ?_
    simp only [qkj,qkk,qkl]
    intro wj hj
    go_wp2_with fail
    refine ⟨qa3.refl _ _,?_⟩
    have S:=qkm (S.out.below HH.out hj)
    clear hj
    refine qan [16] _ _ _ _ (by kernel_rfl) ?_
    simp only [qka,qkb,qkc,qkd,qke,qkf,qkg,qkh,qki,Nat.reduceAdd,Nat.reduceSub]
    repeat (go_big_quiet_step (fail))
    refine wpQuiet_nil ?_
    refine qbh (by kernel_rfl) (fun wm hm=>?_) _
    have S:=qkm (S.out.below HH.out hm)
    clear hm
    have z8:=qab S.out.b8 0
    simp only [qkc,qke] at z8
    have lz8:=World.block_lt_of_cell? wm _ z8
    go_wp2_with fail
    refine qaz (v:=.slice (some ⟨gh,0,none⟩) (lwN p) ch) ds wm S.out.nd S.out.df fun w' h1 h2=>⟨by simp [results,Try.results37,go_sem],?_⟩
    obtain ⟨l1,l2,l3,l4⟩:=S.out.leave HH.out h1 h2
    rw [HFD.out,hfl] at l3
    exact ⟨gh,ch,rfl,by rw [HNO.out];exact l1,hgw,l2,l3,l4⟩
   ·go_wp2_with fail
    refine qak (fun _=>True) (by kernel_rfl) ?_
    refine qan [0,1,2,3,4,5,6,7,8,9,10,11,12,13,14] _ _ _ _ (by kernel_rfl) ?_
    simp only [qka,qkb,qkc,qkd,qke,qkf,qkg,qkh,qki,Nat.reduceAdd,Nat.reduceSub]
    repeat (go_big_quiet_step (fail))
    refine wpQuiet_nil ?_
    clear x0 x1 x2 x3 x4 lx y7 ly BOX
    refine qay 15 _ rfl (by kernel_rfl) ?_
    simp only [qkj,qkk,qkl]
    intro wj hj
    go_wp2_with fail
    refine (qc5 (.slice sa s.length sc) s K.a wj (HVS.out.ext (Ext.below (HFM.out _ (HH.out.below _ _ S.out.fd hj)).be))).mono ?_
    rintro e w5 ⟨rfl,rfl⟩
    go_wp2_with fail
    refine ⟨qa3.refl _ _,?_⟩
    have S:=qkm (S.out.below HH.out hj)
    clear hj
    cases hsp:qam s K.a
    ·have HNO:=qkm (HEA.out (by rw [HES.out,hsp];simp))
     refine qan [16] _ _ _ _ (by kernel_rfl) ?_
     simp only [qka,qkb,qkc,qkd,qke,qkf,qkg,qkh,qki,Nat.reduceAdd,Nat.reduceSub]
     repeat (go_big_quiet_step (fail))
     refine wpQuiet_nil ?_
     refine qbh (by kernel_rfl) (fun wm hm=>?_) _
     have S:=qkm (S.out.below HH.out hm)
     clear hm
     have z8:=qab S.out.b8 0
     simp only [qkc,qke] at z8
     have lz8:=World.block_lt_of_cell? wm _ z8
     go_wp2_with fail
     refine qaz (v:=.slice (some ⟨gh,0,none⟩) (lwN p) ch) ds wm S.out.nd S.out.df fun w' h1 h2=>⟨by simp [results,Try.results37,go_sem],?_⟩
     obtain ⟨l1,l2,l3,l4⟩:=S.out.leave HH.out h1 h2
     rw [HFD.out,hfl] at l3
     exact ⟨gh,ch,rfl,by rw [HNO.out];exact l1,hgw,l2,l3,l4⟩
    ·have HYE:=qkm (HEB.out (by rw [HES.out,hsp,e2',e3'];rfl))
     obtain ⟨a0,a1, -⟩:=qa4 hsp
     have HX:Hid ((qad p).length+K.a.toNat<64*lwN p):=by
      show _ < _
      have:=HLS.out
      omega
     refine qan [16] _ _ _ _ (by kernel_rfl) ?_
     simp only [qka,qkb,qkc,qkd,qke,qkf,qkg,qkh,qki,Nat.reduceAdd,Nat.reduceSub]
     repeat (go_big_quiet_step (fail))
     refine wpQuiet_nil ?_
     refine qbh (by kernel_rfl) (fun wm hm=>?_) _
     have S:=qkm (S.out.below HH.out hm)
     clear hm
     obtain ⟨an,ha⟩:=Int.eq_ofNat_of_zero_le a0
     obtain ⟨x0,x1,x2,x3,x4,lx⟩:=cl5 S.out.b7
     rw [ha] at x2 HX HYE
     simp only [Int.toNat_natCast] at HX HYE
     have hanb:an≤1000000:=by omega
     have BOX:=qkm (HFM.out _ S.out.fd)
     obtain ⟨-, -, -, -, -, -, -,y7, -, -, -,ly⟩:=qau BOX.out.box
     have z8:=qab S.out.b8 0
     simp only [qkc,qke] at z8
     have lz8:=World.block_lt_of_cell? wm _ z8
     clear ha a0 a1
     go_wp2_with fail
     obtain ⟨W5,hW5⟩:∃ W5,W5=wm.drew:=⟨_,rfl⟩
     have B5:Hid (Below wm.heap.size wm W5):=by
      show Below _ _ _
      rw [hW5];exact Below.drew (Below.refl _ _)
     refine qae (fun b=>b=w2.heap.size∨b=w.heap.size) (by kernel_rfl) ?_
     show wpE _ _ _ _ _ _ _ (World.drew _)
     rw [←hW5]
     clear hW5
     have S:=qkm (S.out.below HH.out B5.out)
     have x2:=(B5.out.cell (p:=⟨w.heap.size,2,none⟩) lx).trans x2
     have z8:=(B5.out.cell (p:=⟨w2.heap.size,0,none⟩) lz8).trans z8
     have BOX:=qkm (HFM.out _ S.out.fd)
     clear x0 x1 x3 x4 y7 ly B5
     refine qaf [0,1,2,3] _ _ _ _ (by kernel_rfl) ?_
     simp only [qka,qkb,qkc,qkd,qke,qkf,qkg,qkh,qki,Nat.reduceAdd,Nat.reduceSub]
     repeat (go_big_quiet_step (fail))
     refine wpQuiet_nil ?_
     refine qag 4 _ rfl (by kernel_rfl) ?_
     simp only [qkj,qkk,qkl]
     go_wp2_with fail
     refine (qgc bf nm p vo (.slice (some ⟨b,o,none⟩) p.blks.length cb) bv (.slice sa s.length sc) (.slice (some ⟨bF,oF,none⟩) (qaw p p.blks.length).length cf) (.slice (some ⟨gt,0,none⟩) p.blks.length ct) al (qad p).length cl an W5 BOX.out.box (by omega) hanb).mono ?_
     rintro e w6 ⟨rfl,rfl⟩
     go_wp2_with fail
     refine ⟨fun b o hb=>rfl,?_⟩
     refine qbq 5 _ rfl (by kernel_rfl) ?_
     simp only [qkj,qkk,qkl]
     go_wp2_with fail
     refine (qg0 gh ch (lwN p) _ ((qad p).length+an) w6 S.out.row HX.out).mono ?_
     rintro e w7 ⟨⟨v,rfl⟩,hr7,hb7⟩
     have S:=qkm (S.out.turn HH.out hb7 hr7 ⟨_,_,rfl,by decide⟩)
     clear hr7 hb7 x2 z8
     go_wp2_with fail
     refine qao (by kernel_rfl) ?_ _
     have z8:=qab S.out.b8 0
     simp only [qkc,qke] at z8
     have lz8:=World.block_lt_of_cell? w7 _ z8
     go_wp2_with fail
     refine qaz (v:=.slice (some ⟨gh,0,none⟩) (lwN p) ch) ds w7 S.out.nd S.out.df fun w' h1 h2=>⟨by simp [results,Try.results37,go_sem],?_⟩
     obtain ⟨l1,l2,l3,l4⟩:=S.out.leave HH.out h1 h2
     rw [HFD.out,hfl] at l3
     exact ⟨gh,ch,rfl,by rw [HYE.out];exact l1,hgw,l2,l3,l4⟩
  ·cases e3':(K.fin ==3)
   ·go_wp2_with fail
    refine qak (fun _=>True) (by kernel_rfl) ?_
    refine qan [0,1,2,3,4,5,6,7,8,9,10,11,12,13,14] _ _ _ _ (by kernel_rfl) ?_
    simp only [qka,qkb,qkc,qkd,qke,qkf,qkg,qkh,qki,Nat.reduceAdd,Nat.reduceSub]
    repeat (go_big_quiet_step (fail))
    refine wpQuiet_nil ?_
    clear x0 x1 x2 x3 x4 lx y7 ly BOX
    refine qay 15 _ rfl (by kernel_rfl) ?_
    simp only [qkj,qkk,qkl]
    intro wj hj
    go_wp2_with fail
    refine (qc5 (.slice sa s.length sc) s K.a wj (HVS.out.ext (Ext.below (HFM.out _ (HH.out.below _ _ S.out.fd hj)).be))).mono ?_
    rintro e w5 ⟨rfl,rfl⟩
    go_wp2_with fail
    refine ⟨qa3.refl _ _,?_⟩
    have S:=qkm (S.out.below HH.out hj)
    clear hj
    cases hsp:qam s K.a
    ·have HNO:=qkm (HEA.out (by rw [HES.out,hsp];simp))
     refine qan [16] _ _ _ _ (by kernel_rfl) ?_
     simp only [qka,qkb,qkc,qkd,qke,qkf,qkg,qkh,qki,Nat.reduceAdd,Nat.reduceSub]
     repeat (go_big_quiet_step (fail))
     refine wpQuiet_nil ?_
     refine qbh (by kernel_rfl) (fun wm hm=>?_) _
     have S:=qkm (S.out.below HH.out hm)
     clear hm
     have z8:=qab S.out.b8 0
     simp only [qkc,qke] at z8
     have lz8:=World.block_lt_of_cell? wm _ z8
     go_wp2_with fail
     refine qaz (v:=.slice (some ⟨gh,0,none⟩) (lwN p) ch) ds wm S.out.nd S.out.df fun w' h1 h2=>⟨by simp [results,Try.results37,go_sem],?_⟩
     obtain ⟨l1,l2,l3,l4⟩:=S.out.leave HH.out h1 h2
     rw [HFD.out,hfl] at l3
     exact ⟨gh,ch,rfl,by rw [HNO.out];exact l1,hgw,l2,l3,l4⟩
    ·have HYE:=qkm (HEB.out (by rw [HES.out,hsp,e2',e3'];rfl))
     obtain ⟨a0,a1, -⟩:=qa4 hsp
     have HX:Hid ((qad p).length+K.a.toNat<64*lwN p):=by
      show _ < _
      have:=HLS.out
      omega
     refine qan [16] _ _ _ _ (by kernel_rfl) ?_
     simp only [qka,qkb,qkc,qkd,qke,qkf,qkg,qkh,qki,Nat.reduceAdd,Nat.reduceSub]
     repeat (go_big_quiet_step (fail))
     refine wpQuiet_nil ?_
     refine qbh (by kernel_rfl) (fun wm hm=>?_) _
     have S:=qkm (S.out.below HH.out hm)
     clear hm
     obtain ⟨an,ha⟩:=Int.eq_ofNat_of_zero_le a0
     obtain ⟨x0,x1,x2,x3,x4,lx⟩:=cl5 S.out.b7
     rw [ha] at x2 HX HYE
     simp only [Int.toNat_natCast] at HX HYE
     have hanb:an≤1000000:=by omega
     have BOX:=qkm (HFM.out _ S.out.fd)
     obtain ⟨-, -, -, -, -, -, -,y7, -, -, -,ly⟩:=qau BOX.out.box
     have z8:=qab S.out.b8 0
     simp only [qkc,qke] at z8
     have lz8:=World.block_lt_of_cell? wm _ z8
     clear ha a0 a1
     go_wp2_with fail
     obtain ⟨W5,hW5⟩:∃ W5,W5=wm.drew:=⟨_,rfl⟩
     have B5:Hid (Below wm.heap.size wm W5):=by
      show Below _ _ _
      rw [hW5];exact Below.drew (Below.refl _ _)
     refine qae (fun b=>b=w2.heap.size∨b=w.heap.size) (by kernel_rfl) ?_
     show wpE _ _ _ _ _ _ _ (World.drew _)
     rw [←hW5]
     clear hW5
     have S:=qkm (S.out.below HH.out B5.out)
     have x2:=(B5.out.cell (p:=⟨w.heap.size,2,none⟩) lx).trans x2
     have z8:=(B5.out.cell (p:=⟨w2.heap.size,0,none⟩) lz8).trans z8
     have BOX:=qkm (HFM.out _ S.out.fd)
     clear x0 x1 x3 x4 y7 ly B5
     refine qaf [0,1,2,3] _ _ _ _ (by kernel_rfl) ?_
     simp only [qka,qkb,qkc,qkd,qke,qkf,qkg,qkh,qki,Nat.reduceAdd,Nat.reduceSub]
     repeat (go_big_quiet_step (fail))
     refine wpQuiet_nil ?_
     refine qag 4 _ rfl (by kernel_rfl) ?_
     simp only [qkj,qkk,qkl]
     go_wp2_with fail
     refine (qgc bf nm p vo (.slice (some ⟨b,o,none⟩) p.blks.length cb) bv (.slice sa s.length sc) (.slice (some ⟨bF,oF,none⟩) (qaw p p.blks.length).length cf) (.slice (some ⟨gt,0,none⟩) p.blks.length ct) al (qad p).length cl an W5 BOX.out.box (by omega) hanb).mono ?_
     rintro e w6 ⟨rfl,rfl⟩
     go_wp2_with fail
     refine ⟨fun b o hb=>rfl,?_⟩
     refine qbq 5 _ rfl (by kernel_rfl) ?_
     simp only [qkj,qkk,qkl]
     go_wp2_with fail
     refine (qg0 gh ch (lwN p) _ ((qad p).length+an) w6 S.out.row HX.out).mono ?_
     rintro e w7 ⟨⟨v,rfl⟩,hr7,hb7⟩
     have S:=qkm (S.out.turn HH.out hb7 hr7 ⟨_,_,rfl,by decide⟩)
     clear hr7 hb7 x2 z8
     go_wp2_with fail
     refine qao (by kernel_rfl) ?_ _
     have z8:=qab S.out.b8 0
     simp only [qkc,qke] at z8
     have lz8:=World.block_lt_of_cell? w7 _ z8
     go_wp2_with fail
     refine qaz (v:=.slice (some ⟨gh,0,none⟩) (lwN p) ch) ds w7 S.out.nd S.out.df fun w' h1 h2=>⟨by simp [results,Try.results37,go_sem],?_⟩
     obtain ⟨l1,l2,l3,l4⟩:=S.out.leave HH.out h1 h2
     rw [HFD.out,hfl] at l3
     exact ⟨gh,ch,rfl,by rw [HYE.out];exact l1,hgw,l2,l3,l4⟩
   ·go_wp2_with fail
    refine qak (fun _=>True) (by kernel_rfl) ?_
    refine qan [0,1,2,3,4,5,6,7,8,9,10,11,12,13,14] _ _ _ _ (by kernel_rfl) ?_
    simp only [qka,qkb,qkc,qkd,qke,qkf,qkg,qkh,qki,Nat.reduceAdd,Nat.reduceSub]
    repeat (go_big_quiet_step (fail))
    refine wpQuiet_nil ?_
    clear x0 x1 x2 x3 x4 lx y7 ly BOX
    refine qay 15 _ rfl (by kernel_rfl) ?_
    simp only [qkj,qkk,qkl]
    intro wj hj
    go_wp2_with fail
    refine (qc5 (.slice sa s.length sc) s K.a wj (HVS.out.ext (Ext.below (HFM.out _ (HH.out.below _ _ S.out.fd hj)).be))).mono ?_
    rintro e w5 ⟨rfl,rfl⟩
    go_wp2_with fail
    refine ⟨qa3.refl _ _,?_⟩
    have S:=qkm (S.out.below HH.out hj)
    clear hj
    cases hsp:qam s K.a
    ·have HNO:=qkm (HEA.out (by rw [HES.out,hsp];simp))
     refine qan [16] _ _ _ _ (by kernel_rfl) ?_
     simp only [qka,qkb,qkc,qkd,qke,qkf,qkg,qkh,qki,Nat.reduceAdd,Nat.reduceSub]
     repeat (go_big_quiet_step (fail))
     refine wpQuiet_nil ?_
     refine qbh (by kernel_rfl) (fun wm hm=>?_) _
     have S:=qkm (S.out.below HH.out hm)
     clear hm
     have z8:=qab S.out.b8 0
     simp only [qkc,qke] at z8
     have lz8:=World.block_lt_of_cell? wm _ z8
     go_wp2_with fail
     refine qaz (v:=.slice (some ⟨gh,0,none⟩) (lwN p) ch) ds wm S.out.nd S.out.df fun w' h1 h2=>⟨by simp [results,Try.results37,go_sem],?_⟩
     obtain ⟨l1,l2,l3,l4⟩:=S.out.leave HH.out h1 h2
     rw [HFD.out,hfl] at l3
     exact ⟨gh,ch,rfl,by rw [HNO.out];exact l1,hgw,l2,l3,l4⟩
    ·have HYE:=qkm (HEB.out (by rw [HES.out,hsp,e2',e3'];rfl))
     obtain ⟨a0,a1, -⟩:=qa4 hsp
     have HX:Hid ((qad p).length+K.a.toNat<64*lwN p):=by
      show _ < _
      have:=HLS.out
      omega
     refine qan [16] _ _ _ _ (by kernel_rfl) ?_
     simp only [qka,qkb,qkc,qkd,qke,qkf,qkg,qkh,qki,Nat.reduceAdd,Nat.reduceSub]
     repeat (go_big_quiet_step (fail))
     refine wpQuiet_nil ?_
     refine qbh (by kernel_rfl) (fun wm hm=>?_) _
     have S:=qkm (S.out.below HH.out hm)
     clear hm
     obtain ⟨an,ha⟩:=Int.eq_ofNat_of_zero_le a0
     obtain ⟨x0,x1,x2,x3,x4,lx⟩:=cl5 S.out.b7
     rw [ha] at x2 HX HYE
     simp only [Int.toNat_natCast] at HX HYE
     have hanb:an≤1000000:=by omega
     have BOX:=qkm (HFM.out _ S.out.fd)
     obtain ⟨-, -, -, -, -, -, -,y7, -, -, -,ly⟩:=qau BOX.out.box
     have z8:=qab S.out.b8 0
     simp only [qkc,qke] at z8
     have lz8:=World.block_lt_of_cell? wm _ z8
     clear ha a0 a1
     go_wp2_with fail
     obtain ⟨W5,hW5⟩:∃ W5,W5=wm.drew:=⟨_,rfl⟩
     have B5:Hid (Below wm.heap.size wm W5):=by
      show Below _ _ _
      rw [hW5];exact Below.drew (Below.refl _ _)
     refine qae (fun b=>b=w2.heap.size∨b=w.heap.size) (by kernel_rfl) ?_
     show wpE _ _ _ _ _ _ _ (World.drew _)
     rw [←hW5]
     clear hW5
     have S:=qkm (S.out.below HH.out B5.out)
     have x2:=(B5.out.cell (p:=⟨w.heap.size,2,none⟩) lx).trans x2
     have z8:=(B5.out.cell (p:=⟨w2.heap.size,0,none⟩) lz8).trans z8
     have BOX:=qkm (HFM.out _ S.out.fd)
     clear x0 x1 x3 x4 y7 ly B5
     refine qaf [0,1,2,3] _ _ _ _ (by kernel_rfl) ?_
     simp only [qka,qkb,qkc,qkd,qke,qkf,qkg,qkh,qki,Nat.reduceAdd,Nat.reduceSub]
     repeat (go_big_quiet_step (fail))
     refine wpQuiet_nil ?_
     refine qag 4 _ rfl (by kernel_rfl) ?_
     simp only [qkj,qkk,qkl]
     go_wp2_with fail
     refine (qgc bf nm p vo (.slice (some ⟨b,o,none⟩) p.blks.length cb) bv (.slice sa s.length sc) (.slice (some ⟨bF,oF,none⟩) (qaw p p.blks.length).length cf) (.slice (some ⟨gt,0,none⟩) p.blks.length ct) al (qad p).length cl an W5 BOX.out.box (by omega) hanb).mono ?_
     rintro e w6 ⟨rfl,rfl⟩
     go_wp2_with fail
     refine ⟨fun b o hb=>rfl,?_⟩
     refine qbq 5 _ rfl (by kernel_rfl) ?_
     simp only [qkj,qkk,qkl]
     go_wp2_with fail
     refine (qg0 gh ch (lwN p) _ ((qad p).length+an) w6 S.out.row HX.out).mono ?_
     rintro e w7 ⟨⟨v,rfl⟩,hr7,hb7⟩
     have S:=qkm (S.out.turn HH.out hb7 hr7 ⟨_,_,rfl,by decide⟩)
     clear hr7 hb7 x2 z8
     go_wp2_with fail
     refine qao (by kernel_rfl) ?_ _
     have z8:=qab S.out.b8 0
     simp only [qkc,qke] at z8
     have lz8:=World.block_lt_of_cell? w7 _ z8
     go_wp2_with fail
     refine qaz (v:=.slice (some ⟨gh,0,none⟩) (lwN p) ch) ds w7 S.out.nd S.out.df fun w' h1 h2=>⟨by simp [results,Try.results37,go_sem],?_⟩
     obtain ⟨l1,l2,l3,l4⟩:=S.out.leave HH.out h1 h2
     rw [HFD.out,hfl] at l3
     exact ⟨gh,ch,rfl,by rw [HYE.out];exact l1,hgw,l2,l3,l4⟩
theorem quu (w0 w:World) (bf:Nat) (nm:ByteArray) (p:Pr) (vo vb:Value) (bv:Nat) (vs:Value) (al:Option Addr) (cl:Nat) (vf vg:Value) (rs:List (Nat×Nat)) (X:List Nat) (s:List Bool) (n:Nat) (q2 q3 q4:Nat) (I:Nat→World→Prop)
  (hF:FdP w0 bf nm p vo vb bv vs al cl vf vg rs X w) (hvb:qbl w0 vb p.blks) (hvs:RdB w0 vs s) (hsl:s.length≤p.regs.toNat) (hX:X.length=p.blks.length) (hn:n<p.blks.length) (hbl:p.blks.length≤1000) (hil:(p.blks.getD n default).ins.length≤1000) (hia:∀ i∈(p.blks.getD n default).ins,i.args.length≤1000) (hr:0≤p.regs∧p.regs≤10000) (hLL:(qad p).length≤1000000)
  (hI:∀ k W W',I k W→Below w.heap.size W W'→KpA W W'→I k W') (hI0:I 0 w)
  (hD:∀ k W gh ch,k<(p.blks.getD n default).ins.length→I k W→FdP w0 bf nm p vo vb bv vs al cl vf vg rs X W→w.heap.size≤gh→w.heap.size≤W.heap.size→qb3 W gh ch (lwN p) (qja s (qad p).length p n k (X.getD n 0))→Calls Try.prog 38 #[.int .i64 (k:Int),.slice (some ⟨gh,0,none⟩) (lwN p) ch,.pointer (some ⟨q2,0,none⟩),.pointer (some ⟨q3,0,none⟩),.pointer (some ⟨q4,0,none⟩)] W fun e w'=>(∃ v,e=.returned v)∧I (k+1) w'∧FdP w0 bf nm p vo vb bv vs al cl vf vg rs X w'∧KpD W w') :
  Calls Try.prog 37 #[.pointer (some ⟨bf,0,none⟩),.int .i64 (n:Int),.func (.func 38) #[] #[.pointer (some ⟨q2,0,none⟩),.pointer (some ⟨q3,0,none⟩),.pointer (some ⟨q4,0,none⟩)]] w fun e w'=>∃ gh ch,e=.returned (.slice (some ⟨gh,0,none⟩) (lwN p) ch)∧qb3 w' gh ch (lwN p) (qci s (qad p).length (p.blks.getD n default) (qar p n) (X.getD n 0))∧w.heap.size≤gh∧I (p.blks.getD n default).ins.length w'∧FdP w0 bf nm p vo vb bv vs al cl vf vg rs X w'∧w.heap.size≤w'.heap.size:=by
 have HH:=qkm (hF.hyp hI)
 have HF:=qkm hF
 have HD:=qkm hD
 have HI0:=qkm hI0
 have HVS:=qkm hvs
 have HIA:=qkm hia
 have HRL:=qkm (fun k hk=>qhk (s:=s) hsl hn (k:=k) hk)
 have HFR:=qkm (qn8 p n hn)
 have hLW:lwN p≤1000000:=by unfold lwN;omega
 have HOUT:Hid (∀ h y:Nat,y<64*lwN p→True):=fun _ _ _=>trivial
 clear hF hI hD hI0 hvs hia HOUT
 have hvb':=hvb
 obtain ⟨ab,cb,rfl,b1,b2, -⟩:=hvb'
 unfold maxLen at b2
 have HBK:=qkm (qbl.at hvb).2
 clear hvb
 obtain ⟨b,o,vi,hab,hvi,c0,c1,c2,c3,c4⟩:=HBK.out n hn
 subst hab
 have hE:=Ext.below HF.out.be
 replace c0:=hE _ _ c0
 replace c1:=hE _ _ c1
 replace c2:=hE _ _ c2
 replace c3:=hE _ _ c3
 replace c4:=hE _ _ c4
 have HVI:=qkm hvi
 obtain ⟨ai,ci,rfl,i1,i2, -⟩:=hvi
 unfold maxLen at i2
 have g1:decide (n<p.blks.length)=true:=qkn hn
 have g2:decide ((n:Int)<(p.blks.length:Int))=true:=qkn (by omega)
 obtain ⟨gt,ct,hvg,hgB,ht1,ht2,hgt, -,htc⟩:=HF.out.tb.form (by omega)
 unfold maxLen at ht2
 rw [hX] at hvg ht1
 subst hvg
 have e1:=htc n (by omega)
 have HROW:=qkm (HF.out.tb.row n (by omega))
 unfold qft at e1
 obtain ⟨af,cf,rfl⟩:=qa6 HF.out.fr
 have hfl:(qaw p p.blks.length).length=p.blks.length:=by unfold qaw;simp
 obtain ⟨a',c',e,f1,f2,hfc⟩:=qa8.rd HF.out.fr
 simp only [Value.slice.injEq] at e
 obtain ⟨rfl, -,rfl⟩:=e
 unfold maxLen at f2
 obtain ⟨bF,oF,haf,e2⟩:=hfc n (by omega)
 subst haf
 simp only [Nat.mul_one,Nat.add_zero] at e2
 rw [HFR.out] at e2
 have g3:decide (n<(qaw p p.blks.length).length)=true:=qkn (by omega)
 have g4:decide ((n:Int)<((qaw p p.blks.length).length:Int))=true:=qkn (by omega)
 clear hfc htc hE
 have HK:Hid (∀ k,(qek s (qad p).length ((p.blks.getD n default).ins.take k) (X.getD n 0,qar p n)).2=qar p n+ldN ((p.blks.getD n default).ins.take k)):=fun k=>qj8 ..
 have HHD:Hid (∀ k,qja s (qad p).length p n k (X.getD n 0)=(qek s (qad p).length ((p.blks.getD n default).ins.take (k+1)) (X.getD n 0,qar p n)).1):=fun _=>rfl
 have HBT:Hid (∀ k,k<(p.blks.getD n default).ins.length→qek s (qad p).length ((p.blks.getD n default).ins.take (k+1)) (X.getD n 0,qar p n)=qjs s (qad p).length (qek s (qad p).length ((p.blks.getD n default).ins.take k) (X.getD n 0,qar p n)) ((p.blks.getD n default).ins.getD k default)):=fun k hk=>qjz _ _ _ _ k hk
 obtain ⟨hrow,hrB⟩:=HROW.out
 have HROW:=qkm hrow
 have hbfw:bf<w.heap.size:=HF.out.lt
 clear hrow hrB HBK
 generalize p.blks.getD n default=K at *
 generalize X.getD n 0=H0 at *
 generalize rs.getD n (0,0)=gc at *
 obtain ⟨gr,cr⟩:=gc
 dsimp only at HROW e1
 refine callsIn_wide.1 (callsIn_of_wp_marks (n:=6) Try.func37 rfl trivial ?_ rfl)
 simp only [Try.ntmps37,List.size_toArray,List.length_cons,List.length_nil,Nat.reduceAdd,Nat.reduceSub,Array.replicate_succ,Array.replicate_zero,List.push_toArray,List.append_toArray,List.nil_append,List.cons_append]
 refine wpIn_wide.2 ?_
 obtain ⟨y0,y1,y2,y3,y4,y5,y6,y7,y8,y9,y10,ly⟩:=qau HF.out.box
 have lb:=World.block_lt_of_cell? w _ c0
 have lF:=World.block_lt_of_cell? w _ e2
 go_wp2_with fail
 have HB1:=qkm (qaa w (.cells #[.slice ai K.ins.length ci,.int .i64 K.fin,.int .i64 K.a,.int .i64 K.to,.int .i64 K.els] 51))
 have H7:Hid ((w.alloc (.cells #[.slice ai K.ins.length ci,.int .i64 K.fin,.int .i64 K.a,.int .i64 K.to,.int .i64 K.els] 51)).heap[w.heap.size]?=some (qpy (.slice ai K.ins.length ci) K)):=heap_alloc_new w _
 generalize w.alloc (.cells #[.slice ai K.ins.length ci,.int .i64 K.fin,.int .i64 K.a,.int .i64 K.to,.int .i64 K.els] 51)=W1 at *
 refine (qwz gr cr (lwN p) H0 W1 (HROW.out.below HB1.out) hLW).mono ?_
 rintro e w2 ⟨gh,ch,rfl,hrh,hgh,hb2⟩
 have HRH:=qkm hrh
 have HB2:=qkm (HB1.out.trans (hb2.mono HB1.out.size))
 have H7:=qkm ((hb2.block _ (qkp H7.out).1).trans H7.out)
 have hg2:w.heap.size≤gh:=Nat.le_trans HB1.out.size hgh
 have hlg:=hrh.lt
 have HF2:Hid (FdP w0 bf nm p vo (.slice (some ⟨b,o,none⟩) p.blks.length cb) bv vs al cl (.slice (some ⟨bF,oF,none⟩) (qaw p p.blks.length).length cf) (.slice (some ⟨gt,0,none⟩) p.blks.length ct) rs X w2):=FdM.below HF.out HB2.out
 have HIT2:=qkm (HH.out.it _ _ _ HI0.out HB2.out (KpA.below HB2.out))
 clear hrh hgh hb2 HB1 HF y0 y1 y2 y3 y4 y5 y6 y7 y8 y9 y10 ly lb lF e1 c0 c1 c2 c3 c4 hgt HROW
 have e2:=(HB2.out.cell (p:=⟨bF,oF+n,none⟩) (World.block_lt_of_cell? w _ e2)).trans e2
 have lF:=World.block_lt_of_cell? w2 _ e2
 obtain ⟨y0,y1,y2,y3,y4,y5,y6,y7,y8,y9,y10,ly⟩:=qau HF2.out.box
 obtain ⟨x0,x1,x2,x3,x4,lx⟩:=cl5 H7.out
 go_wp2_with fail
 obtain ⟨FD,hFD⟩:∃ FD,FD=(FdP w0 bf nm p vo (.slice (some ⟨b,o,none⟩) p.blks.length cb) bv vs al cl (.slice (some ⟨bF,oF,none⟩) (qaw p p.blks.length).length cf) (.slice (some ⟨gt,0,none⟩) p.blks.length ct) rs X):=⟨_,rfl⟩
 have HFM:Hid (∀ W,FD W→FdM w0 bf nm p vo (.slice (some ⟨b,o,none⟩) p.blks.length cb) bv vs (.slice al (qad p).length cl) (.slice (some ⟨bF,oF,none⟩) (qaw p p.blks.length).length cf) (.slice (some ⟨gt,0,none⟩) p.blks.length ct) (qad p) (qaw p p.blks.length) rs X (lwN p) W):=fun W hW=>by rw [hFD] at hW;exact hW
 rw [←hFD] at HH HF2 HD
 have HFD:=qkm hFD
 clear hFD y0 y1 y2 y3 y4 y5 y6 y7 y8 y9 y10 ly x0 x1 x2 x3 x4 lx e2 lF
 have S0:Hid (qjq FD I w (qpy (.slice ai K.ins.length ci) K) gh ch w2.heap.size (lwN p) (qek s (qad p).length (K.ins.take 0) (H0,qar p n)).1 0 [] (w2.alloc (.cells #[.slice (some ⟨gh,0,none⟩) (lwN p) ch] 87))):=by
  have hb:=qaa w2 (.cells #[.slice (some ⟨gh,0,none⟩) (lwN p) ch] 87)
  refine ⟨HH.out.below _ _ HF2.out hb,?_,(hb.block _ (qkp H7.out).1).trans H7.out,heap_alloc_new w2 _,HH.out.it _ _ _ HIT2.out (hb.mono HB2.out.size) (KpA.below hb),List.nodup_nil,(fun D hD=>by cases hD),(fun D hD=>by cases hD),hg2,Nat.le_trans HB2.out.size hb.size⟩
  exact HRH.out.below hb
 clear HF2 HIT2 HRH H7 HI0 g3 g4
 refine wp_loop (fun a' w'=>∃ (k:Nat) (ds:List Nat) (u10 u11 u12 u40 u41 u42 u43 u44 u45 u46 u47 u48 u49 u50 u51 u52 u53 u54 u55 u56 u57 u58 u59 u60 u61 u62 u63 u64 u65 u66 u67 u68 u69 u70 u71 u72 u73 u74 u75 u76 u77 u78 u79 u80 u81 u82 u83 u84 u85 u86 u87 u88 u89 u90 u91 u92 u93 u94:Value),k≤K.ins.length∧Hid (qjq FD I w (qpy (.slice ai K.ins.length ci) K) gh ch w2.heap.size (lwN p) (qek s (qad p).length (K.ins.take k) (H0,qar p n)).1 k ds w')∧a'={ tmps:=#[.pointer (some ⟨bf,0,none⟩),.int .i64 (n:Int),.func (.func 38) #[] #[.pointer (some ⟨q2,0,none⟩),.pointer (some ⟨q3,0,none⟩),.pointer (some ⟨q4,0,none⟩)],undef,undef,undef,.slice none 0 0,.pointer (some ⟨w.heap.size,0,none⟩),.pointer (some ⟨w2.heap.size,0,none⟩),.int .i64 ((qar p n+ldN (K.ins.take k):Nat):Int),u10,u11,u12,.pointer (some ⟨bf,0,none⟩),.pointer (some ⟨bf,0,none⟩),.pointer (some ⟨bf,0,none⟩),.pointer (some ⟨bf,5,none⟩),.slice (some ⟨b,o,none⟩) p.blks.length cb,.int .i64 (n:Int),.pointer (some ⟨b,o+n*5,none⟩),.agg #[.slice ai K.ins.length ci,.int .i64 K.fin,.int .i64 K.a,.int .i64 K.to,.int .i64 K.els],.pointer (some ⟨bf,0,none⟩),.pointer (some ⟨bf,0,none⟩),.pointer (some ⟨bf,10,none⟩),.slice (some ⟨gt,0,none⟩) p.blks.length ct,.int .i64 (n:Int),.pointer (some ⟨gt,n,none⟩),.slice (some ⟨gr,0,none⟩) (lwN p) cr,.slice (some ⟨gh,0,none⟩) (lwN p) ch,.pointer (some ⟨bf,0,none⟩),.pointer (some ⟨bf,0,none⟩),.pointer (some ⟨bf,9,none⟩),.slice (some ⟨bF,oF,none⟩) p.blks.length cf,.int .i64 (n:Int),.pointer (some ⟨bF,oF+n,none⟩),.int .i64 ((qar p n:Nat):Int),.pointer (some ⟨w.heap.size,0,none⟩),.slice ai K.ins.length ci,.int .i64 (K.ins.length:Int),.int .i64 (k:Int),u40,u41,u42,u43,u44,u45,u46,u47,u48,u49,u50,u51,u52,u53,u54,u55,u56,u57,u58,u59,u60,u61,u62,u63,u64,u65,u66,u67,u68,u69,u70,u71,u72,u73,u74,u75,u76,u77,u78,u79,u80,u81,u82,u83,u84,u85,u86,u87,u88,u89,u90,u91,u92,u93,u94],defers:=qnv ds })
  (fun a' _=>K.ins.length-(intOf (a'.tmps.getD 39 undef)).toNat) ⟨0,[],_,_,_,_,_,_,_,_,_,_,_,_,_,_,_,_,_,_,_,_,_,_,_,_,_,_,_,_,_,_,_,_,_,_,_,_,_,_,_,_,_,_,_,_,_,_,_,_,_,_,_,_,_,_,_,_,_,_,Nat.zero_le _,S0,rfl⟩ ?_
 clear S0
 rintro a' wr ⟨k,ds,u10,u11,u12,u40,u41,u42,u43,u44,u45,u46,u47,u48,u49,u50,u51,u52,u53,u54,u55,u56,u57,u58,u59,u60,u61,u62,u63,u64,u65,u66,u67,u68,u69,u70,u71,u72,u73,u74,u75,u76,u77,u78,u79,u80,u81,u82,u83,u84,u85,u86,u87,u88,u89,u90,u91,u92,u93,u94,hk,S,rfl⟩
 by_cases hlt:k<K.ins.length
 ·have q1:decide (k<K.ins.length)=true:=qkn hlt
  have q2:decide ((k:Int)<(K.ins.length:Int))=true:=qkn (by omega)
  obtain ⟨bi,oi,v9,hai,lbi,hva,d0,d1,d2,d3,d4,d5,d6,d7,d8,d9,d10⟩:=(qbd.at HVI.out).2 k hlt
  subst hai
  have hM:=HFM.out _ S.out.fd
  have hE:=Ext.below hM.be
  replace d0:=hE _ _ d0
  replace d1:=hE _ _ d1
  replace d2:=hE _ _ d2
  replace d3:=hE _ _ d3
  replace d4:=hE _ _ d4
  replace d5:=hE _ _ d5
  replace d6:=hE _ _ d6
  replace d7:=hE _ _ d7
  replace d8:=hE _ _ d8
  replace d9:=hE _ _ d9
  replace d10:=hE _ _ d10
  replace lbi:=Nat.lt_of_lt_of_le lbi hM.be.size
  have HVA:=qkm hva
  obtain ⟨va,vc,rfl, -⟩:=hva
  have HRK:=qkm (HRL.out k hlt)
  have HBK:=qkm (HBT.out k hlt)
  have HKK:=qkm (HK.out k)
  have HK1:=qkm (HK.out (k+1))
  have HHK:=qkm (HHD.out k)
  have HAK:=qkm (HIA.out _ (qch (d:=default) hlt))
  clear hE hM
  generalize K.ins.getD k default=i at *
  obtain ⟨ld,hld⟩:∃ ld,ld=qar p n+ldN (K.ins.take k):=⟨_,rfl⟩
  rw [←hld] at HRK HKK ⊢
  have HLD:=qkm hld
  clear hld
  have HH3:=HH
  have hlgr:=S.out.row.lt
  have hghw:=S.out.gB
  have hwr:=S.out.le
  go_wp2_with fail
  have S5:=qkm (S.out.below HH.out (qaa wr (.cells #[.int .i64 i.op,.int .i64 i.d,.int .i64 i.a,.int .i64 i.b,.int .i64 i.fn,.int .i64 i.obj,.int .i64 i.off,.int .i64 i.size,.int .u32 i.num,.slice va i.args.length vc,.bool i.log] 58)))
  have H11:Hid ((wr.alloc (.cells #[.int .i64 i.op,.int .i64 i.d,.int .i64 i.a,.int .i64 i.b,.int .i64 i.fn,.int .i64 i.obj,.int .i64 i.off,.int .i64 i.size,.int .u32 i.num,.slice va i.args.length vc,.bool i.log] 58)).heap[wr.heap.size]?=some (qdd i (.slice va i.args.length vc))):=heap_alloc_new wr _
  have hz5:(wr.alloc (.cells #[.int .i64 i.op,.int .i64 i.d,.int .i64 i.a,.int .i64 i.b,.int .i64 i.fn,.int .i64 i.obj,.int .i64 i.off,.int .i64 i.size,.int .u32 i.num,.slice va i.args.length vc,.bool i.log] 58)).heap.size ≥ wr.heap.size+1:=by simp
  clear S d0 d1 d2 d3 d4 d5 d6 d7 d8 d9 d10 lbi
  generalize wr.alloc (.cells #[.int .i64 i.op,.int .i64 i.d,.int .i64 i.a,.int .i64 i.b,.int .i64 i.fn,.int .i64 i.obj,.int .i64 i.off,.int .i64 i.size,.int .u32 i.num,.slice va i.args.length vc,.bool i.log] 58)=W5 at *
  refine (qor bf i va i.args.length vc (ld:Int) W5).mono ?_
  rintro e w4 ⟨rfl,hw4⟩
  have R4:Hid (w4.heap[W5.heap.size]?=some (.cells #[.pointer (some ⟨bf,0,none⟩)] 79)∧w4.heap[W5.heap.size+1]?=some (qdd i (.slice va i.args.length vc))∧w4.heap[W5.heap.size+2]?=some (.cells #[.int .i64 (ld:Int)] 3)∧Below W5.heap.size W5 w4∧w4.heap.size=W5.heap.size+3):=by
   have h0:=qai [.cells #[.pointer (some ⟨bf,0,none⟩)] 79,qdd i (.slice va i.args.length vc),.cells #[.int .i64 (ld:Int)] 3] W5 0 (by simp)
   have h1:=qai [.cells #[.pointer (some ⟨bf,0,none⟩)] 79,qdd i (.slice va i.args.length vc),.cells #[.int .i64 (ld:Int)] 3] W5 1 (by simp)
   have h2:=qai [.cells #[.pointer (some ⟨bf,0,none⟩)] 79,qdd i (.slice va i.args.length vc),.cells #[.int .i64 (ld:Int)] 3] W5 2 (by simp)
   have h3:=qa0 [.cells #[.pointer (some ⟨bf,0,none⟩)] 79,qdd i (.slice va i.args.length vc),.cells #[.int .i64 (ld:Int)] 3] W5
   have h4:=qb9 [.cells #[.pointer (some ⟨bf,0,none⟩)] 79,qdd i (.slice va i.args.length vc),.cells #[.int .i64 (ld:Int)] 3] W5
   have e:w4=qbj W5 [.cells #[.pointer (some ⟨bf,0,none⟩)] 79,qdd i (.slice va i.args.length vc),.cells #[.int .i64 (ld:Int)] 3]:=hw4
   rw [←e] at h0 h1 h2 h3 h4
   exact ⟨h0,h1,h2,h3,h4⟩
  clear hw4
  obtain ⟨r0,r1,r2,r3,r4⟩:=R4.out
  have S4:=qkm (S5.out.below HH.out r3)
  have H11:=qkm ((r3.block _ (qkp H11.out).1).trans H11.out)
  have BOX:=qkm (HFM.out _ S4.out.fd)
  clear S5 R4
  go_wp2_with fail
  have hlg4:gh<w4.heap.size:=by omega
  have hb84:w2.heap.size<w4.heap.size:=(qkp S4.out.b8).1
  have hb8g:w2.heap.size≠gh:=by
   obtain ⟨cur,hg⟩:=S4.out.row.heap
   intro e
   have h8:=S4.out.b8
   rw [e,hg] at h8
   simp only [Option.some.injEq,Obj.cells.injEq] at h8
   exact absurd h8.2.1 (by decide)
  refine (wpIn_wide (n:=6)).1 ?_
  refine qg6 (n:=6) (α:=Nat) (gf:=97) rfl (enters_of Try.func97 (by kernel_rfl) rfl) (fun x=>#[.int .i64 (x:Int)]) (fun _=>rfl) (fun _ A B=>Below A.heap.size A B) (fun _ A B=>KpH gh (w4.heap.size+1) A B) (fun _ x _=>x∈qbm s (qad p).length ld i) (fun xs=>xs=qbm s (qad p).length ld i)
   (fun s A B h b hb hA=>h.block b hA) (fun _ _ _ _ h k=>h.trans k) (fun pre x W o h A=>KpH.put _ _ A o) (fun pre x W o h=>h)
   (fun r J Jx hJ hY h0=>?it)
   (fun pre W=>(w4.heap.size+2≤W.heap.size∧But gh w4 W)∧qb3 W gh ch (lwN p) (pre.foldl ql9 (qek s (qad p).length (K.ins.take k) (H0,qar p n)).1)) (fun _ _ _=>False) (fun s W o h=>?hi) (fun _ _ _ _ h=>h) (fun s A B h hs=>?his)
   (fun r=>?h0) ?_ ?assign ?body ?done (fun _ _ _ h=>h.elim)
  case it=>
   have hlw:=qd9 w4 r
   have key:∀ {b:Nat} {o:Obj},w4.heap[b]?=some o→(qfr w4 r).heap[b]?=some o:=fun {b o} hc=>(hlw.block b (qkp hc).1).trans hc
   have hz:=qfe w4 r
   have h0b:=BOX.out.hB
   exact qn7 w0 bf nm p vo (.slice (some ⟨b,o,none⟩) p.blks.length cb) bv vs (.slice (some ⟨bF,oF,none⟩) (qaw p p.blks.length).length cf) (.slice (some ⟨gt,0,none⟩) p.blks.length ct) al (qad p).length cl (W5.heap.size+1) (W5.heap.size+2) W5.heap.size gh (w4.heap.size+1) i (.slice va i.args.length vc) ld s 5 (w4.heap.size+1) (qfr w4 r) ⟨key BOX.out.box,key r1,key r2,key r0,BOX.out.be.trans (hlw.mono BOX.out.be.size)⟩ HVS.out HVA.out HAK.out (by omega) (by omega) (by omega) (by omega) (fun b hb=>by rcases hb with rfl|rfl|rfl|rfl <;> omega) (by omega) (by omega) J Jx hJ (fun pre x W hj hx=>hY pre x W hj hx) h0
  case hi=>
   exact ⟨⟨by simpa using h.1.1,h.1.2.os,h.1.2.tape,h.1.2.output,Nat.le_trans h.1.2.size (by simp),fun b hb hne=>(World.putObj_heap_other (by omega)).trans (h.1.2.block b hb hne)⟩,h.2.but (qly W _ o) (by omega)⟩
  case his=>
   exact ⟨⟨Nat.le_trans h.1.1 hs.size,hs.os.trans h.1.2.os,hs.tape.trans h.1.2.tape,hs.output.trans h.1.2.output,Nat.le_trans h.1.2.size hs.size,fun b hb hne=>(hs.block b (Nat.lt_of_lt_of_le hb h.1.2.size)).trans (h.1.2.block b hb hne)⟩,h.2.below hs⟩
  case h0=>
   have hlw:=qd9 w4 r
   exact ⟨⟨by rw [qfe];omega,hlw.os,hlw.tape,hlw.output,hlw.size,fun b hb _=>hlw.block b hb⟩,S4.out.row.below hlw⟩
  case assign=>
   intro l x W Kc hKc
   dsimp only
   gi_wp2
   exact hKc
  case body=>
   intro l pre x W hi hpr
   have HX:=qkm (HRK.out x hpr)
   have HI:=qkm hi
   have z8:=qab ((hi.1.2.block _ hb84 hb8g).trans S4.out.b8) 0
   simp only [qkc,qke] at z8
   have lz8:=World.block_lt_of_cell? W _ z8
   have HPU:=qkm (qg0 gh ch (lwN p) _ x W hi.2 HX.out)
   have hWs:=hi.1.1
   clear hi hpr
   gi_wp2
   refine (callsIn_wide.2 HPU.out).mono ?_
   clear HPU
   rintro e w7 ⟨⟨v,rfl⟩,hr7,hb7⟩
   gi_wp2
   refine ⟨⟨hb7.block _ (by omega) (by omega),hb7.block _ (by omega) (by omega)⟩,KpH.but hb7,⟨Nat.le_trans hWs hb7.size,HI.out.1.2.trans ?_⟩,?_⟩
   ·exact hb7
   ·rw [List.foldl_append]
    exact hr7
  case done=>
   intro xs W hS hi hK
   have hS:xs=qbm s (qad p).length ld i:=hS
   subst hS
   have HKW:=qkm hK
   have hWs:=hi.1.1
   have SW:=S4.out.turn HH.out hi.1.2 hi.2 ⟨_,_,rfl,by decide⟩
   have hD:w4.heap.size ∉ ds:=fun h=>by have:=(qkp (S4.out.df _ h)).1;omega
   have SW:=qkm (SW.mark HKW.out hD (by omega))
   have lw11:=(qkp H11.out).1
   have H11:=qkm ((hi.1.2.block _ lw11 (by omega)).trans H11.out)
   have HN0:Hid (qgt i=true→(qek s (qad p).length (K.ins.take (k+1)) (H0,qar p n)).1=0):=fun h=>by
    rw [HBK.out];unfold qjs;rw [if_pos h]
   have HN1:Hid (qgt i=false→(qek s (qad p).length (K.ins.take (k+1)) (H0,qar p n)).1=(qbm s (qad p).length ld i).foldl ql9 (qek s (qad p).length (K.ins.take k) (H0,qar p n)).1):=fun h=>by
    rw [HBK.out];unfold qjs;rw [if_neg (by simp [h]),HKK.out]
   have HL5:Hid (qar p n+ldN (K.ins.take (k+1))=if i.op=5 then ld+1 else ld):=by
    show _=_
    rw [←HK1.out,HBK.out];unfold qjs;rw [HKK.out]
   have HLB:Hid (i.op=5→ld≤64000000):=fun h=>by
    have:=HRK.out ld (by unfold qbm;rw [if_pos h];simp)
    omega
   clear hi hK hS S4 HBK HKK HK1 HRK r0 r1 r2 r3 r4 BOX hD
   obtain ⟨d0, -, -, -, -, -, -, -, -, -, -,ld0⟩:=qau H11.out
   have z8:=qab SW.out.b8 0
   simp only [qkc,qke] at z8
   have lz8:=World.block_lt_of_cell? W _ z8
   dsimp only
   cases h5:(i.op ==5)
   ·have HLN:Hid (qar p n+ldN (K.ins.take (k+1))=ld):=by
     show _=_
     rw [HL5.out,if_neg (by simpa using h5)]
    cases h12:(i.op ==12)
    ·cases h9:(i.op ==9)
     ·have HNN:=qkm (HN1.out (by unfold qgt;rw [h12,h9];rfl))
      go_wp2_with fail
      refine (HD.out k W gh ch hlt SW.out.it SW.out.fd SW.out.gB SW.out.le (by rw [HHK.out,HNN.out];exact SW.out.row)).mono ?_
      rintro e w8 ⟨⟨v,rfl⟩,hi8,hf8,hd8⟩
      have S8:=qkm (SW.out.done ⟨_,_,rfl,by decide,by decide⟩ hd8 hf8 hi8)
      rw [←HNN.out] at S8
      clear hi8 hf8 hd8
      go_wp2_with fail
      rw [show (k:Int)+1=((k+1:Nat):Int) by omega]
      refine ⟨⟨k+1,w4.heap.size::ds,_,_,_,_,_,_,_,_,_,_,_,_,_,_,_,_,_,_,_,_,_,_,_,_,_,_,_,_,_,_,_,_,_,_,_,_,_,_,_,_,_,_,_,_,_,_,_,_,_,_,_,_,_,_,_,_,_,_,hlt,S8,by rw [HLN.out];rfl⟩,?_⟩
      simp [intOf]
      omega
     ·have HNN:=qkm (HN0.out (by unfold qgt;rw [h12,h9];rfl))
      obtain ⟨wC,hcl,hrC,hbC⟩:=SW.out.row.clear
      have SC:=qkm (SW.out.turn HH.out hbC hrC ⟨_,_,rfl,by decide⟩)
      have z8:=qab SC.out.b8 0
      simp only [qkc,qke] at z8
      have lz8:=World.block_lt_of_cell? wC _ z8
      go_wp2_with fail
      refine (HD.out k wC gh ch hlt SC.out.it SC.out.fd SC.out.gB SC.out.le (by rw [HHK.out,HNN.out];exact SC.out.row)).mono ?_
      rintro e w8 ⟨⟨v,rfl⟩,hi8,hf8,hd8⟩
      have S8:=qkm (SC.out.done ⟨_,_,rfl,by decide,by decide⟩ hd8 hf8 hi8)
      rw [←HNN.out] at S8
      clear hi8 hf8 hd8
      go_wp2_with fail
      rw [show (k:Int)+1=((k+1:Nat):Int) by omega]
      refine ⟨⟨k+1,w4.heap.size::ds,_,_,_,_,_,_,_,_,_,_,_,_,_,_,_,_,_,_,_,_,_,_,_,_,_,_,_,_,_,_,_,_,_,_,_,_,_,_,_,_,_,_,_,_,_,_,_,_,_,_,_,_,_,_,_,_,_,_,hlt,S8,by rw [HLN.out];rfl⟩,?_⟩
      simp [intOf]
      omega
    ·have HNN:=qkm (HN0.out (by unfold qgt;rw [h12];rfl))
     obtain ⟨wC,hcl,hrC,hbC⟩:=SW.out.row.clear
     have SC:=qkm (SW.out.turn HH.out hbC hrC ⟨_,_,rfl,by decide⟩)
     have z8:=qab SC.out.b8 0
     simp only [qkc,qke] at z8
     have lz8:=World.block_lt_of_cell? wC _ z8
     go_wp2_with fail
     refine (HD.out k wC gh ch hlt SC.out.it SC.out.fd SC.out.gB SC.out.le (by rw [HHK.out,HNN.out];exact SC.out.row)).mono ?_
     rintro e w8 ⟨⟨v,rfl⟩,hi8,hf8,hd8⟩
     have S8:=qkm (SC.out.done ⟨_,_,rfl,by decide,by decide⟩ hd8 hf8 hi8)
     rw [←HNN.out] at S8
     clear hi8 hf8 hd8
     go_wp2_with fail
     rw [show (k:Int)+1=((k+1:Nat):Int) by omega]
     refine ⟨⟨k+1,w4.heap.size::ds,_,_,_,_,_,_,_,_,_,_,_,_,_,_,_,_,_,_,_,_,_,_,_,_,_,_,_,_,_,_,_,_,_,_,_,_,_,_,_,_,_,_,_,_,_,_,_,_,_,_,_,_,_,_,_,_,_,_,hlt,S8,by rw [HLN.out];rfl⟩,?_⟩
     simp [intOf]
     omega
   ·have HLN:Hid (qar p n+ldN (K.ins.take (k+1))=ld+1):=by
     show _=_
     rw [HL5.out,if_pos (by simpa using h5)]
    have h12:(i.op ==12)=false:=by
     have e:i.op=5:=by simpa using h5
     rw [e];rfl
    have h9:(i.op ==9)=false:=by
     have e:i.op=5:=by simpa using h5
     rw [e];rfl
    have HNN:=qkm (HN1.out (by unfold qgt;rw [h12,h9];rfl))
    have hlb:=HLB.out (by simpa using h5)
    go_wp2_with fail
    refine (HD.out k W gh ch hlt SW.out.it SW.out.fd SW.out.gB SW.out.le (by rw [HHK.out,HNN.out];exact SW.out.row)).mono ?_
    rintro e w8 ⟨⟨v,rfl⟩,hi8,hf8,hd8⟩
    have S8:=qkm (SW.out.done ⟨_,_,rfl,by decide,by decide⟩ hd8 hf8 hi8)
    rw [←HNN.out] at S8
    clear hi8 hf8 hd8
    go_wp2_with fail
    rw [show (k:Int)+1=((k+1:Nat):Int) by omega,show (ld:Int)+1=((ld+1:Nat):Int) by omega]
    refine ⟨⟨k+1,w4.heap.size::ds,_,_,_,_,_,_,_,_,_,_,_,_,_,_,_,_,_,_,_,_,_,_,_,_,_,_,_,_,_,_,_,_,_,_,_,_,_,_,_,_,_,_,_,_,_,_,_,_,_,_,_,_,_,_,_,_,_,_,hlt,S8,by rw [HLN.out];rfl⟩,?_⟩
    simp [intOf]
    omega
 ·obtain rfl:k=K.ins.length:=by omega
  rw [List.take_length] at S
  have HEA:Hid (qbs s K=false→qci s (qad p).length K (qar p n) H0=(qek s (qad p).length K.ins (H0,qar p n)).1):=fun h=>by
   unfold qci qxd;rw [if_neg (by simp [h])]
  have HEB:Hid (qbs s K=true→qci s (qad p).length K (qar p n) H0=ql9 (qek s (qad p).length K.ins (H0,qar p n)).1 ((qad p).length+K.a.toNat)):=fun h=>by
   unfold qci qxd;rw [if_pos h]
  have HES:Hid (qbs s K=((K.fin ==2 || K.fin ==3) && qam s K.a)):=rfl
  have HLS:Hid ((qad p).length+p.regs.toNat≤64*lwN p):=by
   show _≤_
   unfold lwN;omega
  have hgw:=S.out.gB
  clear HRL HBT HHD HK HVI
  obtain ⟨x0,x1,x2,x3,x4,lx⟩:=cl5 S.out.b7
  have BOX:=qkm (HFM.out _ S.out.fd)
  obtain ⟨-, -, -, -, -, -, -,y7, -, -, -,ly⟩:=qau BOX.out.box
  have hvs':=HVS.out
  obtain ⟨sa,sc,rfl,s1,s2, -⟩:=hvs'
  unfold maxLen at s2
  cases e2':(K.fin ==2)
  ·cases e3':(K.fin ==3)
   ·have HNO:=qkm (HEA.out (by rw [HES.out,e2',e3'];rfl))
    go_wp2_with fail
    refine qak (fun _=>True) (by kernel_rfl) ?_
    refine qan [0,1,2,3,4,5,6,7,8,9,10,11,12,13,14] _ _ _ _ (by kernel_rfl) ?_
    simp only [qka,qkb,qkc,qkd,qke,qkf,qkg,qkh,qki,Nat.reduceAdd,Nat.reduceSub]
    repeat (go_big_quiet_step (fail))
    refine wpQuiet_nil ?_
    clear x0 x1 x2 x3 x4 lx y7 ly BOX
    refine qay 15 _ rfl (by kernel_rfl) ?_
    simp only [qkj,qkk,qkl]
    intro wj hj
    go_wp2_with fail
    refine ⟨qa3.refl _ _,?_⟩
    have S:=qkm (S.out.below HH.out hj)
    clear hj
    refine qan [16] _ _ _ _ (by kernel_rfl) ?_
    simp only [qka,qkb,qkc,qkd,qke,qkf,qkg,qkh,qki,Nat.reduceAdd,Nat.reduceSub]
    repeat (go_big_quiet_step (fail))
    refine wpQuiet_nil ?_
    refine qbh (by kernel_rfl) (fun wm hm=>?_) _
    have S:=qkm (S.out.below HH.out hm)
    clear hm
    have z8:=qab S.out.b8 0
    simp only [qkc,qke] at z8
    have lz8:=World.block_lt_of_cell? wm _ z8
    go_wp2_with fail
    refine qaz (v:=.slice (some ⟨gh,0,none⟩) (lwN p) ch) ds wm S.out.nd S.out.df fun w' h1 h2=>⟨by simp [results,Try.results37,go_sem],?_⟩
    obtain ⟨l1,l2,l3,l4⟩:=S.out.leave HH.out h1 h2
    rw [HFD.out,hfl] at l3
    exact ⟨gh,ch,rfl,by rw [HNO.out];exact l1,hgw,l2,l3,l4⟩
   ·go_wp2_with fail
    refine qak (fun _=>True) (by kernel_rfl) ?_
    refine qan [0,1,2,3,4,5,6,7,8,9,10,11,12,13,14] _ _ _ _ (by kernel_rfl) ?_
    simp only [qka,qkb,qkc,qkd,qke,qkf,qkg,qkh,qki,Nat.reduceAdd,Nat.reduceSub]
    repeat (go_big_quiet_step (fail))
    refine wpQuiet_nil ?_
    clear x0 x1 x2 x3 x4 lx y7 ly BOX
    refine qay 15 _ rfl (by kernel_rfl) ?_
    simp only [qkj,qkk,qkl]
    intro wj hj
    go_wp2_with fail
    refine (qc5 (.slice sa s.length sc) s K.a wj (HVS.out.ext (Ext.below (HFM.out _ (HH.out.below _ _ S.out.fd hj)).be))).mono ?_
    rintro e w5 ⟨rfl,rfl⟩
    go_wp2_with fail
    refine ⟨qa3.refl _ _,?_⟩
    have S:=qkm (S.out.below HH.out hj)
    clear hj
    cases hsp:qam s K.a
    ·have HNO:=qkm (HEA.out (by rw [HES.out,hsp];simp))
     refine qan [16] _ _ _ _ (by kernel_rfl) ?_
     simp only [qka,qkb,qkc,qkd,qke,qkf,qkg,qkh,qki,Nat.reduceAdd,Nat.reduceSub]
     repeat (go_big_quiet_step (fail))
     refine wpQuiet_nil ?_
     refine qbh (by kernel_rfl) (fun wm hm=>?_) _
     have S:=qkm (S.out.below HH.out hm)
     clear hm
     have z8:=qab S.out.b8 0
     simp only [qkc,qke] at z8
     have lz8:=World.block_lt_of_cell? wm _ z8
     go_wp2_with fail
     refine qaz (v:=.slice (some ⟨gh,0,none⟩) (lwN p) ch) ds wm S.out.nd S.out.df fun w' h1 h2=>⟨by simp [results,Try.results37,go_sem],?_⟩
     obtain ⟨l1,l2,l3,l4⟩:=S.out.leave HH.out h1 h2
     rw [HFD.out,hfl] at l3
     exact ⟨gh,ch,rfl,by rw [HNO.out];exact l1,hgw,l2,l3,l4⟩
    ·have HYE:=qkm (HEB.out (by rw [HES.out,hsp,e2',e3'];rfl))
     obtain ⟨a0,a1, -⟩:=qa4 hsp
     have HX:Hid ((qad p).length+K.a.toNat<64*lwN p):=by
      show _ < _
      have:=HLS.out
      omega
     refine qan [16] _ _ _ _ (by kernel_rfl) ?_
     simp only [qka,qkb,qkc,qkd,qke,qkf,qkg,qkh,qki,Nat.reduceAdd,Nat.reduceSub]
     repeat (go_big_quiet_step (fail))
     refine wpQuiet_nil ?_
     refine qbh (by kernel_rfl) (fun wm hm=>?_) _
     have S:=qkm (S.out.below HH.out hm)
     clear hm
     obtain ⟨an,ha⟩:=Int.eq_ofNat_of_zero_le a0
     obtain ⟨x0,x1,x2,x3,x4,lx⟩:=cl5 S.out.b7
     rw [ha] at x2 HX HYE
     simp only [Int.toNat_natCast] at HX HYE
     have hanb:an≤1000000:=by omega
     have BOX:=qkm (HFM.out _ S.out.fd)
     obtain ⟨-, -, -, -, -, -, -,y7, -, -, -,ly⟩:=qau BOX.out.box
     have z8:=qab S.out.b8 0
     simp only [qkc,qke] at z8
     have lz8:=World.block_lt_of_cell? wm _ z8
     clear ha a0 a1
     go_wp2_with fail
     obtain ⟨W5,hW5⟩:∃ W5,W5=wm.drew:=⟨_,rfl⟩
     have B5:Hid (Below wm.heap.size wm W5):=by
      show Below _ _ _
      rw [hW5];exact Below.drew (Below.refl _ _)
     refine qae (fun b=>b=w2.heap.size∨b=w.heap.size) (by kernel_rfl) ?_
     show wpE _ _ _ _ _ _ _ (World.drew _)
     rw [←hW5]
     clear hW5
     have S:=qkm (S.out.below HH.out B5.out)
     have x2:=(B5.out.cell (p:=⟨w.heap.size,2,none⟩) lx).trans x2
     have z8:=(B5.out.cell (p:=⟨w2.heap.size,0,none⟩) lz8).trans z8
     have BOX:=qkm (HFM.out _ S.out.fd)
     clear x0 x1 x3 x4 y7 ly B5
     refine qaf [0,1,2,3] _ _ _ _ (by kernel_rfl) ?_
     simp only [qka,qkb,qkc,qkd,qke,qkf,qkg,qkh,qki,Nat.reduceAdd,Nat.reduceSub]
     repeat (go_big_quiet_step (fail))
     refine wpQuiet_nil ?_
     refine qag 4 _ rfl (by kernel_rfl) ?_
     simp only [qkj,qkk,qkl]
     go_wp2_with fail
     refine (qgc bf nm p vo (.slice (some ⟨b,o,none⟩) p.blks.length cb) bv (.slice sa s.length sc) (.slice (some ⟨bF,oF,none⟩) (qaw p p.blks.length).length cf) (.slice (some ⟨gt,0,none⟩) p.blks.length ct) al (qad p).length cl an W5 BOX.out.box (by omega) hanb).mono ?_
     rintro e w6 ⟨rfl,rfl⟩
     go_wp2_with fail
     refine ⟨fun b o hb=>rfl,?_⟩
     refine qbq 5 _ rfl (by kernel_rfl) ?_
     simp only [qkj,qkk,qkl]
     go_wp2_with fail
     refine (qg0 gh ch (lwN p) _ ((qad p).length+an) w6 S.out.row HX.out).mono ?_
     rintro e w7 ⟨⟨v,rfl⟩,hr7,hb7⟩
     have S:=qkm (S.out.turn HH.out hb7 hr7 ⟨_,_,rfl,by decide⟩)
     clear hr7 hb7 x2 z8
     go_wp2_with fail
     refine qao (by kernel_rfl) ?_ _
     have z8:=qab S.out.b8 0
     simp only [qkc,qke] at z8
     have lz8:=World.block_lt_of_cell? w7 _ z8
     go_wp2_with fail
     refine qaz (v:=.slice (some ⟨gh,0,none⟩) (lwN p) ch) ds w7 S.out.nd S.out.df fun w' h1 h2=>⟨by simp [results,Try.results37,go_sem],?_⟩
     obtain ⟨l1,l2,l3,l4⟩:=S.out.leave HH.out h1 h2
     rw [HFD.out,hfl] at l3
     exact ⟨gh,ch,rfl,by rw [HYE.out];exact l1,hgw,l2,l3,l4⟩
  ·cases e3':(K.fin ==3)
   ·go_wp2_with fail
    refine qak (fun _=>True) (by kernel_rfl) ?_
    refine qan [0,1,2,3,4,5,6,7,8,9,10,11,12,13,14] _ _ _ _ (by kernel_rfl) ?_
    simp only [qka,qkb,qkc,qkd,qke,qkf,qkg,qkh,qki,Nat.reduceAdd,Nat.reduceSub]
    repeat (go_big_quiet_step (fail))
    refine wpQuiet_nil ?_
    clear x0 x1 x2 x3 x4 lx y7 ly BOX
    refine qay 15 _ rfl (by kernel_rfl) ?_
    simp only [qkj,qkk,qkl]
    intro wj hj
    go_wp2_with fail
    refine (qc5 (.slice sa s.length sc) s K.a wj (HVS.out.ext (Ext.below (HFM.out _ (HH.out.below _ _ S.out.fd hj)).be))).mono ?_
    rintro e w5 ⟨rfl,rfl⟩
    go_wp2_with fail
    refine ⟨qa3.refl _ _,?_⟩
    have S:=qkm (S.out.below HH.out hj)
    clear hj
    cases hsp:qam s K.a
    ·have HNO:=qkm (HEA.out (by rw [HES.out,hsp];simp))
     refine qan [16] _ _ _ _ (by kernel_rfl) ?_
     simp only [qka,qkb,qkc,qkd,qke,qkf,qkg,qkh,qki,Nat.reduceAdd,Nat.reduceSub]
     repeat (go_big_quiet_step (fail))
     refine wpQuiet_nil ?_
     refine qbh (by kernel_rfl) (fun wm hm=>?_) _
     have S:=qkm (S.out.below HH.out hm)
     clear hm
     have z8:=qab S.out.b8 0
     simp only [qkc,qke] at z8
     have lz8:=World.block_lt_of_cell? wm _ z8
     go_wp2_with fail
     refine qaz (v:=.slice (some ⟨gh,0,none⟩) (lwN p) ch) ds wm S.out.nd S.out.df fun w' h1 h2=>⟨by simp [results,Try.results37,go_sem],?_⟩
     obtain ⟨l1,l2,l3,l4⟩:=S.out.leave HH.out h1 h2
     rw [HFD.out,hfl] at l3
     exact ⟨gh,ch,rfl,by rw [HNO.out];exact l1,hgw,l2,l3,l4⟩
    ·have HYE:=qkm (HEB.out (by rw [HES.out,hsp,e2',e3'];rfl))
     obtain ⟨a0,a1, -⟩:=qa4 hsp
     have HX:Hid ((qad p).length+K.a.toNat<64*lwN p):=by
      show _ < _
      have:=HLS.out
      omega
     refine qan [16] _ _ _ _ (by kernel_rfl) ?_
     simp only [qka,qkb,qkc,qkd,qke,qkf,qkg,qkh,qki,Nat.reduceAdd,Nat.reduceSub]
     repeat (go_big_quiet_step (fail))
     refine wpQuiet_nil ?_
     refine qbh (by kernel_rfl) (fun wm hm=>?_) _
     have S:=qkm (S.out.below HH.out hm)
     clear hm
     obtain ⟨an,ha⟩:=Int.eq_ofNat_of_zero_le a0
     obtain ⟨x0,x1,x2,x3,x4,lx⟩:=cl5 S.out.b7
     rw [ha] at x2 HX HYE
     simp only [Int.toNat_natCast] at HX HYE
     have hanb:an≤1000000:=by omega
     have BOX:=qkm (HFM.out _ S.out.fd)
     obtain ⟨-, -, -, -, -, -, -,y7, -, -, -,ly⟩:=qau BOX.out.box
     have z8:=qab S.out.b8 0
     simp only [qkc,qke] at z8
     have lz8:=World.block_lt_of_cell? wm _ z8
     clear ha a0 a1
     go_wp2_with fail
     obtain ⟨W5,hW5⟩:∃ W5,W5=wm.drew:=⟨_,rfl⟩
     have B5:Hid (Below wm.heap.size wm W5):=by
      show Below _ _ _
      rw [hW5];exact Below.drew (Below.refl _ _)
     refine qae (fun b=>b=w2.heap.size∨b=w.heap.size) (by kernel_rfl) ?_
     show wpE _ _ _ _ _ _ _ (World.drew _)
     rw [←hW5]
     clear hW5
     have S:=qkm (S.out.below HH.out B5.out)
     have x2:=(B5.out.cell (p:=⟨w.heap.size,2,none⟩) lx).trans x2
     have z8:=(B5.out.cell (p:=⟨w2.heap.size,0,none⟩) lz8).trans z8
     have BOX:=qkm (HFM.out _ S.out.fd)
     clear x0 x1 x3 x4 y7 ly B5
     refine qaf [0,1,2,3] _ _ _ _ (by kernel_rfl) ?_
     simp only [qka,qkb,qkc,qkd,qke,qkf,qkg,qkh,qki,Nat.reduceAdd,Nat.reduceSub]
     repeat (go_big_quiet_step (fail))
     refine wpQuiet_nil ?_
     refine qag 4 _ rfl (by kernel_rfl) ?_
     simp only [qkj,qkk,qkl]
     go_wp2_with fail
     refine (qgc bf nm p vo (.slice (some ⟨b,o,none⟩) p.blks.length cb) bv (.slice sa s.length sc) (.slice (some ⟨bF,oF,none⟩) (qaw p p.blks.length).length cf) (.slice (some ⟨gt,0,none⟩) p.blks.length ct) al (qad p).length cl an W5 BOX.out.box (by omega) hanb).mono ?_
     rintro e w6 ⟨rfl,rfl⟩
     go_wp2_with fail
     refine ⟨fun b o hb=>rfl,?_⟩
     refine qbq 5 _ rfl (by kernel_rfl) ?_
     simp only [qkj,qkk,qkl]
     go_wp2_with fail
     refine (qg0 gh ch (lwN p) _ ((qad p).length+an) w6 S.out.row HX.out).mono ?_
     rintro e w7 ⟨⟨v,rfl⟩,hr7,hb7⟩
     have S:=qkm (S.out.turn HH.out hb7 hr7 ⟨_,_,rfl,by decide⟩)
     clear hr7 hb7 x2 z8
     go_wp2_with fail
     refine qao (by kernel_rfl) ?_ _
     have z8:=qab S.out.b8 0
     simp only [qkc,qke] at z8
     have lz8:=World.block_lt_of_cell? w7 _ z8
     go_wp2_with fail
     refine qaz (v:=.slice (some ⟨gh,0,none⟩) (lwN p) ch) ds w7 S.out.nd S.out.df fun w' h1 h2=>⟨by simp [results,Try.results37,go_sem],?_⟩
     obtain ⟨l1,l2,l3,l4⟩:=S.out.leave HH.out h1 h2
     rw [HFD.out,hfl] at l3
     exact ⟨gh,ch,rfl,by rw [HYE.out];exact l1,hgw,l2,l3,l4⟩
   ·go_wp2_with fail
    refine qak (fun _=>True) (by kernel_rfl) ?_
    refine qan [0,1,2,3,4,5,6,7,8,9,10,11,12,13,14] _ _ _ _ (by kernel_rfl) ?_
    simp only [qka,qkb,qkc,qkd,qke,qkf,qkg,qkh,qki,Nat.reduceAdd,Nat.reduceSub]
    repeat (go_big_quiet_step (fail))
    refine wpQuiet_nil ?_
    clear x0 x1 x2 x3 x4 lx y7 ly BOX
    refine qay 15 _ rfl (by kernel_rfl) ?_
    simp only [qkj,qkk,qkl]
    intro wj hj
    go_wp2_with fail
    refine (qc5 (.slice sa s.length sc) s K.a wj (HVS.out.ext (Ext.below (HFM.out _ (HH.out.below _ _ S.out.fd hj)).be))).mono ?_
    rintro e w5 ⟨rfl,rfl⟩
    go_wp2_with fail
    refine ⟨qa3.refl _ _,?_⟩
    have S:=qkm (S.out.below HH.out hj)
    clear hj
    cases hsp:qam s K.a
    ·have HNO:=qkm (HEA.out (by rw [HES.out,hsp];simp))
     refine qan [16] _ _ _ _ (by kernel_rfl) ?_
     simp only [qka,qkb,qkc,qkd,qke,qkf,qkg,qkh,qki,Nat.reduceAdd,Nat.reduceSub]
     repeat (go_big_quiet_step (fail))
     refine wpQuiet_nil ?_
     refine qbh (by kernel_rfl) (fun wm hm=>?_) _
     have S:=qkm (S.out.below HH.out hm)
     clear hm
     have z8:=qab S.out.b8 0
     simp only [qkc,qke] at z8
     have lz8:=World.block_lt_of_cell? wm _ z8
     go_wp2_with fail
     refine qaz (v:=.slice (some ⟨gh,0,none⟩) (lwN p) ch) ds wm S.out.nd S.out.df fun w' h1 h2=>⟨by simp [results,Try.results37,go_sem],?_⟩
     obtain ⟨l1,l2,l3,l4⟩:=S.out.leave HH.out h1 h2
     rw [HFD.out,hfl] at l3
     exact ⟨gh,ch,rfl,by rw [HNO.out];exact l1,hgw,l2,l3,l4⟩
    ·have HYE:=qkm (HEB.out (by rw [HES.out,hsp,e2',e3'];rfl))
     obtain ⟨a0,a1, -⟩:=qa4 hsp
     have HX:Hid ((qad p).length+K.a.toNat<64*lwN p):=by
      show _ < _
      have:=HLS.out
      omega
     refine qan [16] _ _ _ _ (by kernel_rfl) ?_
     simp only [qka,qkb,qkc,qkd,qke,qkf,qkg,qkh,qki,Nat.reduceAdd,Nat.reduceSub]
     repeat (go_big_quiet_step (fail))
     refine wpQuiet_nil ?_
     refine qbh (by kernel_rfl) (fun wm hm=>?_) _
     have S:=qkm (S.out.below HH.out hm)
     clear hm
     obtain ⟨an,ha⟩:=Int.eq_ofNat_of_zero_le a0
     obtain ⟨x0,x1,x2,x3,x4,lx⟩:=cl5 S.out.b7
     rw [ha] at x2 HX HYE
     simp only [Int.toNat_natCast] at HX HYE
     have hanb:an≤1000000:=by omega
     have BOX:=qkm (HFM.out _ S.out.fd)
     obtain ⟨-, -, -, -, -, -, -,y7, -, -, -,ly⟩:=qau BOX.out.box
     have z8:=qab S.out.b8 0
     simp only [qkc,qke] at z8
     have lz8:=World.block_lt_of_cell? wm _ z8
     clear ha a0 a1
     go_wp2_with fail
     obtain ⟨W5,hW5⟩:∃ W5,W5=wm.drew:=⟨_,rfl⟩
     have B5:Hid (Below wm.heap.size wm W5):=by
      show Below _ _ _
      rw [hW5];exact Below.drew (Below.refl _ _)
     refine qae (fun b=>b=w2.heap.size∨b=w.heap.size) (by kernel_rfl) ?_
     show wpE _ _ _ _ _ _ _ (World.drew _)
     rw [←hW5]
     clear hW5
     have S:=qkm (S.out.below HH.out B5.out)
     have x2:=(B5.out.cell (p:=⟨w.heap.size,2,none⟩) lx).trans x2
     have z8:=(B5.out.cell (p:=⟨w2.heap.size,0,none⟩) lz8).trans z8
     have BOX:=qkm (HFM.out _ S.out.fd)
     clear x0 x1 x3 x4 y7 ly B5
     refine qaf [0,1,2,3] _ _ _ _ (by kernel_rfl) ?_
     simp only [qka,qkb,qkc,qkd,qke,qkf,qkg,qkh,qki,Nat.reduceAdd,Nat.reduceSub]
     repeat (go_big_quiet_step (fail))
     refine wpQuiet_nil ?_
     refine qag 4 _ rfl (by kernel_rfl) ?_
     simp only [qkj,qkk,qkl]
     go_wp2_with fail
     refine (qgc bf nm p vo (.slice (some ⟨b,o,none⟩) p.blks.length cb) bv (.slice sa s.length sc) (.slice (some ⟨bF,oF,none⟩) (qaw p p.blks.length).length cf) (.slice (some ⟨gt,0,none⟩) p.blks.length ct) al (qad p).length cl an W5 BOX.out.box (by omega) hanb).mono ?_
     rintro e w6 ⟨rfl,rfl⟩
     go_wp2_with fail
     refine ⟨fun b o hb=>rfl,?_⟩
     refine qbq 5 _ rfl (by kernel_rfl) ?_
     simp only [qkj,qkk,qkl]
     go_wp2_with fail
     refine (qg0 gh ch (lwN p) _ ((qad p).length+an) w6 S.out.row HX.out).mono ?_
     rintro e w7 ⟨⟨v,rfl⟩,hr7,hb7⟩
     have S:=qkm (S.out.turn HH.out hb7 hr7 ⟨_,_,rfl,by decide⟩)
     clear hr7 hb7 x2 z8
     go_wp2_with fail
     refine qao (by kernel_rfl) ?_ _
     have z8:=qab S.out.b8 0
     simp only [qkc,qke] at z8
     have lz8:=World.block_lt_of_cell? w7 _ z8
     go_wp2_with fail
     refine qaz (v:=.slice (some ⟨gh,0,none⟩) (lwN p) ch) ds w7 S.out.nd S.out.df fun w' h1 h2=>⟨by simp [results,Try.results37,go_sem],?_⟩
     obtain ⟨l1,l2,l3,l4⟩:=S.out.leave HH.out h1 h2
     rw [HFD.out,hfl] at l3
     exact ⟨gh,ch,rfl,by rw [HYE.out];exact l1,hgw,l2,l3,l4⟩
end Go.Proofs.Ytmcddolkpcgddaa
