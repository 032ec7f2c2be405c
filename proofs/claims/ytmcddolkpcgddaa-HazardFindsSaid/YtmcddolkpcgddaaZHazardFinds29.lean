/-
hazard: spread, the walk; the order of the blocks.
-/
import Derived.Test.YtmcddolkpcgddaaZHazardFinds28
set_option maxHeartbeats 4000000
set_option maxRecDepth 100000
set_option linter.all false
namespace Go.Proofs.Ytmcddolkpcgddaa
open Go.ChangeShapes Go.WideShapes Go.ChangeAt Go.RowKit
section
def qhq (h:Nat) (st:List Nat×Bool) (t:Int):List Nat×Bool:=(st.1.set t.toNat (st.1.getD t.toNat 0 ||| h),((st.1.getD t.toNat 0 ||| h) !=st.1.getD t.toNat 0) || st.2)
def qm3 (h:Nat) (l:List Int) (X:List Nat):List Nat×Bool:=l.foldl (qhq h) (X,false)
theorem qlp (h:Nat) (l:List Int) (X:List Nat) (k:Nat) (hk:k<l.length):qm3 h (l.take (k+1)) X=qhq h (qm3 h (l.take k) X) (l.getD k 0):=by
 unfold qm3
 have e:l.getD k 0=l[k]:=by simp [List.getD,hk]
 rw [e,List.take_succ_eq_append_getElem hk,List.foldl_append];rfl
theorem qwj (h:Nat) (l:List Int):∀ st:List Nat×Bool,(l.foldl (qhq h) st).1.length=st.1.length:=by
 induction l with
 | nil=>intro st;rfl
 | cons a l ih=>intro st;rw [List.foldl_cons,ih];unfold qhq;simp
theorem qqc (X:List Nat) (t i v:Nat):(X.set t v).getD i 0=if i=t∧t<X.length then v else X.getD i 0:=by
 by_cases e:i=t
 ·subst e
  by_cases hl:i<X.length
  ·rw [if_pos ⟨rfl,hl⟩];simp [List.getD,hl]
  ·rw [if_neg (fun z=>hl z.2),List.set_eq_of_length_le (by omega)]
 ·rw [if_neg (fun z=>e z.1)];simp [List.getD,List.getElem?_set_ne (Ne.symm e)]
def qma (N:Nat) (X:List Nat):Prop:=∀ i,X.getD i 0<2 ^ N
theorem qma.step {N h:Nat} {X:List Nat} (hX:qma N X) (hh:h<2 ^ N) (t:Nat):qma N (X.set t (X.getD t 0 ||| h)):=fun i=>by
 rw [qqc]
 split
 ·exact Nat.or_lt_two_pow (hX t) hh
 ·exact hX i
theorem qma.zero (N k:Nat):qma N (qdk k):=fun i=>by
 have:(qdk k).getD i 0=0:=by unfold qdk;simp only [List.getD,List.getElem?_replicate];split <;> rfl
 rw [this];exact Nat.two_pow_pos N
theorem qj7:∀ (X:List Nat) (t v:Nat),t<X.length→(X.set t v).sum+X.getD t 0=X.sum+v
 | a::X,0,v,_=>by simp [List.getD];omega
 | a::X,t+1,v,h=>by
  have:=qj7 X t v (by simpa using h)
  simp only [List.set_cons_succ,List.sum_cons,List.getD_cons_succ]
  omega
theorem qq2 {N:Nat}:∀ {X:List Nat},qma N X→X.sum≤X.length*2 ^ N
 | [],_=>by simp
 | a::X,h=>by
  have h0:=h 0
  have:=qq2 (X:=X) fun i=>h (i+1)
  rw [List.sum_cons,List.length_cons,Nat.succ_mul]
  have h0:a<2 ^ N:=h0
  omega
theorem qys (a b:Nat):a≤a ||| b:=Nat.left_le_or
structure quo (N h:Nat) (l:List Int) (X:List Nat) (st:List Nat×Bool):Prop where
 low:qma N st.1
 len:st.1.length=X.length
 up:X.sum≤st.1.sum
 news:st.2=true→X.sum<st.1.sum
 same:st.2=false→st.1=X∧∀ t∈l,X.getD t.toNat 0 ||| h=X.getD t.toNat 0
theorem quo.nil {N h:Nat} {X:List Nat} (hX:qma N X):quo N h [] X (X,false):=⟨hX,rfl,Nat.le_refl _,(fun h=>by cases h),fun _=>⟨rfl,fun t ht=>by cases ht⟩⟩
theorem quo.step {N h:Nat} {X:List Nat} {l:List Int} {st:List Nat×Bool} (hp:quo N h l X st) (hh:h<2 ^ N) {t:Int} (ht:t.toNat<X.length):quo N h (l++[t]) X (qhq h st t):=by
 obtain ⟨Y,g⟩:=st
 have hl:Y.length=X.length:=hp.len
 have hs:=qj7 Y t.toNat (Y.getD t.toNat 0 ||| h) (by omega)
 have hle:=qys (Y.getD t.toNat 0) h
 have hup:X.sum≤Y.sum:=hp.up
 refine ⟨hp.low.step hh _,by unfold qhq;simp [hl],?_,fun hn=>?_,fun hn=>?_⟩
 ·unfold qhq;dsimp only;omega
 ·unfold qhq at hn ⊢
  dsimp only at hn ⊢
  rw [Bool.or_eq_true,bne_iff_ne] at hn
  rcases hn with hn|hn
  ·omega
  ·have:=hp.news hn
   dsimp only at this
   omega
 ·unfold qhq at hn ⊢
  dsimp only at hn ⊢
  rw [Bool.or_eq_false_iff,bne_eq_false_iff_eq] at hn
  obtain ⟨e1,e2⟩:=hp.same hn.2
  dsimp only at e1
  subst e1
  refine ⟨?_,fun u hu=>?_⟩
  ·rw [hn.1]
   apply List.ext_getElem (by simp)
   intro i h1 h2
   rw [List.getElem_set]
   split
   ·rename_i e;subst e;simp [List.getD,h2]
   ·rfl
  ·rcases List.mem_append.1 hu with hu|hu
   ·exact e2 u hu
   ·rw [List.mem_singleton.1 hu];exact hn.1
theorem qvh {N h:Nat} {X:List Nat} (hX:qma N X) (hh:h<2 ^ N):∀ l:List Int,(∀ t∈l,t.toNat<X.length)→quo N h l X (qm3 h l X):=by
 intro l hl
 have key:∀ k,k≤l.length→quo N h (l.take k) X (qm3 h (l.take k) X):=by
  intro k
  induction k with
  | zero=>intro _;exact quo.nil hX
  | succ k ih=>
   intro hk
   rw [qlp h l X k hk,List.take_succ_eq_append_getElem hk]
   have e:l.getD k 0=l[k]:=by simp [List.getD,show k<l.length from hk]
   rw [e]
   exact (ih (by omega)).step hh (hl _ (List.getElem_mem _))
 have:=key l.length (Nat.le_refl _)
 rwa [List.take_length] at this
theorem qpj {s:List Bool} {NL n:Nat} {p:Pr} {X:List Nat} (hX:qcf s NL p X) (hn:n<p.blks.length):∀ l:List Int,(∀ t∈l,0≤t∧t∈qbr (p.blks.getD n default))→qcf s NL p (qm3 (qci s NL (p.blks.getD n default) (qar p n) (X.getD n 0)) l X).1:=by
 intro l hl
 have hw:∀ z,(X.getD n 0).testBit z=true→qwe s NL p z n:=fun z hz=>hX n z hz
 generalize X.getD n 0=h0 at hw
 unfold qm3
 have key:∀ (l:List Int) (st:List Nat×Bool),(∀ t∈l,0≤t∧t∈qbr (p.blks.getD n default))→qcf s NL p st.1→qcf s NL p (l.foldl (qhq (qci s NL (p.blks.getD n default) (qar p n) h0)) st).1:=by
  intro l
  induction l with
  | nil=>intro st _ h;exact h
  | cons a l ih=>
   intro st hl h
   rw [List.foldl_cons]
   refine ih _ (fun t ht=>hl t (List.mem_cons_of_mem _ ht)) ?_
   obtain ⟨h0',h1⟩:=hl a (List.mem_cons_self ..)
   exact h.step (t:=a.toNat) hn (by rwa [Int.toNat_of_nonneg h0']) hw
 exact key l (X,false) hl hX
theorem qqa {s:List Bool} {NL n N:Nat} {p:Pr} {X:List Nat} {l:List Int} {st:List Nat×Bool} (hp:quo N (qci s NL (p.blks.getD n default) (qar p n) (X.getD n 0)) l X st) (h:st.2=false):∀ t:Nat,(t:Int)∈l→∀ y,(qci s NL (p.blks.getD n default) (qar p n) (X.getD n 0)).testBit y=true→(X.getD t 0).testBit y=true:=fun t ht y hy=>by
 have:=(hp.same h).2 t ht
 simp only [Int.toNat_natCast] at this
 rw [←this,Nat.testBit_or,hy,Bool.or_true]
theorem qln {s:List Bool} {p:Pr} (hsl:s.length≤p.regs.toNat) {n h:Nat} (hn:n<p.blks.length) (hh:h<2 ^ (64*lwN p)):qci s (qad p).length (p.blks.getD n default) (qar p n) h<2 ^ (64*lwN p):=by
 apply Nat.lt_pow_two_of_testBit
 intro y hy
 rw [Bool.eq_false_iff]
 intro hb
 rw [qdy] at hb
 have hL:(qad p).length+p.regs.toNat≤64*lwN p:=by unfold lwN;omega
 rcases hb with ⟨hb, -⟩|⟨k,ho, -⟩
 ·have:=Nat.testBit_lt_two_pow (Nat.lt_of_lt_of_le hh (Nat.pow_le_pow_right (by decide) hy))
  rw [this] at hb;cases hb
 ·rcases ho with ⟨hk,hr⟩|⟨-,he,rfl⟩
  ·have:=qhk hsl hn hk y hr
   omega
  ·unfold qbs at he
   rw [Bool.and_eq_true] at he
   have:=qa4 he.2
   omega
structure KpU (A B:World):Prop where
 os:B.os=A.os
 tape:B.tape=A.tape
 output:B.output=A.output
 size:A.heap.size≤B.heap.size
 keep:∀ b,b<A.heap.size→(∀ cs fr,A.heap[b]?≠some (.cells cs 134 fr))→B.heap[b]?=A.heap[b]?
theorem KpU.trans {A B C:World} (h:KpU A B) (k:KpU B C):KpU A C :=
 ⟨k.os.trans h.os,k.tape.trans h.tape,k.output.trans h.output,Nat.le_trans h.size k.size,fun b hb hn=>by
   have e:=h.keep b hb hn
   exact (k.keep b (Nat.lt_of_lt_of_le hb h.size) (fun cs fr=>by rw [e];exact hn cs fr)).trans e⟩
theorem KpU.below {A B:World} (h:Below A.heap.size A B):KpU A B:=⟨h.os,h.tape,h.output,h.size,fun b hb _=>h.block b hb⟩
theorem KpU.but {A B:World} {g:Nat} (h:But g A B) {cur:Array Value} (hg:A.heap[g]?=some (.cells cur 134)):KpU A B:=⟨h.os,h.tape,h.output,h.size,fun b hb hn=>h.block b hb fun e=>hn cur (0,0) (by rw [e];exact hg)⟩
theorem KpU.cells {A B:World} (h:KpU A B) {b:Nat} {cs:Array Value} {ty:TypeId} (hb:A.heap[b]?=some (.cells cs ty)) (ht:ty≠134):B.heap[b]?=some (.cells cs ty) :=
 (h.keep b (qkp hb).1 fun c2 f2 e=>by
   rw [hb] at e
   simp only [Option.some.injEq,Obj.cells.injEq] at e
   exact ht e.2.1).trans hb
theorem KpU.own {A B:World} (h:KpU A B) {b s n:Nat} {e:TypeId} {v:Value} {xs:List Value} (ho:A.ownsRow b e s v n xs) (ht:e≠134):B.ownsRow b e s v n xs:=by
 obtain ⟨h1,h2|⟨g,cap,cur,h3,h4,h5,r⟩⟩:=ho
 ·exact ⟨h1,.inl h2⟩
 ·exact ⟨h1,.inr ⟨g,cap,cur,h3,h4,h.cells h5 ht,r⟩⟩
theorem qrg (k:Int) (a:Option Addr) (n c:Nat) (w:World):Calls Try.prog 69 #[.int .i64 k,.slice a n c] w fun e w'=>(∃ v,e=.returned v)∧w'=w:=by
 go_enter Try.func69,Try.ntmps69
 go_wp2_with fail
 go_end0
 exact ⟨⟨_,rfl⟩,rfl⟩
end
section
theorem FdM.cellT {w0 W:World} {bf bv L:Nat} {nm:ByteArray} {p:Pr} {vo vb vs vl vf:Value} {gt ct n:Nat} {LL:List In} {F:List Int} {rs:List (Nat×Nat)} {X:List Nat} (h:FdM w0 bf nm p vo vb bv vs vl vf (.slice (some ⟨gt,0,none⟩) n ct) LL F rs X L W) {i:Nat} (hi:i<X.length) :
  W.cell? ⟨gt,i,none⟩=some (qft L (rs.getD i (0,0)))∧gt<W.heap.size:=by
 obtain ⟨g2,c2,e,h1,h2,h3,h4,h5,h6⟩:=h.tb.form (by omega)
 simp only [Value.slice.injEq,Option.some.injEq,Addr.mk.injEq,and_true,true_and] at e
 obtain ⟨rfl,rfl,rfl⟩:=e
 exact ⟨h6 i hi,h4⟩
def SpQ (w0 w:World) (bf:Nat) (nm:ByteArray) (p:Pr) (vo vb:Value) (bv:Nat) (vs:Value) (al:Option Addr) (cl:Nat) (vf vg:Value) (rs:List (Nat×Nat)) (st:List Nat×Bool) (e:Ending) (w':World):Prop:=e=.returned (.bool st.2)∧FdP w0 bf nm p vo vb bv vs al cl vf vg rs st.1 w'∧KpU w w'
theorem qqj (w0 w:World) (bf:Nat) (nm:ByteArray) (p:Pr) (vo vb:Value) (bv:Nat) (vs:Value) (al:Option Addr) (cl:Nat) (vf vg:Value) (rs:List (Nat×Nat)) (X:List Nat) (s:List Bool) (n:Nat)
  (hF:FdP w0 bf nm p vo vb bv vs al cl vf vg rs X w) (hvb:qbl w0 vb p.blks) (hvs:RdB w0 vs s) (hsl:s.length≤p.regs.toNat) (hX:X.length=p.blks.length) (hn:n<p.blks.length) (hbl:p.blks.length≤1000) (hil:(p.blks.getD n default).ins.length≤1000) (hia:∀ i∈(p.blks.getD n default).ins,i.args.length≤1000) (hr:0≤p.regs∧p.regs≤10000) (hLL:(qad p).length≤1000000)
  (hlow:qma (64*lwN p) X) (ho:∀ t∈qbr (p.blks.getD n default),0≤t∧t<(p.blks.length:Int)) :
  Calls Try.prog 36 #[.pointer (some ⟨bf,0,none⟩),.int .i64 (n:Int)] w (SpQ w0 w bf nm p vo vb bv vs al cl vf vg rs (qm3 (qci s (qad p).length (p.blks.getD n default) (qar p n) (X.getD n 0)) (qbr (p.blks.getD n default)) X)):=by
 have HEACH:=qkm (qx0 w0 w bf nm p vo vb bv vs al cl vf vg rs X s n (fun _ W=>Below w.heap.size w W) hF hvb hvs hsl hX hn hbl hil hia hr hLL (fun k W W' h hb _=>h.trans hb) (Below.refl _ _)
  (fun k W gh ch hk hI hf _ _ hrow=>(qrg (k:Int) (some ⟨gh,0,none⟩) (lwN p) ch W).mono fun e w' ⟨h1,h2⟩=>by subst h2;exact ⟨h1,hI,hf,KpD.refl _⟩))
 have HLOW:=qkm (qln hsl hn (hlow n))
 have HO:=qkm ho
 have HBW:Hid (Below w0.heap.size w0 w):=hF.be
 have HB0:Hid (w0.heap.size≤bf∧bf<w.heap.size):=⟨hF.hB,hF.lt⟩
 have HOLD:Hid (∀ i,i<X.length→(rs.getD i (0,0)).1<w.heap.size):=fun i hi=>hF.tb.old hi
 obtain ⟨gt,ct,hvg,hgB,ht1,ht2,hgt, -,htc⟩:=hF.tb.form (by omega)
 unfold maxLen at ht2
 rw [hX] at hvg ht1
 subst hvg
 clear hF ho htc hgt hlow hia
 have hvb':=hvb
 obtain ⟨ab,cb,rfl,b1,b2, -⟩:=hvb'
 unfold maxLen at b2
 obtain ⟨b,o,vi,hab,hvi,c0,c1,c2,c3,c4⟩:=(qbl.at hvb).2 n hn
 subst hab
 have HOU:Hid (∀ W,Ext w0 W→Calls Try.prog 70 #[.agg #[vi,.int .i64 (p.blks.getD n default).fin,.int .i64 (p.blks.getD n default).a,.int .i64 (p.blks.getD n default).to,.int .i64 (p.blks.getD n default).els]] W (qij W (qbr (p.blks.getD n default)))):=fun W hW=>qwn _ _ W ⟨vi,rfl,hvi.ext hW⟩
 obtain ⟨ai,ci,rfl, -⟩:=hvi
 have g1:decide (n<p.blks.length)=true:=qkn hn
 have g2:decide ((n:Int)<(p.blks.length:Int))=true:=qkn (by omega)
 generalize qci s (qad p).length (p.blks.getD n default) (qar p n) (X.getD n 0)=h at *
 generalize qbr (p.blks.getD n default)=U at *
 generalize p.blks.getD n default=K at *
 clear hvb
 go_enter Try.func36,Try.ntmps36
 go_wp2_with fail
 refine HEACH.out.mono ?_
 clear HEACH
 rintro e w2 ⟨gh,ch,rfl,hrow,hgh,hb2,hf2,hsz⟩
 have HF2:=qkm hf2
 have HRO:=qkm hrow
 have HB2:Hid (Below w.heap.size w w2):=hb2
 clear hrow hf2 hb2
 have hE:=Ext.below HF2.out.be
 have d0:=hE _ _ c0
 have d1:=hE _ _ c1
 have d2:=hE _ _ c2
 have d3:=hE _ _ c3
 have d4:=hE _ _ c4
 have lb:=World.block_lt_of_cell? w2 _ d0
 obtain ⟨-, -, -, -, -,y5, -, -, -, -, -,ly⟩:=qau HF2.out.box
 go_wp2_with fail
 refine (HOU.out w2 hE).mono ?_
 clear HOU hE
 rintro e w3 ⟨vL,rfl,hoL,hb3⟩
 have HF3:Hid (FdP w0 bf nm p vo (.slice (some ⟨b,o,none⟩) p.blks.length cb) bv vs al cl vf (.slice (some ⟨gt,0,none⟩) p.blks.length ct) rs (qm3 h (U.take 0) X).1 w3):=FdM.below HF2.out hb3
 have HRO3:=qkm (HRO.out.below hb3)
 have HK3:Hid (KpU w w3):=KpU.below (HB2.out.trans (hb3.mono HB2.out.size))
 have HL3:Hid (qa8 w3 0 vL U):=by
  obtain ⟨e1,e2⟩:=hoL
  rcases e2 with ⟨a,b⟩|⟨g',cap,cur,a,b,c⟩
  ·exact ⟨e1,.inl ⟨a,b⟩⟩
  ·exact ⟨e1,.inr ⟨g',cap,cur,a,Nat.zero_le _,c⟩⟩
 obtain ⟨aL,cL,rfl⟩:=qa6 hoL
 have HUL:Hid (U.length≤cL∧cL≤2 ^ 63-1):=by
  obtain ⟨a',c',e,h1,h2, -⟩:=qa8.rd HL3.out
  simp only [Value.slice.injEq] at e
  obtain ⟨-, -,rfl⟩:=e
  exact ⟨h1,h2⟩
 obtain ⟨hu1,hu2⟩:=HUL.out
 clear hoL hb3 HF2 HRO HB2 d0 d1 d2 d3 d4 lb y5 ly c0 c1 c2 c3 c4 g1 g2
 go_wp2_with fail
 go_loopw [5,22] (fun g i wr=>∃ k:Nat,k≤U.length∧i=.int .i64 (k:Int)∧g=.bool (qm3 h (U.take k) X).2∧Hid (FdP w0 bf nm p vo (.slice (some ⟨b,o,none⟩) p.blks.length cb) bv vs al cl vf (.slice (some ⟨gt,0,none⟩) p.blks.length ct) rs (qm3 h (U.take k) X).1 wr)∧Hid (qb3 wr gh ch (lwN p) h)∧Hid (qa8 wr 0 (.slice aL U.length cL) U)∧Hid (KpU w wr)) (fun _ i _=>U.length-(intOf i).toNat)
 case atStart=>exact ⟨0,Nat.zero_le _,rfl,rfl,HF3,HRO3,HL3,HK3⟩
 case round=>
  clear HF3 HRO3 HL3 HK3
  obtain ⟨k,hk,rfl,rfl,HF,HR,HL,HKP⟩:=hrel
  by_cases hlt:k<U.length
  ·have q1:decide (k<U.length)=true:=qkn hlt
   have q2:decide ((k:Int)<(U.length:Int))=true:=qkn (by omega)
   obtain ⟨a',c',e, -, -,hcl⟩:=qa8.rd HL.out
   simp only [Value.slice.injEq] at e
   obtain ⟨rfl, -,rfl⟩:=e
   obtain ⟨bL,oL,haL,hcell⟩:=hcl k hlt
   subst haL
   simp only [Nat.mul_one,Nat.add_zero] at hcell
   have lL:=World.block_lt_of_cell? wr _ hcell
   obtain ⟨t0,t1⟩:=HO.out _ (qch (d:=0) hlt)
   have HST:=qkm (qlp h U X k hlt)
   have hlen:(qm3 h (U.take k) X).1.length=X.length:=qwj h _ _
   generalize U.getD k 0=t at *
   obtain ⟨tn,rfl⟩:=Int.eq_ofNat_of_zero_le t0
   have g3:decide (tn<p.blks.length)=true:=qkn (by omega)
   have g4:decide ((tn:Int)<(p.blks.length:Int))=true:=qkn (by omega)
   obtain ⟨-, -, -, -, -, -, -, -, -, -,y10,ly⟩:=qau HF.out.box
   obtain ⟨tc,ltc⟩:=FdM.cellT HF.out (i:=tn) (by omega)
   obtain ⟨hrt,hrB⟩:=HF.out.tb.row tn (by omega)
   have hne:(rs.getD tn (0,0)).1≠gh:=by have:=HOLD.out tn (by omega);omega
   have HTU:Hid (∀ W R,qb3 W (rs.getD tn (0,0)).1 (rs.getD tn (0,0)).2 (lwN p) R→But (rs.getD tn (0,0)).1 wr W→FdP w0 bf nm p vo (.slice (some ⟨b,o,none⟩) p.blks.length cb) bv vs al cl vf (.slice (some ⟨gt,0,none⟩) p.blks.length ct) rs ((qm3 h (U.take k) X).1.set tn R) W):=fun W R hr hb=>FdM.turn HF.out (i:=tn) (by omega) hr hb
   have HRT:=qkm hrt
   unfold qft at tc
   generalize (qm3 h (U.take k) X)=st at *
   obtain ⟨Y,g⟩:=st
   dsimp only at hlen HRT HTU
   unfold qhq at HST
   simp only [Int.toNat_natCast] at HST
   have HST:=qkm HST.out
   generalize Y.getD tn 0=R at *
   generalize rs.getD tn (0,0)=gc at *
   obtain ⟨gr,cr⟩:=gc
   dsimp only at HRT HTU hne tc hrB
   have HJN:=qkm (qyk gr cr gh ch (lwN p) R h wr HRT.out HR.out hne HLOW.out)
   clear hrt hcl hlen
   go_wp2_with fail
   refine HJN.out.mono ?_
   clear HJN
   rintro e w5 ⟨rfl,hr5,hb5⟩
   have HF5:=qkm (HTU.out w5 _ hr5 hb5)
   have HR5:=qkm (HR.out.but hb5 (Ne.symm hne))
   obtain ⟨cur,hcur⟩:=HRT.out.heap
   have HK5:=qkm (HKP.out.trans (KpU.but hb5 hcur))
   have HL5:Hid (qa8 w5 0 (.slice (some ⟨bL,oL,none⟩) U.length cL) U):=(KpU.but hb5 hcur).own HL.out (by decide)
   clear HTU hr5 hb5 tc ltc y10 ly hcell lL g3 g4 HRT hcur
   generalize hnw:((R ||| h) !=R)=nw at *
   cases nw <;> cases g
   all_goals
    go_wp2_with fail
    go_roundw
    case rel=>exact ⟨k+1,hlt,by go_num,by rw [HST.out];rfl,by rw [HST.out];exact HF5,HR5,HL5,HK5⟩
    case measure=>simp [intOf];omega
  ·obtain rfl:k=U.length:=by omega
   rw [List.take_length] at HF ⊢
   go_wp2_with fail
   go_ret
   exact ⟨rfl,HF.out,HKP.out⟩
def qt4 (p:Pr):List Int:=(wkD p).ord.reverse++((List.range p.blks.length).filter fun n=> !(qc3 p).getD n false).map fun n:Nat=>(n:Int)
theorem qu0 (p:Pr) (h0:0<p.blks.length) (n:Nat) (hn:n<p.blks.length):(n:Int)∈qt4 p:=by
 unfold qt4
 rw [List.mem_append,List.mem_reverse,List.mem_map]
 cases h:(qc3 p).getD n false
 ·right
  exact ⟨n,List.mem_filter.2 ⟨List.mem_range.2 hn,by rw [h];rfl⟩,rfl⟩
 ·left
  rw [qp4 p n hn] at h
  exact (qnx _ _).1 h
theorem qxw (p:Pr):∀ x∈qt4 p,0≤x∧x<(p.blks.length:Int):=fun x hx=>by
 unfold qt4 at hx
 rw [List.mem_append,List.mem_reverse,List.mem_map] at hx
 rcases hx with hx|⟨n,hn,rfl⟩
 ·exact qrp p x hx
 ·have:=List.mem_range.1 (List.mem_filter.1 hn).1
  omega
end
end Go.Proofs.Ytmcddolkpcgddaa
