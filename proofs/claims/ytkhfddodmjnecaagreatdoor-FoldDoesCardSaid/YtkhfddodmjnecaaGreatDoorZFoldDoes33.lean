/-
 What is known within a block is so: values have numbers, and registers have values. Plain.
-/
import Derived.Test.YtkhfddodmjnecaaGreatDoorZFoldDoes32
set_option linter.all false
namespace Go.Proofs.YtkhfddodmjnecaaGreatDoor
section
variable {m:Md} {p:Pr} {low R:Int}
def KyX (m:Md) (p:Pr) (low:Int) (mem:List Int) (val:Int→Int) (vs mm:Int) (k:Ky) (x:Int):Prop :=
 k.op=1∧x=k.num∨
 k.op=3∧(1≤k.a∧k.a≤vs)∧(1≤k.b∧k.b≤vs)∧x=fnF k.fn (val k.a) (val k.b)∨
 k.op=4∧(1≤k.a∧k.a≤vs)∧x=fnF k.fn (val k.a) 0∨
 k.op=7∧x=(268435456+low+slE p.objs k.obj.toNat+k.off) % 4294967296∨
 k.op=8∧x=(268435456+(4096+slE m.globs k.obj.toNat)+k.off) % 4294967296∨
 k.op=5∧(1≤k.a∧k.a≤vs)∧k.mem≤mm∧(k.mem=mm→x=loadP mem ((val k.a+k.off) % 4294967296-268435456).toNat k.size.toNat)
theorem KyX.on {mem:List Int} {val val':Int→Int} {vs vs' mm:Int} {k:Ky} {x:Int} (h:KyX m p low mem val vs mm k x) (hag:∀ u,u≤vs→val' u=val u) (hvs:vs≤vs'):KyX m p low mem val' vs' mm k x:=by
 rcases h with h|⟨h1,h2,h3,h4⟩|⟨h1,h2,h4⟩|h|h|⟨h1,h2,h3,h4⟩
 ·exact .inl h
 ·exact .inr (.inl ⟨h1,by omega,by omega,by rw [hag _ h2.2,hag _ h3.2];exact h4⟩)
 ·exact .inr (.inr (.inl ⟨h1,by omega,by rw [hag _ h2.2];exact h4⟩))
 ·exact .inr (.inr (.inr (.inl h)))
 ·exact .inr (.inr (.inr (.inr (.inl h))))
 ·exact .inr (.inr (.inr (.inr (.inr ⟨h1,by omega,h3,by rw [hag _ h2.2];exact h4⟩))))
theorem KyX.one {mem:List Int} {val:Int→Int} {vs mm:Int} {k:Ky} {x y:Int} (h:KyX m p low mem val vs mm k x) (h':KyX m p low mem val vs mm k y) (hm:k.op=5→k.mem=mm):x=y:=by
 rcases h with ⟨h1,h⟩|⟨h1, -, -,h⟩|⟨h1, -,h⟩|⟨h1,h⟩|⟨h1,h⟩|⟨h1, -, -,h⟩ <;>
  rcases h' with ⟨g1,g⟩|⟨g1, -, -,g⟩|⟨g1, -,g⟩|⟨g1,g⟩|⟨g1,g⟩|⟨g1, -, -,g⟩ <;>
  first
   | omega
   | (rw [h,g])
   | (rw [h (hm h1),g (hm h1)])
structure DkI (m:Md) (p:Pr) (low R:Int) (regs mem:List Int) (val:Int→Int) (d:Dk):Prop where
 b:DkB R d
 of:∀ r v,d.of r=some v→rg regs r=val v
 ky:∀ k v,d.ky k=some v→KyX m p low mem val d.vs d.mm k (val v)
 num:∀ v n,d.num v=some n→val v=n
 w:∀ v,0≤val v∧val v<4294967296
structure Ev (d d':Dk) (val val':Int→Int):Prop where
 ag:∀ u,u≤d.vs→val' u=val u
 vs:d.vs≤d'.vs
 mm:d'.mm=d.mm
theorem Ev.refl (d:Dk) (val:Int→Int):Ev d d val val:=⟨fun _ _=>rfl,Int.le_refl _,rfl⟩
theorem Ev.trans {d d' d'':Dk} {val val' val'':Int→Int} (h:Ev d d' val val') (k:Ev d' d'' val' val''):Ev d d'' val val'' :=
 ⟨fun u hu=>(k.ag u (Int.le_trans hu h.vs)).trans (h.ag u hu),Int.le_trans h.vs k.vs,k.mm.trans h.mm⟩
theorem DkI.zero (regs mem:List Int):DkI m p low R regs mem (fun _=>0) Dk0:=⟨DkB.zero R,fun r v h=>(by cases h),fun r v h=>(by cases h),fun k v h=>(by cases h),fun v=>⟨by decide,by decide⟩⟩
theorem DkI.fresh {regs mem:List Int} {val:Int→Int} {d:Dk} (h:DkI m p low R regs mem val d) {x:Int} (hx:0≤x∧x<4294967296):DkI m p low R regs mem (updI val (d.vs+1) x) (freshD d)∧Ev d (freshD d) val (updI val (d.vs+1) x):=by
 have hag:∀ u,u≤d.vs→updI val (d.vs+1) x u=val u:=fun u hu=>updI_other _ _ (by omega)
 have hvs:d.vs≤(freshD d).vs:=by show d.vs≤d.vs+1;omega
 refine ⟨⟨h.b.fresh,fun r v e=>?_,fun k v e=>?_,fun v n e=>?_,fun v=>?_⟩,hag,hvs,rfl⟩
 ·rw [hag _ (h.b.of r v e).2.2];exact h.of r v e
 ·rw [hag _ (h.b.ky k v e).2];exact (h.ky k v e).on hag hvs
 ·rw [hag _ (h.b.num v n e).1.2];exact h.num v n e
 ·by_cases e:v=d.vs+1
  ·subst e;rw [updI_same];exact hx
  ·rw [updI_other _ _ e];exact h.w v
theorem DkI.have {regs mem:List Int} {val:Int→Int} {d:Dk} (h:DkI m p low R regs mem val d) {r v:Int} (hr:0≤r∧r<R) (hv:1≤v∧v≤d.vs) (e:rg regs r=val v):DkI m p low R regs mem val (haveD d r v):=by
 refine ⟨h.b.have hr hv,fun x y e2=>?_,h.ky,h.num,h.w⟩
 have e2:updI d.of r (some v) x=some y:=e2
 by_cases hx:x=r
 ·subst hx;rw [updI_same] at e2;cases e2;exact e
 ·rw [updI_other _ _ hx] at e2;exact h.of x y e2
theorem DkI.write {regs mem:List Int} {val:Int→Int} {d:Dk} (h:DkI m p low R regs mem val d) {r v:Int} (hr:0≤r∧r<R) (hl:(regs.length:Int)=R) (hv:1≤v∧v≤d.vs):DkI m p low R (regs.set r.toNat (val v)) mem val (haveD d r v):=by
 refine ⟨h.b.have hr hv,fun x y e2=>?_,h.ky,h.num,h.w⟩
 have e2:updI d.of r (some v) x=some y:=e2
 by_cases hx:x=r
 ·subst hx
  rw [updI_same] at e2
  cases e2
  rw [rg_set _ _ _ _ hr.1 hr.1,if_pos ⟨rfl,by omega⟩]
 ·rw [updI_other _ _ hx] at e2
  rw [rg_set_ne _ _ hr.1 (h.b.of x y e2).1.1 hx]
  exact h.of x y e2
def Told (m:Md) (p:Pr) (low R:Int) (regs mem:List Int) (val:Int→Int) (d:Dk) (q:Int×Dk) (x:Int):Prop:=∃ val',DkI m p low R regs mem val' q.2∧Ev d q.2 val val'∧val' q.1=x
theorem DkI.value {regs mem:List Int} {val:Int→Int} {d:Dk} (h:DkI m p low R regs mem val d) {r:Int} (hr:0≤r∧r<R) (hw:0≤rg regs r∧rg regs r<4294967296):Told m p low R regs mem val d (valueD d r) (rg regs r):=by
 cases e:d.of r with
 | some v=>rw [valueD_some e];exact ⟨val,h,Ev.refl _ _,(h.of r v e).symm⟩
 | none=>
  rw [valueD_none e]
  have hf:=h.fresh hw
  have:=h.b.vs
  refine ⟨_,hf.1.have hr (v:=d.vs+1) ⟨by omega,Int.le_refl _⟩ (updI_same _ _ _).symm,⟨hf.2.ag,hf.2.vs,hf.2.mm⟩,updI_same _ _ _⟩
theorem DkI.setKy {regs mem:List Int} {val:Int→Int} {d:Dk} (h:DkI m p low R regs mem val d) {v:Int} (hv:1≤v∧v≤d.vs) {k:Ky} (hk:KyX m p low mem val d.vs d.mm k (val v)):DkI m p low R regs mem val (setKy d k v):=by
 refine ⟨h.b.setKy hv k,h.of,fun x y e=>?_,h.num,h.w⟩
 have e:(if x=k then some v else d.ky x)=some y:=e
 split at e
 ·rename_i hx;cases e;rw [hx];exact hk
 ·exact h.ky x y e
theorem DkI.named {regs mem:List Int} {val:Int→Int} {d:Dk} (h:DkI m p low R regs mem val d) {k:Ky} {x:Int} (hx:0≤x∧x<4294967296) (hk:KyX m p low mem val d.vs d.mm k x) (hm:k.op=5→k.mem=d.mm):Told m p low R regs mem val d (namedD d k) x:=by
 cases e:d.ky k with
 | some v=>rw [namedD_some e];exact ⟨val,h,Ev.refl _ _,(h.ky k v e).one hk hm⟩
 | none=>
  rw [namedD_none e]
  have hf:=h.fresh hx
  have:=h.b.vs
  refine ⟨_,hf.1.setKy (v:=d.vs+1) ⟨by omega,Int.le_refl _⟩ ?_,⟨hf.2.ag,hf.2.vs,hf.2.mm⟩,updI_same _ _ _⟩
  rw [updI_same]
  exact hk.on hf.2.ag hf.2.vs
theorem DkI.const {regs mem:List Int} {val:Int→Int} {d:Dk} (h:DkI m p low R regs mem val d) {n:Int} (hn:0≤n∧n<4294967296):Told m p low R regs mem val d (constD d n) n:=by
 obtain ⟨val',h1,h2,h3⟩:=h.named (k:=kyC n) hn (.inl ⟨rfl,rfl⟩) (fun e=>absurd e (by decide:(1:Int)≠5))
 refine ⟨val',⟨(h.b.const hn).1,h1.of,h1.ky,fun v y e=>?_,h1.w⟩,⟨h2.ag,h2.vs,h2.mm⟩,h3⟩
 have e:updI (namedD d (kyC n)).2.num (namedD d (kyC n)).1 (some n) v=some y:=e
 by_cases hv:v=(namedD d (kyC n)).1
 ·subst hv;rw [updI_same] at e;cases e;exact h3
 ·rw [updI_other _ _ hv] at e;exact h1.num v y e
theorem DkI.twoN {regs mem:List Int} {val:Int→Int} {d:Dk} (h:DkI m p low R regs mem val d) (fn:Int) {a b:Int} (ha:1≤a∧a≤d.vs) (hb:1≤b∧b≤d.vs):Told m p low R regs mem val d (twoN d fn a b) (fnF fn (val a) (val b)):=by
 have wa:=h.w a
 have wb:=h.w b
 have wf:=fnF_bd fn _ _ wa.1 wa.2 wb.1 wb.2
 have here:∀ v,val v=fnF fn (val a) (val b)→Told m p low R regs mem val d (v,d) (fnF fn (val a) (val b)):=fun v e=>⟨val,h,Ev.refl _ _,e⟩
 unfold Go.Proofs.YtkhfddodmjnecaaGreatDoor.twoN
 by_cases hs:0<sameD d fn a b
 ·rw [if_pos hs]
  refine here _ ?_
  unfold sameD at hs ⊢
  split
  ·rename_i c;rw [h.num _ _ c.1,fnF_zero c.2 wa]
  ·split
   ·rename_i c;rw [h.num _ _ c.1,fnF_one c.2 wa]
   ·split
    ·rename_i c;rw [h.num _ _ c.1,fnF_left c.2 wb]
    ·split
     ·rename_i c;rw [h.num _ _ c.1,c.2,fnF_left1 wb]
     ·split
      ·rename_i c;rw [←c.1,fnF_both c.2 wa]
      ·rename_i h1 h2 h3 h4 h5
       rw [if_neg h1,if_neg h2,if_neg h3,if_neg h4,if_neg h5] at hs
       omega
 ·rw [if_neg hs]
  by_cases hc:a=b∧(fn=2∨fn=8)
  ·rw [if_pos hc,←hc.1,fnF_none hc.2 wa]
   exact h.const ⟨by decide,by decide⟩
  ·rw [if_neg hc]
   by_cases hw:swapsF fn=true∧b<a
   ·rw [if_pos hw]
    exact h.named wf (.inr (.inl ⟨rfl,hb,ha,fnF_swap hw.1 _ _⟩)) (fun e=>absurd e (by decide:(3:Int)≠5))
   ·rw [if_neg hw]
    exact h.named wf (.inr (.inl ⟨rfl,ha,hb,rfl⟩)) (fun e=>absurd e (by decide:(3:Int)≠5))
theorem DkI.two {regs mem:List Int} {val:Int→Int} {d:Dk} (h:DkI m p low R regs mem val d) (fn:Int) {a b:Int} (ha:1≤a∧a≤d.vs) (hb:1≤b∧b≤d.vs):Told m p low R regs mem val d (twoD d fn a b) (fnF fn (val a) (val b)):=by
 unfold twoD
 cases e1:d.num a with
 | none=>exact h.twoN fn ha hb
 | some x=>
  cases e2:d.num b with
  | none=>exact h.twoN fn ha hb
  | some y=>
   have wa:=h.w a
   have wb:=h.w b
   rw [←h.num _ _ e1,←h.num _ _ e2]
   exact h.const (fnF_bd fn _ _ wa.1 wa.2 wb.1 wb.2)
theorem DkI.un {regs mem:List Int} {val:Int→Int} {d:Dk} (h:DkI m p low R regs mem val d) (fn:Int) {a:Int} (ha:1≤a∧a≤d.vs):Told m p low R regs mem val d (unD d fn a) (fnF fn (val a) 0):=by
 have wa:=h.w a
 have wf:=fnF_bd fn (val a) 0 wa.1 wa.2 (by decide) (by decide)
 unfold unD
 cases e1:d.num a with
 | none=>exact h.named wf (.inr (.inr (.inl ⟨rfl,ha,rfl⟩))) (fun e=>absurd e (by decide:(4:Int)≠5))
 | some x=>
  rw [←h.num _ _ e1]
  exact h.const wf
theorem Told.then {regs mem:List Int} {val val':Int→Int} {d d':Dk} {q:Int×Dk} {x:Int} (h:Told m p low R regs mem val' d' q x) (he:Ev d d' val val'):Told m p low R regs mem val d q x:=by
 obtain ⟨v,h1,h2,h3⟩:=h
 exact ⟨v,h1,he.trans h2,h3⟩
def tellsI (i:In):Prop:=i.op=1∨i.op=2∨i.op=3∨i.op=4∨i.op=5∨i.op=7∨i.op=8
theorem toldD_no {d:Dk} {i:In} (h:¬ tellsI i):toldD d i=(0,d):=by
 unfold tellsI at h
 unfold toldD
 rw [if_neg (by omega),if_neg (by omega),if_neg (by omega),if_neg (by omega),if_neg (by omega),if_neg (by omega)]
theorem word4 (x:Int):0≤x % 4294967296∧x % 4294967296<4294967296:=⟨Int.emod_nonneg _ (by decide),Int.emod_lt_of_pos _ (by decide)⟩
theorem DkI.told {inp:List Int} {regs:List Int} {s:Oc} {val:Int→Int} {d:Dk} (h:DkI m p low R regs s.mem val d) (hwr:∀ x:Int,0≤rg regs x∧rg regs x<4294967296) {i:In} (hi:RdOk R i) (hm:MemOk s.mem) (hsz:i.op=5→i.size=1∨i.size=4) {r:List Int×Oc} (hr:insM m inp p low i regs s=some r) (ht:tellsI i) :
  ∃ x,Told m p low R regs s.mem val d (toldD d i) x∧r=(regs.set i.d.toNat x,s):=by
 have ha:=hi.a
 have hb:=hi.b
 have ua:=hi.useA
 have ub:=hi.useB
 unfold tellsI at ht
 unfold toldD
 unfold insM at hr
 by_cases h1:i.op=1
 ·rw [if_pos h1] at hr ⊢
  cases hr
  exact ⟨_,h.const hi.num,rfl⟩
 rw [if_neg h1] at hr ⊢
 by_cases h2:i.op=2
 ·rw [if_pos h2] at hr ⊢
  cases hr
  exact ⟨_,h.value (by omega) (hwr _),rfl⟩
 rw [if_neg h2] at hr ⊢
 by_cases h3:i.op=3
 ·rw [if_pos h3] at hr ⊢
  cases hr
  obtain ⟨v1,g1,e1,x1⟩:=h.value (r:=i.a) (by omega) (hwr _)
  obtain ⟨v2,g2,e2,x2⟩:=g1.value (r:=i.b) (by omega) (hwr _)
  have b1:=(h.b.value (r:=i.a) (by omega)).2.1
  have b2:=(g1.b.value (r:=i.b) (by omega)).2.1
  have ht:=g2.two i.fn (a:=(valueD d i.a).1) (b:=(valueD (valueD d i.a).2 i.b).1) ⟨b1.1,Int.le_trans b1.2 e2.vs⟩ b2
  rw [e2.ag _ b1.2,x1,x2] at ht
  exact ⟨_,ht.then (e1.trans e2),rfl⟩
 rw [if_neg h3] at hr ⊢
 by_cases h4:i.op=4
 ·rw [if_pos h4] at hr ⊢
  cases hr
  obtain ⟨v1,g1,e1,x1⟩:=h.value (r:=i.a) (by omega) (hwr _)
  have b1:=(h.b.value (r:=i.a) (by omega)).2.1
  have ht:=g1.un i.fn b1
  rw [x1] at ht
  exact ⟨_,ht.then e1,rfl⟩
 rw [if_neg h4] at hr ⊢
 by_cases h5:i.op=5
 ·rw [if_pos h5] at hr
  rw [if_neg (by omega),if_pos h5]
  obtain ⟨v1,g1,e1,x1⟩:=h.value (r:=i.a) (by omega) (hwr _)
  have b1:=(h.b.value (r:=i.a) (by omega)).2.1
  split at hr
  ·cases hr
   have hbd:=loadP_bd s.mem hm (addrM regs i-268435456).toNat i.size.toNat
   have hle:(256:Int) ^ i.size.toNat≤4294967296:=by rcases hsz h5 with h|h <;> rw [h] <;> decide
   refine ⟨_,Told.then (g1.named (k:=kyL (valueD d i.a).1 i.off i.size (valueD d i.a).2.mm) ⟨hbd.1,by omega⟩ (.inr (.inr (.inr (.inr (.inr ⟨rfl,b1,Int.le_refl _,fun _=>?_⟩))))) (fun _=>rfl)) e1,rfl⟩
   show _=loadP s.mem ((v1 (valueD d i.a).1+i.off) % 4294967296-268435456).toNat i.size.toNat
   rw [x1];rfl
  ·cases hr
 rw [if_neg h5] at hr
 by_cases h6:i.op=6
 ·omega
 rw [if_neg h6] at hr
 by_cases h7:i.op=7
 ·rw [if_pos h7] at hr
  rw [if_pos (.inl h7)]
  cases hr
  exact ⟨_,h.named (word4 _) (.inr (.inr (.inr (.inl ⟨h7,rfl⟩)))) (fun e=>absurd (h7.symm.trans e) (by decide)),rfl⟩
 rw [if_neg h7] at hr
 have h8:i.op=8:=by omega
 rw [if_pos h8] at hr
 rw [if_pos (.inr h8)]
 cases hr
 exact ⟨_,h.named (word4 _) (.inr (.inr (.inr (.inr (.inl ⟨h8,rfl⟩))))) (fun e=>absurd (h8.symm.trans e) (by decide)),rfl⟩
theorem DkI.read {regs mem:List Int} {val:Int→Int} {d:Dk} (h:DkI m p low R regs mem val d) (hwr:∀ x:Int,0≤rg regs x∧rg regs x<4294967296) {r:Int} (hr:r= -1∨0≤r∧r<R) :
  ∃ val',DkI m p low R regs mem val' (readD d r).2∧Ev d (readD d r).2 val val'∧rg regs (readD d r).1=rg regs r:=by
 unfold readD
 by_cases e:r= -1
 ·rw [if_pos e];exact ⟨val,h,Ev.refl _ _,rfl⟩
 ·rw [if_neg e]
  obtain ⟨v1,g1,e1,x1⟩:=h.value (r:=r) (by omega) (hwr _)
  have hv:=h.b.value (r:=r) (by omega)
  refine ⟨v1,g1,e1,?_⟩
  dsimp only
  rw [g1.of _ _ (hv.1.held hv.2.2),x1]
theorem DkI.readL {regs mem:List Int} (hwr:∀ x:Int,0≤rg regs x∧rg regs x<4294967296):∀ (l:List Int) {val:Int→Int} {d:Dk},DkI m p low R regs mem val d→(∀ r∈l,r= -1∨0≤r∧r<R)→
  ∃ val',DkI m p low R regs mem val' (readL d l).2∧Ev d (readL d l).2 val val'∧(readL d l).1.map (rg regs)=l.map (rg regs)
 | [],val,d,h,_=>⟨val,h,Ev.refl _ _,rfl⟩
 | r::l,val,d,h,hl=>by
  obtain ⟨v1,g1,e1,x1⟩:=h.read hwr (hl r List.mem_cons_self)
  obtain ⟨v2,g2,e2,x2⟩:=DkI.readL hwr l g1 (fun x hx=>hl x (List.mem_cons_of_mem _ hx))
  refine ⟨v2,g2,e1.trans e2,?_⟩
  show (rg regs (readD d r).1::(Go.Proofs.YtkhfddodmjnecaaGreatDoor.readL (readD d r).2 l).1.map (rg regs))=_
  rw [x1,x2];rfl
theorem DkI.reads {regs mem:List Int} {val:Int→Int} {d:Dk} (h:DkI m p low R regs mem val d) (hwr:∀ x:Int,0≤rg regs x∧rg regs x<4294967296) {i:In} (hi:RdOk R i) :
  ∃ val',DkI m p low R regs mem val' (readsD d i).2∧Ev d (readsD d i).2 val val'∧rg regs (readsD d i).1.a=rg regs i.a∧rg regs (readsD d i).1.b=rg regs i.b∧(readsD d i).1.args.map (rg regs)=i.args.map (rg regs):=by
 obtain ⟨v1,g1,e1,x1⟩:=h.read hwr hi.a
 obtain ⟨v2,g2,e2,x2⟩:=g1.read hwr hi.b
 obtain ⟨v3,g3,e3,x3⟩:=DkI.readL hwr i.args g2 hi.args
 exact ⟨v3,g3,(e1.trans e2).trans e3,x1,x2,x3⟩
theorem insM_reads {inp regs:List Int} {s:Oc} {d:Dk} {i:In} (hA:rg regs (readsD d i).1.a=rg regs i.a) (hB:rg regs (readsD d i).1.b=rg regs i.b):insM m inp p low (readsD d i).1 regs s=insM m inp p low i regs s:=by
 have e1:addrM regs (readsD d i).1=addrM regs i:=by unfold addrM;rw [hA];rfl
 unfold insM
 rw [e1,hA,hB]
 rfl
theorem DkI.turn {regs mem:List Int} {val:Int→Int} {d:Dk} (h:DkI m p low R regs mem val d) {op:Int} (ho:op=6∨op=9) (mem':List Int):DkI m p low R regs mem' val (turnD d op):=by
 have e:turnD d op=⟨d.of,d.ky,d.num,d.fs,d.vs,d.mm+1⟩:=by unfold turnD;rw [if_pos ho]
 rw [e]
 refine ⟨⟨h.b.vs,h.b.of,h.b.fs,h.b.ky,h.b.num⟩,h.of,fun k v hk=>?_,h.num,h.w⟩
 dsimp only
 rcases h.ky k v hk with h|h|h|h|h|⟨h1,h2,h3,h4⟩
 ·exact .inl h
 ·exact .inr (.inl h)
 ·exact .inr (.inr (.inl h))
 ·exact .inr (.inr (.inr (.inl h)))
 ·exact .inr (.inr (.inr (.inr (.inl h))))
 ·exact .inr (.inr (.inr (.inr (.inr ⟨h1,h2,by omega,fun e=>by omega⟩))))
theorem turnD_no {d:Dk} {op:Int} (h:¬ (op=6∨op=9)):turnD d op=d:=by unfold turnD;rw [if_neg h]
theorem putD_no {d:Dk} {i:In} (h:i.op≠6):putD d i=d:=by unfold putD;rw [if_neg (fun q=>h q.1)]
theorem set_rg {l:List Int} {d:Int} (h0:0≤d) (h1:d<(l.length:Int)):l.set d.toNat (rg l d)=l:=by
 unfold rg
 apply List.ext_getElem (by simp)
 intro i h2 h3
 rw [List.getElem_set]
 split
 ·rename_i e;subst e;simp [List.getD,h3]
 ·rfl
theorem rg_set_same {l:List Int} {d v:Int} (h0:0≤d) (h1:d<(l.length:Int)):rg (l.set d.toNat v) d=v:=by rw [rg_set _ _ _ _ h0 h0,if_pos ⟨rfl,by omega⟩]
theorem DkI.ins {inp regs:List Int} {s:Oc} {val:Int→Int} {d:Dk} (h:DkI m p low R regs s.mem val d) (hwr:∀ x:Int,0≤rg regs x∧rg regs x<4294967296) {i:In} (hi:RdOk R i) (hm:MemL s.mem) (hop:1≤i.op∧i.op≤12∧i.op≠9) (hsz:i.op=5∨i.op=6→i.size=1∨i.size=4) (hl:(regs.length:Int)=R) (hd:i.op≠6∧i.op≠10∧i.op≠12→0≤i.d∧i.d<R)
  {r:List Int×Oc} (hr:insM m inp p low i regs s=some r) (hrw:∀ x:Int,0≤rg r.1 x∧rg r.1 x<4294967296) :
  ∃ val',DkI m p low R r.1 r.2.mem val' (insD d i).2∧((insD d i).1.2=true→insM m inp p low (insD d i).1.1 regs s=some r)∧((insD d i).1.2=false→r=(regs,s)):=by
 obtain ⟨v1,g1,e1,hA,hB, -⟩:=h.reads hwr hi
 have hri:insM m inp p low (readsD d i).1 regs s=some r:=by rw [insM_reads hA hB];exact hr
 have hi1:=(h.b.reads hi).2.1
 have op1:(readsD d i).1.op=i.op:=rfl
 have d1:(readsD d i).1.d=i.d:=rfl
 have sz1:(readsD d i).1.size=i.size:=rfl
 have df1:=defI_reads d i
 have hshape:=insM_shape ⟨hop.1,hop.2.1,hop.2.2⟩ hr
 unfold insD
 by_cases hdf:defI i= -1
 ·rw [if_pos hdf]
  have hop3:i.op=6∨i.op=10∨i.op=12:=by
   apply Classical.byContradiction
   intro hn
   have:=hd (by omega)
   have e:defI i=i.d:=by unfold defI;rw [if_pos (by omega)]
   omega
  have hr1:r.1=regs:=by
   rcases hshape.1 with ⟨-,e⟩|⟨e,n6,n10,n12, -⟩
   ·exact e
   ·omega
  by_cases h6:i.op=6
  ·have g2:=g1.turn (.inl h6) r.2.mem
   refine (fun (hx:∃ val',DkI m p low R r.1 r.2.mem val' (putD (turnD (readsD d i).2 i.op) (readsD d i).1))=>let ⟨v,hv⟩:=hx;⟨v,hv,fun _=>hri,fun e=>(by cases e)⟩) ?_
   rw [hr1]
   unfold putD
   by_cases h4:i.size=4
   ·rw [if_pos ⟨h6,h4⟩]
    have ua:=hi1.useA (by rw [op1];omega)
    have ub:=hi1.useB (by rw [op1];omega)
    have ha:=hi1.a
    have hb:=hi1.b
    obtain ⟨v3,g3,e3,x3⟩:=g2.value (r:=(readsD d i).1.a) (by omega) (hwr _)
    obtain ⟨v4,g4,e4,x4⟩:=g3.value (r:=(readsD d i).1.b) (by omega) (hwr _)
    have b3:=(g2.b.value (r:=(readsD d i).1.a) (by omega)).2.1
    have b4:=(g3.b.value (r:=(readsD d i).1.b) (by omega)).2.1
    refine ⟨v4,g4.setKy (v:=(valueD (liesD (turnD (readsD d i).2 i.op) (readsD d i).1).2 (readsD d i).1.b).1) b4 (k:=(liesD (turnD (readsD d i).2 i.op) (readsD d i).1).1) (.inr (.inr (.inr (.inr (.inr ⟨rfl,⟨b3.1,Int.le_trans b3.2 e4.vs⟩,?_,fun _=>?_⟩)))))⟩
    ·show (valueD (turnD (readsD d i).2 i.op) (readsD d i).1.a).2.mm≤_
     rw [e4.mm];exact Int.le_refl _
    ·show v4 (valueD (liesD (turnD (readsD d i).2 i.op) (readsD d i).1).2 (readsD d i).1.b).1=loadP r.2.mem ((v4 (valueD (turnD (readsD d i).2 i.op) (readsD d i).1.a).1+i.off) % 4294967296-268435456).toNat i.size.toNat
     rw [show v4 (valueD (liesD (turnD (readsD d i).2 i.op) (readsD d i).1).2 (readsD d i).1.b).1=rg regs (readsD d i).1.b from x4,e4.ag _ b3.2,x3,hA,hB,h4]
     rcases hshape.2.2.2.1 with ⟨-,hpl,hst⟩|⟨hn, -⟩
     ·rw [hst,h4]
      have hpl4:=hpl
      rw [h4] at hpl4
      unfold placeF at hpl4
      simp only [Bool.and_eq_true,decide_eq_true_eq] at hpl4
      show rg regs i.b=loadP (storeP s.mem (addrM regs i-268435456).toNat (rg regs i.b) 4) (addrM regs i-268435456).toNat 4
      rw [load_store _ _ _ (hwr _) (by rw [hm.len];omega)]
     ·exact absurd h6 hn
   ·rw [if_neg (fun q=>h4 q.2)]
    exact ⟨v1,g2⟩
  ·have hm1:r.2.mem=s.mem:=by
    rcases hshape.2.2.2.1 with ⟨e, -⟩|⟨-,e⟩
    ·exact absurd e h6
    ·exact e
   rw [turnD_no (by omega),putD_no (by rw [op1];exact h6),hr1,hm1]
   exact ⟨v1,g1,fun _=>hri,fun e=>(by cases e)⟩
 ·rw [if_neg hdf]
  have hop3:i.op≠6∧i.op≠10∧i.op≠12:=by
   refine ⟨fun e=>hdf ?_,fun e=>hdf ?_,fun e=>hdf ?_⟩ <;> (unfold defI;rw [if_neg (by omega)])
  have hdr:=hd hop3
  have dfd:defI i=i.d:=by unfold defI;rw [if_pos (by omega)]
  have hm1:r.2.mem=s.mem:=by
   rcases hshape.2.2.2.1 with ⟨e, -⟩|⟨-,e⟩
   ·exact absurd e hop3.1
   ·exact e
  rw [turnD_no (by omega),putD_no (by rw [op1];exact hop3.1),hm1]
  -- the register is set to x
  have key:∃ x v2,r.1=regs.set i.d.toNat x∧DkI m p low R regs s.mem v2 (toldD (readsD d i).2 (readsD d i).1).2∧((toldD (readsD d i).2 (readsD d i).1).1=0∨v2 (toldD (readsD d i).2 (readsD d i).1).1=x∧r=(regs.set i.d.toNat x,s)):=by
   by_cases ht:tellsI i
   ·obtain ⟨x,⟨v2,g2, -,x2⟩,hx⟩:=g1.told hwr hi1 hm.ok (fun e=>hsz (.inl e)) hri ht
    exact ⟨x,v2,by rw [hx];rfl,g2,.inr ⟨x2,hx⟩⟩
   ·rw [toldD_no (i:=(readsD d i).1) ht]
    rcases hshape.1 with ⟨e, -⟩|⟨-, -, -, -,x,hx⟩
    ·exact absurd e hdf
    ·exact ⟨x,v1,hx,g1,.inl rfl⟩
  have htb:=g1.b.told hi1
  obtain ⟨x,v2,hx,g2,hcase⟩:=key
  have hxw:0≤x∧x<4294967296:=by
   have:=hrw i.d
   rw [hx,rg_set_same hdr.1 (by omega)] at this
   exact this
  have hx2:(readsD d i).1.d.toNat=i.d.toNat:=rfl
  unfold setsD
  rw [df1,dfd]
  by_cases hz:(toldD (readsD d i).2 (readsD d i).1).1=0
  ·rw [if_pos hz]
   have hf:=g2.fresh hxw
   have hvs:=g2.b.vs
   have hw:=hf.1.write hdr hl (v:=(toldD (readsD d i).2 (readsD d i).1).2.vs+1) ⟨by omega,Int.le_refl _⟩
   rw [updI_same,←hx] at hw
   exact ⟨_,hw,fun _=>hri,fun e=>(by cases e)⟩
  ·rw [if_neg hz]
   have hb1:1≤(toldD (readsD d i).2 (readsD d i).1).1∧(toldD (readsD d i).2 (readsD d i).1).1≤(toldD (readsD d i).2 (readsD d i).1).2.vs:=by
    rcases htb.2 with e|e
    ·exact absurd e hz
    ·exact e
   obtain ⟨hv2,hrr⟩:v2 (toldD (readsD d i).2 (readsD d i).1).1=x∧r=(regs.set i.d.toNat x,s):=by
    rcases hcase with e|e
    ·exact absurd e hz
    ·exact e
   generalize toldD (readsD d i).2 (readsD d i).1=q at *
   by_cases hsame:(q.2.of i.d).getD 0=q.1
   ·rw [if_pos hsame]
    have hof:q.2.of i.d=some q.1:=by
     cases e:q.2.of i.d with
     | none=>rw [e] at hsame;simp at hsame;omega
     | some u=>rw [e] at hsame;simp at hsame;rw [hsame]
    have hrg:rg regs i.d=x:=by rw [g2.of _ _ hof,hv2]
    have hset:regs.set i.d.toNat x=regs:=by rw [←hrg];exact set_rg hdr.1 (by omega)
    rw [hx,hset]
    exact ⟨v2,g2,fun e=>(by cases e),fun _=>by rw [hrr,hset]⟩
   ·rw [if_neg hsame]
    have hw:=g2.write hdr hl hb1
    rw [hv2,←hx] at hw
    refine ⟨v2,hw,fun _=>?_,fun e=>(by cases e)⟩
    dsimp only
    unfold outD
    rw [df1,dfd]
    cases hn:q.2.num q.1 with
    | some n=>
     have:=g2.num _ _ hn
     rw [hrr,←hv2,this];rfl
    | none=>
     dsimp only
     by_cases hh:holderD q.2 q.1≠ -1
     ·rw [if_pos hh]
      rcases g2.b.holder hb1.1 with e|e
      ·exact absurd e hh
      ·have:=g2.of _ _ e
       rw [hrr,←hv2,←this];rfl
     ·rw [if_neg hh];exact hri
end
end Go.Proofs.YtkhfddodmjnecaaGreatDoor
