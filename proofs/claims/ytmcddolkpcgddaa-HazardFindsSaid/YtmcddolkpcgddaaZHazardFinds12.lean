/-
Own rows of structs: their cells one struct behind the other.
-/
import Derived.Test.YtmcddolkpcgddaaZHazardFinds11
set_option maxHeartbeats 4000000
set_option maxRecDepth 100000
set_option linter.all false
namespace Go.Proofs.Ytmcddolkpcgddaa
open Go.ChangeShapes Go.WideShapes Go.ChangeAt Go.RowKit
section
open Go Go.RowKit
def qa3 (S:Nat→Prop) (w w':World):Prop:=∀ b o v,S b→w.cell? ⟨b,o,none⟩=some v→w'.cell? ⟨b,o,none⟩=some v
theorem qa3.refl (S:Nat→Prop) (w:World):qa3 S w w:=fun _ _ _ _ h=>h
theorem qa3.trans {S:Nat→Prop} {a b c:World} (h:qa3 S a b) (k:qa3 S b c):qa3 S a c:=fun x o v hx hv=>k x o v hx (h x o v hx hv)
theorem qa3.below {S:Nat→Prop} {w w':World} (h:Below w.heap.size w w'):qa3 S w w':=fun b o v _ hv=>(h.cell (p:=⟨b,o,none⟩) (World.block_lt_of_cell? w ⟨b,o,none⟩ hv)).trans hv
open Classical in
noncomputable def kx (S:Nat→Prop) (w x:World):World:=if qa3 S w x then x else w
theorem qze (S:Nat→Prop) (w x:World):qa3 S w (kx S w x):=by
 unfold kx;split
 ·assumption
 ·exact qa3.refl _ _
theorem qzq {S:Nat→Prop} {w x:World} (h:qa3 S w x):∃ y,x=kx S w y:=⟨x,by unfold kx;rw [if_pos h]⟩
noncomputable def qw3 (S:Nat→Prop) (w x:World) (a:Addr):Option Value:=(kx S w x).cell? a
theorem qvx {S:Nat→Prop} {w x:World} {b o:Nat} (h:S b):(kx S w x).cell? ⟨b,o,none⟩=(w.cell? ⟨b,o,none⟩).or (qw3 S w x ⟨b,o,none⟩):=by
 unfold qw3
 cases hc:w.cell? ⟨b,o,none⟩ with
 | none=>simp
 | some v=>rw [qze S w x b o v h hc];rfl
attribute [go_sem] qvx
section
variable {P:Program} {ops:Array Oper} {Q:Act→World→Prop} {S:Nat→Prop}
def qqh (nd:Bool) (S:Nat→Prop) (P:Program) (ops:Array Oper) (i:Nat) (K:Act→World→Prop) (a:Act) (w:World):Prop :=
 match ops[i]? with
 | none=>K a w
 | some o=>if Region.wanted o (yielded ops a.tmps) then o.wp P a w (fun a' w'=>(nd=true→qa3 S w w')∧K a' w') qjn else K (a.put o.dst undef) w
def wpJ (S:Nat→Prop) (P:Program) (ops:Array Oper) (Q:Act→World→Prop):Nat→Array Bool→Act→World→Prop
 | 0,listed,a,w=>Region.ready .any ops listed=[]∧Q a w
 | f+1,listed,a,w=>(Region.ready .any ops listed=[]→Q a w)∧∀ i∈Region.ready .any ops listed,qqh (!(qof ops i)) S P ops i (fun a' w'=>∀ w'',Below w'.heap.size w' w''→wpJ S P ops Q f (listed.setIfInBounds i true) a' w'') a w
def qqu (S:Nat→Prop) (P:Program) (ops:Array Oper) (Q:Act→World→Prop) (f:Nat) (listed:Array Bool) (a:Act) (w:World):Prop :=
 ∀ w',Below w.heap.size w w'→wpJ S P ops Q f listed a w'
theorem qqm {nd:Bool} {i:Nat} {a:Act} {w:World} {K K':Act→World→Prop} (h:∀ a w,K a w→K' a w) (hh:qqh nd S P ops i K a w):qqh nd S P ops i K' a w:=by
 unfold qqh at *
 split
 ·exact h _ _ (by simpa [*] using hh)
 ·rename_i o ho
  simp only [ho] at hh
  split
  ·rename_i hw;simp only [hw,if_true] at hh;exact qcg (fun a w h'=>⟨h'.1,h _ _ h'.2⟩) hh
  ·rename_i hw;simp only [hw] at hh;exact h _ _ hh
theorem qff {Q':Exit→Act→World→Prop} (hQ:∀ a w,Q a w→Q' .normal a w):∀ (f:Nat) (listed:Array Bool) (a:Act) (w:World),wpJ S P ops Q f listed a w→wpAny P .any ops Q' f listed a w
 | 0,_,_,_,h=>⟨h.1,hQ _ _ h.2⟩
 | f+1,listed,a,w,h=>⟨fun h0=>hQ _ _ (h.1 h0),fun i hi=>by
   have h1:=h.2 i hi
   unfold qqh at h1
   unfold wpOp
   split
   ·rename_i ho;simp only [ho] at h1;exact qff hQ f _ _ _ (h1 _ (Below.refl _ _))
   ·rename_i o ho
    simp only [ho] at h1
    split
    ·rename_i hw
     simp only [hw,if_true] at h1
     exact .inl (qcg (fun a' w' h2=>qff hQ f _ _ _ (h2.2 _ (Below.refl _ _))) h1)
    ·rename_i hw;simp only [hw] at h1;exact qff hQ f _ _ _ (h1 _ (Below.refl _ _))⟩
def qcb (S:Nat→Prop) (P:Program) (ops:Array Oper) (w:World) (o:Oper) (v:Value) (a:Act):Prop :=
 (Region.wanted o (yielded ops a.tmps)=true∧∀ w',qa3 S w w'→o.wp P a w' (fun a' w''=>a'=a.put o.dst v∧Below w'.heap.size w' w'') qjn)∨
 (Region.wanted o (yielded ops a.tmps)=false∧v=undef)
theorem qfl {a:Act} {dst:Option Tmp} {v u:Value} {ds:List Deferred} (h:a.put dst v=a.put dst u):({ a with defers:=ds }:Act).put dst v=({ a with defers:=ds }:Act).put dst u:=by
 cases dst with
 | none=>rfl
 | some d=>
  simp only [Act.put,Act.mk.injEq] at h ⊢
  exact ⟨h.1,trivial⟩
theorem qu6 {o:Oper} {a b:Act} {v:Value} {w:World} {R:World→Prop} (he:execOp b.eval o=execOp a.eval o) (hp:∀ u,a.put o.dst u=a.put o.dst v→b.put o.dst u=b.put o.dst v)
  (h:o.wp P a w (fun a' w'=>a'=a.put o.dst v∧R w') qjn):o.wp P b w (fun a' w'=>a'=b.put o.dst v∧R w') qjn:=by
 unfold Oper.wp at *
 rw [he]
 generalize (execOp a.eval o).run P w=r at *
 cases r with
 | ok n w'=>
  cases n <;> simp only [Oper.upon] at h ⊢
  case value u=>exact ⟨hp u h.1,h.2⟩
  case skip=>exact ⟨hp _ h.1,h.2⟩
  case defer d=>
   exfalso
   have h1:=congrArg (fun x:Act=>x.defers.length) h.1
   cases hd:o.dst <;> simp [hd,Act.put] at h1
  case enter f args=>
   refine Calls.mono h fun e w'' he=>?_
   cases e with
   | returned u=>exact ⟨hp u he.1,he.2⟩
   | panicked c=>exact he
   | outgrown=>exact he
  case row row args=>exact Rows.mono h fun u w'' he=>⟨hp u he.1,he.2⟩
 | halt x w'=>
  cases x <;> simp only [Oper.upon] at h ⊢
  case panic u=>exact h
theorem qcb.of_put {oi oj:Oper} {v u:Value} {a:Act} {w w1:World} (hsi:∀ cs b,oi.op≠.select cs b) (h2:∀ d,oi.dst=some d→oj.dst≠some d) (h3:∀ d,oj.dst=some d→d ∉ oi.looksAt ops)
  (hy:qcb S P ops w oi v a) (hb:qa3 S w w1):qcb S P ops w1 oi v (a.put oj.dst u):=by
 unfold qcb at *
 rw [wanted_put oi a oj.dst u h3]
 rcases hy with ⟨h,k⟩|h
 ·refine .inl ⟨h,fun w' h'=>qu6 (execOp_put oi hsi a oj.dst u h3) (fun x hx=>?_) (k w' (hb.trans h'))⟩
  rw [←Act.put_comm a x u h2,←Act.put_comm a v u h2,hx]
 ·exact .inr h
theorem qcb.keep {o:Oper} {v:Value} {a:Act} {w w1:World} (hy:qcb S P ops w o v a) (hb:qa3 S w w1):qcb S P ops w1 o v a:=by
 rcases hy with ⟨h,k⟩|h
 ·exact .inl ⟨h,fun w' h'=>k w' (hb.trans h')⟩
 ·exact .inr h
theorem qcb.defers {o:Oper} {v:Value} {a:Act} {w:World} {ds:List Deferred} (hy:qcb S P ops w o v a):qcb S P ops w o v { a with defers:=ds }:=by
 rcases hy with ⟨h,k⟩|h
 ·exact .inl ⟨h,fun w' h'=>qu6 (a:=a) rfl (fun x hx=>qfl hx) (k w' h')⟩
 ·exact .inr h
theorem qvz {j:Nat} {oi oj:Oper} {v:Value} (hj:ops[j]?=some oj) (hap:oi.apart ops oj=true)
  (hsi:∀ cs b,oi.op≠.select cs b) (hsj:∀ cs b,oj.op≠.select cs b) {K:Act→World→Prop} {a:Act} {w:World}
  (hy:qcb S P ops w oi v a) (h:qqh true S P ops j K (a.put oi.dst v) w) :
  qqh true S P ops j (fun a' w'=>qcb S P ops w' oi v a'∧K (a'.put oi.dst v) w') a w:=by
 obtain ⟨h1,h2,h3⟩:=Oper.apart_spec hap
 unfold qqh at *
 simp only [hj] at *
 rw [wanted_put oj a oi.dst v h1] at h
 split
 ·rename_i hw
  simp only [hw,if_true] at h
  unfold Oper.wp at *
  rw [execOp_put oj hsj a oi.dst v h1] at h
  generalize (execOp a.eval oj).run P w=r at *
  cases r with
  | ok n w'=>
   cases n <;> simp only [Oper.upon] at h ⊢
   case value u=>exact ⟨fun _=>h.1 trivial,hy.of_put hsi h2 h3 (h.1 trivial),by rw [←Act.put_comm a v u h2];exact h.2⟩
   case skip=>exact ⟨fun _=>h.1 trivial,hy.of_put hsi h2 h3 (h.1 trivial),by rw [←Act.put_comm a v undef h2];exact h.2⟩
   case defer d=>
    refine ⟨fun _=>h.1 trivial,(hy.defers (ds:=d::a.defers)).of_put hsi h2 h3 (h.1 trivial),?_⟩
    rw [←Act.put_comm _ v undef h2,←Act.put_defers]
    exact h.2
   case enter f args=>
    refine Calls.mono h fun e w'' he=>?_
    cases e with
    | returned u=>exact ⟨fun _=>he.1 trivial,hy.of_put hsi h2 h3 (he.1 trivial),by rw [←Act.put_comm a v u h2];exact he.2⟩
    | panicked c=>exact he
    | outgrown=>exact he
   case row row args=>exact Rows.mono h fun u w'' he=>⟨fun _=>he.1 trivial,hy.of_put hsi h2 h3 (he.1 trivial),by rw [←Act.put_comm a v u h2];exact he.2⟩
  | halt x w'=>
   cases x <;> simp only [Oper.upon] at h ⊢
   case panic u=>exact h
 ·rename_i hw
  simp only [hw] at h
  exact ⟨hy.of_put hsi h2 h3 (qa3.refl _ _),by rw [←Act.put_comm a v undef h2];exact h⟩
theorem qrz {i:Nat} {oi:Oper} {v:Value} (hi:ops[i]?=some oi) (hsel:∀ (j:Nat) (o:Oper) cs b,ops[j]?=some o→o.op≠.select cs b) :
  ∀ (fuel:Nat) (listed:Array Bool) (a:Act) (w:World),
   (∀ j oj,ops[j]?=some oj→j≠i→listed.getD j true=false→(∀ e∈oj.after,Region.binds .any e=true→e.on≠i)→oi.apart ops oj=true)→
   qfo ops listed→i∈Region.ready .any ops listed→qcb S P ops w oi v a→
   qqu S P ops Q fuel (listed.setIfInBounds i true) (a.put oi.dst v) w→wpJ S P ops Q (fuel+1) listed a w:=by
 have own:∀ (fuel:Nat) (listed:Array Bool) (a:Act) (w:World),qcb S P ops w oi v a→qqu S P ops Q fuel (listed.setIfInBounds i true) (a.put oi.dst v) w→
   qqh (!(qof ops i)) S P ops i (fun a' w'=>∀ w'',Below w'.heap.size w' w''→wpJ S P ops Q fuel (listed.setIfInBounds i true) a' w'') a w:=fun fuel listed a w hy H=>by
  unfold qqh
  simp only [hi]
  rcases hy with ⟨h,k⟩|⟨h,rfl⟩
  ·simp only [h,if_true]
   refine qcg (fun a' w' h2=>⟨fun _=>qa3.below h2.2,fun w'' h3=>?_⟩) (k w (qa3.refl _ _))
   rw [h2.1]
   exact H w'' (h2.2.trans (h3.mono h2.2.size))
  ·simp only [h,Bool.false_eq_true,if_false]
   exact H
 intro fuel
 induction fuel with
 | zero=>
  intro listed a w _ hcl hr hy H
  refine ⟨fun h=>(by rw [h] at hr;cases hr),fun j hj=>?_⟩
  by_cases hji:j=i
  ·subst hji;exact own _ _ _ _ hy H
  ·have:=ready_mono hj hji
   rw [(H w (Below.refl _ _)).1] at this
   cases this
 | succ fuel ih=>
  intro listed a w hfree hcl hr hy H
  refine ⟨fun h=>(by rw [h] at hr;cases hr),fun j hj=>?_⟩
  by_cases hji:j=i
  ·subst hji;exact own _ _ _ _ hy H
  ·have h1:=(H w (Below.refl _ _)).2 j (ready_mono hj hji)
   have hns:qof ops j=false:=by
    cases hs:qof ops j
    ·rfl
    ·exact (qhx hs hcl hj _ i rfl (qkp hi).1 (Ne.symm hji) (mem_ready.1 hr).1).elim
   rw [hns] at h1 ⊢
   obtain ⟨hjun,oj,hoj,hall⟩:=mem_ready.1 hj
   have hnot:∀ e∈oj.after,Region.binds .any e=true→e.on≠i:=fun e he hb heq=>by
    have h1:=hall e he hb
    have h0:=(mem_ready.1 hr).1
    rw [heq] at h1
    exact qer h1 h0
   have h2:=qvz hoj (hfree j oj hoj hji hjun hnot) (fun cs b=>hsel i oi cs b hi) (fun cs b=>hsel j oj cs b hoj) hy h1
   have hfree':∀ k ok,ops[k]?=some ok→k≠i→(listed.setIfInBounds j true).getD k true=false→
     (∀ e∈ok.after,Region.binds .any e=true→e.on≠i)→oi.apart ops ok=true:=fun k ok hk hki hun hno=>by
    refine hfree k ok hk hki ?_ hno
    by_cases hjk:j=k
    ·subst hjk;exact hjun
    ·rw [getD_set_ne true hjk] at hun;exact hun
   refine qqm (fun a' w' h3 w'' hw''=>ih (listed.setIfInBounds j true) a' w'' hfree' (qec hcl hj) (ready_mono hr (Ne.symm hji)) (h3.1.keep (qa3.below hw'')) ?_) h2
   intro w3 hw3
   rw [Array.setIfInBounds_comm _ _ hji]
   exact h3.2 w3 (hw''.trans (hw3.mono hw''.size))
theorem q2k {f:Nat} {listed:Array Bool} {a:Act} {w:World} (i:Nat) (o:Oper) (hio:ops[i]?=some o)
  (hc:(qee ops listed && (Region.noSelect ops && (Region.ready .any ops listed).contains i && Region.free .any ops listed i && (qgy o || qmk o)))=true)
  (h:wpQuiet P ops (fun w'=>∃ x,w'=kx S w x) (fun a'=>qqu S P ops Q f (listed.setIfInBounds i true) a' w) [o] a):qqu S P ops Q (f+1) listed a w:=by
 simp only [Bool.and_eq_true] at hc
 obtain ⟨hcl,⟨⟨hs,hr⟩,hf⟩,hk⟩:=hc
 simp only [wpQuiet] at h
 have hy:∃ v,qcb S P ops w o v a∧qqu S P ops Q f (listed.setIfInBounds i true) (a.put o.dst v) w:=by
  split at h
  ·rename_i hw
   obtain ⟨v,hv,hn⟩:=h
   refine ⟨v,.inl ⟨hw,fun w' hb=>?_⟩,hn⟩
   have h3:=hv w' (qzq hb)
   unfold Oper.quietAt at h3
   unfold Oper.wp
   generalize hrr:(execOp a.eval o).run P w'=r at h3
   cases r with
   | ok n w1=>
    have hu:∃ v,n=.value v:=by
     rw [Bool.or_eq_true] at hk
     rcases hk with hk|hk
     ·exact qdb hk hrr
     ·exact qfd hk hrr
    obtain ⟨u,rfl⟩:=hu
    simp only [Oper.quietUpon] at h3
    obtain ⟨rfl,rfl⟩:=h3
    simp only [Oper.upon]
    exact ⟨trivial,Below.refl _ _⟩
   | halt x w1=>simp only [Oper.quietUpon] at h3
  ·rename_i hw
   exact ⟨undef,.inr ⟨by simpa using hw,rfl⟩,h⟩
 obtain ⟨v,hy,hn⟩:=hy
 exact fun w' hw'=>qrz hio (Region.noSelect_spec hs) f listed a w' (Region.free_spec hio hf) (qd1 hcl) (by simpa using hr) (hy.keep (qa3.below hw')) fun w'' hw''=>hn w'' (hw'.trans (hw''.mono hw'.size))
theorem qgu {o:Oper} {a:Act} {w:World} {K:Act→World→Prop} (hw:Region.wanted o (yielded ops a.tmps)=true) (h:wpList P ops (qes K) [o] a w):o.wp P a w K qjn:=by
 unfold wpList at h
 simp only [hw,if_true] at h
 rcases h with h|⟨_,_,_,h⟩
 ·unfold Oper.wp at h ⊢
  generalize (execOp a.eval o).run P w=r at *
  cases r with
  | ok n w'=>
   cases n <;> simp only [Oper.upon] at h ⊢
   case value=>exact h
   case skip=>exact h
   case defer=>exact h
   case enter f args=>
    refine Calls.mono h fun e w'' he=>?_
    cases e with
    | returned v=>exact he
    | panicked c=>exact he
    | outgrown=>obtain ⟨_,_,hf⟩:=he;exact (show False from hf).elim
   case row row args=>exact Rows.mono h fun _ _ he=>he
  | halt x w'=>
   cases x <;> simp only [Oper.upon] at h ⊢
   case panic=>exact h
 ·exact (show False from h).elim
theorem qq7 {nd:Bool} {i:Nat} {o:Oper} {K:Act→World→Prop} {a:Act} {w:World} (hio:ops[i]?=some o)
  {K':Act→World→Prop} (hK:∀ a' w',K' a' w'→(nd=true→qa3 S w w')∧K a' w')
  (h:wpList P ops (qes K') [o] a w):qqh nd S P ops i K a w:=by
 unfold qqh
 simp only [hio]
 split
 ·rename_i hw
  exact qcg hK (qgu hw h)
 ·rename_i hw
  unfold wpList at h
  simp only [hw] at h
  exact (hK _ _ h).2
theorem qay {f:Nat} {listed:Array Bool} {a:Act} {w:World} (i:Nat) (o:Oper) (hio:ops[i]?=some o) (hr:(Region.ready .any ops listed ==[i])=true)
  (h:∀ w',Below w.heap.size w w'→wpList P ops (qes fun a' w1=>qa3 S w' w1∧qqu S P ops Q f (listed.setIfInBounds i true) a' w1) [o] a w'):qqu S P ops Q (f+1) listed a w:=by
 simp only [beq_iff_eq] at hr
 refine fun w' hw'=>⟨fun h0=>(by rw [hr] at h0;cases h0),fun j hj=>?_⟩
 rw [hr,List.mem_singleton] at hj
 subst hj
 exact qq7 hio (fun _ _ h=>⟨fun _=>h.1,h.2⟩) (h w' hw')
theorem qbh {listed:Array Bool} {a:Act} {w:World} (hr:(Region.ready .any ops listed).isEmpty=true) (h:∀ w',Below w.heap.size w w'→Q a w'):∀ f,qqu S P ops Q f listed a w
 | 0=>fun w' hw'=>⟨by simpa using hr,h w' hw'⟩
 | f+1=>fun w' hw'=>⟨fun _=>h w' hw',fun i hi=>by rw [List.isEmpty_iff.1 hr] at hi;cases hi⟩
theorem qak (S:Nat→Prop) {id:Nat} {Q':Exit→Act→World→Prop} {a:Act} {w:World} (hm:P.follows .mixedOrders=true)
  (h:qqu S P ops (fun a' w'=>Q' .normal a' w') ops.size (Array.replicate ops.size false) a w):(Code.region id ops true).wp P Q' a w :=
 wp_region_any hm (qff (fun _ _ h=>h) _ _ _ _ (h { w with drawn:=w.drawn+1 } (Below.refl _ _).drew))
end
end
section
open Go Go.RowKit
def opD:Oper:={ dst:=none,op:=.move (.tmp 0),type:=0,pos:= "",after:=#[],guard:=none }
def qd7 (look:Oper→Bool) (ops:Array Oper):List Nat→Array Bool→Bool
 | [],_=>true
 | i::is,listed=>(qee ops listed && (Region.noSelect ops && (Region.ready .any ops listed).contains i && Region.free .any ops listed i && ((ops[i]?).map look).getD false)) && qd7 look ops is (listed.setIfInBounds i true)
def qjj (is:List Nat) (listed:Array Bool):Array Bool:=is.foldl (fun l i=>l.setIfInBounds i true) listed
def ql5 (o:Oper):Bool:=qgy o || qmk o
section
variable {P:Program} {ops:Array Oper} {Q:Act→World→Prop} {S:Nat→Prop}
theorem qgh {C:World→Prop} {K:Act→Prop} {o:Oper} {l:List Oper} {a:Act} (h:wpQuiet P ops C K (o::l) a):wpQuiet P ops C (fun a'=>wpQuiet P ops C K l a') [o] a:=h
theorem qfc {C:World→Prop} {K K':Act→Prop} (hk:∀ a,K a→K' a) {o:Oper} {a:Act} (h:wpQuiet P ops C K [o] a):wpQuiet P ops C K' [o] a:=by
 unfold wpQuiet at h ⊢
 split
 ·rename_i hw
  rw [if_pos hw] at h
  obtain ⟨v,h1,h2⟩:=h
  exact ⟨v,h1,hk _ h2⟩
 ·rename_i hw
  rw [if_neg hw] at h
  exact hk _ h
theorem qan:∀ (is:List Nat) (n:Nat) (listed:Array Bool) (a:Act) (w:World),(decide (is.length≤n) && qd7 ql5 ops is listed)=true→
  wpQuiet P ops (fun w'=>∃ x,w'=kx S w x) (fun a'=>qqu S P ops Q (n-is.length) (qjj is listed) a' w) (is.map fun i=>(ops[i]?).getD opD) a→qqu S P ops Q n listed a w
 | [],n,listed,a,w,_,h=>h
 | i::is,n,listed,a,w,hc,h=>by
  simp only [Bool.and_eq_true,decide_eq_true_eq,qd7] at hc
  obtain ⟨hl,⟨h1,⟨⟨h2,h3⟩,h4⟩,h5⟩,h6⟩:=hc
  cases n with
  | zero=>exact absurd hl (by simp)
  | succ n=>
   cases ho:ops[i]? with
   | none=>rw [ho] at h5;cases h5
   | some o=>
    rw [ho] at h5
    have h5:ql5 o=true:=h5
    refine q2k i o ho (by simp only [Bool.and_eq_true];exact ⟨h1,⟨⟨h2,h3⟩,h4⟩,h5⟩) ?_
    rw [List.map_cons,ho] at h
    refine qfc (fun a' h'=>?_) (qgh h)
    refine qan is n _ a' w (by simp only [Bool.and_eq_true,decide_eq_true_eq];exact ⟨by simpa using hl,h6⟩) ?_
    have e:n+1-(i::is).length=n-is.length:=by simp
    rw [e] at h'
    exact h'
theorem qaf:∀ (is:List Nat) (n:Nat) (listed:Array Bool) (a:Act) (w:World),(decide (is.length≤n) && qd7 ql5 ops is listed)=true→
  wpQuiet P ops (fun w'=>∃ x,w'=kp S w x) (fun a'=>wpE S P ops Q (n-is.length) (qjj is listed) a' w) (is.map fun i=>(ops[i]?).getD opD) a→wpE S P ops Q n listed a w
 | [],n,listed,a,w,_,h=>h
 | i::is,n,listed,a,w,hc,h=>by
  simp only [Bool.and_eq_true,decide_eq_true_eq,qd7] at hc
  obtain ⟨hl,⟨h1,⟨⟨h2,h3⟩,h4⟩,h5⟩,h6⟩:=hc
  cases n with
  | zero=>exact absurd hl (by simp)
  | succ n=>
   cases ho:ops[i]? with
   | none=>rw [ho] at h5;cases h5
   | some o=>
    rw [ho] at h5
    have h5:ql5 o=true:=h5
    refine q09 i o ho (by simp only [Bool.and_eq_true];exact ⟨h1,⟨⟨h2,h3⟩,h4⟩,h5⟩) ?_
    rw [List.map_cons,ho] at h
    refine qfc (fun a' h'=>?_) (qgh h)
    refine qaf is n _ a' w (by simp only [Bool.and_eq_true,decide_eq_true_eq];exact ⟨by simpa using hl,h6⟩) ?_
    have e:n+1-(i::is).length=n-is.length:=by simp
    rw [e] at h'
    exact h'
end
/-! cells of small blocks -/
theorem cl4 {w:World} {b:Nat} {t:TypeId} {c0 c1 c2 c3:Value} (h:w.heap[b]?=some (.cells #[c0,c1,c2,c3] t (0,0))) :
  w.cell? ⟨b,0,none⟩=some c0∧w.cell? ⟨b,1,none⟩=some c1∧w.cell? ⟨b,2,none⟩=some c2∧w.cell? ⟨b,3,none⟩=some c3∧b<w.heap.size :=
 ⟨qab h 0,qab h 1,qab h 2,qab h 3,(qkp h).1⟩
theorem cl5 {w:World} {b:Nat} {t:TypeId} {c0 c1 c2 c3 c4:Value} (h:w.heap[b]?=some (.cells #[c0,c1,c2,c3,c4] t (0,0))) :
  w.cell? ⟨b,0,none⟩=some c0∧w.cell? ⟨b,1,none⟩=some c1∧w.cell? ⟨b,2,none⟩=some c2∧w.cell? ⟨b,3,none⟩=some c3∧w.cell? ⟨b,4,none⟩=some c4∧b<w.heap.size :=
 ⟨qab h 0,qab h 1,qab h 2,qab h 3,qab h 4,(qkp h).1⟩
theorem cl6 {w:World} {b:Nat} {t:TypeId} {c0 c1 c2 c3 c4 c5:Value} (h:w.heap[b]?=some (.cells #[c0,c1,c2,c3,c4,c5] t (0,0))) :
  w.cell? ⟨b,0,none⟩=some c0∧w.cell? ⟨b,1,none⟩=some c1∧w.cell? ⟨b,2,none⟩=some c2∧w.cell? ⟨b,3,none⟩=some c3∧w.cell? ⟨b,4,none⟩=some c4∧w.cell? ⟨b,5,none⟩=some c5∧b<w.heap.size :=
 ⟨qab h 0,qab h 1,qab h 2,qab h 3,qab h 4,qab h 5,(qkp h).1⟩
theorem qau {w:World} {b:Nat} {t:TypeId} {c0 c1 c2 c3 c4 c5 c6 c7 c8 c9 c10:Value} (h:w.heap[b]?=some (.cells #[c0,c1,c2,c3,c4,c5,c6,c7,c8,c9,c10] t (0,0))) :
  w.cell? ⟨b,0,none⟩=some c0∧w.cell? ⟨b,1,none⟩=some c1∧w.cell? ⟨b,2,none⟩=some c2∧w.cell? ⟨b,3,none⟩=some c3∧w.cell? ⟨b,4,none⟩=some c4∧w.cell? ⟨b,5,none⟩=some c5∧w.cell? ⟨b,6,none⟩=some c6∧w.cell? ⟨b,7,none⟩=some c7∧w.cell? ⟨b,8,none⟩=some c8∧w.cell? ⟨b,9,none⟩=some c9∧w.cell? ⟨b,10,none⟩=some c10∧b<w.heap.size :=
 ⟨qab h 0,qab h 1,qab h 2,qab h 3,qab h 4,qab h 5,qab h 6,qab h 7,qab h 8,qab h 9,qab h 10,(qkp h).1⟩
end
section
/-! what can be read stays,told by block and place -/
abbrev qj3 (w w':World):Prop:=qa3 (fun _=>True) w w'
theorem qb5.keep {w w':World} {v:Value} {k n:Nat} {R R':Nat→(Nat→Option Value)→Prop} (h:qb5 w v k n R) (he:qj3 w w') (hR:∀ i c c',Sub c c'→R i c→R' i c'):qb5 w' v k n R':=by
 obtain ⟨a,c,h1,h2,h3,h4⟩:=h
 refine ⟨a,c,h1,h2,h3,fun i hi=>?_⟩
 obtain ⟨b,o,e,r⟩:=h4 i hi
 exact ⟨b,o,e,hR i _ _ (fun j v hv=>he _ _ _ trivial hv) r⟩
theorem RdI.keep {w w':World} {v:Value} {l:List Int} (h:RdI w v l) (he:qj3 w w'):RdI w' v l:=qb5.keep h he fun _ _ _ hs h=>hs _ _ h
theorem InC.keep {w w':World} {c c':Nat→Option Value} {i:In} (h:InC w c i) (he:qj3 w w') (hs:Sub c c'):InC w' c' i:=by
 obtain ⟨h0,h1,h2,h3,h4,h5,h6,h7,h8,⟨v,h9,hv⟩,h10⟩:=h
 exact ⟨hs _ _ h0,hs _ _ h1,hs _ _ h2,hs _ _ h3,hs _ _ h4,hs _ _ h5,hs _ _ h6,hs _ _ h7,hs _ _ h8,⟨v,hs _ _ h9,hv.keep he⟩,hs _ _ h10⟩
theorem qbd.keep {w w':World} {v:Value} {l:List In} (h:qbd w v l) (he:qj3 w w'):qbd w' v l:=qb5.keep h he fun _ _ _ hs h=>h.keep he hs
theorem BkC.keep {w w':World} {c c':Nat→Option Value} {b:Bk} (h:BkC w c b) (he:qj3 w w') (hs:Sub c c'):BkC w' c' b:=by
 obtain ⟨⟨v,h0,hv⟩,h1,h2,h3,h4⟩:=h
 exact ⟨⟨v,hs _ _ h0,hv.keep he⟩,hs _ _ h1,hs _ _ h2,hs _ _ h3,hs _ _ h4⟩
theorem qbl.keep {w w':World} {v:Value} {l:List Bk} (h:qbl w v l) (he:qj3 w w'):qbl w' v l:=qb5.keep h he fun _ _ _ hs h=>h.keep he hs
theorem qce.keep {w w':World} {v:Value} {l:List Sl} (h:qce w v l) (he:qj3 w w'):qce w' v l:=qb5.keep h he fun _ _ _ hs h=>h.ext hs
theorem PrV.keep {w w':World} {v:Value} {p:Pr} (h:PrV w v p) (he:qj3 w w'):PrV w' v p:=let ⟨nm,vo,vb,e,h,k⟩:=h;⟨nm,vo,vb,e,h.keep he,k.keep he⟩
theorem qm9 {B:Nat} {w w1:World} (h:Below B w w1) (n:Nat):Below B w (w1.drewN n):=⟨h.os,h.tape,h.output,h.size,h.block⟩
def qbu (i:In) (va:Value):Value:=.agg #[.int .i64 i.op,.int .i64 i.d,.int .i64 i.a,.int .i64 i.b,.int .i64 i.fn,.int .i64 i.obj,.int .i64 i.off,.int .i64 i.size,.int .u32 i.num,va,.bool i.log]
theorem q01 (i:In) (va:Value) (w:World) :
  Calls Try.prog 45 #[qbu i va] w fun e w'=>e=.returned (.int .i64 (qbn i))∧Below w.heap.size w w':=by
 unfold qbu
 go_enter Try.func45,Try.ntmps45
 go_wp2
 all_goals
  go_ret
  simp only [beq_iff_eq,beq_eq_false_iff_ne,ne_eq] at *
  exact ⟨qdm (by unfold qbn;first|rw [if_pos (by omega)]|rw [if_neg (by omega)]),qaa _ _⟩
end
section
theorem q12 (t e:TypeId) {z:Value} {s bytes:Nat} (hinf:(Try.prog.info? e).map (fun i=>(i.zero,i.size,i.bytes))=some (some z,s,bytes)) (ht:Try.prog.underlying t=some (.slice e)) (hz:z.cells.size=s) (h0:0<s) (hbt:bytes≤128) (ys:List Value) (hyl:ys.length=s) (hy:∀ u∈ys,u.oneCell'=true)
  {ops:Array Oper} {rest:List Oper} {o:Oper} {a:Act} {W:World} {B:Nat} {v:Value} {m:Nat} {xs:List Value} {g:Nat} {Q:Exit→Act→World→Prop} {S x:Operand} (hown:W.ownsRow B e s v m xs) (hgd:o.guard=none)
  (ho:o.op=.call { callee:=.builtin .append,args:=#[S,x],argTypes:=#[t,t] }) (hs:a.eval S=v)
  (hx:a.eval x=.slice (some ⟨g,0,none⟩) 1 1) (hc:∀ j u,ys[j]?=some u→W.cell? ⟨g,j,none⟩=some u) (hlen:m≤1000000000) (hB:B≤W.heap.size)
  (h:∀ v' w',w'.ownsRow B e s v' (m+1) (xs++ys)→W.grownBy w' v.ownBlock→(v'.ownBlock=v.ownBlock∨v'.ownBlock=some W.heap.size)→wpList Try.prog ops Q rest (a.put o.dst v') w'):wpList Try.prog ops Q (o::rest) a W:=by
 obtain ⟨i0,hi,hz0,hz1,hz2⟩:=info_parts hinf
 refine wpList_append_own_at _ hgd S x t ho B e i0 z s bytes ht hi hz0 hz1 hz2 hz h0 v m _ hs hown ⟨g,0,none⟩ 1 1 ys hx (by omega) ?_ hy ?_ ?_ hB ?_
 ·intro j u hj
  have:=hc j u hj
  have e:({ block:=g,off:=0 }:Addr).add j=⟨g,j,none⟩:=by by_cases hj0:j=0 <;> simp [Addr.add,hj0]
  rw [e];exact this
 ·unfold maxLen;omega
 ·have:(m+1)*bytes≤(m+1)*128:=Nat.mul_le_mul_left _ hbt
  omega
 ·intro v' w' h1 h2 _ h4
  exact h v' w' h1 h2 h4
theorem qgb (w:World) (x:Value) (t:TypeId) (g:Nat) (hg:g=w.heap.size):∀ j u,[x][j]?=some u→(w.alloc (.cells #[x] t)).cell? ⟨g,j,none⟩=some u:=by
 subst hg
 intro j u hj
 match j,hj with
 | 0,hj=>
  simp at hj;subst hj
  exact (qab (heap_alloc_new w _) 0)
theorem qsd (w:World) (c:Array Value) (t:TypeId) (g:Nat) (hg:g=w.heap.size):∀ j u,c.toList[j]?=some u→(w.alloc (.cells c t)).cell? ⟨g,j,none⟩=some u:=by
 subst hg
 intro j u hj
 have:=qab (heap_alloc_new w (.cells c t)) j
 rw [this]
 simpa using hj
def qvq (v:Value) (row:Option Nat):Prop:=∀ b o n c,v=.slice (some ⟨b,o,none⟩) n c→some b≠row
theorem qvq.none {v:Value}:qvq v none:=fun _ _ _ _ _=>by simp
theorem qvq.nil {row:Option Nat}:qvq (.slice Option.none 0 0) row:=fun _ _ _ _ h=>by cases h
theorem qdt {w:World} {B s n g:Nat} {e:TypeId} {v:Value} {xs:List Value} (h:w.ownsRow B e s v n xs) (hg:v.ownBlock=some g):B≤g∧g<w.heap.size:=by
 obtain ⟨-,⟨rfl, -⟩|⟨b,cap,cur,rfl,hb,hgg, -⟩⟩:=h
 ·cases hg
 ·simp only [Value.ownBlock,Option.some.injEq] at hg
  subst hg
  exact ⟨hb,(qkp hgg).1⟩
theorem qhm {B:Nat} {w0 w w':World} {row:Option Nat} (h:Below B w0 w) (hg:w.grownBy w' row) (hB:B≤w.heap.size) (hr:∀ b,row=some b→B≤b):Below B w0 w' :=
 ⟨hg.os.trans h.os,hg.tape.trans h.tape,hg.output.trans h.output,Nat.le_trans h.size hg.size,fun k hk=>(hg.block k (by omega) (fun e=>by have:=hr k e.symm;omega)).trans (h.block k hk)⟩
theorem qm0 {w w':World} (hb:Below w.heap.size w w') (row:Option Nat):w.grownBy w' row:=⟨hb.os,hb.tape,hb.output,hb.size,fun k hk _=>hb.block k hk⟩
theorem qav {w w':World} {B s n:Nat} {e:TypeId} {v:Value} {xs:List Value} (h:w.ownsRow B e s v n xs) (hb:Below w.heap.size w w'):w'.ownsRow B e s v n xs :=
 h.kept (qm0 hb none) (by cases v.ownBlock <;> simp)
theorem qjd {w:World} {B:Nat} {e:TypeId} {v:Value} {α:Type} {l:List α} {f:α→Value} (d:α) (h:w.ownsRow B e 1 v l.length (l.map f)):qb5 w v 1 l.length fun i c=>c 0=some (f (l.getD i d)):=by
 have H:=h
 obtain ⟨-,⟨rfl,h0⟩|⟨b,cap,cur,rfl,hb,hgg,hn,hc, -⟩⟩:=h
 ·rw [h0];exact ⟨none,0,rfl,Nat.le_refl _,by simp [maxLen],fun i hi=>absurd hi (Nat.not_lt_zero i)⟩
 ·refine ⟨_,_,rfl,hn,hc,fun i hi=>⟨b,0,rfl,?_⟩⟩
  have:=H.cellAt i (by simpa using hi)
  simp only [Nat.mul_one,Nat.add_zero,Nat.zero_add] at this ⊢
  rw [this]
  simp [List.getD,hi]
end
section
theorem qga {α β:Type} (f:α→List β) (s:Nat) (hf:∀ a,(f a).length=s):∀ P:List α,(P.flatMap f).length=P.length*s
 | []=>by simp
 | a::P=>by
  rw [List.flatMap_cons,List.length_append,hf,qga f s hf P,List.length_cons,Nat.succ_mul];omega
theorem qi5 {α β:Type} [Inhabited α] (f:α→List β) (s:Nat) (hf:∀ a,(f a).length=s):∀ (P:List α) (i j:Nat),i<P.length→j<s→(P.flatMap f)[i*s+j]?=(f (P.getD i default))[j]?
 | [],i,j,h,_=>absurd h (Nat.not_lt_zero i)
 | a::P,0,j,_,hj=>by
  rw [List.flatMap_cons,Nat.zero_mul,Nat.zero_add,List.getElem?_append_left (by rw [hf];exact hj)]
  rfl
 | a::P,i+1,j,h,hj=>by
  have ih:=qi5 f s hf P i j (by simpa using h) hj
  rw [List.flatMap_cons,List.getElem?_append_right (by rw [hf,Nat.succ_mul];omega),hf,show (i+1)*s+j-s=i*s+j by rw [Nat.succ_mul];omega,ih]
  rfl
theorem qf7 {w:World} {B s:Nat} {e:TypeId} {v:Value} {α:Type} [Inhabited α] {P:List α} {f:α→List Value} (hs:0<s) (hf:∀ a,(f a).length=s) (h:w.ownsRow B e s v P.length (P.flatMap f)):qb5 w v s P.length fun i c=>∀ j u,(f (P.getD i default))[j]?=some u→c j=some u:=by
 have H:=h
 obtain ⟨-,⟨rfl,h0⟩|⟨b,cap,cur,rfl,hb,hgg,hn,hc, -⟩⟩:=h
 ·rw [h0];exact ⟨none,0,rfl,Nat.le_refl _,by simp [maxLen],fun i hi=>absurd hi (Nat.not_lt_zero i)⟩
 ·refine ⟨_,_,rfl,hn,hc,fun i hi=>⟨b,0,rfl,fun j u hu=>?_⟩⟩
  have hj:j<s:=by have:=(List.getElem?_eq_some_iff.1 hu).1;rw [hf] at this;exact this
  have hlt:i*s+j<P.length*s:=by
   have:(i+1)*s≤P.length*s:=Nat.mul_le_mul_right _ hi
   rw [Nat.succ_mul] at this
   omega
  have:=H.cellAt (i*s+j) hlt
  rw [qi5 f s hf P i j hi hj,hu] at this
  rw [Nat.zero_add];exact this
theorem qho (w:World) (c:List Value) (t:TypeId) (g:Nat) (hg:g=w.heap.size):∀ j u,c[j]?=some u→(w.alloc (.cells c.toArray t)).cell? ⟨g,j,none⟩=some u:=qsd w c.toArray t g hg
end
end Go.Proofs.Ytmcddolkpcgddaa
