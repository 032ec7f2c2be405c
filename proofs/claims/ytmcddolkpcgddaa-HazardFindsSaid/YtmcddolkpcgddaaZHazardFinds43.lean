/-
 (As module J, but whole addresses are kept.) Regions that draw their order, with calls that make new memory: such a call may stand at any place, since all that follows is shown for every world that has grown out of the one at hand.
-/
import Derived.Test.YtmcddolkpcgddaaZHazardFinds12
set_option linter.all false
namespace Go.Proofs.Ytmcddolkpcgddaa
open Go Go.RowKit
def qbp (S:Nat→Prop) (w w':World):Prop:=∀ a v,S a.block→w.cell? a=some v→w'.cell? a=some v
theorem qbp.refl (S:Nat→Prop) (w:World):qbp S w w:=fun _ _ _ h=>h
theorem qbp.trans {S:Nat→Prop} {a b c:World} (h:qbp S a b) (k:qbp S b c):qbp S a c:=fun x v hx hv=>k x v hx (h x v hx hv)
theorem qbp.below {S:Nat→Prop} {w w':World} (h:Below w.heap.size w w'):qbp S w w':=fun a v _ hv=>(h.cell (p:=a) (World.block_lt_of_cell? w a hv)).trans hv
open Classical in
noncomputable def ky (S:Nat→Prop) (w x:World):World:=if qbp S w x then x else w
theorem qx6 (S:Nat→Prop) (w x:World):qbp S w (ky S w x):=by
 unfold ky;split
 ·assumption
 ·exact qbp.refl _ _
theorem qyl {S:Nat→Prop} {w x:World} (h:qbp S w x):∃ y,x=ky S w y:=⟨x,by unfold ky;rw [if_pos h]⟩
noncomputable def qwm (S:Nat→Prop) (w x:World) (a:Addr):Option Value:=(ky S w x).cell? a
theorem qvb {S:Nat→Prop} {w x:World} {b o:Nat} (h:S b):(ky S w x).cell? ⟨b,o,none⟩=(w.cell? ⟨b,o,none⟩).or (qwm S w x ⟨b,o,none⟩):=by
 unfold qwm
 cases hc:w.cell? ⟨b,o,none⟩ with
 | none=>simp
 | some v=>rw [qx6 S w x ⟨b,o,none⟩ v h hc];rfl
attribute [go_sem] qvb
section
variable {P:Program} {ops:Array Oper} {Q:Act→World→Prop} {S:Nat→Prop}
def qqg (nd:Bool) (S:Nat→Prop) (P:Program) (ops:Array Oper) (i:Nat) (K:Act→World→Prop) (a:Act) (w:World):Prop :=
 match ops[i]? with
 | none=>K a w
 | some o=>if Region.wanted o (yielded ops a.tmps) then o.wp P a w (fun a' w'=>(nd=true→qbp S w w')∧K a' w') qjn else K (a.put o.dst undef) w
def wpY (S:Nat→Prop) (P:Program) (ops:Array Oper) (Q:Act→World→Prop):Nat→Array Bool→Act→World→Prop
 | 0,listed,a,w=>Region.ready .any ops listed=[]∧Q a w
 | f+1,listed,a,w=>(Region.ready .any ops listed=[]→Q a w)∧∀ i∈Region.ready .any ops listed,qqg (!(qof ops i)) S P ops i (fun a' w'=>∀ w'',Below w'.heap.size w' w''→wpY S P ops Q f (listed.setIfInBounds i true) a' w'') a w
def qmd (S:Nat→Prop) (P:Program) (ops:Array Oper) (Q:Act→World→Prop) (f:Nat) (listed:Array Bool) (a:Act) (w:World):Prop :=
 ∀ w',Below w.heap.size w w'→wpY S P ops Q f listed a w'
theorem qrf {nd:Bool} {i:Nat} {a:Act} {w:World} {K K':Act→World→Prop} (h:∀ a w,K a w→K' a w) (hh:qqg nd S P ops i K a w):qqg nd S P ops i K' a w:=by
 unfold qqg at *
 split
 ·exact h _ _ (by simpa [*] using hh)
 ·rename_i o ho
  simp only [ho] at hh
  split
  ·rename_i hw;simp only [hw,if_true] at hh;exact qcg (fun a w h'=>⟨h'.1,h _ _ h'.2⟩) hh
  ·rename_i hw;simp only [hw] at hh;exact h _ _ hh
theorem qe6 {Q':Exit→Act→World→Prop} (hQ:∀ a w,Q a w→Q' .normal a w):∀ (f:Nat) (listed:Array Bool) (a:Act) (w:World),wpY S P ops Q f listed a w→wpAny P .any ops Q' f listed a w
 | 0,_,_,_,h=>⟨h.1,hQ _ _ h.2⟩
 | f+1,listed,a,w,h=>⟨fun h0=>hQ _ _ (h.1 h0),fun i hi=>by
   have h1:=h.2 i hi
   unfold qqg at h1
   unfold wpOp
   split
   ·rename_i ho;simp only [ho] at h1;exact qe6 hQ f _ _ _ (h1 _ (Below.refl _ _))
   ·rename_i o ho
    simp only [ho] at h1
    split
    ·rename_i hw
     simp only [hw,if_true] at h1
     exact .inl (qcg (fun a' w' h2=>qe6 hQ f _ _ _ (h2.2 _ (Below.refl _ _))) h1)
    ·rename_i hw;simp only [hw] at h1;exact qe6 hQ f _ _ _ (h1 _ (Below.refl _ _))⟩
def qb4 (S:Nat→Prop) (P:Program) (ops:Array Oper) (w:World) (o:Oper) (v:Value) (a:Act):Prop :=
 (Region.wanted o (yielded ops a.tmps)=true∧∀ w',qbp S w w'→o.wp P a w' (fun a' w''=>a'=a.put o.dst v∧Below w'.heap.size w' w'') qjn)∨
 (Region.wanted o (yielded ops a.tmps)=false∧v=undef)
theorem qb4.of_put {oi oj:Oper} {v u:Value} {a:Act} {w w1:World} (hsi:∀ cs b,oi.op≠.select cs b) (h2:∀ d,oi.dst=some d→oj.dst≠some d) (h3:∀ d,oj.dst=some d→d ∉ oi.looksAt ops)
  (hy:qb4 S P ops w oi v a) (hb:qbp S w w1):qb4 S P ops w1 oi v (a.put oj.dst u):=by
 unfold qb4 at *
 rw [wanted_put oi a oj.dst u h3]
 rcases hy with ⟨h,k⟩|h
 ·refine .inl ⟨h,fun w' h'=>qu6 (execOp_put oi hsi a oj.dst u h3) (fun x hx=>?_) (k w' (hb.trans h'))⟩
  rw [←Act.put_comm a x u h2,←Act.put_comm a v u h2,hx]
 ·exact .inr h
theorem qb4.keep {o:Oper} {v:Value} {a:Act} {w w1:World} (hy:qb4 S P ops w o v a) (hb:qbp S w w1):qb4 S P ops w1 o v a:=by
 rcases hy with ⟨h,k⟩|h
 ·exact .inl ⟨h,fun w' h'=>k w' (hb.trans h')⟩
 ·exact .inr h
theorem qb4.defers {o:Oper} {v:Value} {a:Act} {w:World} {ds:List Deferred} (hy:qb4 S P ops w o v a):qb4 S P ops w o v { a with defers:=ds }:=by
 rcases hy with ⟨h,k⟩|h
 ·exact .inl ⟨h,fun w' h'=>qu6 (a:=a) rfl (fun x hx=>qfl hx) (k w' h')⟩
 ·exact .inr h
theorem qu9 {j:Nat} {oi oj:Oper} {v:Value} (hj:ops[j]?=some oj) (hap:oi.apart ops oj=true)
  (hsi:∀ cs b,oi.op≠.select cs b) (hsj:∀ cs b,oj.op≠.select cs b) {K:Act→World→Prop} {a:Act} {w:World}
  (hy:qb4 S P ops w oi v a) (h:qqg true S P ops j K (a.put oi.dst v) w) :
  qqg true S P ops j (fun a' w'=>qb4 S P ops w' oi v a'∧K (a'.put oi.dst v) w') a w:=by
 obtain ⟨h1,h2,h3⟩:=Oper.apart_spec hap
 unfold qqg at *
 simp only [hj] at *
 rw [wanted_put oj a oi.dst v h1] at h
 split
 ·rename_i hw
  simp only [hw,if_true] at h
  unfold Oper.wp at *
  rw [execOp_put oj hsj a oi.dst v h1] at h
  generalize (execOp a.eval oj).run P w=r at *
  cases r with
  | ok n w'=>
   cases n <;> simp only [Oper.upon] at h ⊢
   case value u=>exact ⟨fun _=>h.1 trivial,hy.of_put hsi h2 h3 (h.1 trivial),by rw [←Act.put_comm a v u h2];exact h.2⟩
   case skip=>exact ⟨fun _=>h.1 trivial,hy.of_put hsi h2 h3 (h.1 trivial),by rw [←Act.put_comm a v undef h2];exact h.2⟩
   case defer d=>
    refine ⟨fun _=>h.1 trivial,(hy.defers (ds:=d::a.defers)).of_put hsi h2 h3 (h.1 trivial),?_⟩
    rw [←Act.put_comm _ v undef h2,←Act.put_defers]
    exact h.2
   case enter f args=>
    refine Calls.mono h fun e w'' he=>?_
    cases e with
    | returned u=>exact ⟨fun _=>he.1 trivial,hy.of_put hsi h2 h3 (he.1 trivial),by rw [←Act.put_comm a v u h2];exact he.2⟩
    | panicked c=>exact he
    | outgrown=>exact he
   case row row args=>exact Rows.mono h fun u w'' he=>⟨fun _=>he.1 trivial,hy.of_put hsi h2 h3 (he.1 trivial),by rw [←Act.put_comm a v u h2];exact he.2⟩
  | halt x w'=>
   cases x <;> simp only [Oper.upon] at h ⊢
   case panic u=>exact h
 ·rename_i hw
  simp only [hw] at h
  exact ⟨hy.of_put hsi h2 h3 (qbp.refl _ _),by rw [←Act.put_comm a v undef h2];exact h⟩
theorem qj2 {i:Nat} {oi:Oper} {v:Value} (hi:ops[i]?=some oi) (hsel:∀ (j:Nat) (o:Oper) cs b,ops[j]?=some o→o.op≠.select cs b) :
  ∀ (fuel:Nat) (listed:Array Bool) (a:Act) (w:World),
   (∀ j oj,ops[j]?=some oj→j≠i→listed.getD j true=false→(∀ e∈oj.after,Region.binds .any e=true→e.on≠i)→oi.apart ops oj=true)→
   qfo ops listed→i∈Region.ready .any ops listed→qb4 S P ops w oi v a→
   qmd S P ops Q fuel (listed.setIfInBounds i true) (a.put oi.dst v) w→wpY S P ops Q (fuel+1) listed a w:=by
 have own:∀ (fuel:Nat) (listed:Array Bool) (a:Act) (w:World),qb4 S P ops w oi v a→qmd S P ops Q fuel (listed.setIfInBounds i true) (a.put oi.dst v) w→
   qqg (!(qof ops i)) S P ops i (fun a' w'=>∀ w'',Below w'.heap.size w' w''→wpY S P ops Q fuel (listed.setIfInBounds i true) a' w'') a w:=fun fuel listed a w hy H=>by
  unfold qqg
  simp only [hi]
  rcases hy with ⟨h,k⟩|⟨h,rfl⟩
  ·simp only [h,if_true]
   refine qcg (fun a' w' h2=>⟨fun _=>qbp.below h2.2,fun w'' h3=>?_⟩) (k w (qbp.refl _ _))
   rw [h2.1]
   exact H w'' (h2.2.trans (h3.mono h2.2.size))
  ·simp only [h,Bool.false_eq_true,if_false]
   exact H
 intro fuel
 induction fuel with
 | zero=>
  intro listed a w _ hcl hr hy H
  refine ⟨fun h=>(by rw [h] at hr;cases hr),fun j hj=>?_⟩
  by_cases hji:j=i
  ·subst hji;exact own _ _ _ _ hy H
  ·have:=ready_mono hj hji
   rw [(H w (Below.refl _ _)).1] at this
   cases this
 | succ fuel ih=>
  intro listed a w hfree hcl hr hy H
  refine ⟨fun h=>(by rw [h] at hr;cases hr),fun j hj=>?_⟩
  by_cases hji:j=i
  ·subst hji;exact own _ _ _ _ hy H
  ·have h1:=(H w (Below.refl _ _)).2 j (ready_mono hj hji)
   have hns:qof ops j=false:=by
    cases hs:qof ops j
    ·rfl
    ·exact (qhx hs hcl hj _ i rfl (qkp hi).1 (Ne.symm hji) (mem_ready.1 hr).1).elim
   rw [hns] at h1 ⊢
   obtain ⟨hjun,oj,hoj,hall⟩:=mem_ready.1 hj
   have hnot:∀ e∈oj.after,Region.binds .any e=true→e.on≠i:=fun e he hb heq=>by
    have h1:=hall e he hb
    have h0:=(mem_ready.1 hr).1
    rw [heq] at h1
    exact qer h1 h0
   have h2:=qu9 hoj (hfree j oj hoj hji hjun hnot) (fun cs b=>hsel i oi cs b hi) (fun cs b=>hsel j oj cs b hoj) hy h1
   have hfree':∀ k ok,ops[k]?=some ok→k≠i→(listed.setIfInBounds j true).getD k true=false→
     (∀ e∈ok.after,Region.binds .any e=true→e.on≠i)→oi.apart ops ok=true:=fun k ok hk hki hun hno=>by
    refine hfree k ok hk hki ?_ hno
    by_cases hjk:j=k
    ·subst hjk;exact hjun
    ·rw [getD_set_ne true hjk] at hun;exact hun
   refine qrf (fun a' w' h3 w'' hw''=>ih (listed.setIfInBounds j true) a' w'' hfree' (qec hcl hj) (ready_mono hr (Ne.symm hji)) (h3.1.keep (qbp.below hw'')) ?_) h2
   intro w3 hw3
   rw [Array.setIfInBounds_comm _ _ hji]
   exact h3.2 w3 (hw''.trans (hw3.mono hw''.size))
theorem q2g {f:Nat} {listed:Array Bool} {a:Act} {w:World} (i:Nat) (o:Oper) (hio:ops[i]?=some o)
  (hc:(qee ops listed && (Region.noSelect ops && (Region.ready .any ops listed).contains i && Region.free .any ops listed i && (qgy o || qmk o)))=true)
  (h:wpQuiet P ops (fun w'=>∃ x,w'=ky S w x) (fun a'=>qmd S P ops Q f (listed.setIfInBounds i true) a' w) [o] a):qmd S P ops Q (f+1) listed a w:=by
 simp only [Bool.and_eq_true] at hc
 obtain ⟨hcl,⟨⟨hs,hr⟩,hf⟩,hk⟩:=hc
 simp only [wpQuiet] at h
 have hy:∃ v,qb4 S P ops w o v a∧qmd S P ops Q f (listed.setIfInBounds i true) (a.put o.dst v) w:=by
  split at h
  ·rename_i hw
   obtain ⟨v,hv,hn⟩:=h
   refine ⟨v,.inl ⟨hw,fun w' hb=>?_⟩,hn⟩
   have h3:=hv w' (qyl hb)
   unfold Oper.quietAt at h3
   unfold Oper.wp
   generalize hrr:(execOp a.eval o).run P w'=r at h3
   cases r with
   | ok n w1=>
    have hu:∃ v,n=.value v:=by
     rw [Bool.or_eq_true] at hk
     rcases hk with hk|hk
     ·exact qdb hk hrr
     ·exact qfd hk hrr
    obtain ⟨u,rfl⟩:=hu
    simp only [Oper.quietUpon] at h3
    obtain ⟨rfl,rfl⟩:=h3
    simp only [Oper.upon]
    exact ⟨trivial,Below.refl _ _⟩
   | halt x w1=>simp only [Oper.quietUpon] at h3
  ·rename_i hw
   exact ⟨undef,.inr ⟨by simpa using hw,rfl⟩,h⟩
 obtain ⟨v,hy,hn⟩:=hy
 exact fun w' hw'=>qj2 hio (Region.noSelect_spec hs) f listed a w' (Region.free_spec hio hf) (qd1 hcl) (by simpa using hr) (hy.keep (qbp.below hw')) fun w'' hw''=>hn w'' (hw'.trans (hw''.mono hw'.size))
theorem qwl {f:Nat} {listed:Array Bool} {a:Act} {w:World} (i:Nat) (o:Oper) (v:Value) (hio:ops[i]?=some o)
  (hc:(qee ops listed && (Region.noSelect ops && (Region.ready .any ops listed).contains i && Region.free .any ops listed i))=true)
  (hw:Region.wanted o (yielded ops a.tmps)=true)
  (h:∀ w',qbp S w w'→wpList P ops (qes fun a' w''=>a'=a.put o.dst v∧Below w'.heap.size w' w'') [o] a w')
  (hn:qmd S P ops Q f (listed.setIfInBounds i true) (a.put o.dst v) w):qmd S P ops Q (f+1) listed a w:=by
 simp only [Bool.and_eq_true] at hc
 obtain ⟨hcl,⟨hs,hr⟩,hf⟩:=hc
 have hy:qb4 S P ops w o v a:=.inl ⟨hw,fun w' hb=>qgu hw (h w' hb)⟩
 exact fun w' hw'=>qj2 hio (Region.noSelect_spec hs) f listed a w' (Region.free_spec hio hf) (qd1 hcl) (by simpa using hr) (hy.keep (qbp.below hw')) fun w'' hw''=>hn w'' (hw'.trans (hw''.mono hw'.size))
theorem qhs {nd:Bool} {i:Nat} {o:Oper} {K:Act→World→Prop} {a:Act} {w:World} (hio:ops[i]?=some o)
  {K':Act→World→Prop} (hK:∀ a' w',K' a' w'→(nd=true→qbp S w w')∧K a' w')
  (h:wpList P ops (qes K') [o] a w):qqg nd S P ops i K a w:=by
 unfold qqg
 simp only [hio]
 split
 ·rename_i hw
  exact qcg hK (qgu hw h)
 ·rename_i hw
  unfold wpList at h
  simp only [hw] at h
  exact (hK _ _ h).2
theorem qgs {f:Nat} {listed:Array Bool} {a:Act} {w:World} (i:Nat) (o:Oper) (hio:ops[i]?=some o) (hr:(Region.ready .any ops listed ==[i])=true)
  (h:∀ w',Below w.heap.size w w'→wpList P ops (qes fun a' w1=>qbp S w' w1∧qmd S P ops Q f (listed.setIfInBounds i true) a' w1) [o] a w'):qmd S P ops Q (f+1) listed a w:=by
 simp only [beq_iff_eq] at hr
 refine fun w' hw'=>⟨fun h0=>(by rw [hr] at h0;cases h0),fun j hj=>?_⟩
 rw [hr,List.mem_singleton] at hj
 subst hj
 exact qhs hio (fun _ _ h=>⟨fun _=>h.1,h.2⟩) (h w' hw')
theorem qzp {f:Nat} {listed:Array Bool} {a:Act} {w:World} (i j:Nat) (o o':Oper) (hio:ops[i]?=some o) (hjo:ops[j]?=some o') (hr:(Region.ready .any ops listed ==[i,j])=true)
  (h:∀ w',Below w.heap.size w w'→wpList P ops (qes fun a' w1=>qbp S w' w1∧qmd S P ops Q f (listed.setIfInBounds i true) a' w1) [o] a w')
  (h':∀ w',Below w.heap.size w w'→wpList P ops (qes fun a' w1=>qbp S w' w1∧qmd S P ops Q f (listed.setIfInBounds j true) a' w1) [o'] a w'):qmd S P ops Q (f+1) listed a w:=by
 simp only [beq_iff_eq] at hr
 refine fun w' hw'=>⟨fun h0=>(by rw [hr] at h0;cases h0),fun k hk=>?_⟩
 rw [hr] at hk
 simp only [List.mem_cons,List.not_mem_nil,or_false] at hk
 rcases hk with rfl|rfl
 ·exact qhs hio (fun _ _ h=>⟨fun _=>h.1,h.2⟩) (h w' hw')
 ·exact qhs hjo (fun _ _ h=>⟨fun _=>h.1,h.2⟩) (h' w' hw')
theorem qwo {listed:Array Bool} {a:Act} {w:World} (hr:(Region.ready .any ops listed).isEmpty=true) (h:∀ w',Below w.heap.size w w'→Q a w'):∀ f,qmd S P ops Q f listed a w
 | 0=>fun w' hw'=>⟨by simpa using hr,h w' hw'⟩
 | f+1=>fun w' hw'=>⟨fun _=>h w' hw',fun i hi=>by rw [List.isEmpty_iff.1 hr] at hi;cases hi⟩
theorem qih (S:Nat→Prop) {id:Nat} {Q':Exit→Act→World→Prop} {a:Act} {w:World} (hm:P.follows .mixedOrders=true)
  (h:qmd S P ops (fun a' w'=>Q' .normal a' w') ops.size (Array.replicate ops.size false) a w):(Code.region id ops true).wp P Q' a w :=
 wp_region_any hm (qe6 (fun _ _ h=>h) _ _ _ _ (h { w with drawn:=w.drawn+1 } (Below.refl _ _).drew))
theorem qwq:∀ (is:List Nat) (n:Nat) (listed:Array Bool) (a:Act) (w:World),(decide (is.length≤n) && qd7 ql5 ops is listed)=true→
  wpQuiet P ops (fun w'=>∃ x,w'=ky S w x) (fun a'=>qmd S P ops Q (n-is.length) (qjj is listed) a' w) (is.map fun i=>(ops[i]?).getD opD) a→qmd S P ops Q n listed a w
 | [],n,listed,a,w,_,h=>h
 | i::is,n,listed,a,w,hc,h=>by
  simp only [Bool.and_eq_true,decide_eq_true_eq,qd7] at hc
  obtain ⟨hl,⟨h1,⟨⟨h2,h3⟩,h4⟩,h5⟩,h6⟩:=hc
  cases n with
  | zero=>exact absurd hl (by simp)
  | succ n=>
   cases ho:ops[i]? with
   | none=>rw [ho] at h5;cases h5
   | some o=>
    rw [ho] at h5
    have h5:ql5 o=true:=h5
    refine q2g i o ho (by simp only [Bool.and_eq_true];exact ⟨h1,⟨⟨h2,h3⟩,h4⟩,h5⟩) ?_
    rw [List.map_cons,ho] at h
    refine qfc (fun a' h'=>?_) (qgh h)
    refine qwq is n _ a' w (by simp only [Bool.and_eq_true,decide_eq_true_eq];exact ⟨by simpa using hl,h6⟩) ?_
    have e:n+1-(i::is).length=n-is.length:=by simp
    rw [e] at h'
    exact h'
end
theorem qbp.set {S:Nat→Prop} {w w':World} (h:qbp S w w') {p:Addr} (u:Value) (hp:¬ S p.block):qbp S w (w'.setCell p u):=fun a v ha hv=>by
 have h1:=h a v ha hv
 have hne:a.block≠p.block:=fun e=>hp (e ▸ ha)
 unfold World.cell? at h1 ⊢
 have e:(w'.setCell p u).heap[a.block]?=w'.heap[a.block]?:=heap_setCell_other w' p a.block u hne
 rw [e]
 exact h1
theorem qbp.ext {n:Nat} {w0 w w':World} (h:qbp (fun z=>z<n) w w') (h0:Ext w0 w) (hn:w0.heap.size≤n):Ext w0 w':=fun a v hv=>h a v (Nat.lt_of_lt_of_le (World.block_lt_of_cell? w0 a hv) hn) (h0 a v hv)
end Go.Proofs.Ytmcddolkpcgddaa
