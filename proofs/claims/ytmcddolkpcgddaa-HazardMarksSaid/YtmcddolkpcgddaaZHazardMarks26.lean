/-
 A module with another procedure in the place of one: if that follows the old one, runs that end have the same outcome. Plain.; What an instruction reads, sets and stores, in plain data.; A procedure in the place of another one: what it owes, and what is right then. Plain.
-/
import Derived.Test.YtmcddolkpcgddaaZHazardMarks25
import Derived.Test.YtmcddolkpcgddaaZHazardMarks08

set_option linter.all false
namespace Go.Proofs.Ytmcddolkpcgddaa
set_option linter.unusedVariables false

def withM (m : Md) (n : Nat) (q : Pr) : Md := { m with procs := m.procs.set n q }
theorem withM_len (m : Md) (n : Nat) (q : Pr) : (withM m n q).procs.length = m.procs.length := by simp [withM]
theorem pk_with (m : Md) (n : Nat) (q : Pr) (h : n < m.procs.length) : pk (withM m n q) n = q := by
 unfold pk withM; simp [List.getD, h]
theorem pk_other (m : Md) (n : Nat) (q : Pr) {k : Nat} (h : k ≠ n) : pk (withM m n q) k = pk m k := by
 unfold pk withM; simp [List.getD, List.getElem?_set, Ne.symm h]
theorem insM_with (m : Md) (n : Nat) (q : Pr) (inp : List Int) (p : Pr) (low : Int) (i : In) (regs : List Int) (s : Oc) : insM (withM m n q) inp p low i regs s = insM m inp p low i regs s := rfl
theorem enM_with (m : Md) (n : Nat) (q : Pr) : enM (withM m n q) = enM m := rfl
theorem longM_with {m : Md} {n : Nat} {q : Pr} (hn : n < m.procs.length) (h : q.objs = (pk m n).objs) (k : Nat) : longM (pk (withM m n q) k) = longM (pk m k) := by
 by_cases e : k = n
 ·subst e; rw [pk_with _ _ _ hn]; unfold longM; rw [h]
 ·rw [pk_other _ _ _ e]
def rowsR (R : Fr → Fr → Prop) : List Fr → List Fr → Prop
 | [], [] => True
 | a :: l, b :: k => R a b ∧ rowsR R l k
 | _, _ => False
theorem rowsR_len {R : Fr → Fr → Prop} : ∀ {a b : List Fr}, rowsR R a b → a.length = b.length
 | [], [], _ => rfl
 | _ :: _, _ :: _, h => by
  have := rowsR_len (R := R) h.2
  simp [this]
 | [], _ :: _, h => h.elim
 | _ :: _, [], h => h.elim
def FrS (n0 : Nat) (S : Fr → Fr → Prop) (f f' : Fr) : Prop := f.n ≠ n0 ∧ f' = f ∨ f.n = n0 ∧ f'.n = n0 ∧ f'.low = f.low ∧ S f f'
def TopR (n0 : Nat) (T : Fr → Fr → Oc → Oc → Prop) (f f' : Fr) (s s' : Oc) : Prop := f.n ≠ n0 ∧ f' = f ∧ s' = s ∨ f.n = n0 ∧ f'.n = n0 ∧ f'.low = f.low ∧ T f f' s s'
inductive RelR (m : Md) (n0 : Nat) (S : Fr → Fr → Prop) (T : Fr → Fr → Oc → Oc → Prop) : Ms → Ms → Prop
 | done (s : Oc) (hm : MemL s.mem) : RelR m n0 S T ⟨[], false, s⟩ ⟨[], false, s⟩
 | on (f f' : Fr) (K K' : List Fr) (s s' : Oc) (hi : MIv m ⟨f :: K, false, s⟩) (hk : rowsR (FrS n0 S) K K') (ht : TopR n0 T f f' s s') : RelR m n0 S T ⟨f :: K, false, s⟩ ⟨f' :: K', false, s'⟩
def wordR (l : List Int) : Prop := ∀ x ∈ l, 0 ≤ x ∧ x < 4294967296
/-- what a procedure q in the place of n0 owes -/
structure RepS (m : Md) (inp : List Int) (n0 : Nat) (q : Pr) (S : Fr → Fr → Prop) (T : Fr → Fr → Oc → Oc → Prop) (c : Nat) : Prop where
 pos : 1 ≤ c
 enter : ∀ args low s, (args.length : Int) = (pk m n0).params → wordR args → MemL s.mem → T ⟨n0, args ++ List.replicate ((pk m n0).regs.toNat - args.length) 0, low, 0, 0⟩ ⟨n0, args ++ List.replicate (q.regs.toNat - args.length) 0, low, 0, 0⟩ s s
 ins : ∀ f f' s s' r, f.n = n0 → f'.n = n0 → f'.low = f.low → T f f' s s' → GFr m f → MemL s.mem → f.i < (fBk m f).ins.length → (fIn m f).op ≠ 9 → insM m inp (pk m n0) f.low (fIn m f) f.regs s = some r →
  ∃ k g t, k ≤ c ∧ g.n = n0 ∧ g.low = f.low ∧ (∀ K, itM (withM m n0 q) inp k ⟨f' :: K, false, s'⟩ = ⟨g :: K, false, t⟩) ∧ T { f with regs := r.1, i := f.i + 1 } g r.2 t
 call : ∀ f f' s s', f.n = n0 → f'.n = n0 → f'.low = f.low → T f f' s s' → GFr m f → MemL s.mem → f.i < (fBk m f).ins.length → (fIn m f).op = 9 →
  ∃ k g, k + 1 ≤ c ∧ g.n = n0 ∧ g.low = f.low ∧ (∀ K, itM (withM m n0 q) inp k ⟨f' :: K, false, s'⟩ = ⟨g :: K, false, s⟩) ∧ (∀ K, stepM (withM m n0 q) inp ⟨g :: K, false, s⟩ = enterM (withM m n0 q) (fUp g :: K) (fIn m f).obj.toNat ((fIn m f).args.map (rg f.regs)) f.low s) ∧ S (fUp f) (fUp g)
 ret : ∀ f f' v s, f.n = n0 → f'.n = n0 → f'.low = f.low → S f f' → UFr m f → (0 ≤ v ∧ v < 4294967296) → MemL s.mem → T (retF m f v) (retF (withM m n0 q) f' v) s s
 fin : ∀ f f' s s', f.n = n0 → f'.n = n0 → f'.low = f.low → T f f' s s' → GFr m f → MemL s.mem → f.i = (fBk m f).ins.length → (fBk m f).fin ≠ 3 →
  ∃ k g t, k ≤ c ∧ g.n = n0 ∧ g.low = f.low ∧ (∀ K, itM (withM m n0 q) inp k ⟨f' :: K, false, s'⟩ = ⟨g :: K, false, t⟩) ∧ T (fNext m f) g s t
 back : ∀ f f' s s', f.n = n0 → f'.n = n0 → f'.low = f.low → T f f' s s' → GFr m f → MemL s.mem → f.i = (fBk m f).ins.length → (fBk m f).fin = 3 →
  ∃ k g, k + 1 ≤ c ∧ (∀ K, itM (withM m n0 q) inp k ⟨f' :: K, false, s'⟩ = ⟨g :: K, false, s⟩) ∧ (∀ K, stepM (withM m n0 q) inp ⟨g :: K, false, s⟩ = backM (withM m n0 q) K (if (fBk m f).a ≠ -1 then rg f.regs (fBk m f).a else 0) s)
section
variable {m : Md} {inp : List Int} {n0 : Nat} {q : Pr} {S : Fr → Fr → Prop} {T : Fr → Fr → Oc → Oc → Prop} {c : Nat}
theorem fin_on (f : Fr) (K : List Fr) (s : Oc) : (⟨f :: K, false, s⟩ : Ms).fin = false := rfl
theorem it_more {m' : Md} {k : Nat} {A B : Ms} (h : itM m' inp k A = B) (hB : B.fin = false) : itM m' inp (k + 1) A = stepM m' inp B := by
 rw [itM_add, h, itM_succ _ hB]; rfl
theorem it_one {m' : Md} {A : Ms} (hA : A.fin = false) : itM m' inp 1 A = stepM m' inp A := by rw [itM_succ _ hA]; rfl
theorem fBk_other {f : Fr} (h : f.n ≠ n0) : fBk (withM m n0 q) f = fBk m f := by unfold fBk; rw [pk_other _ _ _ h]
theorem fIn_other {f : Fr} (h : f.n ≠ n0) : fIn (withM m n0 q) f = fIn m f := by unfold fIn; rw [fBk_other h]
theorem retF_other {f : Fr} (h : f.n ≠ n0) (v : Int) : retF (withM m n0 q) f v = retF m f v := by unfold retF; rw [pk_other _ _ _ h]
theorem fNext_other {f : Fr} (h : f.n ≠ n0) : fNext (withM m n0 q) f = fNext m f := by unfold fNext; rw [fBk_other h]
theorem RepS.backR (H : RepS m inp n0 q S T c) {K K' : List Fr} {s : Oc} {v : Int} (hK : ∀ fr ∈ K, UFr m fr) (hm : MemL s.mem) (hv : 0 ≤ v ∧ v < 4294967296) (hk : rowsR (FrS n0 S) K K') : RelR m n0 S T (backM m K v s) (backM (withM m n0 q) K' v s) := by
 match K, K', hk with
 | [], [], _ => exact RelR.done _ hm
 | [], _ :: _, h => exact h.elim
 | _ :: _, [], h => exact h.elim
 | f :: K1, f' :: K1', hk =>
  obtain ⟨h1, h2⟩ := hk
  rw [backM_cons, backM_cons]
  have hM := MIv.back hv hK hm
  rw [backM_cons] at hM
  refine RelR.on _ _ _ _ _ _ hM h2 ?_
  have hr := retF_eq m f v
  have hr' := retF_eq (withM m n0 q) f' v
  rcases h1 with ⟨e1, e2⟩ | ⟨e1, e2, e3, e4⟩
  ·refine .inl ⟨by rw [hr.1]; exact e1, by rw [e2, retF_other e1], rfl⟩
  ·refine .inr ⟨by rw [hr.1]; exact e1, by rw [hr'.1]; exact e2, by rw [hr'.2.1, hr.2.1]; exact e3, H.ret _ _ _ _ e1 e2 e3 e4 (hK f List.mem_cons_self) hv hm⟩
theorem RepS.enterR (H : RepS m inp n0 q S T c) (hn : n0 < m.procs.length) (ho : q.objs = (pk m n0).objs) {K K' : List Fr} {s : Oc} {n : Nat} {args : List Int} {top : Int} (hi : MIv m (enterM m K n args top s)) (hh : (enterM m K n args top s).halt = false) (hm : MemL s.mem) (ha : (args.length : Int) = (pk m n).params) (haw : wordR args) (hk : rowsR (FrS n0 S) K K') : RelR m n0 S T (enterM m K n args top s) (enterM (withM m n0 q) K' n args top s) := by
 unfold enterM at hi hh ⊢
 rw [longM_with hn ho, enM_with, ← rowsR_len hk]
 by_cases hc : top - longM (pk m n) < enM m ∨ 5000 ≤ K.length
 ·rw [if_pos hc] at hh; cases hh
 ·rw [if_neg hc] at hi ⊢
  rw [if_neg hc]
  refine RelR.on _ _ _ _ _ _ hi hk ?_
  by_cases e : n = n0
  ·subst e
   refine .inr ⟨rfl, rfl, rfl, ?_⟩
   rw [pk_with _ _ _ hn]
   exact H.enter args _ s ha haw hm
  ·exact .inl ⟨e, by rw [pk_other _ _ _ e], rfl⟩
theorem RepS.step (H : RepS m inp n0 q S T c) (hok : okM m = true) (hmd : MdOk m) (hiw : ∀ x ∈ inp, 0 ≤ x ∧ x < 4294967296) (hn : n0 < m.procs.length) (ho : q.objs = (pk m n0).objs) {M N : Ms} (hR : RelR m n0 S T M N) (hfin : M.fin = false) (hh : (stepM m inp M).halt = false) :
  ∃ k, k ≤ c ∧ RelR m n0 S T (stepM m inp M) (itM (withM m n0 q) inp k N) := by
 cases hR with
 | done s hm => cases hfin
 | on f f' K K' s s' hi hk ht =>
  have hG := hi.fr f List.mem_cons_self
  have hK : ∀ fr ∈ K, UFr m fr := fun fr hfr => hi.up fr hfr
  have hM' := MIv.step hok hmd hiw hi hh
  have hrg := rg_words hG.w
  have hP := okM_proc hok hG.n
  have hB := okP_blk hP hG.b
  rcases ht with ⟨e1, rfl, rfl⟩ | ⟨e1, e2, e3, hT⟩
  ·refine ⟨1, H.pos, ?_⟩
   rw [it_one (fin_on _ _ _)]
   by_cases hl : f'.i = (fBk m f').ins.length
   ·by_cases h3 : (fBk m f').fin = 3
    ·rw [fs_ret hl h3, fs_ret (by rw [fBk_other e1]; exact hl) (by rw [fBk_other e1]; exact h3), fBk_other e1]
     exact H.backR hK hi.mem (by split; exact hrg _; exact ⟨by decide, by decide⟩) hk
    ·rw [fs_end hl h3] at hM' ⊢
     rw [fs_end (by rw [fBk_other e1]; exact hl) (by rw [fBk_other e1]; exact h3), fNext_other e1]
     exact RelR.on _ _ _ _ _ _ hM' hk (.inl ⟨e1, rfl, rfl⟩)
   ·have hlt : f'.i < (fBk m f').ins.length := by have := hG.i; unfold fBk at *; omega
    have hI : okI m (pk m f'.n) (fIn m f') = true := okB_ins hB hlt
    by_cases h9 : (fIn m f').op = 9
    ·rw [fs_call hl h9] at hM' hh ⊢
     rw [fs_call (by rw [fBk_other e1]; exact hl) (by rw [fIn_other e1]; exact h9), fIn_other e1]
     obtain ⟨c1, c2, hpar, -, -⟩ := okI_call hI h9
     refine H.enterR hn ho hM' hh hi.mem (by rw [List.length_map]; exact hpar) (fun x hx => ?_) ⟨.inl ⟨e1, rfl⟩, hk⟩
     obtain ⟨y, -, rfl⟩ := List.mem_map.1 hx
     exact hrg y
    ·cases hX : insM m inp (pk m f'.n) f'.low (fIn m f') f'.regs s' with
     | none => rw [fs_bad hl h9 hX] at hh; cases hh
     | some r =>
      rw [fs_ins hl h9 hX] at hM' ⊢
      rw [fs_ins (r := r) (by rw [fBk_other e1]; exact hl) (by rw [fIn_other e1]; exact h9) (by rw [fIn_other e1, pk_other _ _ _ e1, insM_with]; exact hX)]
      exact RelR.on _ _ _ _ _ _ hM' hk (.inl ⟨e1, rfl, rfl⟩)
  ·by_cases hl : f.i = (fBk m f).ins.length
   ·by_cases h3 : (fBk m f).fin = 3
    ·obtain ⟨k, g, h4, h5, h6⟩ := H.back f f' s s' e1 e2 e3 hT hG hi.mem hl h3
     refine ⟨k + 1, h4, ?_⟩
     rw [it_more (h5 K') (fin_on _ _ _), h6, fs_ret hl h3]
     exact H.backR hK hi.mem (by split; exact hrg _; exact ⟨by decide, by decide⟩) hk
    ·obtain ⟨k, g, t, h4, h5, h6, h7, h8⟩ := H.fin f f' s s' e1 e2 e3 hT hG hi.mem hl h3
     refine ⟨k, h4, ?_⟩
     rw [h7]
     rw [fs_end hl h3] at hM' ⊢
     exact RelR.on _ _ _ _ _ _ hM' hk (.inr ⟨e1, h5, h6, h8⟩)
   ·have hlt : f.i < (fBk m f).ins.length := by have := hG.i; unfold fBk at *; omega
    have hI : okI m (pk m f.n) (fIn m f) = true := okB_ins hB hlt
    by_cases h9 : (fIn m f).op = 9
    ·obtain ⟨k, g, h4, h5, h6, h7, h8, h10⟩ := H.call f f' s s' e1 e2 e3 hT hG hi.mem hlt h9
     refine ⟨k + 1, h4, ?_⟩
     rw [it_more (h7 K') (fin_on _ _ _), h8]
     rw [fs_call hl h9] at hM' hh ⊢
     obtain ⟨c1, c2, hpar, -, -⟩ := okI_call hI h9
     refine H.enterR hn ho hM' hh hi.mem (by rw [List.length_map]; exact hpar) (fun x hx => ?_) ⟨.inr ⟨e1, h5, h6, h10⟩, hk⟩
     obtain ⟨y, -, rfl⟩ := List.mem_map.1 hx
     exact hrg y
    ·cases hX : insM m inp (pk m f.n) f.low (fIn m f) f.regs s with
     | none => rw [fs_bad hl h9 hX] at hh; cases hh
     | some r =>
      obtain ⟨k, g, t, h4, h5, h6, h7, h8⟩ := H.ins f f' s s' r e1 e2 e3 hT hG hi.mem hlt h9 (by rw [← e1]; exact hX)
      refine ⟨k, h4, ?_⟩
      rw [h7]
      rw [fs_ins hl h9 hX] at hM' ⊢
      exact RelR.on _ _ _ _ _ _ hM' hk (.inr ⟨e1, h5, h6, h8⟩)
end
end Go.Proofs.Ytmcddolkpcgddaa

set_option linter.all false
namespace Go.Proofs.Ytmcddolkpcgddaa
set_option linter.unusedVariables false

theorem ops12 {m : Md} {p : Pr} {i : In} (h : okI m p i = true) : 1 ≤ i.op ∧ i.op ≤ 12 := by
 unfold okI at h
 simp only [Bool.and_eq_true, decide_eq_true_eq] at h
 exact ⟨h.1.1, h.1.2.1⟩
theorem okI_regs {m : Md} {p : Pr} {i : In} (h : okI m p i = true) (h9 : i.op ≠ 9) : regF p i.d (i.op != 6 && (i.op != 10 && i.op != 12)) = true ∧ regF p i.a (readsA i.op) = true ∧ regF p i.b (readsB i.op) = true ∧ moreF m p i = true := by
 unfold okI at h
 simp only [Bool.and_eq_true] at h
 have h := h.2
 rw [if_neg h9] at h
 simp only [Bool.and_eq_true] at h
 exact ⟨h.1.1, h.1.2.1, h.1.2.2, h.2⟩
theorem regF_in {p : Pr} {r : Int} (h : regF p r true = true) : 0 ≤ r ∧ r < p.regs := by unfold regF at h; simpa using h
theorem regF_may {p : Pr} {r : Int} {b : Bool} (h : regF p r b = true) : r = -1 ∨ 0 ≤ r ∧ r < p.regs := by
 cases b
 ·left; unfold regF at h; simpa using h
 ·exact .inr (regF_in h)
/-- what it sets is in its place -/
theorem okI_d {m : Md} {p : Pr} {i : In} (h : okI m p i = true) (hd : i.op ≠ 6 ∧ i.op ≠ 10 ∧ i.op ≠ 12 ∧ i.op ≠ 9) : 0 ≤ i.d ∧ i.d < p.regs := by
 have h1 := (okI_regs h (by omega)).1
 have e : (i.op != 6 && (i.op != 10 && i.op != 12)) = true := by simp; omega
 rw [e] at h1
 exact regF_in h1
end Go.Proofs.Ytmcddolkpcgddaa

set_option linter.all false
namespace Go.Proofs.Ytmcddolkpcgddaa
set_option linter.unusedVariables false

/-- what others ask of a procedure -/
structure Like (p q : Pr) : Prop where
 params : q.params = p.params
 void : q.void = p.void
theorem getD_with {m : Md} {n : Nat} {q : Pr} (hn : n < m.procs.length) (k : Nat) : (withM m n q).procs.getD k default = if k = n then q else m.procs.getD k default := by
 by_cases e : k = n
 ·subst e; rw [if_pos rfl]; exact pk_with m k q hn
 ·rw [if_neg e]; exact pk_other m n q e
theorem like_at {m : Md} {n : Nat} {q : Pr} (hn : n < m.procs.length) (h : Like (pk m n) q) (k : Nat) : ((withM m n q).procs.getD k default).params = (m.procs.getD k default).params ∧ ((withM m n q).procs.getD k default).void = (m.procs.getD k default).void := by
 rw [getD_with hn]
 by_cases e : k = n
 ·subst e; rw [if_pos rfl]; exact ⟨h.params, h.void⟩
 ·rw [if_neg e]; exact ⟨rfl, rfl⟩
theorem okI_with {m : Md} {n : Nat} {q : Pr} (hn : n < m.procs.length) (h : Like (pk m n) q) (p : Pr) (i : In) : okI (withM m n q) p i = okI m p i := by
 unfold okI callF moreF
 rw [(like_at hn h i.obj.toNat).1, (like_at hn h i.obj.toNat).2, withM_len]
 rfl
theorem okB_with {m : Md} {n : Nat} {q : Pr} (hn : n < m.procs.length) (h : Like (pk m n) q) (p : Pr) (b : Bk) : okB (withM m n q) p b = okB m p b := by
 unfold okB
 congr 1
 rw [Bool.eq_iff_iff, List.all_eq_true, List.all_eq_true]
 exact forall_congr' fun x => forall_congr' fun _ => by rw [okI_with hn h]
theorem okP_with {m : Md} {n : Nat} {q : Pr} (hn : n < m.procs.length) (h : Like (pk m n) q) (p : Pr) : okP (withM m n q) p = okP m p := by
 unfold okP
 congr 1
 rw [Bool.eq_iff_iff, List.all_eq_true, List.all_eq_true]
 exact forall_congr' fun x => forall_congr' fun _ => by rw [okB_with hn h]
theorem okI_same {p q : Pr} (h1 : q.regs = p.regs) (h2 : q.objs = p.objs) (m : Md) (i : In) : okI m q i = okI m p i := by
 unfold okI callF moreF regF
 rw [h1, h2]
theorem endF_same {p q : Pr} (h1 : q.regs = p.regs) (h2 : q.void = p.void) (h3 : q.blks.length = p.blks.length) (b : Bk) : endF q b = endF p b := by
 unfold endF blockF regF
 rw [h1, h2, h3]
/-- a procedure in the place of another one does the same -/
structure Good (m : Md) (inp : List Int) (n : Nat) (q : Pr) : Prop where
 like : Like (pk m n) q
 objs : q.objs = (pk m n).objs
 ok : okP m q = true
 pr : PrOk q
 sz : SzP q
 same : ∀ f F, f ≤ F → (playM m inp f).e = 0 → SameO (playM m inp f) (playM (withM m n q) inp F)
theorem MdOk.with {m : Md} {n : Nat} {q : Pr} (h : MdOk m) (hq : PrOk q) : MdOk (withM m n q) := by
 obtain ⟨h1, h2, h3, h4⟩ := h
 refine ⟨h1, h2, fun p hp => ?_, h4⟩
 unfold withM at hp
 rcases List.mem_or_eq_of_mem_set hp with hp | rfl
 ·exact h3 p hp
 ·exact hq
theorem SzM.with {m : Md} {n : Nat} {q : Pr} (h : SzM m) (hq : SzP q) : SzM (withM m n q) := ⟨fun p hp => by
 unfold withM at hp
 rcases List.mem_or_eq_of_mem_set hp with hp | rfl
 ·exact h.procs p hp
 ·exact hq⟩
theorem Good.refl {m : Md} {inp : List Int} {n : Nat} (hok : okM m = true) (hmd : MdOk m) (hs : SzM m) (hn : n < m.procs.length) : Good m inp n (pk m n) := by
 have hm : pk m n ∈ m.procs := by unfold pk; simp [List.getD, hn]
 have e : withM m n (pk m n) = m := by
  unfold withM pk
  have : m.procs.set n (m.procs.getD n default) = m.procs := by
   apply List.ext_getElem
   ·simp
   ·intro i h1 h2
    rw [List.getElem_set]
    split
    ·rename_i h; subst h; simp [List.getD, hn]
    ·rfl
  rw [this]
 refine ⟨⟨rfl, rfl⟩, rfl, okM_proc hok hn, hmd.procs _ hm, hs.procs _ hm, fun f F hF he => ?_⟩
 rw [e]
 unfold playM at he ⊢
 have n1 : ¬ okM m = false := by rw [hok]; decide
 rw [if_neg n1] at he ⊢
 rw [if_neg n1]
 by_cases hen : 65536 < enM m
 ·rw [if_pos hen] at he; cases he
 ·rw [if_neg hen] at he ⊢
  rw [if_neg hen]
  generalize enterM m [] m.main.toNat [] 65536 ⟨mem0 m m.globs.length, [], 0, 0, 0⟩ = M at *
  rw [runM_it] at he ⊢
  rw [runM_it]
  unfold ocE at he ⊢
  cases hf : (itM m inp f M).fin
  ·rw [hf, if_neg (by decide)] at he; cases he
  ·obtain ⟨d, rfl⟩ := Nat.le.dest hF
   rw [if_pos rfl, itM_add, itM_fin _ hf, if_pos hf]
   exact SameO.refl _
theorem getD_in {α : Type} {l : List α} {j : Nat} {d : α} (h : j < l.length) : l.getD j d ∈ l := by simp [List.getD, h]
end Go.Proofs.Ytmcddolkpcgddaa
