/-
 A module with another procedure in the place of one: if that follows the old one, runs that end have the same outcome. Plain.; Rows of structs: copied, and written to.
-/
import Derived.Test.YtnnhobbabcfogaaZDeadDoes24
import Derived.Test.YtnnhobbabcfogaaZDeadDoes11
import Derived.Test.YtnnhobbabcfogaaZDeadDoes08
import Derived.Lib.SliceRun
import Derived.WalkSpells

set_option linter.all false
namespace Go.Proofs.Ytnnhobbabcfogaa
set_option linter.unusedVariables false

def withM (m : Md) (n : Nat) (q : Pr) : Md := { m with procs := m.procs.set n q }
theorem withM_len (m : Md) (n : Nat) (q : Pr) : (withM m n q).procs.length = m.procs.length := by simp [withM]
theorem pk_with (m : Md) (n : Nat) (q : Pr) (h : n < m.procs.length) : pk (withM m n q) n = q := by
 unfold pk withM; simp [List.getD, h]
theorem pk_other (m : Md) (n : Nat) (q : Pr) {k : Nat} (h : k ≠ n) : pk (withM m n q) k = pk m k := by
 unfold pk withM; simp [List.getD, List.getElem?_set, Ne.symm h]
theorem insM_with (m : Md) (n : Nat) (q : Pr) (inp : List Int) (p : Pr) (low : Int) (i : In) (regs : List Int) (s : Oc) : insM (withM m n q) inp p low i regs s = insM m inp p low i regs s := rfl
theorem insM_objs (m : Md) (inp : List Int) {p p' : Pr} (h : p'.objs = p.objs) (low : Int) (i : In) (regs : List Int) (s : Oc) : insM m inp p' low i regs s = insM m inp p low i regs s := by unfold insM; rw [h]
theorem enM_with (m : Md) (n : Nat) (q : Pr) : enM (withM m n q) = enM m := rfl
theorem mem0_with (m : Md) (n : Nat) (q : Pr) : ∀ k, mem0 (withM m n q) k = mem0 m k
 | 0 => rfl
 | k + 1 => by
  show putL (mem0 (withM m n q) k) _ _ = putL (mem0 m k) _ _
  rw [mem0_with m n q k]; rfl
theorem longM_with {m : Md} {n : Nat} {q : Pr} (hn : n < m.procs.length) (h : q.objs = (pk m n).objs) (k : Nat) : longM (pk (withM m n q) k) = longM (pk m k) := by
 by_cases e : k = n
 ·subst e; rw [pk_with _ _ _ hn]; unfold longM; rw [h]
 ·rw [pk_other _ _ _ e]
def rowsR (R : Fr → Fr → Prop) : List Fr → List Fr → Prop
 | [], [] => True
 | a :: l, b :: k => R a b ∧ rowsR R l k
 | _, _ => False
theorem rowsR_len {R : Fr → Fr → Prop} : ∀ {a b : List Fr}, rowsR R a b → a.length = b.length
 | [], [], _ => rfl
 | _ :: _, _ :: _, h => by
  have := rowsR_len (R := R) h.2
  simp [this]
 | [], _ :: _, h => h.elim
 | _ :: _, [], h => h.elim
def FrS (n0 : Nat) (S : Fr → Fr → Prop) (f f' : Fr) : Prop := f.n ≠ n0 ∧ f' = f ∨ f.n = n0 ∧ f'.n = n0 ∧ f'.low = f.low ∧ S f f'
def TopR (n0 : Nat) (T : Fr → Fr → Oc → Oc → Prop) (f f' : Fr) (s s' : Oc) : Prop := f.n ≠ n0 ∧ f' = f ∧ s' = s ∨ f.n = n0 ∧ f'.n = n0 ∧ f'.low = f.low ∧ T f f' s s'
inductive RelR (m : Md) (n0 : Nat) (S : Fr → Fr → Prop) (T : Fr → Fr → Oc → Oc → Prop) : Ms → Ms → Prop
 | done (s : Oc) (hm : MemOk s.mem) : RelR m n0 S T ⟨[], false, s⟩ ⟨[], false, s⟩
 | on (f f' : Fr) (K K' : List Fr) (s s' : Oc) (hi : MIv m ⟨f :: K, false, s⟩) (hk : rowsR (FrS n0 S) K K') (ht : TopR n0 T f f' s s') : RelR m n0 S T ⟨f :: K, false, s⟩ ⟨f' :: K', false, s'⟩
def wordR (l : List Int) : Prop := ∀ x ∈ l, 0 ≤ x ∧ x < 4294967296
/-- what a procedure q in the place of n0 owes -/
structure RepS (m : Md) (inp : List Int) (n0 : Nat) (q : Pr) (S : Fr → Fr → Prop) (T : Fr → Fr → Oc → Oc → Prop) (c : Nat) : Prop where
 pos : 1 ≤ c
 enter : ∀ args low s, (args.length : Int) = (pk m n0).params → wordR args → MemOk s.mem → T ⟨n0, args ++ List.replicate ((pk m n0).regs.toNat - args.length) 0, low, 0, 0⟩ ⟨n0, args ++ List.replicate (q.regs.toNat - args.length) 0, low, 0, 0⟩ s s
 ins : ∀ f f' s s' r, f.n = n0 → f'.n = n0 → f'.low = f.low → T f f' s s' → GFr m f → MemOk s.mem → f.i < (fBk m f).ins.length → (fIn m f).op ≠ 9 → insM m inp (pk m n0) f.low (fIn m f) f.regs s = some r →
  ∃ k g t, k ≤ c ∧ g.n = n0 ∧ g.low = f.low ∧ (∀ K, itM (withM m n0 q) inp k ⟨f' :: K, false, s'⟩ = ⟨g :: K, false, t⟩) ∧ T { f with regs := r.1, i := f.i + 1 } g r.2 t
 call : ∀ f f' s s', f.n = n0 → f'.n = n0 → f'.low = f.low → T f f' s s' → GFr m f → MemOk s.mem → f.i < (fBk m f).ins.length → (fIn m f).op = 9 →
  ∃ k g, k + 1 ≤ c ∧ g.n = n0 ∧ g.low = f.low ∧ (∀ K, itM (withM m n0 q) inp k ⟨f' :: K, false, s'⟩ = ⟨g :: K, false, s⟩) ∧ (∀ K, stepM (withM m n0 q) inp ⟨g :: K, false, s⟩ = enterM (withM m n0 q) (fUp g :: K) (fIn m f).obj.toNat ((fIn m f).args.map (rg f.regs)) f.low s) ∧ S (fUp f) (fUp g)
 ret : ∀ f f' v s, f.n = n0 → f'.n = n0 → f'.low = f.low → S f f' → UFr m f → (0 ≤ v ∧ v < 4294967296) → MemOk s.mem → T (retF m f v) (retF (withM m n0 q) f' v) s s
 fin : ∀ f f' s s', f.n = n0 → f'.n = n0 → f'.low = f.low → T f f' s s' → GFr m f → MemOk s.mem → f.i = (fBk m f).ins.length → (fBk m f).fin ≠ 3 →
  ∃ k g t, k ≤ c ∧ g.n = n0 ∧ g.low = f.low ∧ (∀ K, itM (withM m n0 q) inp k ⟨f' :: K, false, s'⟩ = ⟨g :: K, false, t⟩) ∧ T (fNext m f) g s t
 back : ∀ f f' s s', f.n = n0 → f'.n = n0 → f'.low = f.low → T f f' s s' → GFr m f → MemOk s.mem → f.i = (fBk m f).ins.length → (fBk m f).fin = 3 →
  ∃ k g, k + 1 ≤ c ∧ (∀ K, itM (withM m n0 q) inp k ⟨f' :: K, false, s'⟩ = ⟨g :: K, false, s⟩) ∧ (∀ K, stepM (withM m n0 q) inp ⟨g :: K, false, s⟩ = backM (withM m n0 q) K (if (fBk m f).a ≠ -1 then rg f.regs (fBk m f).a else 0) s)
section
variable {m : Md} {inp : List Int} {n0 : Nat} {q : Pr} {S : Fr → Fr → Prop} {T : Fr → Fr → Oc → Oc → Prop} {c : Nat}
theorem fin_on (f : Fr) (K : List Fr) (s : Oc) : (⟨f :: K, false, s⟩ : Ms).fin = false := rfl
theorem it_more {m' : Md} {k : Nat} {A B : Ms} (h : itM m' inp k A = B) (hB : B.fin = false) : itM m' inp (k + 1) A = stepM m' inp B := by
 rw [itM_add, h, itM_succ _ hB]; rfl
theorem it_one {m' : Md} {A : Ms} (hA : A.fin = false) : itM m' inp 1 A = stepM m' inp A := by rw [itM_succ _ hA]; rfl
theorem fBk_other {f : Fr} (h : f.n ≠ n0) : fBk (withM m n0 q) f = fBk m f := by unfold fBk; rw [pk_other _ _ _ h]
theorem fIn_other {f : Fr} (h : f.n ≠ n0) : fIn (withM m n0 q) f = fIn m f := by unfold fIn; rw [fBk_other h]
theorem retF_other {f : Fr} (h : f.n ≠ n0) (v : Int) : retF (withM m n0 q) f v = retF m f v := by unfold retF; rw [pk_other _ _ _ h]
theorem fNext_other {f : Fr} (h : f.n ≠ n0) : fNext (withM m n0 q) f = fNext m f := by unfold fNext; rw [fBk_other h]
theorem RepS.backR (H : RepS m inp n0 q S T c) {K K' : List Fr} {s : Oc} {v : Int} (hK : ∀ fr ∈ K, UFr m fr) (hm : MemOk s.mem) (hv : 0 ≤ v ∧ v < 4294967296) (hk : rowsR (FrS n0 S) K K') : RelR m n0 S T (backM m K v s) (backM (withM m n0 q) K' v s) := by
 match K, K', hk with
 | [], [], _ => exact RelR.done _ hm
 | [], _ :: _, h => exact h.elim
 | _ :: _, [], h => exact h.elim
 | f :: K1, f' :: K1', hk =>
  obtain ⟨h1, h2⟩ := hk
  rw [backM_cons, backM_cons]
  have hM := MIv.back hv hK hm
  rw [backM_cons] at hM
  refine RelR.on _ _ _ _ _ _ hM h2 ?_
  have hr := retF_eq m f v
  have hr' := retF_eq (withM m n0 q) f' v
  rcases h1 with ⟨e1, e2⟩ | ⟨e1, e2, e3, e4⟩
  ·refine .inl ⟨by rw [hr.1]; exact e1, by rw [e2, retF_other e1], rfl⟩
  ·refine .inr ⟨by rw [hr.1]; exact e1, by rw [hr'.1]; exact e2, by rw [hr'.2.1, hr.2.1]; exact e3, H.ret _ _ _ _ e1 e2 e3 e4 (hK f List.mem_cons_self) hv hm⟩
theorem RepS.enterR (H : RepS m inp n0 q S T c) (hn : n0 < m.procs.length) (ho : q.objs = (pk m n0).objs) {K K' : List Fr} {s : Oc} {n : Nat} {args : List Int} {top : Int} (hi : MIv m (enterM m K n args top s)) (hh : (enterM m K n args top s).halt = false) (hm : MemOk s.mem) (ha : (args.length : Int) = (pk m n).params) (haw : wordR args) (hk : rowsR (FrS n0 S) K K') : RelR m n0 S T (enterM m K n args top s) (enterM (withM m n0 q) K' n args top s) := by
 unfold enterM at hi hh ⊢
 rw [longM_with hn ho, enM_with, ← rowsR_len hk]
 by_cases hc : top - longM (pk m n) < enM m ∨ 5000 ≤ K.length
 ·rw [if_pos hc] at hh; cases hh
 ·rw [if_neg hc] at hi ⊢
  rw [if_neg hc]
  refine RelR.on _ _ _ _ _ _ hi hk ?_
  by_cases e : n = n0
  ·subst e
   refine .inr ⟨rfl, rfl, rfl, ?_⟩
   rw [pk_with _ _ _ hn]
   exact H.enter args _ s ha haw hm
  ·exact .inl ⟨e, by rw [pk_other _ _ _ e], rfl⟩
theorem RepS.step (H : RepS m inp n0 q S T c) (hok : okM m = true) (hmd : MdOk m) (hiw : ∀ x ∈ inp, 0 ≤ x ∧ x < 4294967296) (hn : n0 < m.procs.length) (ho : q.objs = (pk m n0).objs) {M N : Ms} (hR : RelR m n0 S T M N) (hfin : M.fin = false) (hh : (stepM m inp M).halt = false) :
  ∃ k, k ≤ c ∧ RelR m n0 S T (stepM m inp M) (itM (withM m n0 q) inp k N) := by
 cases hR with
 | done s hm => cases hfin
 | on f f' K K' s s' hi hk ht =>
  have hG := hi.fr f List.mem_cons_self
  have hK : ∀ fr ∈ K, UFr m fr := fun fr hfr => hi.up fr hfr
  have hM' := MIv.step hok hmd hiw hi hh
  have hrg := rg_words hG.w
  have hP := okM_proc hok hG.n
  have hB := okP_blk hP hG.b
  rcases ht with ⟨e1, rfl, rfl⟩ | ⟨e1, e2, e3, hT⟩
  ·refine ⟨1, H.pos, ?_⟩
   rw [it_one (fin_on _ _ _)]
   by_cases hl : f'.i = (fBk m f').ins.length
   ·by_cases h3 : (fBk m f').fin = 3
    ·rw [fs_ret hl h3, fs_ret (by rw [fBk_other e1]; exact hl) (by rw [fBk_other e1]; exact h3), fBk_other e1]
     exact H.backR hK hi.mem (by split; exact hrg _; exact ⟨by decide, by decide⟩) hk
    ·rw [fs_end hl h3] at hM' ⊢
     rw [fs_end (by rw [fBk_other e1]; exact hl) (by rw [fBk_other e1]; exact h3), fNext_other e1]
     exact RelR.on _ _ _ _ _ _ hM' hk (.inl ⟨e1, rfl, rfl⟩)
   ·have hlt : f'.i < (fBk m f').ins.length := by have := hG.i; unfold fBk at *; omega
    have hI : okI m (pk m f'.n) (fIn m f') = true := okB_ins hB hlt
    by_cases h9 : (fIn m f').op = 9
    ·rw [fs_call hl h9] at hM' hh ⊢
     rw [fs_call (by rw [fBk_other e1]; exact hl) (by rw [fIn_other e1]; exact h9), fIn_other e1]
     obtain ⟨c1, c2, hpar, -, -⟩ := okI_call hI h9
     refine H.enterR hn ho hM' hh hi.mem (by rw [List.length_map]; exact hpar) (fun x hx => ?_) ⟨.inl ⟨e1, rfl⟩, hk⟩
     obtain ⟨y, -, rfl⟩ := List.mem_map.1 hx
     exact hrg y
    ·cases hX : insM m inp (pk m f'.n) f'.low (fIn m f') f'.regs s' with
     | none => rw [fs_bad hl h9 hX] at hh; cases hh
     | some r =>
      rw [fs_ins hl h9 hX] at hM' ⊢
      rw [fs_ins (r := r) (by rw [fBk_other e1]; exact hl) (by rw [fIn_other e1]; exact h9) (by rw [fIn_other e1, pk_other _ _ _ e1, insM_with]; exact hX)]
      exact RelR.on _ _ _ _ _ _ hM' hk (.inl ⟨e1, rfl, rfl⟩)
  ·by_cases hl : f.i = (fBk m f).ins.length
   ·by_cases h3 : (fBk m f).fin = 3
    ·obtain ⟨k, g, h4, h5, h6⟩ := H.back f f' s s' e1 e2 e3 hT hG hi.mem hl h3
     refine ⟨k + 1, h4, ?_⟩
     rw [it_more (h5 K') (fin_on _ _ _), h6, fs_ret hl h3]
     exact H.backR hK hi.mem (by split; exact hrg _; exact ⟨by decide, by decide⟩) hk
    ·obtain ⟨k, g, t, h4, h5, h6, h7, h8⟩ := H.fin f f' s s' e1 e2 e3 hT hG hi.mem hl h3
     refine ⟨k, h4, ?_⟩
     rw [h7]
     rw [fs_end hl h3] at hM' ⊢
     exact RelR.on _ _ _ _ _ _ hM' hk (.inr ⟨e1, h5, h6, h8⟩)
   ·have hlt : f.i < (fBk m f).ins.length := by have := hG.i; unfold fBk at *; omega
    have hI : okI m (pk m f.n) (fIn m f) = true := okB_ins hB hlt
    by_cases h9 : (fIn m f).op = 9
    ·obtain ⟨k, g, h4, h5, h6, h7, h8, h10⟩ := H.call f f' s s' e1 e2 e3 hT hG hi.mem hlt h9
     refine ⟨k + 1, h4, ?_⟩
     rw [it_more (h7 K') (fin_on _ _ _), h8]
     rw [fs_call hl h9] at hM' hh ⊢
     obtain ⟨c1, c2, hpar, -, -⟩ := okI_call hI h9
     refine H.enterR hn ho hM' hh hi.mem (by rw [List.length_map]; exact hpar) (fun x hx => ?_) ⟨.inr ⟨e1, h5, h6, h10⟩, hk⟩
     obtain ⟨y, -, rfl⟩ := List.mem_map.1 hx
     exact hrg y
    ·cases hX : insM m inp (pk m f.n) f.low (fIn m f) f.regs s with
     | none => rw [fs_bad hl h9 hX] at hh; cases hh
     | some r =>
      obtain ⟨k, g, t, h4, h5, h6, h7, h8⟩ := H.ins f f' s s' r e1 e2 e3 hT hG hi.mem hlt h9 (by rw [← e1]; exact hX)
      refine ⟨k, h4, ?_⟩
      rw [h7]
      rw [fs_ins hl h9 hX] at hM' ⊢
      exact RelR.on _ _ _ _ _ _ hM' hk (.inr ⟨e1, h5, h6, h8⟩)
/-- .. so runs that end have the same outcome -/
theorem RepS.play (H : RepS m inp n0 q S T c) (hok : okM m = true) (hok' : okM (withM m n0 q) = true) (hmd : MdOk m) (hiw : ∀ x ∈ inp, 0 ≤ x ∧ x < 4294967296) (hn : n0 < m.procs.length) (ho : q.objs = (pk m n0).objs) {f F : Nat} (hF : c * f ≤ F) (he : (playM m inp f).e = 0) : SameO (playM m inp f) (playM (withM m n0 q) inp F) := by
 have n1 : ¬ okM m = false := by rw [hok]; decide
 have n2 : ¬ okM (withM m n0 q) = false := by rw [hok']; decide
 unfold playM at he ⊢
 rw [if_neg n1] at he ⊢
 rw [if_neg n2, enM_with]
 by_cases hen : 65536 < enM m
 ·rw [if_pos hen] at he; cases he
 ·rw [if_neg hen] at he ⊢
  rw [if_neg hen]
  have hmain : m.main.toNat < m.procs.length ∧ (pk m m.main.toNat).params = 0 := by
   have h := hok
   unfold okM okHeadM at h
   simp only [Bool.and_eq_true, decide_eq_true_eq, beq_iff_eq] at h
   exact ⟨by omega, h.2.2.1.1⟩
  have hmem : MemOk (mem0 m m.globs.length) := memOk_of (mem0_bytes hmd _)
  have hen0 : 0 ≤ enM m := by
   have hG := okM_globs hok
   have := (slE_small hG.1 (by have := hG.2.1; omega) m.globs.length (Nat.le_refl _)).1
   unfold enM; omega
  have hgl : (withM m n0 q).globs = m.globs := rfl
  have hma : (withM m n0 q).main = m.main := rfl
  rw [hgl, hma, mem0_with]
  have hhalt : (enterM m [] m.main.toNat [] 65536 ⟨mem0 m m.globs.length, [], 0, 0, 0⟩).halt = false := by
   unfold enterM at he ⊢
   by_cases hc : 65536 - longM (pk m m.main.toNat) < enM m ∨ 5000 ≤ ([] : List Fr).length
   ·rw [if_pos hc] at he
    rw [runM_fin _ _ _ _ rfl] at he
    cases he
   ·rw [if_neg hc]
  have hI : MIv m (enterM m [] m.main.toNat [] 65536 ⟨mem0 m m.globs.length, [], 0, 0, 0⟩) := by
   unfold enterM at hhalt ⊢
   by_cases hc : 65536 - longM (pk m m.main.toNat) < enM m ∨ 5000 ≤ ([] : List Fr).length
   ·rw [if_pos hc] at hhalt; cases hhalt
   ·rw [if_neg hc]
    have hH := okP_head (okM_proc hok hmain.1)
    refine ⟨fun fr hfr => ?_, fun fr hfr => (by cases hfr), hmem⟩
    rcases List.mem_cons.1 hfr with rfl | hfr
    ·refine ⟨hmain.1, by have := hH.b1; exact this, Nat.zero_le _, ?_, fun x hx => ?_, ?_⟩
     ·simp only [List.nil_append, List.length_replicate, List.length_nil]
      have := hH.p0
      have := hH.pr
      omega
     ·simp only [List.nil_append] at hx
      rw [List.eq_of_mem_replicate hx]; exact ⟨by decide, by decide⟩
     ·have h1 := longM_pos hok hmain.1
      dsimp only
      omega
    ·cases hfr
  have hR0 := H.enterR hn ho hI hhalt hmem (by rw [hmain.2]; rfl) (fun x hx => (by cases hx)) (K := []) (K' := []) True.intro
  refine sim_outcome (R := fun d M N => d = 0 ∧ RelR m n0 S T M N) c ?_ ?_ ⟨rfl, hR0⟩ hhalt he hF
  ·rintro d M N ⟨rfl, hR⟩ h1 h2 h3
   obtain ⟨k, h4, h5⟩ := H.step hok hmd hiw hn ho hR h2 h3
   exact ⟨k, 0, by omega, rfl, h5⟩
  ·rintro d M N ⟨rfl, hR⟩ h1 h2
   cases hR with
   | done s hm => exact ⟨rfl, rfl, SameO.refl _⟩
   | on f f' K K' s s' hi hk ht => cases h2
end
end Go.Proofs.Ytnnhobbabcfogaa

set_option linter.all false
namespace Go.Proofs.Ytnnhobbabcfogaa
open Go.ChangeShapes Go.WideShapes Go.ChangeAt Go.RowKit
set_option maxHeartbeats 2000000
set_option linter.unusedVariables false
set_option maxRecDepth 20000

/-- a slice whose cells are known -/
def Src (w : World) (v : Value) (n : Nat) (xs : List Value) : Prop := ((∃ c, v = .slice none 0 c) ∧ n = 0 ∧ xs = []) ∨ ∃ (ad : Addr) (c : Nat), v = .slice (some ad) n c ∧ n ≤ c ∧ c ≤ maxLen ∧ ∀ j u, xs[j]? = some u → ∃ b o, ad = ⟨b, o, none⟩ ∧ w.cell? ⟨b, o + j, none⟩ = some u
theorem Src.keep {w w' : World} {v : Value} {n : Nat} {xs : List Value} (h : Src w v n xs) (hb : Ext w w') : Src w' v n xs := by
 rcases h with h | ⟨ad, c, e, h1, h2, hc⟩
 ·exact .inl h
 ·exact .inr ⟨ad, c, e, h1, h2, fun j u hj => by
   obtain ⟨b, o, ea, this⟩ := hc j u hj
   exact ⟨b, o, ea, hb _ _ this⟩⟩
theorem src_own {w : World} {B s n : Nat} {e : TypeId} {v : Value} {xs : List Value} (h : w.ownsRow B e s v n xs) : Src w v n xs := by
 have H := h
 obtain ⟨hl, ⟨rfl, rfl⟩ | ⟨g, cap, cur, rfl, hb, hgg, hn, hc, hsz, htk⟩⟩ := h
 ·exact .inl ⟨⟨0, rfl⟩, rfl, by simpa using hl⟩
 ·refine .inr ⟨⟨g, 0, none⟩, cap, rfl, hn, hc, fun j u hj => ⟨g, 0, rfl, ?_⟩⟩
  have hlt : j < n * s := by rw [← hl]; exact (List.getElem?_eq_some_iff.1 hj).1
  rw [Nat.zero_add, H.cellAt j hlt]; exact hj
/-- what stands in a row of structs, one behind the other -/
theorem src_rows {α : Type} {k : Nat} {w : World} {v : Value} {n : Nat} {R : Nat → (Nat → Option Value) → Prop} {P : Nat → α → Prop} (f : α → List Value) (hf : ∀ a, (f a).length = k) (h : Rows' w v k n R)
  (hR : ∀ i c, i < n → R i c → ∃ x : α, P i x ∧ ∀ j u, (f x)[j]? = some u → c j = some u) : ∃ L : List α, L.length = n ∧ (∀ i (hi : i < L.length), P i L[i]) ∧ Src w v n (L.flatMap f) := by
 obtain ⟨a, c, rfl, h1, h2, h3⟩ := h
 have key : ∀ m, m ≤ n → ∃ L : List α, L.length = m ∧ (∀ i (hi : i < L.length), P i L[i]) ∧ ∀ j u, (L.flatMap f)[j]? = some u → ∃ b o, a = some ⟨b, o, none⟩ ∧ w.cell? ⟨b, o + j, none⟩ = some u := by
  intro m
  induction m with
  | zero => exact fun _ => ⟨[], rfl, fun i hi => absurd hi (Nat.not_lt_zero i), fun j u hj => by simp at hj⟩
  | succ m ih =>
   intro hm
   obtain ⟨L, hl, hP, hc⟩ := ih (by omega)
   obtain ⟨b, o, ea, r⟩ := h3 m (by omega)
   obtain ⟨x, hx, hxc⟩ := hR m _ (by omega) r
   refine ⟨L ++ [x], by simp [hl], fun i hi => ?_, fun j u hj => ?_⟩
   ·by_cases e : i < L.length
    ·rw [List.getElem_append_left e]; exact hP i e
    ·obtain rfl : i = L.length := by simp at hi; omega
     rw [List.getElem_concat_length rfl, hl]; exact hx
   ·have hfl := flat_len f k hf L
    rw [flat_snoc, List.getElem?_append] at hj
    split at hj
    ·exact hc j u hj
    ·rename_i hge
     refine ⟨b, o, ea, ?_⟩
     have := hxc _ _ hj
     rw [hfl, hl] at this hge
     rw [show o + j = o + m * k + (j - m * k) by omega]
     exact this
 obtain ⟨L, hl, hP, hc⟩ := key n (Nat.le_refl _)
 refine ⟨L, hl, hP, ?_⟩
 cases a with
 | none =>
  have hn : n = 0 := by
   rcases Nat.eq_zero_or_pos n with e | e
   ·exact e
   ·obtain ⟨b, o, ea, -⟩ := h3 0 e
    cases ea
  subst hn
  exact .inl ⟨⟨c, rfl⟩, rfl, by rw [List.eq_nil_of_length_eq_zero hl]; rfl⟩
 | some ad =>
  exact .inr ⟨ad, c, rfl, h1, h2, fun j u hj => by
   obtain ⟨b, o, ea, hx⟩ := hc j u hj
   exact ⟨b, o, Option.some.inj ea, hx⟩⟩
/-- a row of instructions as cells -/
theorem RdIns.src {w : World} {v : Value} {l : List In} (h : RdIns w v l) : ∃ L : List (In × Value), L.map Prod.fst = l ∧ (∀ x ∈ L, RdI w x.2 x.1.args) ∧ Src w v l.length (L.flatMap inCells) := by
 obtain ⟨L, hl, hP, hs⟩ := src_rows (P := fun i x => x.1 = l.getD i default ∧ RdI w x.2 x.1.args) inCells (fun _ => rfl) h (fun i c hi hc => by
  obtain ⟨h0, h1, h2, h3, h4, h5, h6, h7, h8, ⟨va, h9, hva⟩, h10⟩ := hc
  refine ⟨(l.getD i default, va), ⟨rfl, hva⟩, fun j u hj => ?_⟩
  match j, hj with
  | 0, hj => simp [inCells] at hj; subst hj; exact h0
  | 1, hj => simp [inCells] at hj; subst hj; exact h1
  | 2, hj => simp [inCells] at hj; subst hj; exact h2
  | 3, hj => simp [inCells] at hj; subst hj; exact h3
  | 4, hj => simp [inCells] at hj; subst hj; exact h4
  | 5, hj => simp [inCells] at hj; subst hj; exact h5
  | 6, hj => simp [inCells] at hj; subst hj; exact h6
  | 7, hj => simp [inCells] at hj; subst hj; exact h7
  | 8, hj => simp [inCells] at hj; subst hj; exact h8
  | 9, hj => simp [inCells] at hj; subst hj; exact h9
  | 10, hj => simp [inCells] at hj; subst hj; exact h10
  | j + 11, hj => simp [inCells] at hj)
 refine ⟨L, ?_, fun x hx => ?_, hs⟩
 ·apply List.ext_getElem (by simpa using hl)
  intro i h1 h2
  have := (hP i (by simpa using h1)).1
  simp [List.getD, h2] at this
  simpa using this
 ·obtain ⟨i, hi, rfl⟩ := List.getElem_of_mem hx
  exact (hP i hi).2
/-- a row of blocks as cells -/
theorem RdBks.src {w : World} {v : Value} {l : List Bk} (h : RdBks w v l) : ∃ L : List (Bk × Value), L.map Prod.fst = l ∧ (∀ x ∈ L, RdIns w x.2 x.1.ins) ∧ Src w v l.length (L.flatMap bkCells) := by
 obtain ⟨L, hl, hP, hs⟩ := src_rows (P := fun i x => x.1 = l.getD i default ∧ RdIns w x.2 x.1.ins) bkCells (fun _ => rfl) h (fun i c hi hc => by
  obtain ⟨⟨va, h0, hva⟩, h1, h2, h3, h4⟩ := hc
  refine ⟨(l.getD i default, va), ⟨rfl, hva⟩, fun j u hj => ?_⟩
  match j, hj with
  | 0, hj => simp [bkCells] at hj; subst hj; exact h0
  | 1, hj => simp [bkCells] at hj; subst hj; exact h1
  | 2, hj => simp [bkCells] at hj; subst hj; exact h2
  | 3, hj => simp [bkCells] at hj; subst hj; exact h3
  | 4, hj => simp [bkCells] at hj; subst hj; exact h4
  | j + 5, hj => simp [bkCells] at hj)
 refine ⟨L, ?_, fun x hx => ?_, hs⟩
 ·apply List.ext_getElem (by simpa using hl)
  intro i h1 h2
  have := (hP i (by simpa using h1)).1
  simp [List.getD, h2] at this
  simpa using this
 ·obtain ⟨i, hi, rfl⟩ := List.getElem_of_mem hx
  exact (hP i hi).2
/-- one cell of a row of structs set -/
theorem flat_set {α β : Type} [Inhabited α] (f : α → List β) (s : Nat) (hf : ∀ a, (f a).length = s) : ∀ (L : List α) (i j : Nat) (x : β) (a : α), i < L.length → j < s → f a = (f (L.getD i default)).set j x → (L.flatMap f).set (i * s + j) x = (L.set i a).flatMap f
 | [], i, _, _, _, h, _, _ => absurd h (Nat.not_lt_zero i)
 | y :: L, 0, j, x, a, _, hj, e => by
  rw [List.flatMap_cons, Nat.zero_mul, Nat.zero_add, List.set_append_left _ _ (by rw [hf]; exact hj), List.set_cons_zero, List.flatMap_cons, e]
  rfl
 | y :: L, i + 1, j, x, a, h, hj, e => by
  have ih := flat_set f s hf L i j x a (by simpa using h) hj e
  rw [List.flatMap_cons, List.set_append_right _ _ (by rw [hf, Nat.succ_mul]; omega), hf, show (i + 1) * s + j - s = i * s + j by rw [Nat.succ_mul]; omega, ih, List.set_cons_succ, List.flatMap_cons]
theorem vadd_plain (g o j : Nat) : (⟨g, o, none⟩ : Addr).add j = ⟨g, o + j, none⟩ := by unfold Addr.add; split <;> simp_all
theorem vbelow1 (w : World) (o : Obj) : Below w.heap.size w (w.alloc o) := (Below.refl _ _).alloc (Nat.le_refl _) o
theorem info_bk : (Try.prog.info? 48).map (fun i => (i.zero, i.size, i.bytes)) = some (some (.agg #[.slice none 0 0, .int .i64 0, .int .i64 0, .int .i64 0, .int .i64 0]), 5, 56) := by kernel_rfl
theorem info_in : (Try.prog.info? 56).map (fun i => (i.zero, i.size, i.bytes)) = some (some (.agg #[.int .i64 0, .int .i64 0, .int .i64 0, .int .i64 0, .int .i64 0, .int .i64 0, .int .i64 0, .int .i64 0, .int .u32 0, .slice none 0 0, .bool false]), 11, 104) := by kernel_rfl
theorem cloneBk (v : Value) (n : Nat) (xs : List Value) (w : World) (h : Src w v n xs) (hl : xs.length = n * 5) (hn : n ≤ 1000000) (h1 : ∀ u ∈ xs, u.oneCell' = true) :
  Calls Try.prog 54 #[v] w fun e w' => ∃ v', e = .returned v' ∧ w'.ownsRow w.heap.size 48 5 v' n xs ∧ Below w.heap.size w w' := by
 rcases h with ⟨⟨c0, rfl⟩, rfl, rfl⟩ | ⟨ad, c, rfl, -, -, hc⟩
 ·have hnil := fun w => Lib.run_eql_slice_nil (P := Try.prog) w 30 48 none 0 c0 0 0 Try.underlying30
  go_enter Try.func54, Try.ntmps54
  go_wp2_with fail
  go_ret
  exact ⟨_, rfl, World.ownsRow_nil _ _ _ _, Below.refl _ _⟩
 ·have hnil := fun w => Lib.run_eql_slice_nil (P := Try.prog) w 30 48 (some ad) n c 0 0 Try.underlying30
  obtain ⟨i0, hi, hz0, hz1, hz2⟩ := info_parts info_bk
  have HC : Hid (∀ j u, xs[j]? = some u → (w.alloc (.cells #[] 48)).cell? (ad.add j) = some u) := fun j u hj => by
   obtain ⟨b, o, rfl, hx⟩ := hc j u hj
   rw [vadd_plain]
   exact ((vbelow1 w _).cell (p := ⟨b, o + j, none⟩) (World.block_lt_of_cell? w _ hx)).trans hx
  clear hc
  go_enter Try.func54, Try.ntmps54
  go_wp2_with (at_builtin; refine wpList_append_own _ rfl _ _ 30 rfl w.heap.size 48 i0 (.agg #[.slice none 0 0, .int .i64 0, .int .i64 0, .int .i64 0, .int .i64 0]) 5 56 Try.underlying30 hi hz0 hz1 hz2 rfl (by decide) (.slice (some ⟨w.heap.size, 0, none⟩) 0 0) 0 [] rfl (World.ownsRow_made w #[] 0 (Nat.le_refl _) (by simp [maxLen]) (by simp)) ad n c xs rfl hl HC.out h1 (by unfold maxLen; omega) (by omega) (by simp) ?_; intro v' w1 hown hgrow hnn)
  go_ret
  simp only [Nat.zero_add, List.nil_append] at hown
  exact ⟨v', rfl, hown, (vbelow1 w _).grown hgrow (by simp) fun k hk => by simp [Value.ownBlock] at hk; omega⟩
theorem cloneIn (v : Value) (n : Nat) (xs : List Value) (w : World) (h : Src w v n xs) (hl : xs.length = n * 11) (hn : n ≤ 1000000) (h1 : ∀ u ∈ xs, u.oneCell' = true) :
  Calls Try.prog 115 #[v] w fun e w' => ∃ v', e = .returned v' ∧ w'.ownsRow w.heap.size 56 11 v' n xs ∧ Below w.heap.size w w' := by
 rcases h with ⟨⟨c0, rfl⟩, rfl, rfl⟩ | ⟨ad, c, rfl, -, -, hc⟩
 ·have hnil := fun w => Lib.run_eql_slice_nil (P := Try.prog) w 46 56 none 0 c0 0 0 Try.underlying46
  go_enter Try.func115, Try.ntmps115
  go_wp2_with fail
  go_ret
  exact ⟨_, rfl, World.ownsRow_nil _ _ _ _, Below.refl _ _⟩
 ·have hnil := fun w => Lib.run_eql_slice_nil (P := Try.prog) w 46 56 (some ad) n c 0 0 Try.underlying46
  obtain ⟨i0, hi, hz0, hz1, hz2⟩ := info_parts info_in
  have HC : Hid (∀ j u, xs[j]? = some u → (w.alloc (.cells #[] 56)).cell? (ad.add j) = some u) := fun j u hj => by
   obtain ⟨b, o, rfl, hx⟩ := hc j u hj
   rw [vadd_plain]
   exact ((vbelow1 w _).cell (p := ⟨b, o + j, none⟩) (World.block_lt_of_cell? w _ hx)).trans hx
  clear hc
  go_enter Try.func115, Try.ntmps115
  go_wp2_with (at_builtin; refine wpList_append_own _ rfl _ _ 46 rfl w.heap.size 56 i0 (.agg #[.int .i64 0, .int .i64 0, .int .i64 0, .int .i64 0, .int .i64 0, .int .i64 0, .int .i64 0, .int .i64 0, .int .u32 0, .slice none 0 0, .bool false]) 11 104 Try.underlying46 hi hz0 hz1 hz2 rfl (by decide) (.slice (some ⟨w.heap.size, 0, none⟩) 0 0) 0 [] rfl (World.ownsRow_made w #[] 0 (Nat.le_refl _) (by simp [maxLen]) (by simp)) ad n c xs rfl hl HC.out h1 (by unfold maxLen; omega) (by omega) (by simp) ?_; intro v' w1 hown hgrow hnn)
  go_ret
  simp only [Nat.zero_add, List.nil_append] at hown
  exact ⟨v', rfl, hown, (vbelow1 w _).grown hgrow (by simp) fun k hk => by simp [Value.ownBlock] at hk; omega⟩
/-- a row of blocks of the call's own -/
structure OwnBk (w : World) (B : Nat) (v : Value) (L : List (Bk × Value)) : Prop where
 own : w.ownsRow B 48 5 v L.length (L.flatMap bkCells)
 ins : ∀ x ∈ L, RdIns w x.2 x.1.ins
theorem OwnBk.rd {w : World} {B : Nat} {v : Value} {L : List (Bk × Value)} (h : OwnBk w B v L) : RdBks w v (L.map Prod.fst) := by
 have H := own_flat (α := Bk × Value) (f := bkCells) (by decide : 0 < 5) (fun _ => rfl) h.own
 have hl : L.length = (L.map Prod.fst).length := by simp
 unfold RdBks
 rw [← hl]
 obtain ⟨a, c, h1, h2, h3, h4⟩ := H
 refine ⟨a, c, h1, h2, h3, fun i hi => ?_⟩
 obtain ⟨b, o, e1, r⟩ := h4 i hi
 have eg : L.getD i default = L[i] := by simp [List.getD, hi]
 have eg2 : (L.map Prod.fst).getD i default = L[i].1 := by simp [List.getD, hi]
 rw [eg] at r
 refine ⟨b, o, e1, ?_⟩
 dsimp only
 rw [eg2]
 exact ⟨⟨_, r 0 _ rfl, h.ins _ (List.getElem_mem hi)⟩, r 1 _ rfl, r 2 _ rfl, r 3 _ rfl, r 4 _ rfl⟩
theorem OwnBk.below {w w' : World} {B : Nat} {v : Value} {L : List (Bk × Value)} (h : OwnBk w B v L) (hb : Below w.heap.size w w') : OwnBk w' B v L := ⟨own_below h.own hb, fun x hx => (h.ins x hx).ext (Ext.below hb)⟩
theorem bk_one : ∀ (L : List (Bk × Value)), (∀ x ∈ L, ∃ a n c, x.2 = .slice a n c) → ∀ u ∈ L.flatMap bkCells, u.oneCell' = true := fun L h u hu => by
 obtain ⟨x, hx, hu⟩ := List.mem_flatMap.1 hu
 obtain ⟨a, n, c, e⟩ := h x hx
 simp only [bkCells, List.mem_cons, List.not_mem_nil, or_false, e] at hu
 rcases hu with rfl | rfl | rfl | rfl | rfl <;> rfl
theorem in_one : ∀ (L : List (In × Value)), (∀ x ∈ L, ∃ a n c, x.2 = .slice a n c) → ∀ u ∈ L.flatMap inCells, u.oneCell' = true := fun L h u hu => by
 obtain ⟨x, hx, hu⟩ := List.mem_flatMap.1 hu
 obtain ⟨a, n, c, e⟩ := h x hx
 simp only [inCells, List.mem_cons, List.not_mem_nil, or_false, e] at hu
 rcases hu with rfl | rfl | rfl | rfl | rfl | rfl | rfl | rfl | rfl | rfl | rfl <;> rfl
theorem Rows'.sl {w : World} {v : Value} {k n : Nat} {R : Nat → (Nat → Option Value) → Prop} (h : Rows' w v k n R) : ∃ a m c, v = .slice a m c := by
 obtain ⟨a, c, h1, -⟩ := h
 exact ⟨a, n, c, h1⟩
/-- a copy of a row of blocks -/
theorem copyBk {v : Value} {l : List Bk} (w : World) (h : RdBks w v l) (hn : l.length ≤ 1000000) :
  Calls Try.prog 54 #[v] w fun e w' => ∃ v' L, e = .returned v' ∧ L.map Prod.fst = l ∧ OwnBk w' w.heap.size v' L ∧ Below w.heap.size w w' := by
 obtain ⟨L, rfl, hi, hs⟩ := h.src
 rw [List.length_map] at hs hn
 refine (cloneBk v L.length _ w hs (flat_len bkCells 5 (fun _ => rfl) L) hn (bk_one L fun x hx => (hi x hx).sl)).mono ?_
 rintro e w' ⟨v', rfl, ho, hb⟩
 exact ⟨v', L, rfl, rfl, ⟨ho, fun x hx => (hi x hx).ext (Ext.below hb)⟩, hb⟩
/-- a row of instructions of the call's own -/
structure OwnIn (w : World) (B : Nat) (v : Value) (L : List (In × Value)) : Prop where
 own : w.ownsRow B 56 11 v L.length (L.flatMap inCells)
 args : ∀ x ∈ L, RdI w x.2 x.1.args
theorem OwnIn.rd {w : World} {B : Nat} {v : Value} {L : List (In × Value)} (h : OwnIn w B v L) : RdIns w v (L.map Prod.fst) := by
 have H := own_flat (α := In × Value) (f := inCells) (by decide : 0 < 11) (fun _ => rfl) h.own
 have hl : L.length = (L.map Prod.fst).length := by simp
 unfold RdIns
 rw [← hl]
 obtain ⟨a, c, h1, h2, h3, h4⟩ := H
 refine ⟨a, c, h1, h2, h3, fun i hi => ?_⟩
 obtain ⟨b, o, e1, r⟩ := h4 i hi
 have eg : L.getD i default = L[i] := by simp [List.getD, hi]
 have eg2 : (L.map Prod.fst).getD i default = L[i].1 := by simp [List.getD, hi]
 rw [eg] at r
 refine ⟨b, o, e1, ?_⟩
 dsimp only
 rw [eg2]
 exact ⟨r 0 _ rfl, r 1 _ rfl, r 2 _ rfl, r 3 _ rfl, r 4 _ rfl, r 5 _ rfl, r 6 _ rfl, r 7 _ rfl, r 8 _ rfl, ⟨_, r 9 _ rfl, h.args _ (List.getElem_mem hi)⟩, r 10 _ rfl⟩
theorem OwnIn.below {w w' : World} {B : Nat} {v : Value} {L : List (In × Value)} (h : OwnIn w B v L) (hb : Below w.heap.size w w') : OwnIn w' B v L := ⟨own_below h.own hb, fun x hx => (h.args x hx).ext (Ext.below hb)⟩
theorem copyIn {v : Value} {l : List In} (w : World) (h : RdIns w v l) (hn : l.length ≤ 1000000) :
  Calls Try.prog 115 #[v] w fun e w' => ∃ v' L, e = .returned v' ∧ L.map Prod.fst = l ∧ OwnIn w' w.heap.size v' L ∧ Below w.heap.size w w' := by
 obtain ⟨L, rfl, hi, hs⟩ := h.src
 rw [List.length_map] at hs hn
 refine (cloneIn v L.length _ w hs (flat_len inCells 11 (fun _ => rfl) L) hn (in_one L fun x hx => (hi x hx).sl)).mono ?_
 rintro e w' ⟨v', rfl, ho, hb⟩
 exact ⟨v', L, rfl, rfl, ⟨ho, fun x hx => (hi x hx).ext (Ext.below hb)⟩, hb⟩
end Go.Proofs.Ytnnhobbabcfogaa
