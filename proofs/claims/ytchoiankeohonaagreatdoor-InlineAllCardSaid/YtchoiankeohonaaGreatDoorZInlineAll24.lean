/-
 Two machines of single steps side by side: if one follows the other, runs that end have the same outcome; what holds of a machine's calls. Plain.
-/
import Derived.Test.YtchoiankeohonaaGreatDoorZInlineAll23
set_option linter.all false
namespace Go.Proofs.YtchoiankeohonaaGreatDoor
set_option linter.unusedVariables false

/-- so many steps -/
def itM (m : Md) (inp : List Int) : Nat → Ms → Ms
 | 0, M => M
 | k + 1, M => if M.fin = true then M else itM m inp k (stepM m inp M)
theorem itM_fin {m : Md} {inp : List Int} (k : Nat) {M : Ms} (h : M.fin = true) : itM m inp k M = M := by cases k <;> simp [itM, h]
theorem itM_succ {m : Md} {inp : List Int} (k : Nat) {M : Ms} (h : M.fin = false) : itM m inp (k + 1) M = itM m inp k (stepM m inp M) := by simp [itM, h]
theorem itM_add {m : Md} {inp : List Int} : ∀ (a b : Nat) (M : Ms), itM m inp (a + b) M = itM m inp b (itM m inp a M)
 | 0, b, M => by rw [Nat.zero_add]; rfl
 | a + 1, b, M => by
  cases h : M.fin
  ·rw [show a + 1 + b = (a + b) + 1 by omega, itM_succ _ h, itM_succ _ h, itM_add a b]
  ·rw [itM_fin _ h, itM_fin _ h, itM_fin _ h]
def ocE (M : Ms) : Oc := if M.fin = true then M.s else { M.s with e := 16 }
theorem runM_it {m : Md} {inp : List Int} : ∀ (f : Nat) (M : Ms), runM m inp f M = ocE (itM m inp f M)
 | 0, M => rfl
 | f + 1, M => by
  cases h : M.fin
  ·rw [itM_succ _ h, ← runM_it f]; simp [runM, h]
  ·rw [itM_fin _ h]; simp [runM, h, ocE]
/-- the same outcome -/
structure SameO (a b : Oc) : Prop where
 out : a.out = b.out
 ins : a.ins = b.ins
 exit : a.exit = b.exit
 e : a.e = b.e
theorem SameO.refl (a : Oc) : SameO a a := ⟨rfl, rfl, rfl, rfl⟩
theorem SameO.trans {a b c : Oc} (h : SameO a b) (k : SameO b c) : SameO a c := ⟨h.out.trans k.out, h.ins.trans k.ins, h.exit.trans k.exit, h.e.trans k.e⟩
/-- what stops has an error -/
theorem backM_run (m : Md) (K : List Fr) (v : Int) (s : Oc) : (backM m K v s).halt = false := by cases K <;> rfl
theorem enterM_run {m : Md} {K : List Fr} {n : Nat} {args : List Int} {top : Int} {s : Oc} (h : (enterM m K n args top s).halt = true) : (enterM m K n args top s).s.e ≠ 0 := by
 unfold enterM at h ⊢
 by_cases hc : top - longM (pk m n) < enM m ∨ 5000 ≤ K.length
 ·rw [if_pos hc]; exact (by decide : (8 : Int) ≠ 0)
 ·rw [if_neg hc] at h; cases h
/-- a call's block, and the instruction at which it is -/
def fBk (m : Md) (f : Fr) : Bk := (pk m f.n).blks.getD f.b default
def fIn (m : Md) (f : Fr) : In := (fBk m f).ins.getD f.i default
theorem fs_ret {m : Md} {inp : List Int} {f : Fr} {K : List Fr} {s : Oc} (hl : f.i = (fBk m f).ins.length) (h3 : (fBk m f).fin = 3) : stepM m inp ⟨f :: K, false, s⟩ = backM m K (if (fBk m f).a ≠ -1 then rg f.regs (fBk m f).a else 0) s := (if_pos hl).trans (if_pos h3)
def fNext (m : Md) (f : Fr) : Fr := { f with b := (if (fBk m f).fin = 2 ∧ rg f.regs (fBk m f).a = 0 then (fBk m f).els else (fBk m f).to).toNat, i := 0 }
theorem fs_end {m : Md} {inp : List Int} {f : Fr} {K : List Fr} {s : Oc} (hl : f.i = (fBk m f).ins.length) (h3 : (fBk m f).fin ≠ 3) : stepM m inp ⟨f :: K, false, s⟩ = ⟨fNext m f :: K, false, s⟩ := (if_pos hl).trans (if_neg h3)
def fUp (f : Fr) : Fr := { f with i := f.i + 1 }
theorem fs_call {m : Md} {inp : List Int} {f : Fr} {K : List Fr} {s : Oc} (hl : f.i ≠ (fBk m f).ins.length) (h9 : (fIn m f).op = 9) : stepM m inp ⟨f :: K, false, s⟩ = enterM m (fUp f :: K) (fIn m f).obj.toNat ((fIn m f).args.map (rg f.regs)) f.low s := (if_neg hl).trans (if_pos h9)
theorem fs_bad {m : Md} {inp : List Int} {f : Fr} {K : List Fr} {s : Oc} (hl : f.i ≠ (fBk m f).ins.length) (h9 : (fIn m f).op ≠ 9) (h : insM m inp (pk m f.n) f.low (fIn m f) f.regs s = none) : stepM m inp ⟨f :: K, false, s⟩ = ⟨fUp f :: K, true, { s with e := 12 }⟩ := by
 refine (if_neg hl).trans ((if_neg h9).trans ?_)
 show (match insM m inp (pk m f.n) f.low (fIn m f) f.regs s with | none => _ | some (regs, s) => _) = _
 rw [h]
 rfl
theorem fs_ins {m : Md} {inp : List Int} {f : Fr} {K : List Fr} {s : Oc} {r : List Int × Oc} (hl : f.i ≠ (fBk m f).ins.length) (h9 : (fIn m f).op ≠ 9) (h : insM m inp (pk m f.n) f.low (fIn m f) f.regs s = some r) : stepM m inp ⟨f :: K, false, s⟩ = ⟨{ f with regs := r.1, i := f.i + 1 } :: K, false, r.2⟩ := by
 refine (if_neg hl).trans ((if_neg h9).trans ?_)
 show (match insM m inp (pk m f.n) f.low (fIn m f) f.regs s with | none => _ | some (regs, s) => _) = _
 rw [h]
/-- what stops has an error -/
theorem step_halt {m : Md} {inp : List Int} {M : Ms} (h : (stepM m inp M).halt = true) (h0 : M.halt = false) : (stepM m inp M).s.e ≠ 0 := by
 obtain ⟨stk, hal, s⟩ := M
 have h0 : hal = false := h0
 subst h0
 cases stk with
 | nil => cases h
 | cons f K =>
  by_cases hl : f.i = (fBk m f).ins.length
  ·by_cases h3 : (fBk m f).fin = 3
   ·rw [fs_ret hl h3, backM_run] at h; cases h
   ·rw [fs_end hl h3] at h; cases h
  ·by_cases h9 : (fIn m f).op = 9
   ·rw [fs_call hl h9] at h ⊢
    exact enterM_run h
   ·cases hX : insM m inp (pk m f.n) f.low (fIn m f) f.regs s with
    | none => rw [fs_bad hl h9 hX]; exact (by decide : (12 : Int) ≠ 0)
    | some r => rw [fs_ins hl h9 hX] at h; cases h
/-- if R leads on, with at most c steps for each one and what is owed, a run that ends without an error has the same outcome there -/
theorem sim_run {m m' : Md} {inp : List Int} {R : Nat → Ms → Ms → Prop} (c : Nat)
  (hstep : ∀ d M N, R d M N → M.halt = false → M.fin = false → (stepM m inp M).halt = false → ∃ k d', d + k ≤ c + d' ∧ R d' (stepM m inp M) (itM m' inp k N))
  (hend : ∀ d M N, R d M N → M.halt = false → M.stk = [] → d = 0 ∧ N.fin = true ∧ SameO M.s N.s) :
  ∀ f d M N, R d M N → M.halt = false → (runM m inp f M).e = 0 → ∃ g, g + d ≤ c * f ∧ (itM m' inp g N).fin = true ∧ SameO (runM m inp f M) (itM m' inp g N).s := by
 intro f
 induction f with
 | zero =>
  intro d M N hR hh he
  cases hf : M.fin
  ·exfalso
   simp [runM, hf] at he
  ·have hs : M.stk = [] := by simpa [Ms.fin, hh] using hf
   obtain ⟨h1, h2, h3⟩ := hend d M N hR hh hs
   exact ⟨0, by omega, h2, by rw [runM_fin _ _ _ _ hf]; exact h3⟩
 | succ f ih =>
  intro d M N hR hh he
  cases hf : M.fin
  ·have e1 : runM m inp (f + 1) M = runM m inp f (stepM m inp M) := by simp [runM, hf]
   rw [e1] at he ⊢
   cases h2 : (stepM m inp M).halt
   ·obtain ⟨k, d', hk, hR'⟩ := hstep d M N hR hh hf h2
    obtain ⟨g, hg, h4, h5⟩ := ih d' _ _ hR' h2 he
    exact ⟨k + g, by rw [Nat.mul_succ]; omega, by rw [itM_add]; exact h4, by rw [itM_add]; exact h5⟩
   ·exfalso
    have hfin : (stepM m inp M).fin = true := by simp [Ms.fin, h2]
    rw [runM_fin _ _ _ _ hfin] at he
    exact step_halt h2 hh he
  ·have hs : M.stk = [] := by simpa [Ms.fin, hh] using hf
   obtain ⟨h1, h2, h3⟩ := hend d M N hR hh hs
   exact ⟨0, by omega, h2, by rw [runM_fin _ _ _ _ hf]; exact h3⟩
theorem sim_outcome {m m' : Md} {inp : List Int} {R : Nat → Ms → Ms → Prop} (c : Nat)
  (hstep : ∀ d M N, R d M N → M.halt = false → M.fin = false → (stepM m inp M).halt = false → ∃ k d', d + k ≤ c + d' ∧ R d' (stepM m inp M) (itM m' inp k N))
  (hend : ∀ d M N, R d M N → M.halt = false → M.stk = [] → d = 0 ∧ N.fin = true ∧ SameO M.s N.s)
  {f F : Nat} {M N : Ms} (hR : R 0 M N) (hh : M.halt = false) (he : (runM m inp f M).e = 0) (hF : c * f ≤ F) : SameO (runM m inp f M) (runM m' inp F N) := by
 obtain ⟨g, h1, h2, h3⟩ := sim_run c hstep hend f 0 M N hR hh he
 have e : F = g + (F - g) := by omega
 have e2 : runM m' inp F N = (itM m' inp g N).s := by
  rw [runM_it, e, itM_add, itM_fin _ h2]
  unfold ocE
  rw [if_pos h2]
 rw [e2]; exact h3
theorem mdOkIn {m : Md} (h : MdOk m) {n b i : Nat} (hn : n < m.procs.length) (hb : b < (pk m n).blks.length) (hi : i < ((pk m n).blks.getD b default).ins.length) : InOk (((pk m n).blks.getD b default).ins.getD i default) := by
 have h1 := h.procs (pk m n) (by unfold pk; simp [List.getD, hn])
 have h2 := h1.blks ((pk m n).blks.getD b default) (by simp [List.getD, hb])
 generalize (pk m n).blks.getD b default = B at *
 exact h2.ins _ (by simp [List.getD, hi])
/-- an instruction keeps registers that are words -/
theorem insM_wd {m : Md} {inp : List Int} {p : Pr} {low : Int} {i : In} {regs : List Int} {s : Oc} (hw : ∀ x ∈ regs, 0 ≤ x ∧ x < 4294967296) (hi : ∀ x ∈ inp, 0 ≤ x ∧ x < 4294967296) (hn : 0 ≤ i.num ∧ i.num < 4294967296) (hm : MemOk s.mem) (hs : i.op = 5 → i.size = 1 ∨ i.size = 4) :
  ∀ r, insM m inp p low i regs s = some r → ∀ x ∈ r.1, 0 ≤ x ∧ x < 4294967296 := by
 have hrg := rg_words hw
 have M4 : ∀ x : Int, 0 ≤ x % 4294967296 ∧ x % 4294967296 < 4294967296 := fun x => ⟨Int.emod_nonneg _ (by decide), Int.emod_lt_of_pos _ (by decide)⟩
 have S : ∀ (n : Nat) (v : Int), (0 ≤ v ∧ v < 4294967296) → ∀ (s' : Oc) r, some (regs.set n v, s') = some r → ∀ x ∈ r.1, 0 ≤ x ∧ x < 4294967296 := fun n v hv s' r hr x hx => by
  cases hr
  rcases List.mem_or_eq_of_mem_set hx with h | rfl
  ·exact hw x h
  ·exact hv
 have S0 : ∀ (s' : Oc) r, some (regs, s') = some r → ∀ x ∈ r.1, 0 ≤ x ∧ x < 4294967296 := fun s' r hr x hx => by cases hr; exact hw x hx
 have I : ∀ n, 0 ≤ inp.getD n 0 ∧ inp.getD n 0 < 4294967296 := fun n => by
  by_cases h : n < inp.length
  ·exact hi _ (by simp [List.getD, h])
  ·have : inp.getD n 0 = 0 := by simp [List.getD, Nat.le_of_not_lt h]
   rw [this]; exact ⟨by decide, by decide⟩
 intro r hr
 unfold insM at hr
 by_cases h1 : i.op = 1
 ·rw [if_pos h1] at hr; exact S _ _ hn _ r hr
 rw [if_neg h1] at hr
 by_cases h2 : i.op = 2
 ·rw [if_pos h2] at hr; exact S _ _ (hrg _) _ r hr
 rw [if_neg h2] at hr
 by_cases h3 : i.op = 3
 ·rw [if_pos h3] at hr; exact S _ _ (fnF_bd _ _ _ (hrg _).1 (hrg _).2 (hrg _).1 (hrg _).2) _ r hr
 rw [if_neg h3] at hr
 by_cases h4 : i.op = 4
 ·rw [if_pos h4] at hr; exact S _ _ (fnF_bd _ _ _ (hrg _).1 (hrg _).2 (by decide) (by decide)) _ r hr
 rw [if_neg h4] at hr
 by_cases h5 : i.op = 5
 ·rw [if_pos h5] at hr
  split at hr
  ·refine S _ _ ?_ _ r hr
   have hb := loadP_bd s.mem hm (addrM regs i - 268435456).toNat i.size.toNat
   have : (256 : Int) ^ i.size.toNat ≤ 4294967296 := by rcases hs h5 with h | h <;> rw [h] <;> decide
   omega
  ·cases hr
 rw [if_neg h5] at hr
 by_cases h6 : i.op = 6
 ·rw [if_pos h6] at hr
  split at hr
  ·exact S0 _ r hr
  ·cases hr
 rw [if_neg h6] at hr
 by_cases h7 : i.op = 7
 ·rw [if_pos h7] at hr; exact S _ _ (M4 _) _ r hr
 rw [if_neg h7] at hr
 by_cases h8 : i.op = 8
 ·rw [if_pos h8] at hr; exact S _ _ (M4 _) _ r hr
 rw [if_neg h8] at hr
 by_cases h10 : i.op = 10
 ·rw [if_pos h10] at hr; exact S0 _ r hr
 rw [if_neg h10] at hr
 by_cases h11 : i.op = 11
 ·rw [if_pos h11] at hr
  refine S _ _ ?_ _ r hr
  split
  ·exact I _
  ·exact ⟨by decide, by decide⟩
 rw [if_neg h11] at hr
 exact S0 _ r hr
theorem okI_sz {m : Md} {p : Pr} {i : In} (h : okI m p i = true) (h5 : i.op = 5 ∨ i.op = 6) : i.size = 1 ∨ i.size = 4 := by
 unfold okI at h
 simp only [Bool.and_eq_true] at h
 obtain ⟨-, h⟩ := h
 rw [if_neg (by omega)] at h
 simp only [Bool.and_eq_true] at h
 have hm := h.2
 unfold moreF at hm
 rw [if_neg (by omega), if_neg (by omega), if_pos h5] at hm
 simp at hm
 exact hm.1
theorem longM_pos {m : Md} (hok : okM m = true) {n : Nat} (hn : n < m.procs.length) : 0 ≤ longM (pk m n) := by
 have hH := okP_head (okM_proc hok hn)
 exact (slE_small hH.sl hH.ol _ (Nat.le_refl _)).1
theorem okI_call {m : Md} {p : Pr} {i : In} (h : okI m p i = true) (h9 : i.op = 9) : 0 ≤ i.obj ∧ i.obj < (m.procs.length : Int) ∧ (i.args.length : Int) = (pk m i.obj.toNat).params ∧ regF p i.d (!(pk m i.obj.toNat).void) = true ∧ (i.args.all fun r => regF p r true) = true := by
 unfold okI at h
 simp only [Bool.and_eq_true] at h
 have h := h.2
 rw [if_pos h9] at h
 simp only [callF, Bool.and_eq_true, decide_eq_true_eq] at h
 exact ⟨h.1.1, h.1.2.1, h.1.2.2.1, h.1.2.2.2.1, h.1.2.2.2.2⟩
theorem storeP_lenX (mem : List Int) (n : Nat) (v : Int) : ∀ k, (storeP mem n v k).length = mem.length
 | 0 => rfl
 | k + 1 => by rw [storeP, List.length_set, storeP_lenX]
def LenI (s : Oc) (o : Option (List Int × Oc)) : Prop := ∀ r, o = some r → r.2.mem.length = s.mem.length
theorem len_ite {s : Oc} {q : Prop} [Decidable q] {a b : Option (List Int × Oc)} (h : LenI s a) (h' : LenI s b) : LenI s (if q then a else b) := by split <;> assumption
theorem len_none {s : Oc} : LenI s none := fun _ h => by cases h
theorem len_some {s : Oc} {x : List Int} {y : Oc} (h : y.mem.length = s.mem.length) : LenI s (some (x, y)) := fun _ h2 => by cases h2; exact h
theorem insM_len {m : Md} {inp : List Int} {p : Pr} {low : Int} {i : In} {regs : List Int} {s : Oc} {r : List Int × Oc} (h : insM m inp p low i regs s = some r) : r.2.mem.length = s.mem.length := by
 have H : LenI s (insM m inp p low i regs s) := by
  unfold insM
  repeat' apply len_ite
  all_goals first
   | exact len_none
   | exact len_some rfl
   | exact len_some (storeP_lenX _ _ _ _)
 exact H r h
/-- memory: bytes, and as many as there are -/
structure MemL (mem : List Int) : Prop where
 ok : MemOk mem
 len : mem.length = 65536
structure GFr (m : Md) (fr : Fr) : Prop where
 n : fr.n < m.procs.length
 b : fr.b < (pk m fr.n).blks.length
 i : fr.i ≤ ((pk m fr.n).blks.getD fr.b default).ins.length
 r : (fr.regs.length : Int) = (pk m fr.n).regs
 w : ∀ x ∈ fr.regs, 0 ≤ x ∧ x < 4294967296
 l : 0 ≤ fr.low ∧ fr.low ≤ 65536
/-- a call that stands below another: behind its call -/
structure UFr (m : Md) (fr : Fr) : Prop where
 g : GFr m fr
 i : 1 ≤ fr.i
 c : (((pk m fr.n).blks.getD fr.b default).ins.getD (fr.i - 1) default).op = 9
structure MIv (m : Md) (M : Ms) : Prop where
 fr : ∀ fr ∈ M.stk, GFr m fr
 up : ∀ fr ∈ M.stk.tail, UFr m fr
 mem : MemL M.s.mem
theorem GFr.set {m : Md} {fr : Fr} (h : GFr m fr) (n : Nat) (v : Int) (hv : 0 ≤ v ∧ v < 4294967296) : GFr m { fr with regs := fr.regs.set n v } :=
 ⟨h.n, h.b, h.i, by simpa using h.r, fun x hx => by
   rcases List.mem_or_eq_of_mem_set hx with h2 | rfl
   ·exact h.w x h2
   ·exact hv, h.l⟩
/-- a call's frame when what it called comes back -/
def retF (m : Md) (c : Fr) (v : Int) : Fr :=
 if (((pk m c.n).blks.getD c.b default).ins.getD (c.i - 1) default).d ≠ -1 then { c with regs := c.regs.set (((pk m c.n).blks.getD c.b default).ins.getD (c.i - 1) default).d.toNat v } else c
theorem backM_cons (m : Md) (c : Fr) (K : List Fr) (v : Int) (s : Oc) : backM m (c :: K) v s = ⟨retF m c v :: K, false, s⟩ := rfl
theorem GFr.ret {m : Md} {c : Fr} (h : GFr m c) (v : Int) (hv : 0 ≤ v ∧ v < 4294967296) : GFr m (retF m c v) := by
 unfold retF; split
 ·exact h.set _ _ hv
 ·exact h
theorem MIv.back {m : Md} {K : List Fr} {s : Oc} {v : Int} (hv : 0 ≤ v ∧ v < 4294967296) (hfr : ∀ fr ∈ K, UFr m fr) (hm : MemL s.mem) : MIv m (backM m K v s) := by
 match K with
 | [] => exact ⟨fun fr h => (by cases h), fun fr h => (by cases h), hm⟩
 | c :: K' =>
  rw [backM_cons]
  refine ⟨fun fr h => ?_, fun fr h => hfr fr (List.mem_cons_of_mem _ h), hm⟩
  rcases List.mem_cons.1 h with rfl | h
  ·exact (hfr c List.mem_cons_self).g.ret v hv
  ·exact (hfr fr (List.mem_cons_of_mem _ h)).g
/-- a step keeps what holds -/
theorem MIv.step {m : Md} {inp : List Int} {f : Fr} {K : List Fr} {s : Oc} (hok : okM m = true) (hmd : MdOk m) (hiw : ∀ x ∈ inp, 0 ≤ x ∧ x < 4294967296) (h : MIv m ⟨f :: K, false, s⟩) (hh : (stepM m inp ⟨f :: K, false, s⟩).halt = false) : MIv m (stepM m inp ⟨f :: K, false, s⟩) := by
 have hf := h.fr f List.mem_cons_self
 have hP := okM_proc hok hf.n
 have hB := okP_blk hP hf.b
 have hK : ∀ fr ∈ K, UFr m fr := fun fr hfr => h.up fr hfr
 have hrg := rg_words hf.w
 by_cases hl : f.i = (fBk m f).ins.length
 ·by_cases h3 : (fBk m f).fin = 3
  ·rw [fs_ret hl h3]
   exact MIv.back (by split; exact hrg _; exact ⟨by decide, by decide⟩) hK h.mem
  ·rw [fs_end hl h3]
   refine ⟨fun fr hfr => ?_, fun fr hfr => hK fr hfr, h.mem⟩
   rcases List.mem_cons.1 hfr with rfl | hfr
   ·refine ⟨hf.n, ?_, Nat.zero_le _, hf.r, hf.w, hf.l⟩
    unfold fNext fBk at *
    dsimp only
    rcases end_cases (okB_end hB) with ⟨q1, q2, q3⟩ | ⟨q1, q2, q3, q4, q5, -, -⟩ | ⟨q1, -⟩
    ·rw [if_neg (by omega)]; omega
    ·split <;> omega
    ·exact absurd q1 h3
   ·exact (hK fr hfr).g
 ·have hlt : f.i < (fBk m f).ins.length := by have := hf.i; unfold fBk at *; omega
  have hI : okI m (pk m f.n) (fIn m f) = true := okB_ins hB hlt
  have hIn : InOk (fIn m f) := mdOkIn hmd hf.n hf.b hlt
  have hf1 : GFr m (fUp f) := ⟨hf.n, hf.b, hlt, hf.r, hf.w, hf.l⟩
  by_cases h9 : (fIn m f).op = 9
  ·have hu : UFr m (fUp f) := ⟨hf1, Nat.succ_le_succ (Nat.zero_le _), h9⟩
   rw [fs_call hl h9] at hh ⊢
   generalize fIn m f = I at *
   revert hh
   unfold enterM
   split
   ·intro hh; cases hh
   ·rename_i hne
    intro _
    obtain ⟨c1, c2, hpar, -, -⟩ := okI_call hI h9
    have hno : I.obj.toNat < m.procs.length := by omega
    have hH := okP_head (okM_proc hok hno)
    refine ⟨fun fr hfr => ?_, fun fr hfr => ?_, h.mem⟩
    ·rcases List.mem_cons.1 hfr with rfl | hfr
     ·refine ⟨hno, by have := hH.b1; exact this, Nat.zero_le _, ?_, fun x hx => ?_, ?_⟩
      ·simp only [List.length_append, List.length_map, List.length_replicate]
       have := hH.p0
       have := hH.pr
       omega
      ·rcases List.mem_append.1 hx with h2 | h2
       ·obtain ⟨y, -, rfl⟩ := List.mem_map.1 h2; exact hrg y
       ·rw [List.eq_of_mem_replicate h2]; exact ⟨by decide, by decide⟩
      ·have h1 := longM_pos hok hno
       have h2 := hf.l
       have h3 : 0 ≤ enM m := by
        have hG := okM_globs hok
        have := (slE_small hG.1 (by have := hG.2.1; omega) m.globs.length (Nat.le_refl _)).1
        unfold enM; omega
       dsimp only
       omega
     ·rcases List.mem_cons.1 hfr with rfl | hfr
      ·exact hf1
      ·exact (hK fr hfr).g
    ·rcases List.mem_cons.1 hfr with rfl | hfr
     ·exact hu
     ·exact hK fr hfr
  ·generalize hX : insM m inp (pk m f.n) f.low (fIn m f) f.regs s = X
   have hgood := insM_good (m := m) (inp := inp) (p := pk m f.n) (low := f.low) (i := fIn m f) (regs := f.regs) h.mem.ok
   have hwd := insM_wd (m := m) (inp := inp) (p := pk m f.n) (low := f.low) (i := fIn m f) hf.w hiw hIn.num h.mem.ok (fun h5 => okI_sz hI (.inl h5))
   rw [hX] at hgood hwd
   cases X with
   | none =>
    rw [fs_bad hl h9 hX] at hh
    cases hh
   | some r =>
    rw [fs_ins hl h9 hX]
    obtain ⟨g1, -, -, -, g5⟩ := hgood r rfl
    refine ⟨fun fr hfr => ?_, fun fr hfr => hK fr hfr, g1, (insM_len hX).trans h.mem.len⟩
    rcases List.mem_cons.1 hfr with rfl | hfr
    ·exact ⟨hf.n, hf.b, hlt, by dsimp only; rw [g5]; exact hf.r, hwd r rfl, hf.l⟩
    ·exact (hK fr hfr).g
end Go.Proofs.YtchoiankeohonaaGreatDoor
