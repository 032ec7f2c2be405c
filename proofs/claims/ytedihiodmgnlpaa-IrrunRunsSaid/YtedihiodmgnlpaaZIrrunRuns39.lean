/-
 The machine of single steps keeps what holds of its calls.
-/
import Derived.Test.YtedihiodmgnlpaaZIrrunRuns38
set_option linter.all false
namespace Go.Proofs.Ytedihiodmgnlpaa
open Go.ChangeShapes Go.WideShapes Go.ChangeAt Go.RowKit
set_option maxHeartbeats 1000000
set_option linter.unusedVariables false
set_option maxRecDepth 20000

/-- what an instruction's numbers are where it is right -/
theorem insM_words {m : Md} {inp : List Int} {p : Pr} {low : Int} {i : In} {regs : List Int} {s : Oc} (hw : ∀ x ∈ regs, 0 ≤ x ∧ x < 4294967296) (hi : ∀ x ∈ inp, 0 ≤ x ∧ x < 4294967296) (hn : 0 ≤ i.num ∧ i.num < 4294967296) (hm : MemOk s.mem) (hs : i.op = 5 → i.size = 1 ∨ i.size = 4) :
  ∀ r, insM m inp p low i regs s = some r → ∀ x ∈ r.1, 0 ≤ x ∧ x < 4294967296 := by
 have hrg := rg_words hw
 have M4 : ∀ x : Int, 0 ≤ x % 4294967296 ∧ x % 4294967296 < 4294967296 := fun x => ⟨Int.emod_nonneg _ (by decide), Int.emod_lt_of_pos _ (by decide)⟩
 have S : ∀ (n : Nat) (v : Int), (0 ≤ v ∧ v < 4294967296) → ∀ (s' : Oc) r, some (regs.set n v, s') = some r → ∀ x ∈ r.1, 0 ≤ x ∧ x < 4294967296 := fun n v hv s' r hr x hx => by
  cases hr
  rcases List.mem_or_eq_of_mem_set hx with h | rfl
  ·exact hw x h
  ·exact hv
 have S0 : ∀ (s' : Oc) r, some (regs, s') = some r → ∀ x ∈ r.1, 0 ≤ x ∧ x < 4294967296 := fun s' r hr x hx => by cases hr; exact hw x hx
 have I : ∀ n, 0 ≤ inp.getD n 0 ∧ inp.getD n 0 < 4294967296 := fun n => by
  by_cases h : n < inp.length
  ·exact hi _ (by simp [List.getD, h])
  ·have : inp.getD n 0 = 0 := by simp [List.getD, Nat.le_of_not_lt h]
   rw [this]; exact ⟨by decide, by decide⟩
 intro r hr
 unfold insM at hr
 by_cases h1 : i.op = 1
 ·rw [if_pos h1] at hr; exact S _ _ hn _ r hr
 rw [if_neg h1] at hr
 by_cases h2 : i.op = 2
 ·rw [if_pos h2] at hr; exact S _ _ (hrg _) _ r hr
 rw [if_neg h2] at hr
 by_cases h3 : i.op = 3
 ·rw [if_pos h3] at hr; exact S _ _ (fnF_bd _ _ _ (hrg _).1 (hrg _).2 (hrg _).1 (hrg _).2) _ r hr
 rw [if_neg h3] at hr
 by_cases h4 : i.op = 4
 ·rw [if_pos h4] at hr; exact S _ _ (fnF_bd _ _ _ (hrg _).1 (hrg _).2 (by decide) (by decide)) _ r hr
 rw [if_neg h4] at hr
 by_cases h5 : i.op = 5
 ·rw [if_pos h5] at hr
  split at hr
  ·refine S _ _ ?_ _ r hr
   have hb := loadP_bd s.mem hm (addrM regs i - 268435456).toNat i.size.toNat
   have : (256 : Int) ^ i.size.toNat ≤ 4294967296 := by rcases hs h5 with h | h <;> rw [h] <;> decide
   omega
  ·cases hr
 rw [if_neg h5] at hr
 by_cases h6 : i.op = 6
 ·rw [if_pos h6] at hr
  split at hr
  ·exact S0 _ r hr
  ·cases hr
 rw [if_neg h6] at hr
 by_cases h7 : i.op = 7
 ·rw [if_pos h7] at hr; exact S _ _ (M4 _) _ r hr
 rw [if_neg h7] at hr
 by_cases h8 : i.op = 8
 ·rw [if_pos h8] at hr; exact S _ _ (M4 _) _ r hr
 rw [if_neg h8] at hr
 by_cases h10 : i.op = 10
 ·rw [if_pos h10] at hr; exact S0 _ r hr
 rw [if_neg h10] at hr
 by_cases h11 : i.op = 11
 ·rw [if_pos h11] at hr
  refine S _ _ ?_ _ r hr
  split
  ·exact I _
  ·exact ⟨by decide, by decide⟩
 rw [if_neg h11] at hr
 exact S0 _ r hr
theorem okI_size {m : Md} {p : Pr} {i : In} (h : okI m p i = true) (h5 : i.op = 5) : i.size = 1 ∨ i.size = 4 := by
 unfold okI at h
 simp only [Bool.and_eq_true] at h
 obtain ⟨-, h⟩ := h
 rw [if_neg (by omega)] at h
 simp only [Bool.and_eq_true] at h
 have hm := h.2
 unfold moreF at hm
 rw [if_neg (by omega), if_neg (by omega), if_pos (.inl h5)] at hm
 simp at hm
 exact hm.1
theorem longM_nn {m : Md} (hok : okM m = true) {n : Nat} (hn : n < m.procs.length) : 0 ≤ longM (pk m n) := by
 have hH := okP_head (okM_proc hok hn)
 exact (slE_small hH.sl hH.ol _ (Nat.le_refl _)).1
theorem GoodFr.set {m : Md} {fr : Fr} (h : GoodFr m fr) (n : Nat) (v : Int) (hv : 0 ≤ v ∧ v < 4294967296) : GoodFr m { fr with regs := fr.regs.set n v } :=
 ⟨h.n, h.b, h.i, by simpa using h.r, fun x hx => by
   rcases List.mem_or_eq_of_mem_set hx with h2 | rfl
   ·exact h.w x h2
   ·exact hv, h.l⟩
theorem MInv.mono {m : Md} {N N' : Nat} {M : Ms} (h : MInv m N M) (hn : N ≤ N') : MInv m N' M := ⟨h.fr, h.up, h.mem, h.i0, by have := h.i1; omega, by have := h.o1; omega, by have := h.d1; omega⟩
theorem MInv.back {m : Md} {N : Nat} {K : List Fr} {s : Oc} {v : Int} (hv : 0 ≤ v ∧ v < 4294967296) (hfr : ∀ fr ∈ K, GoodFr m fr ∧ 1 ≤ fr.i) (hm : MemOk s.mem) (h0 : 0 ≤ s.ins) (h1 : s.ins ≤ N) (ho : s.out.length ≤ N) (hd : K.length ≤ N + 1) : MInv m N (backM m K v s) := by
 match K with
 | [] => exact ⟨fun fr h => (by cases h), fun fr h => (by cases h), hm, h0, h1, ho, Nat.zero_le _⟩
 | c :: K' =>
  have hc := (hfr c List.mem_cons_self).1
  have e : backM m (c :: K') v s = ⟨(if (((pk m c.n).blks.getD c.b default).ins.getD (c.i - 1) default).d ≠ -1 then { c with regs := c.regs.set (((pk m c.n).blks.getD c.b default).ins.getD (c.i - 1) default).d.toNat v } else c) :: K', false, s⟩ := rfl
  rw [e]
  refine ⟨fun fr h => ?_, fun fr h => (hfr fr (List.mem_cons_of_mem _ h)).2, hm, h0, h1, ho, hd⟩
  rcases List.mem_cons.1 h with rfl | h
  ·split
   ·exact hc.set _ _ hv
   ·exact hc
  ·exact (hfr fr (List.mem_cons_of_mem _ h)).1
/-- a step keeps what holds -/
theorem MInv.step {m : Md} {inp : List Int} {N : Nat} {f : Fr} {K : List Fr} {s : Oc} (hok : okM m = true) (hmd : MdOk m) (hiw : ∀ x ∈ inp, 0 ≤ x ∧ x < 4294967296) (h : MInv m N ⟨f :: K, false, s⟩) : MInv m (N + 1) (stepM m inp ⟨f :: K, false, s⟩) := by
 have hf := h.fr f List.mem_cons_self
 have hP := okM_proc hok hf.n
 have hB := okP_blk hP hf.b
 have hK : ∀ fr ∈ K, GoodFr m fr ∧ 1 ≤ fr.i := fun fr hfr => ⟨h.fr fr (List.mem_cons_of_mem _ hfr), h.up fr hfr⟩
 have i1 := h.i1
 have o1 := h.o1
 have d1 := h.d1
 dsimp only at i1 o1 d1
 rw [List.length_cons] at d1
 have hrg := rg_words hf.w
 by_cases hl : f.i = ((pk m f.n).blks.getD f.b default).ins.length
 ·by_cases h3 : ((pk m f.n).blks.getD f.b default).fin = 3
  ·have e : stepM m inp ⟨f :: K, false, s⟩ = backM m K (if ((pk m f.n).blks.getD f.b default).a ≠ -1 then rg f.regs ((pk m f.n).blks.getD f.b default).a else 0) s := (if_pos hl).trans (if_pos h3)
   rw [e]
   exact MInv.back (by split; exact hrg _; exact ⟨by decide, by decide⟩) hK h.mem h.i0 (by omega) (by omega) (by omega)
  ·have e : stepM m inp ⟨f :: K, false, s⟩ = ⟨{ f with b := (if ((pk m f.n).blks.getD f.b default).fin = 2 ∧ rg f.regs ((pk m f.n).blks.getD f.b default).a = 0 then ((pk m f.n).blks.getD f.b default).els else ((pk m f.n).blks.getD f.b default).to).toNat, i := 0 } :: K, false, s⟩ := (if_pos hl).trans (if_neg h3)
   rw [e]
   refine ⟨fun fr hfr => ?_, fun fr hfr => (hK fr hfr).2, h.mem, h.i0, by dsimp only; omega, by dsimp only; omega, by simp; omega⟩
   rcases List.mem_cons.1 hfr with rfl | hfr
   ·refine ⟨hf.n, ?_, Nat.zero_le _, hf.r, hf.w, hf.l⟩
    dsimp only
    rcases end_cases (okB_end hB) with ⟨q1, q2, q3⟩ | ⟨q1, q2, q3, q4, q5, -, -⟩ | ⟨q1, -⟩
    ·rw [if_neg (by omega)]; omega
    ·split <;> omega
    ·exact absurd q1 h3
   ·exact (hK fr hfr).1
 ·have hlt : f.i < ((pk m f.n).blks.getD f.b default).ins.length := by have := hf.i; omega
  have hI := okB_ins hB hlt
  have hIn := mdOk_in hmd hf.n hf.b hlt
  have hf1 : GoodFr m { f with i := f.i + 1 } := ⟨hf.n, hf.b, hlt, hf.r, hf.w, hf.l⟩
  by_cases h9 : (((pk m f.n).blks.getD f.b default).ins.getD f.i default).op = 9
  ·have e : stepM m inp ⟨f :: K, false, s⟩ = enterM m ({ f with i := f.i + 1 } :: K) (((pk m f.n).blks.getD f.b default).ins.getD f.i default).obj.toNat ((((pk m f.n).blks.getD f.b default).ins.getD f.i default).args.map (rg f.regs)) f.low s := (if_neg hl).trans (if_pos h9)
   rw [e]
   generalize ((pk m f.n).blks.getD f.b default).ins.getD f.i default = I at *
   unfold enterM
   split
   ·refine ⟨fun fr hfr => ?_, fun fr hfr => (hK fr hfr).2, h.mem, h.i0, by dsimp only; omega, by dsimp only; omega, by simp; omega⟩
    rcases List.mem_cons.1 hfr with rfl | hfr
    ·exact hf1
    ·exact (hK fr hfr).1
   ·rename_i hne
    have hc : 0 ≤ I.obj ∧ I.obj < (m.procs.length : Int) ∧ (I.args.length : Int) = (m.procs.getD I.obj.toNat default).params := by
     unfold okI at hI
     simp only [Bool.and_eq_true] at hI
     have hI := hI.2
     rw [if_pos h9] at hI
     simp only [callF, Bool.and_eq_true, decide_eq_true_eq] at hI
     exact ⟨hI.1.1, hI.1.2.1, hI.1.2.2.1⟩
    have hno : I.obj.toNat < m.procs.length := by omega
    have hH := okP_head (okM_proc hok hno)
    have hpar : (I.args.length : Int) = (pk m I.obj.toNat).params := hc.2.2
    refine ⟨fun fr hfr => ?_, fun fr hfr => ?_, h.mem, h.i0, by dsimp only; omega, by dsimp only; omega, by simp; omega⟩
    ·rcases List.mem_cons.1 hfr with rfl | hfr
     ·refine ⟨hno, by have := hH.b1; exact this, Nat.zero_le _, ?_, fun x hx => ?_, ?_⟩
      ·simp only [List.length_append, List.length_map, List.length_replicate]
       have := hH.p0
       have := hH.pr
       omega
      ·rcases List.mem_append.1 hx with h2 | h2
       ·obtain ⟨y, -, rfl⟩ := List.mem_map.1 h2; exact hrg y
       ·rw [List.eq_of_mem_replicate h2]; exact ⟨by decide, by decide⟩
      ·have h1 := longM_nn hok hno
       have h2 := hf.l
       have h3 : 0 ≤ enM m := by
        have hG := okM_globs hok
        have := (slE_small hG.1 (by have := hG.2.1; omega) m.globs.length (Nat.le_refl _)).1
        unfold enM; omega
       dsimp only
       omega
     ·rcases List.mem_cons.1 hfr with rfl | hfr
      ·exact hf1
      ·exact (hK fr hfr).1
    ·rcases List.mem_cons.1 hfr with rfl | hfr
     ·exact Nat.succ_le_succ (Nat.zero_le _)
     ·exact (hK fr hfr).2
  ·generalize hX : insM m inp (pk m f.n) f.low (((pk m f.n).blks.getD f.b default).ins.getD f.i default) f.regs s = X
   have hgood := insM_good (m := m) (inp := inp) (p := pk m f.n) (low := f.low) (i := ((pk m f.n).blks.getD f.b default).ins.getD f.i default) (regs := f.regs) h.mem
   have hwd := insM_words (m := m) (inp := inp) (p := pk m f.n) (low := f.low) (i := ((pk m f.n).blks.getD f.b default).ins.getD f.i default) hf.w hiw hIn.num h.mem (okI_size hI)
   rw [hX] at hgood hwd
   cases X with
   | none =>
    have e : stepM m inp ⟨f :: K, false, s⟩ = ⟨{ f with i := f.i + 1 } :: K, true, { s with e := 12 }⟩ := by
     refine (if_neg hl).trans ((if_neg h9).trans ?_)
     show (match insM m inp (pk m f.n) f.low (((pk m f.n).blks.getD f.b default).ins.getD f.i default) f.regs s with | none => _ | some (regs, s) => _) = _
     rw [hX]
    rw [e]
    refine ⟨fun fr hfr => ?_, fun fr hfr => (hK fr hfr).2, h.mem, h.i0, by dsimp only; omega, by dsimp only; omega, by simp; omega⟩
    rcases List.mem_cons.1 hfr with rfl | hfr
    ·exact hf1
    ·exact (hK fr hfr).1
   | some r =>
    have e : stepM m inp ⟨f :: K, false, s⟩ = ⟨{ f with regs := r.1, i := f.i + 1 } :: K, false, r.2⟩ := by
     refine (if_neg hl).trans ((if_neg h9).trans ?_)
     show (match insM m inp (pk m f.n) f.low (((pk m f.n).blks.getD f.b default).ins.getD f.i default) f.regs s with | none => _ | some (regs, s) => _) = _
     rw [hX]
    obtain ⟨g1, g2, g3, g4, g5⟩ := hgood r rfl
    have i0 := h.i0
    dsimp only at g2 g3 g4 i0
    rw [e]
    refine ⟨fun fr hfr => ?_, fun fr hfr => (hK fr hfr).2, g1, by dsimp only; omega, by dsimp only; omega, by dsimp only; omega, by simp; omega⟩
    rcases List.mem_cons.1 hfr with rfl | hfr
    ·exact ⟨hf.n, hf.b, hlt, by have := hf.r; dsimp only; omega, hwd r rfl, hf.l⟩
    ·exact (hK fr hfr).1
end Go.Proofs.Ytedihiodmgnlpaa
