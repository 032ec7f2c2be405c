/-
 A call within a run: what it must do, against the machine of single steps; the contract of into.; What stands in procedures that are right; rows of numbers, one by one.
-/
import Derived.Test.YtchoiankeohonaaGreatDoorZInlineAll13
import Derived.Test.YtchoiankeohonaaGreatDoorZInlineAll05

set_option linter.all false
namespace Go.Proofs.YtchoiankeohonaaGreatDoor
open Go.ChangeShapes Go.WideShapes Go.ChangeAt Go.RowKit
set_option maxHeartbeats 4000000
set_option linter.unusedVariables false
set_option maxRecDepth 20000

/-- a run's numbers are such as never leave their kinds -/
structure Gd (s : RS) : Prop where
 mem : MemOk s.mem
 i0 : 0 ≤ s.ins
 i1 : s.ins + s.fuel ≤ 10000000
 o1 : (s.out.length : Int) + s.fuel ≤ 10000000
 f0 : 0 ≤ s.fuel
 d0 : 0 ≤ s.deep
 d1 : s.deep ≤ 5000
/-- the module that runs is right -/
structure Env (k : RK) : Prop where
 ok : okM k.m = true
 num : MdOk k.m
 at' : k.at' = (slL k.m.globs k.m.globs.length).map (4096 + ·)
 en : k.en = enM k.m
 en1 : 4096 ≤ k.en ∧ k.en ≤ 65536
 inl : k.inp.length ≤ 1000000
 inw : ∀ x ∈ k.inp, 0 ≤ x ∧ x < 4294967296
/-- what a call does: what comes back, or that the run is over, just as the machine's steps have it -/
def CallPost (k : RK) (n : Nat) (args : List Int) (top : Int) (s : RS) (w : World) (vo : Value) (e : Ending) (w' : World) : Prop :=
 ∃ vo' s' v ok, e = .returned (.tuple #[.int .u32 v, .bool ok]) ∧ Rn k w' vo' s' ∧ Kp k vo vo' w w' ∧ (0 ≤ v ∧ v < 4294967296) ∧ (ok = true → Gd s' ∧ s'.deep = s.deep ∧ s'.fuel ≤ s.fuel) ∧
  ∀ K : List Fr, (K.length : Int) = s.deep → runM k.m k.inp s.fuel.toNat (enterM k.m K n args top s.oc) = if ok = true then runM k.m k.inp s'.fuel.toNat (backM k.m K v s'.oc) else s'.oc
def CallOK (k : RK) (F : Nat) : Prop := ∀ (w : World) (vo : Value) (s : RS) (n : Nat) (args : List Int) (va : Value) (top : Int),
 Rn k w vo s → Gd s → s.fuel ≤ (F : Int) → n < k.m.procs.length → RdW w va args → (args.length : Int) = (pk k.m n).params → (∀ x ∈ args, 0 ≤ x ∧ x < 4294967296) → 0 ≤ top → top ≤ 65536 →
 Calls Tryz.prog 28 #[.pointer (some ⟨k.br, 0, none⟩), .int .i64 (n : Int), va, .int .i64 top] w (CallPost k n args top s w vo)
/-- what an instruction does, just as the machine's step has it -/
def StepPost (k : RK) (p : Pr) (bf bg c : Nat) (nm : ByteArray) (vob vbl vat : Value) (low : Int) (w : World) (vo : Value) (s : RS) (fr : Fr) (e : Ending) (w' : World) : Prop :=
 ∃ vo' s' regs' ok, e = .returned (.bool ok) ∧ Rn k w' vo' s' ∧ Fw k p bf bg c nm vob vbl vat low w' vo' regs' ∧ Kq k bg vo vo' w w' ∧ (ok = true → Gd s' ∧ s'.deep = s.deep ∧ s'.fuel ≤ s.fuel ∧ regs'.length = fr.regs.length) ∧
  ∀ K : List Fr, (K.length : Int) + 1 = s.deep → runM k.m k.inp s.fuel.toNat (stepM k.m k.inp ⟨fr :: K, false, s.oc⟩) = if ok = true then runM k.m k.inp s'.fuel.toNat ⟨{ fr with regs := regs', i := fr.i + 1 } :: K, false, s'.oc⟩ else s'.oc
def insOf (k : RK) (fr : Fr) : List In := ((pk k.m fr.n).blks.getD fr.b default).ins
theorem stepM_ins (k : RK) (fr : Fr) (K : List Fr) (s : Oc) (i : In) (hl : fr.i < (insOf k fr).length) (hi : (insOf k fr).getD fr.i default = i) (hop : i.op ≠ 9) :
  stepM k.m k.inp ⟨fr :: K, false, s⟩ = match insM k.m k.inp (pk k.m fr.n) fr.low i fr.regs s with
   | none => ⟨{ fr with i := fr.i + 1 } :: K, true, { s with e := 12 }⟩
   | some (regs, s) => ⟨{ fr with regs := regs, i := fr.i + 1 } :: K, false, s⟩ := by
 subst hi
 unfold insOf at *
 unfold stepM
 dsimp only
 rw [if_neg (by omega), if_neg hop]
 rfl
theorem stepM_call (k : RK) (fr : Fr) (K : List Fr) (s : Oc) (i : In) (hl : fr.i < (insOf k fr).length) (hi : (insOf k fr).getD fr.i default = i) (hop : i.op = 9) :
  stepM k.m k.inp ⟨fr :: K, false, s⟩ = enterM k.m ({ fr with i := fr.i + 1 } :: K) i.obj.toNat (i.args.map (rg fr.regs)) fr.low s := by
 subst hi
 unfold insOf at *
 unfold stepM
 dsimp only
 rw [if_neg (by omega), if_pos hop]
theorem stepM_ret (k : RK) (fr : Fr) (K : List Fr) (s : Oc) (b : Bk) (hb : (pk k.m fr.n).blks.getD fr.b default = b) (hl : fr.i = b.ins.length) (hf : b.fin = 3) :
  stepM k.m k.inp ⟨fr :: K, false, s⟩ = backM k.m K (if b.a ≠ -1 then rg fr.regs b.a else 0) s := by
 subst hb
 unfold stepM
 dsimp only
 rw [if_pos hl, if_pos hf]
theorem stepM_go (k : RK) (fr : Fr) (K : List Fr) (s : Oc) (b : Bk) (hb : (pk k.m fr.n).blks.getD fr.b default = b) (hl : fr.i = b.ins.length) (hf : b.fin ≠ 3) :
  stepM k.m k.inp ⟨fr :: K, false, s⟩ = ⟨{ fr with b := (if b.fin = 2 ∧ rg fr.regs b.a = 0 then b.els else b.to).toNat, i := 0 } :: K, false, s⟩ := by
 subst hb
 unfold stepM
 dsimp only
 rw [if_pos hl, if_neg hf]
theorem rg_words {regs : List Int} (h : ∀ x ∈ regs, 0 ≤ x ∧ x < 4294967296) (n : Int) : 0 ≤ rg regs n ∧ rg regs n < 4294967296 := by
 unfold rg
 by_cases hn : n.toNat < regs.length
 ·have : regs.getD n.toNat 0 ∈ regs := by simp [List.getD, hn]
  exact h _ this
 ·have : regs.getD n.toNat 0 = 0 := by simp [List.getD, Nat.le_of_not_lt hn]
  omega
theorem memOk_set {mem : List Int} (h : MemOk mem) (n : Nat) (x : Int) (hx : 0 ≤ x ∧ x < 256) : MemOk (mem.set n x) := by
 intro j
 rcases Nat.lt_or_ge j mem.length with hl | hl
 ·by_cases e : n = j
  ·subst e; simp [List.getD, hl, hx]
  ·have e3 : (mem.set n x).getD j 0 = mem.getD j 0 := by simp [List.getD, List.getElem?_set_ne e]
   rw [e3]; exact h j
 ·have : (mem.set n x).getD j 0 = 0 := by simp [List.getD, hl]
  omega
theorem memOk_store {mem : List Int} (h : MemOk mem) (n : Nat) (v : Int) : ∀ i, MemOk (storeP mem n v i)
 | 0 => h
 | i + 1 => memOk_set (memOk_store h n v i) _ _ ⟨Int.emod_nonneg _ (by decide), Int.emod_lt_of_pos _ (by decide)⟩
def GoodI (regs : List Int) (s : Oc) (o : Option (List Int × Oc)) : Prop := ∀ r, o = some r → MemOk r.2.mem ∧ s.ins ≤ r.2.ins ∧ r.2.ins ≤ s.ins + 1 ∧ r.2.out.length ≤ s.out.length + 1 ∧ r.1.length = regs.length
theorem good_ite {regs : List Int} {s : Oc} {q : Prop} [Decidable q] {a b : Option (List Int × Oc)} (h : GoodI regs s a) (h' : GoodI regs s b) : GoodI regs s (if q then a else b) := by split <;> assumption
theorem good_none {regs : List Int} {s : Oc} : GoodI regs s none := fun _ h => by cases h
theorem good_some {regs : List Int} {s : Oc} {x : List Int} {y : Oc} (h : MemOk y.mem ∧ s.ins ≤ y.ins ∧ y.ins ≤ s.ins + 1 ∧ y.out.length ≤ s.out.length + 1 ∧ x.length = regs.length) : GoodI regs s (some (x, y)) := fun _ h2 => by cases h2; exact h
/-- an instruction keeps a run's numbers in their bounds -/
theorem insM_good {m : Md} {inp : List Int} {p : Pr} {low : Int} {i : In} {regs : List Int} {s : Oc} (hm : MemOk s.mem) : GoodI regs s (insM m inp p low i regs s) := by
 unfold insM
 repeat' apply good_ite
 all_goals first
  | exact good_none
  | (apply good_some
     first
     | exact ⟨hm, Int.le_refl _, by omega, by omega, by simp⟩
     | exact ⟨memOk_store hm _ _ _, Int.le_refl _, by dsimp only; omega, by dsimp only; omega, by simp⟩
     | exact ⟨hm, Int.le_refl _, by dsimp only; omega, by simp, by simp⟩
     | exact ⟨hm, by dsimp only; omega, Int.le_refl _, by dsimp only; omega, by simp⟩)
/-- what an instruction that is no call does, as the machine's step -/
theorem step_of_ins {k : RK} {p : Pr} {bf bg c : Nat} {nm : ByteArray} {vob vbl vat : Value} {low : Int} {w : World} {vo : Value} {s : RS} {fr : Fr} {i : In} (hg : Gd s) (hs1 : s.ins + s.fuel + 1 ≤ 10000000) (hs2 : (s.out.length : Int) + s.fuel + 1 ≤ 10000000)
  (hp : pk k.m fr.n = p) (hlow : fr.low = low) (hl : fr.i < (insOf k fr).length) (hi : (insOf k fr).getD fr.i default = i) (hop : i.op ≠ 9) {e : Ending} {w' : World}
  (h : InsPost k p bf bg c nm vob vbl vat low w vo s (insM k.m k.inp p low i fr.regs s.oc) e w') : StepPost k p bf bg c nm vob vbl vat low w vo s fr e w' := by
 subst hp
 subst hlow
 obtain ⟨vo', s', regs', h1, h2, h3, h4, h5, h6⟩ := h
 have hst := fun K => stepM_ins k fr K s.oc i hl hi hop
 cases hR : insM k.m k.inp (pk k.m fr.n) fr.low i fr.regs s.oc with
 | none =>
  rw [hR] at h6 hst
  obtain ⟨rfl, h7⟩ := h6
  refine ⟨vo', s', regs', false, rfl, h1, h2, h3, (fun h => by cases h), fun K _ => ?_⟩
  rw [hst K, runM_fin _ _ _ _ rfl, if_neg (by decide), h7]
 | some r =>
  rw [hR] at h6 hst
  obtain ⟨rfl, rfl, h7⟩ := h6
  obtain ⟨g1, g2, g3, g4, g5⟩ := insM_good (m := k.m) (inp := k.inp) (p := pk k.m fr.n) (low := fr.low) (i := i) (regs := fr.regs) (s := s.oc) hg.mem r hR
  have e1 : s'.mem = r.2.mem := congrArg Oc.mem h7
  have e2 : s'.ins = r.2.ins := congrArg Oc.ins h7
  have e3 : s'.out = r.2.out := congrArg Oc.out h7
  have g0 : s.oc.ins = s.ins := rfl
  have g6 : s.oc.out = s.out := rfl
  have hi0 := hg.i0
  rw [g6] at g4
  refine ⟨vo', s', r.1, true, rfl, h1, h2, h3, fun _ => ⟨⟨by rw [e1]; exact g1, by omega, by rw [h4]; omega, by rw [h4, e3]; omega, by rw [h4]; exact hg.f0, by rw [h5]; exact hg.d0, by rw [h5]; exact hg.d1⟩, h5, by omega, g5⟩, fun K _ => ?_⟩
  rw [hst K, if_pos rfl, h4, h7]
end Go.Proofs.YtchoiankeohonaaGreatDoor

set_option linter.all false
namespace Go.Proofs.YtchoiankeohonaaGreatDoor
open Go Go.RowKit
set_option linter.unusedVariables false

structure Head (p : Pr) : Prop where
 p0 : 0 ≤ p.params
 p6 : p.params ≤ 6
 pr : p.params ≤ p.regs
 r8 : p.regs ≤ 8000
 ol : p.objs.length ≤ 400
 b1 : 1 ≤ p.blks.length
 b4 : p.blks.length ≤ 4000
 sl : p.objs.all slotF = true
theorem okP_head {m : Md} {p : Pr} (h : okP m p = true) : Head p := by
 unfold okP okHead at h
 simp only [Bool.and_eq_true, decide_eq_true_eq] at h
 obtain ⟨⟨h1, h2, h3, h4, h5, h6, h7, h8, h9⟩, -⟩ := h
 exact ⟨h1, h2, h3, h4, h5, h6, h7, h8⟩
theorem okP_blk {m : Md} {p : Pr} (h : okP m p = true) {b : Nat} (hb : b < p.blks.length) : okB m p (p.blks.getD b default) = true := by
 unfold okP at h
 simp only [Bool.and_eq_true] at h
 have h2 := h.2
 rw [List.all_eq_true] at h2
 exact h2 _ (by simp [List.getD, hb])
theorem okB_ins {m : Md} {p : Pr} {b : Bk} (h : okB m p b = true) {i : Nat} (hi : i < b.ins.length) : okI m p (b.ins.getD i default) = true := by
 unfold okB at h
 simp only [Bool.and_eq_true] at h
 have h2 := h.1
 rw [List.all_eq_true] at h2
 exact h2 _ (by simp [List.getD, hi])
theorem okB_end {m : Md} {p : Pr} {b : Bk} (h : okB m p b = true) : endF p b = true := by
 unfold okB at h
 simp only [Bool.and_eq_true] at h
 exact h.2
theorem RdI.at' {w : World} {a : Option Addr} {n c : Nat} {l : List Int} (h : RdI w (.slice a n c) l) : n = l.length ∧ ∀ k, k < l.length → ∃ b o, a = some ⟨b, o, none⟩ ∧ w.cell? ⟨b, o + k, none⟩ = some (.int .i64 (l.getD k 0)) := by
 obtain ⟨a', c', e, h1, h2, hc⟩ := h
 simp only [Value.slice.injEq] at e
 obtain ⟨rfl, rfl, rfl⟩ := e
 refine ⟨rfl, fun k hk => ?_⟩
 obtain ⟨b, o, rfl, h0⟩ := hc k hk
 exact ⟨b, o, rfl, by simpa using h0⟩
end Go.Proofs.YtchoiankeohonaaGreatDoor
