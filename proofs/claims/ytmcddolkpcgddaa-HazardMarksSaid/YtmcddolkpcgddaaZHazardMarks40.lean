/-
 alias: what New comes to, plain parts.; alias: reg, list, Things, Out, Exact, memory; the statements' rising.; alias: Things, Out, Exact, memory; the statements' rising.
-/
import Derived.Test.YtmcddolkpcgddaaZHazardMarks39
import Derived.Test.YtmcddolkpcgddaaZHazardMarks26
import Derived.Test.YtmcddolkpcgddaaZHazardMarks01
import Derived.Test.YtmcddolkpcgddaaZHazardMarks36

set_option linter.all false
namespace Go.Proofs.Ytmcddolkpcgddaa
set_option linter.unusedVariables false

theorem okI_obj {m : Md} {p : Pr} {i : In} (h : okI m p i = true) (ho : p.objs.length ≤ 20) (hg : m.globs.length ≤ 20) (hp : m.procs.length ≤ 1000) : 0 ≤ i.obj ∧ i.obj ≤ 100000 := by
 obtain ⟨h12, hcall, hregs⟩ := okI_parts h
 by_cases h7 : i.op = 7
 ·have q4 := (hregs (by omega)).2.2.2
  unfold moreF at q4
  rw [if_neg (by omega), if_neg (by omega), if_neg (by omega), if_pos h7] at q4
  simp only [Bool.and_eq_true, decide_eq_true_eq] at q4
  omega
 by_cases h8 : i.op = 8
 ·have q4 := (hregs (by omega)).2.2.2
  unfold moreF at q4
  rw [if_neg (by omega), if_neg (by omega), if_neg (by omega), if_neg (by omega), if_pos h8] at q4
  simp only [Bool.and_eq_true, decide_eq_true_eq] at q4
  omega
 by_cases h9 : i.op = 9
 ·have := okI_call h h9
  omega
 ·unfold okI at h
  simp only [Bool.and_eq_true] at h
  have hb := h.1.2.2
  unfold bareF plainI at hb
  simp only [Bool.and_eq_true, beq_iff_eq] at hb
  have h2 := hb.2.1
  rw [if_neg (by omega)] at h2
  omega
theorem okI_def {m : Md} {p : Pr} {i : In} (h : okI m p i = true) (hd : defI i ≠ -1) : 0 ≤ defI i ∧ defI i < p.regs := by
 have h12 := ops12 h
 by_cases h9 : i.op = 9
 ·have e : defI i = i.d := by unfold defI; rw [if_pos (by omega)]
  rw [e] at hd ⊢
  have := regF_may (okI_call h h9).2.2.2.1
  omega
 ·by_cases hx : i.op = 6 ∨ i.op = 10 ∨ i.op = 12
  ·exact absurd (show defI i = -1 by unfold defI; rw [if_neg (by omega)]) hd
  ·have e : defI i = i.d := by unfold defI; rw [if_pos (by omega)]
   rw [e]
   exact okI_d h (by omega)
def SpB (sp : List Sp) : Prop := ∀ r, 0 ≤ (sp.getD r default).sets ∧ (sp.getD r default).sets ≤ 1000000
theorem getD_setS (l : List Sp) (i j : Nat) (x : Sp) : (l.set i x).getD j default = if j = i ∧ i < l.length then x else l.getD j default := by
 simp only [List.getD, List.getElem?_set]
 by_cases e : i = j
 ·subst e
  by_cases h : i < l.length
  ·rw [if_pos rfl, if_pos h, if_pos ⟨rfl, h⟩]; rfl
  ·rw [if_pos rfl, if_neg h, if_neg (fun z => h z.2)]; simp [Nat.le_of_not_lt h]
 ·rw [if_neg e, if_neg (fun z => e z.1.symm)]
theorem spotF_len (o : Nat) (sp : List Sp) (i : In) : (spotF o sp i).length = sp.length := by unfold spotF; split <;> simp
theorem spot_bd (o : Nat) : ∀ (l : List In) (sp : List Sp) (B : Int), (∀ r, 0 ≤ (sp.getD r default).sets ∧ (sp.getD r default).sets ≤ B) → ∀ r, 0 ≤ ((l.foldl (spotF o) sp).getD r default).sets ∧ ((l.foldl (spotF o) sp).getD r default).sets ≤ B + l.length
 | [], sp, B, h => fun r => by have := h r; simp only [List.foldl_nil, List.length_nil]; omega
 | i :: l, sp, B, h => fun r => by
  rw [List.foldl_cons]
  have := spot_bd o l (spotF o sp i) (B + 1) (fun r => by
   unfold spotF
   split
   ·have := h r; omega
   ·rw [getD_setS]
    split
    ·rw [spI_sets]; have := h (defI i).toNat; omega
    ·have := h r; omega) r
  rw [List.length_cons]
  omega
/-- a register's spot is what the instructions that set it make of it -/
theorem spot_at (o N : Nat) {r : Nat} (hr : r < N) : ∀ (l : List In) (sp : List Sp), sp.length = N → (∀ i ∈ l, defI i ≠ -1 → 0 ≤ defI i ∧ (defI i).toNat < N) →
  (l.foldl (spotF o) sp).getD r default = (l.filter fun i => defI i == (r : Int)).foldl (spI o) (sp.getD r default)
 | [], sp, _, _ => rfl
 | i :: l, sp, hl, h => by
  rw [List.foldl_cons, spot_at o N hr l (spotF o sp i) (by rw [spotF_len]; exact hl) (fun j hj => h j (List.mem_cons_of_mem _ hj)), List.filter_cons]
  by_cases e : defI i = (r : Int)
  ·rw [if_pos (by rw [e]; simp), List.foldl_cons]
   congr 1
   unfold spotF
   rw [if_neg (by omega), e, getD_setS, if_pos ⟨by omega, by omega⟩]
   rfl
  ·rw [if_neg (by rw [beq_iff_eq]; exact e)]
   congr 1
   unfold spotF
   by_cases hd : defI i = -1
   ·rw [if_pos hd]
   ·have := h i List.mem_cons_self hd
    rw [if_neg hd, getD_setS, if_neg (fun z => by omega)]
theorem AS.End.start (p : Pr) (T : Nat) : (AS.start p T).End p T := ⟨start_len p T, fun _ _ h => h, fun S _ h => h⟩
theorem AS.End.pass {p : Pr} {T : Nat} {x : AS} {l : List Con} (hx : x.End p T) (hl : ∀ c ∈ l, c ∈ conP p) (hok : ∀ c ∈ conP p, c.inn p.regs.toNat) : (x.pass l).1.End p T := by
 have hi : ∀ c ∈ l, c.inn x.regs.length := fun c hc => by rw [hx.len]; exact hok c (hl c hc)
 refine ⟨by rw [AS.pass_len]; exact hx.len, fun o t h => AS.pass_up hi o t (hx.up o t h), fun S hS h0 => AS.pass_in hi (fun c hc => hS c (hl c hc)) (hx.lo S hS h0)⟩
theorem AS.End.bound {p : Pr} {T : Nat} {x : AS} (hx : x.End p T) (ht : ∀ c ∈ conP p, c.thing T) : ∀ o t, x.sem o t → t < T :=
 hx.lo (fun _ t => t < T) (fun c hc => by
  have := ht c hc
  cases c with
  | sub s d => exact fun _ h => h
  | put u d => exact this) (fun o t h => start_bound p T o t h)
theorem ends_in (p : Pr) : ∀ c ∈ p.blks.flatMap (cB fun _ => []), c ∈ conP p := fun c hc => by
 obtain ⟨b, hb, h⟩ := List.mem_flatMap.1 hc
 refine List.mem_flatMap.2 ⟨b, hb, ?_⟩
 unfold cB at h
 unfold conB
 rcases List.mem_append.1 h with h | h
 ·obtain ⟨i, -, h⟩ := List.mem_flatMap.1 h; cases h
 ·exact List.mem_append.2 (.inr h)
end Go.Proofs.Ytmcddolkpcgddaa

set_option linter.all false
namespace Go.Proofs.Ytmcddolkpcgddaa
open Go.ChangeShapes Go.WideShapes Go.ChangeAt Go.RowKit
set_option maxHeartbeats 4000000
set_option maxRecDepth 100000
set_option linter.unusedVariables false

theorem VwM.vsl {w0 w : World} {k : VwK} {x : AS} {sp : List Sp} (h : VwM w0 w k x sp) : ∃ a c, k.vR = .slice a k.bs.length c := by
 obtain ⟨a, c, e⟩ := row_form h.own
 exact ⟨a, c, e⟩
theorem regV_c (w0 : World) (k : VwK) (x : AS) (sp : List Sp) (r : Int) (w : World) (h : VwM w0 w k x sp) (hl : k.bs.length ≤ 1000) :
  Calls Try.prog 100 #[.pointer (some ⟨k.bv, 0, none⟩), .int .i64 r] w fun e w' => e = .returned (.bool (decide (0 ≤ r) && decide (r < (k.bs.length : Int)))) ∧ w' = w := by
 obtain ⟨a, c, hv⟩ := h.vsl
 have lv := h.lv
 have c7 : w.cell? ⟨k.bv, 7, none⟩ = some (.slice a k.bs.length c) := by rw [cell_of_heap h.hv 7, ← hv]; rfl
 clear h hv
 generalize k.bs.length = n at *
 generalize k.bv = bv at *
 cases h1 : decide (0 ≤ r)
 ·have h1' := h1
  have hn : r < 0 := by have := of_decide_eq_false h1; omega
  have h2 : decide (r ≥ 0) = false := h1
  go_enter Try.func100, Try.ntmps100
  go_wp2_with fail
  go_ret
  exact ⟨rfl, rfl⟩
 ·cases h2 : decide (r < (n : Int))
  ·go_enter Try.func100, Try.ntmps100
   go_wp2_with fail
   go_ret
   exact ⟨rfl, rfl⟩
  ·go_enter Try.func100, Try.ntmps100
   go_wp2_with fail
   go_ret
   exact ⟨rfl, rfl⟩
end Go.Proofs.Ytmcddolkpcgddaa

set_option linter.all false
namespace Go.Proofs.Ytmcddolkpcgddaa
open Go.ChangeShapes Go.WideShapes Go.ChangeAt Go.RowKit
set_option maxHeartbeats 4000000
set_option maxRecDepth 100000
set_option linter.unusedVariables false

def exV (k : VwK) (sp : List Sp) (r : Int) : Ex :=
 if 0 ≤ r ∧ r < (k.bs.length : Int) then (if (sp.getD r.toNat default).sets = 1 ∧ (sp.getD r.toNat default).is = true then ⟨(sp.getD r.toNat default).thing, (sp.getD r.toNat default).off, true⟩ else ⟨0, 0, false⟩) else ⟨0, 0, false⟩
def exT (e : Ex) : Value := .tuple #[.int .i64 e.thing, .int .i64 e.off, .bool e.is]
theorem exactV_c (w0 : World) (k : VwK) (x : AS) (sp : List Sp) (r : Int) (w : World) (h : VwM w0 w k x sp) (hl : k.bs.length ≤ 1000) :
  Calls Try.prog 102 #[.pointer (some ⟨k.bv, 0, none⟩), .int .i64 r] w fun e w' => e = .returned (exT (exV k sp r)) ∧ Below w.heap.size w w' := by
 have ER := Lib.hid (regV_c w0 k x sp r w h hl)
 by_cases hr : 0 ≤ r ∧ r < (k.bs.length : Int)
 ·obtain ⟨q, rfl⟩ := Int.eq_ofNat_of_zero_le hr.1
  have hq : q < k.bs.length := by omega
  have hqN : q < k.N := Nat.lt_of_lt_of_le hq h.pl
  have hd : (decide (0 ≤ (q : Int)) && decide ((q : Int) < (k.bs.length : Int))) = true := by simp; omega
  rw [hd] at ER
  have HE : Hid (exV k sp (q : Int) = if (sp.getD q default).sets = 1 ∧ (sp.getD q default).is = true then ⟨(sp.getD q default).thing, (sp.getD q default).off, true⟩ else ⟨0, 0, false⟩) := if_pos hr
  obtain ⟨g, c, hvS, hc1, hc2, hgl, -, hcs⟩ := h.sat hqN
  have c9 : w.cell? ⟨k.bv, 9, none⟩ = some (.slice (some ⟨g, 0, none⟩) k.N c) := by rw [cell_of_heap h.hv 9, ← hvS]; rfl
  have x0 := hcs 0 (by decide)
  have x1 := hcs 1 (by decide)
  have x2 := hcs 2 (by decide)
  have x3 := hcs 3 (by decide)
  simp only [spCells, List.getElem?_cons_zero, List.getElem?_cons_succ, Nat.add_zero] at x0 x1 x2 x3
  have x0 : w.cell? ⟨g, q * 4, none⟩ = _ := x0
  have gr1 : decide (q < k.N) = true := decide_eq_true hqN
  have gr2 : decide ((q : Int) < (k.N : Int)) = true := decide_eq_true (by omega)
  have lv := h.lv
  unfold maxLen at hc2
  clear hd h hvS hcs hr
  rw [HE.out]
  generalize sp.getD q default = S at *
  unfold exT
  by_cases h1 : S.sets = 1
  ·have n1 : (S.sets != 1) = false := by rw [h1]; rfl
   cases h2 : S.is
   ·rw [if_neg (fun z => by cases z.2)]
    rw [h2] at x3
    clear h1 h2
    go_enter Try.func102, Try.ntmps102
    go_wp2_with fail
    refine ER.out.mono ?_
    rintro e w1 ⟨rfl, rfl⟩
    go_wp2_with fail
    refine bodyPost_ret (v := .tuple #[.int .i64 0, .int .i64 0, .bool false]) (by simp [results, Try.results102, go_sem]) rfl ?_
    exact ⟨rfl, Below.refl _ _⟩
   ·rw [if_pos ⟨h1, rfl⟩]
    rw [h2] at x3
    clear h1 h2
    go_enter Try.func102, Try.ntmps102
    go_wp2_with fail
    refine ER.out.mono ?_
    rintro e w1 ⟨rfl, rfl⟩
    go_wp2_with fail
    go_quiet (fail)
    go_wp2_with fail
    refine bodyPost_ret (v := .tuple #[.int .i64 S.thing, .int .i64 S.off, .bool true]) (by simp [results, Try.results102, go_sem]) rfl ?_
    exact ⟨rfl, drewN_b (Below.refl _ _) _⟩
  ·rw [if_neg (fun z => h1 z.1)]
   have n1 : (S.sets != 1) = true := by rw [bne_iff_ne]; exact h1
   clear h1
   go_enter Try.func102, Try.ntmps102
   go_wp2_with fail
   refine ER.out.mono ?_
   rintro e w1 ⟨rfl, rfl⟩
   go_wp2_with fail
   refine bodyPost_ret (v := .tuple #[.int .i64 0, .int .i64 0, .bool false]) (by simp [results, Try.results102, go_sem]) rfl ?_
   exact ⟨rfl, Below.refl _ _⟩
 ·have hd : (decide (0 ≤ r) && decide (r < (k.bs.length : Int))) = false := by
   rw [← Bool.decide_and]; exact decide_eq_false hr
  rw [hd] at ER
  have HE : Hid (exV k sp r = ⟨0, 0, false⟩) := if_neg hr
  rw [HE.out]
  unfold exT
  clear hd h hr
  go_enter Try.func102, Try.ntmps102
  go_wp2_with fail
  refine ER.out.mono ?_
  rintro e w1 ⟨rfl, rfl⟩
  go_wp2_with fail
  refine bodyPost_ret (v := .tuple #[.int .i64 0, .int .i64 0, .bool false]) (by simp [results, Try.results102, go_sem]) rfl ?_
  exact ⟨rfl, Below.refl _ _⟩
def memF (i : In) : Bool := i.op == 5 || i.op == 6
theorem memory_c (i : In) (va : Value) (w : World) : Calls Try.prog 99 #[aggI i va] w fun e w' => e = .returned (.bool (memF i)) ∧ Below w.heap.size w w' := by
 unfold aggI
 have hR : Hid (memF i = (i.op == 5 || i.op == 6)) := rfl
 cases h5 : (i.op == 5) <;> cases h6 : (i.op == 6)
 all_goals
  rw [h5, h6] at hR
  go_enter Try.func99, Try.ntmps99
  go_wp2_with fail
  go_ret
  exact ⟨ret_b hR.out.symm, below_alloc _ _⟩
end Go.Proofs.Ytmcddolkpcgddaa
