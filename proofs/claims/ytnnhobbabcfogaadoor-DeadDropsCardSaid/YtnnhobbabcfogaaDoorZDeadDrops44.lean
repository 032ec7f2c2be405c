/-
 What few modules are like: plain.; A procedure without what is idle: its text is shorter; how it can be printed. Plain.; Procedures of which statements speak: their sizes.; Contracts of the parts of ir.Check: slots, offsets, registers, blocks, ends, bare instructions.
-/
import Derived.Test.YtnnhobbabcfogaaDoorZDeadDrops18
import Derived.Test.YtnnhobbabcfogaaDoorZDeadDrops36
import Derived.Test.YtnnhobbabcfogaaDoorZDeadDrops33
import Derived.Test.YtnnhobbabcfogaaDoorZDeadDrops43
import Derived.Test.YtnnhobbabcfogaaDoorZDeadDrops32
import Derived.Test.YtnnhobbabcfogaaDoorZDeadDrops00

set_option linter.all false
namespace Go.Proofs.YtnnhobbabcfogaaDoor
set_option linter.unusedVariables false

theorem fewM_sz {m : Md} (h : fewM m = true) : SzM m := by
 unfold fewM at h
 simp only [Bool.and_eq_true, List.all_eq_true] at h
 refine ⟨fun p hp => ?_⟩
 have h2 := h.2.2.2 p hp
 unfold prF at h2
 simp only [Bool.and_eq_true, decide_eq_true_eq, List.all_eq_true] at h2
 refine ⟨by omega, fun b hb => ?_⟩
 have h3 := h2.2.2 b hb
 unfold blkF at h3
 simp only [Bool.and_eq_true, decide_eq_true_eq] at h3
 omega
theorem fewM_pr {m : Md} (h : fewM m = true) {p : Pr} (hp : p ∈ m.procs) : p.blks.length ≤ 40 ∧ p.objs.length ≤ 20 ∧ ∀ b ∈ p.blks, b.ins.length ≤ 60 ∧ ∀ i ∈ b.ins, insF i = true := by
 unfold fewM at h
 simp only [Bool.and_eq_true, List.all_eq_true] at h
 have h2 := h.2.2.2 p hp
 unfold prF at h2
 simp only [Bool.and_eq_true, decide_eq_true_eq, List.all_eq_true] at h2
 refine ⟨h2.1, h2.2.1, fun b hb => ?_⟩
 have h3 := h2.2.2 b hb
 unfold blkF at h3
 simp only [Bool.and_eq_true, decide_eq_true_eq, List.all_eq_true] at h3
 exact h3
theorem insF_args {i : In} (h : insF i = true) : i.args.length ≤ 12 := by
 unfold insF at h
 simp only [Bool.and_eq_true, decide_eq_true_eq] at h
 exact h.2.2
end Go.Proofs.YtnnhobbabcfogaaDoor

set_option linter.all false
namespace Go.Proofs.YtnnhobbabcfogaaDoor
set_option linter.unusedVariables false

theorem few_szD {m : Md} (h : fewM m = true) {p : Pr} (hp : p ∈ m.procs) : SzT p := by
 obtain ⟨h1, -, h3⟩ := fewM_pr h hp
 exact ⟨by omega, fun b hb => by have := (h3 b hb).1; omega, fun b hb i hi => by have := insF_args ((h3 b hb).2 i hi); omega⟩
theorem few_sizeL {m : Md} (h : fewM m = true) {p : Pr} (hp : p ∈ m.procs) : sizeL p.blks ≤ 2400 := by
 obtain ⟨h1, -, h3⟩ := fewM_pr h hp
 have h60 : ∀ b ∈ p.blks, b.ins.length ≤ 60 := fun b hb => (h3 b hb).1
 have : ∀ l : List Bk, (∀ b ∈ l, b.ins.length ≤ 60) → sizeL l ≤ 60 * l.length := fun l => by
  induction l with
  | nil => intro _; simp [sizeL]
  | cons b l ih =>
   intro hb
   have e1 := hb b (List.mem_cons_self ..)
   have e2 := ih fun x hx => hb x (List.mem_cons_of_mem _ hx)
   unfold sizeL at *
   simp only [List.map_cons, List.sum_cons, List.length_cons]
   omega
 have := this _ h60
 omega
theorem withoutL_mem {l : List In} {P : List Int} {i : In} (h : i ∈ withoutL l P) : i ∈ l := by
 unfold withoutL at h
 obtain ⟨t, ht, rfl⟩ := List.mem_map.1 h
 have := List.mem_range.1 (List.mem_filter.1 ht).1
 simp [List.getD, this]
theorem dropP_mem {p : Pr} {b : Bk} (h : b ∈ (dropP p).blks) : ∃ c P, c ∈ p.blks ∧ b = { c with ins := withoutL c.ins P } := by
 obtain ⟨n, hn, rfl⟩ := List.mem_map.1 (show b ∈ (List.range p.blks.length).map fun n => { p.blks.getD n default with ins := withoutL (p.blks.getD n default).ins (placesL p n) } from h)
 have hn := List.mem_range.1 hn
 exact ⟨p.blks.getD n default, placesL p n, by simp [List.getD, hn], rfl⟩
theorem dropP_ok {p : Pr} (h : PrOk p) : PrOk (dropP p) := by
 refine ⟨h.params, h.regs, h.objs, fun b hb => ?_⟩
 obtain ⟨c, P, hc, rfl⟩ := dropP_mem hb
 have := h.blks c hc
 exact ⟨fun i hi => this.ins i (withoutL_mem hi), this.fin, this.a, this.to, this.els⟩
theorem dropP_sz {p : Pr} (h : SzT p) : SzT (dropP p) := by
 refine ⟨by rw [dropP_len]; exact h.blks, fun b hb => ?_, fun b hb i hi => ?_⟩
 ·obtain ⟨c, P, hc, rfl⟩ := dropP_mem hb
  exact Nat.le_trans (withoutL_len _ _) (h.ins c hc)
 ·obtain ⟨c, P, hc, rfl⟩ := dropP_mem hb
  exact h.args c hc i (withoutL_mem hi)
theorem sumf_le {α : Type} (f : α → Nat) (q : α → Bool) (l : List α) : ((l.filter q).map f).sum ≤ (l.map f).sum := by
 induction l with
 | nil => simp
 | cons a l ih =>
  rw [List.filter_cons]
  split
  ·simp only [List.map_cons, List.sum_cons]; omega
  ·simp only [List.map_cons, List.sum_cons]; omega
theorem sumf_lt {α : Type} (f : α → Nat) (q : α → Bool) (l : List α) {a : α} (ha : a ∈ l) (hq : q a = false) (hf : 0 < f a) : ((l.filter q).map f).sum < (l.map f).sum := by
 induction l with
 | nil => cases ha
 | cons b l ih =>
  have hle := sumf_le f q l
  rw [List.filter_cons]
  rcases List.mem_cons.1 ha with rfl | ha
  ·rw [hq]
   simp only [Bool.false_eq_true, if_false, List.map_cons, List.sum_cons]
   omega
  ·have := ih ha
   split
   ·simp only [List.map_cons, List.sum_cons]; omega
   ·simp only [List.map_cons, List.sum_cons]; omega
theorem lineF_pos (i : In) : 0 < (lineF i).length := by unfold lineF; simp only [List.length_append, List.length_cons, List.length_nil]; omega
theorem linesF_sum (b : Bk) : (linesF b).length = ((List.range b.ins.length).map fun t => (lineF (b.ins.getD t default)).length).sum := by
 unfold linesF
 rw [List.length_flatMap]
 congr 1
 apply List.ext_getElem
 ·simp
 ·intro i h1 h2
  have hi : i < b.ins.length := by simpa using h1
  simp [List.getD, hi]
theorem linesF_without (b : Bk) (P : List Int) : (linesF { b with ins := withoutL b.ins P }).length = (((List.range b.ins.length).filter fun t : Nat => !hasL P (t : Int)).map fun t => (lineF (b.ins.getD t default)).length).sum := by
 unfold linesF withoutL
 rw [List.length_flatMap, List.map_map]
 rfl
theorem textF_sum (p : Pr) : (textF p).length = ((List.range p.blks.length).map fun n => (headF n).length + (linesF (p.blks.getD n default)).length + (endF' (p.blks.getD n default)).length).sum := by
 unfold textF textN
 rw [List.length_flatMap]
 congr 1
 refine List.map_congr_left fun n _ => ?_
 simp only [List.length_append]
theorem textF_less {p : Pr} (h : goneP p p.blks.length ≠ 0) : (textF (dropP p)).length < (textF p).length := by
 rw [textF_sum, textF_sum, dropP_len]
 have hat : ∀ n ∈ List.range p.blks.length, (headF n).length + (linesF ((dropP p).blks.getD n default)).length + (endF' ((dropP p).blks.getD n default)).length ≤ (headF n).length + (linesF (p.blks.getD n default)).length + (endF' (p.blks.getD n default)).length := fun n hn => by
  rw [dropP_at p (List.mem_range.1 hn), linesF_without, linesF_sum]
  have := sumf_le (fun t => (lineF ((p.blks.getD n default).ins.getD t default)).length) (fun t : Nat => !hasL (placesL p n) (t : Int)) (List.range (p.blks.getD n default).ins.length)
  have e : endF' { p.blks.getD n default with ins := withoutL (p.blks.getD n default).ins (placesL p n) } = endF' (p.blks.getD n default) := rfl
  rw [e]
  omega
 by_cases hex : ∃ n, n < p.blks.length ∧ placesL p n ≠ []
 ·obtain ⟨n, hn, hne⟩ := hex
  refine sum_lt _ _ _ hat (List.mem_range.2 hn) ?_
  rw [dropP_at p hn, linesF_without, linesF_sum]
  obtain ⟨x, hx⟩ := List.exists_mem_of_ne_nil _ hne
  have hx2 : 0 ≤ x ∧ x < ((p.blks.getD n default).ins.length : Int) := by
   unfold placesL idleL storeL at hx
   rcases List.mem_append.1 hx with h | h
   ·have := posU_mem h; omega
   ·have := posU_mem h; omega
  obtain ⟨t, rfl⟩ := Int.eq_ofNat_of_zero_le hx2.1
  have := sumf_lt (fun t => (lineF ((p.blks.getD n default).ins.getD t default)).length) (fun t : Nat => !hasL (placesL p n) (t : Int)) (List.range (p.blks.getD n default).ins.length) (a := t) (List.mem_range.2 (by omega)) (by rw [(hasL_iff _ _).2 hx]; rfl) (lineF_pos _)
  have e : endF' { p.blks.getD n default with ins := withoutL (p.blks.getD n default).ins (placesL p n) } = endF' (p.blks.getD n default) := rfl
  rw [e]
  omega
 ·exfalso
  apply h
  have key : ∀ k, k ≤ p.blks.length → goneP p k = 0 := fun k hk => by
   induction k with
   | zero => rfl
   | succ k ih =>
    rw [goneP_succ, ih (by omega)]
    by_cases e : placesL p k = []
    ·rw [e]; rfl
    ·exact absurd ⟨k, by omega, e⟩ hex
  exact key _ (Nat.le_refl _)
end Go.Proofs.YtnnhobbabcfogaaDoor

set_option linter.all false
namespace Go.Proofs.YtnnhobbabcfogaaDoor
set_option linter.unusedVariables false

theorem dead_ok {m : Md} {p : Pr} (hf : fewM m = true) (hm : p ∈ m.procs) (hk : okP m p = true) (hr : p.regs ≤ 40) : DeadOk p := by
 have hpr := fewM_pr hf hm
 unfold okP okHead at hk
 simp only [Bool.and_eq_true, decide_eq_true_eq, List.all_eq_true] at hk
 obtain ⟨⟨h1, h2, h3, h4, h5, h6, h7, -, -⟩, hb⟩ := hk
 have hgb : ∀ n, n < p.blks.length → p.blks.getD n default ∈ p.blks := fun n hn => by simp [List.getD, hn]
 have hgi : ∀ (b : Bk) k, k < b.ins.length → b.ins.getD k default ∈ b.ins := fun b k hk => by simp [List.getD, hk]
 refine ⟨by omega, ⟨by unfold I64; omega, by omega⟩, fun n hn => ?_, fun n hn k hk hp => ?_⟩
 ·have h := hpr.2.2 _ (hgb n hn)
  refine ⟨by omega, fun k hk => ?_⟩
  have := insF_args (h.2 _ (hgi _ k hk))
  omega
 ·have h := hb _ (hgb n hn)
  unfold okB at h
  simp only [Bool.and_eq_true, List.all_eq_true] at h
  have hi := h.1 _ (hgi _ k hk)
  generalize (p.blks.getD n default).ins.getD k default = i at *
  unfold pureI at hp
  have hp := of_decide_eq_true hp
  unfold okI at hi
  have h9 : ¬ i.op = 9 := by omega
  have e1 : (i.op != 6 && (i.op != 10 && i.op != 12)) = true := by
   simp only [bne_iff_ne, ne_eq, Bool.and_eq_true]; omega
  rw [if_neg h9, e1] at hi
  simp only [Bool.and_eq_true, regF, if_true, decide_eq_true_eq] at hi
  exact hi.2.1.1
end Go.Proofs.YtnnhobbabcfogaaDoor

set_option linter.all false
namespace Go.Proofs.YtnnhobbabcfogaaDoor
open Go.ChangeShapes Go.WideShapes Go.ChangeAt Go.RowKit
set_option maxHeartbeats 2000000
set_option maxRecDepth 20000

/-- a module and a procedure by value, as a procedure is looked at -/
def LkV (w : World) (v : Value) (m : Md) (p : Pr) : Prop :=
 ∃ vg vd vp nm vo vb, v = .agg #[vg, vd, vp, .int .i64 m.main, .string nm, .bool p.void, .int .i64 p.params, .int .i64 p.regs, vo, vb] ∧ RdSls w vg m.globs ∧ RdYs w vd m.data ∧ RdPrs w vp m.procs ∧ RdSls w vo p.objs ∧ RdBks w vb p.blks
theorem LkV.ext {w w' : World} {v : Value} {m : Md} {p : Pr} (h : LkV w v m p) (he : Ext w w') : LkV w' v m p := by
 obtain ⟨vg, vd, vp, nm, vo, vb, e, h1, h2, h3, h4, h5⟩ := h
 exact ⟨vg, vd, vp, nm, vo, vb, e, h1.ext he, h2.ext he, h3.ext he, h4.ext he, h5.ext he⟩
theorem RdSls.at {w : World} {a : Option Addr} {n c : Nat} {l : List Sl} (h : RdSls w (.slice a n c) l) : n = l.length ∧ ∀ k, k < l.length → ∃ b o nm, a = some ⟨b, o, none⟩ ∧ w.cell? ⟨b, o + k * 4, none⟩ = some (.string nm) ∧ w.cell? ⟨b, o + k * 4 + 1, none⟩ = some (.int .i64 (l.getD k default).size) ∧
  w.cell? ⟨b, o + k * 4 + 2, none⟩ = some (.int .i64 (l.getD k default).align) ∧ w.cell? ⟨b, o + k * 4 + 3, none⟩ = some (.int .i64 (l.getD k default).cell) := by
 obtain ⟨a', c', e, h1, h2, hc⟩ := h
 simp only [Value.slice.injEq] at e
 obtain ⟨rfl, rfl, rfl⟩ := e
 refine ⟨rfl, fun k hk => ?_⟩
 obtain ⟨b, o, rfl, ⟨nm, h0⟩, h1, h2, h3⟩ := hc k hk
 exact ⟨b, o, nm, rfl, by simpa using h0, h1, h2, h3⟩
theorem off_c (n : Int) (w : World) : Calls Tryd.prog 81 #[.int .i64 n] w fun e w' => e = .returned (.bool (offF n)) ∧ w = w' := by
 by_cases h1 : -32768 ≤ n
 ·have e1 : decide (-32768 ≤ n) = true := decide_eq_true h1
  have HF : Hid (offF n = decide (n ≤ 32768)) := by show _ = _; unfold offF; rw [e1]; rfl
  go_enter Tryd.func81, Tryd.ntmps81
  go_wp2
  go_ret
  exact ⟨ret_b HF.out.symm, rfl⟩
 ·have e1 : decide (-32768 ≤ n) = false := decide_eq_false h1
  have HF : Hid (offF n = false) := by show _ = _; unfold offF; rw [e1]; rfl
  go_enter Tryd.func81, Tryd.ntmps81
  go_wp2
  go_ret
  exact ⟨ret_b HF.out.symm, rfl⟩
theorem slots_c (l : List Sl) (v : Value) (w : World) (h : RdSls w v l) :
  Calls Tryd.prog 37 #[v] w fun e w' => e = .returned (.bool (l.all slotF)) ∧ Below w.heap.size w w' := by
 have h' := h
 obtain ⟨a, c, rfl, h1, h2, -⟩ := h'
 have HC := Lib.hid (RdSls.at h).2
 clear h
 unfold maxLen at h2
 go_enter Tryd.func37, Tryd.ntmps37
 go_wp2_with fail
 go_loopw [7] (fun i wr => ∃ k : Nat, k ≤ l.length ∧ i = .int .i64 (k : Int) ∧ Hid (Below w.heap.size w wr) ∧ Hid ((l.take k).all slotF = true)) (fun i _ => l.length - (intOf i).toNat)
 case atStart => exact ⟨0, Nat.zero_le _, rfl, Below.refl _ _, rfl⟩
 case round =>
  obtain ⟨k, hk, rfl, hB, HA⟩ := hrel
  by_cases hlt : k < l.length
  ·obtain ⟨b, o, nm, rfl, c0, c1, c2, c3⟩ := HC.out k hlt
   replace c0 := Ext.below hB.out _ _ c0
   replace c1 := Ext.below hB.out _ _ c1
   replace c2 := Ext.below hB.out _ _ c2
   replace c3 := Ext.below hB.out _ _ c3
   have hY := allG_take slotF l k hlt HA.out
   have hZ := allG_no slotF l k hlt
   generalize l.getD k default = s at *
   have hz := hB.out.size
   cases hs : slotF s
   ·have HF : Hid (l.all slotF = false) := hZ hs
    have hs' : ¬ (1 ≤ s.size ∧ s.size ≤ 32768 ∧ (s.align = 1 ∨ s.align = 4)) := by
     unfold slotF at hs
     intro h
     rw [decide_eq_true h.1, decide_eq_true h.2.1] at hs
     rcases h.2.2 with h | h <;> rw [h] at hs <;> simp at hs
    clear hY hZ hs
    have END : Hid (∀ o, (Ending.returned (.bool false) = .returned (.bool (l.all slotF))) ∧ Below w.heap.size w (wr.alloc o)) := fun o => ⟨ret_b HF.out.symm, hB.out.alloc hz o⟩
    by_cases h3 : 1 ≤ s.size
    ·have e1 : decide (s.size < 1) = false := decide_eq_false (by omega)
     by_cases h4 : s.size ≤ 32768
     ·have e2 : decide (32768 < s.size) = false := decide_eq_false (by omega)
      have e3 : (s.align != 1) = true := by rw [bne_iff_ne]; omega
      have e4 : (s.align != 4) = true := by rw [bne_iff_ne]; omega
      clear hs'
      go_wp2_with fail
      go_ret
      exact END.out _
     ·have e2 : decide (32768 < s.size) = true := decide_eq_true (by omega)
      clear hs'
      go_wp2_with fail
      go_ret
      exact END.out _
    ·have e1 : decide (s.size < 1) = true := decide_eq_true (by omega)
     clear hs'
     go_wp2_with fail
     go_ret
     exact END.out _
   ·have HA2 := Lib.hid (hY hs)
    have hs' : 1 ≤ s.size ∧ s.size ≤ 32768 ∧ (s.align = 1 ∨ s.align = 4) := by
     unfold slotF at hs
     simpa using hs
    clear hY hZ hs
    have e1 : decide (s.size < 1) = false := decide_eq_false (by omega)
    have e2 : decide (32768 < s.size) = false := decide_eq_false (by omega)
    obtain ⟨-, -, h5⟩ := hs'
    rcases h5 with h5 | h5
    ·have e3 : (s.align != 1) = false := by rw [h5]; rfl
     clear h5
     go_wp2_with fail
     go_roundw
     case rel => exact ⟨k + 1, by omega, by go_num, hB.out.alloc hz _, HA2⟩
     case measure => simp [intOf]; omega
    ·have e3 : (s.align != 1) = true := by rw [h5]; rfl
     have e4 : (s.align != 4) = false := by rw [h5]; rfl
     clear h5
     go_wp2_with fail
     go_roundw
     case rel => exact ⟨k + 1, by omega, by go_num, hB.out.alloc hz _, HA2⟩
     case measure => simp [intOf]; omega
  ·have HF : Hid (l.all slotF = true) := by have := HA.out; rwa [List.take_of_length_le (by omega)] at this
   go_wp2_with fail
   go_ret
   exact ⟨ret_b HF.out.symm, hB.out⟩
theorem reg_c (m : Md) (p : Pr) (v : Value) (r : Int) (should : Bool) (w : World) (h : LkV w v m p) :
  Calls Tryd.prog 80 #[v, .int .i64 r, .bool should] w fun e w' => e = .returned (.bool (regF p r should)) ∧ Below w.heap.size w w' := by
 obtain ⟨vg, vd, vp, nm, vo, vb, rfl, ⟨ag, cg, rfl, -⟩, ⟨ad, cd, rfl, -⟩, ⟨ap, cp, rfl, -⟩, ⟨ao, co, rfl, -⟩, ⟨ab, cb, rfl, -⟩⟩ := h
 have HF : Hid (regF p r should = if should = true then decide (0 ≤ r) && decide (r < p.regs) else r == -1) := rfl
 cases should
 ·have HF2 : Hid (regF p r false = (r == -1)) := HF.out
  go_enter Tryd.func80, Tryd.ntmps80
  go_wp2
  go_ret
  exact ⟨ret_b HF2.out.symm, below_alloc _ _⟩
 ·by_cases h0 : 0 ≤ r
  ·have e0 : decide (0 ≤ r) = true := decide_eq_true h0
   have HF2 : Hid (regF p r true = decide (r < p.regs)) := by show _ = _; rw [HF.out, if_pos rfl, e0]; rfl
   go_enter Tryd.func80, Tryd.ntmps80
   go_wp2
   go_ret
   exact ⟨ret_b HF2.out.symm, below_alloc _ _⟩
  ·have e0 : decide (0 ≤ r) = false := decide_eq_false h0
   have HF2 : Hid (regF p r true = false) := by show _ = _; rw [HF.out, if_pos rfl, e0]; rfl
   go_enter Tryd.func80, Tryd.ntmps80
   go_wp2
   go_ret
   exact ⟨ret_b HF2.out.symm, below_alloc _ _⟩
theorem block_c (m : Md) (p : Pr) (v : Value) (n : Int) (w : World) (h : LkV w v m p) :
  Calls Tryd.prog 82 #[v, .int .i64 n] w fun e w' => e = .returned (.bool (blockF p n)) ∧ Below w.heap.size w w' := by
 obtain ⟨vg, vd, vp, nm, vo, vb, rfl, ⟨ag, cg, rfl, -⟩, ⟨ad, cd, rfl, -⟩, ⟨ap, cp, rfl, -⟩, ⟨ao, co, rfl, -⟩, ⟨ab, cb, rfl, -⟩⟩ := h
 by_cases h0 : 0 ≤ n
 ·have e0 : decide (0 ≤ n) = true := decide_eq_true h0
  have HF2 : Hid (blockF p n = decide (n < p.blks.length)) := by show _ = _; unfold blockF; rw [e0]; rfl
  go_enter Tryd.func82, Tryd.ntmps82
  go_wp2
  go_ret
  exact ⟨ret_b HF2.out.symm, below_alloc _ _⟩
 ·have e0 : decide (0 ≤ n) = false := decide_eq_false h0
  have HF2 : Hid (blockF p n = false) := by show _ = _; unfold blockF; rw [e0]; rfl
  go_enter Tryd.func82, Tryd.ntmps82
  go_wp2
  go_ret
  exact ⟨ret_b HF2.out.symm, below_alloc _ _⟩
end Go.Proofs.YtnnhobbabcfogaaDoor
