/-
 Several moves of a drawn region at once.; The contract of the runner's store.; Contracts of the parts of ir.Check: slots, offsets, registers, blocks, ends, bare instructions.; The contracts of a call's registers, of bit, up and Place.
-/
import Derived.Test.YtkhfddodmjnecaaZFoldConsts06
import Derived.Test.YtkhfddodmjnecaaZFoldConsts00
import Derived.BigQuiet
import Derived.Test.YtkhfddodmjnecaaZFoldConsts05
import Derived.Test.YtkhfddodmjnecaaZFoldConsts04
import Derived.IntWalk

set_option linter.all false
namespace Go.Proofs.Ytkhfddodmjnecaa
open Go Go.RowKit
set_option linter.unusedVariables false

def opD : Oper := { dst := none, op := .move (.tmp 0), type := 0, pos := "", after := #[], guard := none }
def movesOk (look : Oper → Bool) (ops : Array Oper) : List Nat → Array Bool → Bool
 | [], _ => true
 | i :: is, listed => (closedB ops listed && (Region.noSelect ops && (Region.ready .any ops listed).contains i && Region.free .any ops listed i && ((ops[i]?).map look).getD false)) && movesOk look ops is (listed.setIfInBounds i true)
def listAll (is : List Nat) (listed : Array Bool) : Array Bool := is.foldl (fun l i => l.setIfInBounds i true) listed
def lookJ (o : Oper) : Bool := lookOp o || lookB o
section
variable {P : Program} {ops : Array Oper} {Q : Act → World → Prop} {S : Nat → Prop}
theorem quiet_one {C : World → Prop} {K : Act → Prop} {o : Oper} {l : List Oper} {a : Act} (h : wpQuiet P ops C K (o :: l) a) : wpQuiet P ops C (fun a' => wpQuiet P ops C K l a') [o] a := h
theorem quiet_mono {C : World → Prop} {K K' : Act → Prop} (hk : ∀ a, K a → K' a) {o : Oper} {a : Act} (h : wpQuiet P ops C K [o] a) : wpQuiet P ops C K' [o] a := by
 unfold wpQuiet at h ⊢
 split
 ·rename_i hw
  rw [if_pos hw] at h
  obtain ⟨v, h1, h2⟩ := h
  exact ⟨v, h1, hk _ h2⟩
 ·rename_i hw
  rw [if_neg hw] at h
  exact hk _ h
theorem J_mobs : ∀ (is : List Nat) (n : Nat) (listed : Array Bool) (a : Act) (w : World), (decide (is.length ≤ n) && movesOk lookJ ops is listed) = true →
  wpQuiet P ops (fun w' => ∃ x, w' = kx S w x) (fun a' => wpJs S P ops Q (n - is.length) (listAll is listed) a' w) (is.map fun i => (ops[i]?).getD opD) a → wpJs S P ops Q n listed a w
 | [], n, listed, a, w, _, h => h
 | i :: is, n, listed, a, w, hc, h => by
  simp only [Bool.and_eq_true, decide_eq_true_eq, movesOk] at hc
  obtain ⟨hl, ⟨h1, ⟨⟨h2, h3⟩, h4⟩, h5⟩, h6⟩ := hc
  cases n with
  | zero => exact absurd hl (by simp)
  | succ n =>
   cases ho : ops[i]? with
   | none => rw [ho] at h5; cases h5
   | some o =>
    rw [ho] at h5
    have h5 : lookJ o = true := h5
    refine J_mob i o ho (by simp only [Bool.and_eq_true]; exact ⟨h1, ⟨⟨h2, h3⟩, h4⟩, h5⟩) ?_
    rw [List.map_cons, ho] at h
    refine quiet_mono (fun a' h' => ?_) (quiet_one h)
    refine J_mobs is n _ a' w (by simp only [Bool.and_eq_true, decide_eq_true_eq]; exact ⟨by simpa using hl, h6⟩) ?_
    have e : n + 1 - (i :: is).length = n - is.length := by simp
    rw [e] at h'
    exact h'
theorem E_mob2s : ∀ (is : List Nat) (n : Nat) (listed : Array Bool) (a : Act) (w : World), (decide (is.length ≤ n) && movesOk lookJ ops is listed) = true →
  wpQuiet P ops (fun w' => ∃ x, w' = kp S w x) (fun a' => wpE S P ops Q (n - is.length) (listAll is listed) a' w) (is.map fun i => (ops[i]?).getD opD) a → wpE S P ops Q n listed a w
 | [], n, listed, a, w, _, h => h
 | i :: is, n, listed, a, w, hc, h => by
  simp only [Bool.and_eq_true, decide_eq_true_eq, movesOk] at hc
  obtain ⟨hl, ⟨h1, ⟨⟨h2, h3⟩, h4⟩, h5⟩, h6⟩ := hc
  cases n with
  | zero => exact absurd hl (by simp)
  | succ n =>
   cases ho : ops[i]? with
   | none => rw [ho] at h5; cases h5
   | some o =>
    rw [ho] at h5
    have h5 : lookJ o = true := h5
    refine E_mob2 i o ho (by simp only [Bool.and_eq_true]; exact ⟨h1, ⟨⟨h2, h3⟩, h4⟩, h5⟩) ?_
    rw [List.map_cons, ho] at h
    refine quiet_mono (fun a' h' => ?_) (quiet_one h)
    refine E_mob2s is n _ a' w (by simp only [Bool.and_eq_true, decide_eq_true_eq]; exact ⟨by simpa using hl, h6⟩) ?_
    have e : n + 1 - (i :: is).length = n - is.length := by simp
    rw [e] at h'
    exact h'
end
/-! cells of small blocks -/
theorem cl4 {w : World} {b : Nat} {t : TypeId} {c0 c1 c2 c3 : Value} (h : w.heap[b]? = some (.cells #[c0, c1, c2, c3] t (0, 0))) :
  w.cell? ⟨b, 0, none⟩ = some c0 ∧ w.cell? ⟨b, 1, none⟩ = some c1 ∧ w.cell? ⟨b, 2, none⟩ = some c2 ∧ w.cell? ⟨b, 3, none⟩ = some c3 ∧ b < w.heap.size :=
 ⟨cell_of_heap h 0, cell_of_heap h 1, cell_of_heap h 2, cell_of_heap h 3, (Array.getElem?_eq_some_iff.1 h).1⟩
theorem cl5 {w : World} {b : Nat} {t : TypeId} {c0 c1 c2 c3 c4 : Value} (h : w.heap[b]? = some (.cells #[c0, c1, c2, c3, c4] t (0, 0))) :
  w.cell? ⟨b, 0, none⟩ = some c0 ∧ w.cell? ⟨b, 1, none⟩ = some c1 ∧ w.cell? ⟨b, 2, none⟩ = some c2 ∧ w.cell? ⟨b, 3, none⟩ = some c3 ∧ w.cell? ⟨b, 4, none⟩ = some c4 ∧ b < w.heap.size :=
 ⟨cell_of_heap h 0, cell_of_heap h 1, cell_of_heap h 2, cell_of_heap h 3, cell_of_heap h 4, (Array.getElem?_eq_some_iff.1 h).1⟩
theorem cl6 {w : World} {b : Nat} {t : TypeId} {c0 c1 c2 c3 c4 c5 : Value} (h : w.heap[b]? = some (.cells #[c0, c1, c2, c3, c4, c5] t (0, 0))) :
  w.cell? ⟨b, 0, none⟩ = some c0 ∧ w.cell? ⟨b, 1, none⟩ = some c1 ∧ w.cell? ⟨b, 2, none⟩ = some c2 ∧ w.cell? ⟨b, 3, none⟩ = some c3 ∧ w.cell? ⟨b, 4, none⟩ = some c4 ∧ w.cell? ⟨b, 5, none⟩ = some c5 ∧ b < w.heap.size :=
 ⟨cell_of_heap h 0, cell_of_heap h 1, cell_of_heap h 2, cell_of_heap h 3, cell_of_heap h 4, cell_of_heap h 5, (Array.getElem?_eq_some_iff.1 h).1⟩
theorem cl11 {w : World} {b : Nat} {t : TypeId} {c0 c1 c2 c3 c4 c5 c6 c7 c8 c9 c10 : Value} (h : w.heap[b]? = some (.cells #[c0, c1, c2, c3, c4, c5, c6, c7, c8, c9, c10] t (0, 0))) :
  w.cell? ⟨b, 0, none⟩ = some c0 ∧ w.cell? ⟨b, 1, none⟩ = some c1 ∧ w.cell? ⟨b, 2, none⟩ = some c2 ∧ w.cell? ⟨b, 3, none⟩ = some c3 ∧ w.cell? ⟨b, 4, none⟩ = some c4 ∧ w.cell? ⟨b, 5, none⟩ = some c5 ∧ w.cell? ⟨b, 6, none⟩ = some c6 ∧ w.cell? ⟨b, 7, none⟩ = some c7 ∧ w.cell? ⟨b, 8, none⟩ = some c8 ∧ w.cell? ⟨b, 9, none⟩ = some c9 ∧ w.cell? ⟨b, 10, none⟩ = some c10 ∧ b < w.heap.size :=
 ⟨cell_of_heap h 0, cell_of_heap h 1, cell_of_heap h 2, cell_of_heap h 3, cell_of_heap h 4, cell_of_heap h 5, cell_of_heap h 6, cell_of_heap h 7, cell_of_heap h 8, cell_of_heap h 9, cell_of_heap h 10, (Array.getElem?_eq_some_iff.1 h).1⟩
end Go.Proofs.Ytkhfddodmjnecaa

set_option linter.all false
namespace Go.Proofs.Ytkhfddodmjnecaa
open Go.ChangeShapes Go.WideShapes Go.ChangeAt Go.RowKit
set_option maxHeartbeats 2000000
set_option linter.unusedVariables false
set_option maxRecDepth 20000

section
variable {k : RK} {w : World} {vo : Value} {s : RS}
end
end Go.Proofs.Ytkhfddodmjnecaa

set_option linter.all false
namespace Go.Proofs.Ytkhfddodmjnecaa
open Go.ChangeShapes Go.WideShapes Go.ChangeAt Go.RowKit
set_option maxHeartbeats 2000000
set_option maxRecDepth 20000

/-- a module and a procedure by value, as a procedure is looked at -/
def LkV (w : World) (v : Value) (m : Md) (p : Pr) : Prop :=
 ∃ vg vd vp nm vo vb, v = .agg #[vg, vd, vp, .int .i64 m.main, .string nm, .bool p.void, .int .i64 p.params, .int .i64 p.regs, vo, vb] ∧ RdSls w vg m.globs ∧ RdYs w vd m.data ∧ RdPrs w vp m.procs ∧ RdSls w vo p.objs ∧ RdBks w vb p.blks
theorem LkV.ext {w w' : World} {v : Value} {m : Md} {p : Pr} (h : LkV w v m p) (he : Ext w w') : LkV w' v m p := by
 obtain ⟨vg, vd, vp, nm, vo, vb, e, h1, h2, h3, h4, h5⟩ := h
 exact ⟨vg, vd, vp, nm, vo, vb, e, h1.ext he, h2.ext he, h3.ext he, h4.ext he, h5.ext he⟩
theorem RdSls.at {w : World} {a : Option Addr} {n c : Nat} {l : List Sl} (h : RdSls w (.slice a n c) l) : n = l.length ∧ ∀ k, k < l.length → ∃ b o nm, a = some ⟨b, o, none⟩ ∧ w.cell? ⟨b, o + k * 4, none⟩ = some (.string nm) ∧ w.cell? ⟨b, o + k * 4 + 1, none⟩ = some (.int .i64 (l.getD k default).size) ∧
  w.cell? ⟨b, o + k * 4 + 2, none⟩ = some (.int .i64 (l.getD k default).align) ∧ w.cell? ⟨b, o + k * 4 + 3, none⟩ = some (.int .i64 (l.getD k default).cell) := by
 obtain ⟨a', c', e, h1, h2, hc⟩ := h
 simp only [Value.slice.injEq] at e
 obtain ⟨rfl, rfl, rfl⟩ := e
 refine ⟨rfl, fun k hk => ?_⟩
 obtain ⟨b, o, rfl, ⟨nm, h0⟩, h1, h2, h3⟩ := hc k hk
 exact ⟨b, o, nm, rfl, by simpa using h0, h1, h2, h3⟩
theorem off_c (n : Int) (w : World) : Calls Try.prog 180 #[.int .i64 n] w fun e w' => e = .returned (.bool (offF n)) ∧ w = w' := by
 by_cases h1 : -32768 ≤ n
 ·have e1 : decide (-32768 ≤ n) = true := decide_eq_true h1
  have HF : Hid (offF n = decide (n ≤ 32768)) := by show _ = _; unfold offF; rw [e1]; rfl
  go_enter Try.func180, Try.ntmps180
  go_wp2
  go_ret
  exact ⟨ret_b HF.out.symm, rfl⟩
 ·have e1 : decide (-32768 ≤ n) = false := decide_eq_false h1
  have HF : Hid (offF n = false) := by show _ = _; unfold offF; rw [e1]; rfl
  go_enter Try.func180, Try.ntmps180
  go_wp2
  go_ret
  exact ⟨ret_b HF.out.symm, rfl⟩
theorem slots_c (l : List Sl) (v : Value) (w : World) (h : RdSls w v l) :
  Calls Try.prog 89 #[v] w fun e w' => e = .returned (.bool (l.all slotF)) ∧ Below w.heap.size w w' := by
 have h' := h
 obtain ⟨a, c, rfl, h1, h2, -⟩ := h'
 have HC := Lib.hid (RdSls.at h).2
 clear h
 unfold maxLen at h2
 go_enter Try.func89, Try.ntmps89
 go_wp2_with fail
 go_loopw [7] (fun i wr => ∃ k : Nat, k ≤ l.length ∧ i = .int .i64 (k : Int) ∧ Hid (Below w.heap.size w wr) ∧ Hid ((l.take k).all slotF = true)) (fun i _ => l.length - (intOf i).toNat)
 case atStart => exact ⟨0, Nat.zero_le _, rfl, Below.refl _ _, rfl⟩
 case round =>
  obtain ⟨k, hk, rfl, hB, HA⟩ := hrel
  by_cases hlt : k < l.length
  ·obtain ⟨b, o, nm, rfl, c0, c1, c2, c3⟩ := HC.out k hlt
   replace c0 := Ext.below hB.out _ _ c0
   replace c1 := Ext.below hB.out _ _ c1
   replace c2 := Ext.below hB.out _ _ c2
   replace c3 := Ext.below hB.out _ _ c3
   have hY := allG_take slotF l k hlt HA.out
   have hZ := allG_no slotF l k hlt
   generalize l.getD k default = s at *
   have hz := hB.out.size
   cases hs : slotF s
   ·have HF : Hid (l.all slotF = false) := hZ hs
    have hs' : ¬ (1 ≤ s.size ∧ s.size ≤ 32768 ∧ (s.align = 1 ∨ s.align = 4)) := by
     unfold slotF at hs
     intro h
     rw [decide_eq_true h.1, decide_eq_true h.2.1] at hs
     rcases h.2.2 with h | h <;> rw [h] at hs <;> simp at hs
    clear hY hZ hs
    have END : Hid (∀ o, (Ending.returned (.bool false) = .returned (.bool (l.all slotF))) ∧ Below w.heap.size w (wr.alloc o)) := fun o => ⟨ret_b HF.out.symm, hB.out.alloc hz o⟩
    by_cases h3 : 1 ≤ s.size
    ·have e1 : decide (s.size < 1) = false := decide_eq_false (by omega)
     by_cases h4 : s.size ≤ 32768
     ·have e2 : decide (32768 < s.size) = false := decide_eq_false (by omega)
      have e3 : (s.align != 1) = true := by rw [bne_iff_ne]; omega
      have e4 : (s.align != 4) = true := by rw [bne_iff_ne]; omega
      clear hs'
      go_wp2_with fail
      go_ret
      exact END.out _
     ·have e2 : decide (32768 < s.size) = true := decide_eq_true (by omega)
      clear hs'
      go_wp2_with fail
      go_ret
      exact END.out _
    ·have e1 : decide (s.size < 1) = true := decide_eq_true (by omega)
     clear hs'
     go_wp2_with fail
     go_ret
     exact END.out _
   ·have HA2 := Lib.hid (hY hs)
    have hs' : 1 ≤ s.size ∧ s.size ≤ 32768 ∧ (s.align = 1 ∨ s.align = 4) := by
     unfold slotF at hs
     simpa using hs
    clear hY hZ hs
    have e1 : decide (s.size < 1) = false := decide_eq_false (by omega)
    have e2 : decide (32768 < s.size) = false := decide_eq_false (by omega)
    obtain ⟨-, -, h5⟩ := hs'
    rcases h5 with h5 | h5
    ·have e3 : (s.align != 1) = false := by rw [h5]; rfl
     clear h5
     go_wp2_with fail
     go_roundw
     case rel => exact ⟨k + 1, by omega, by go_num, hB.out.alloc hz _, HA2⟩
     case measure => simp [intOf]; omega
    ·have e3 : (s.align != 1) = true := by rw [h5]; rfl
     have e4 : (s.align != 4) = false := by rw [h5]; rfl
     clear h5
     go_wp2_with fail
     go_roundw
     case rel => exact ⟨k + 1, by omega, by go_num, hB.out.alloc hz _, HA2⟩
     case measure => simp [intOf]; omega
  ·have HF : Hid (l.all slotF = true) := by have := HA.out; rwa [List.take_of_length_le (by omega)] at this
   go_wp2_with fail
   go_ret
   exact ⟨ret_b HF.out.symm, hB.out⟩
theorem reg_c (m : Md) (p : Pr) (v : Value) (r : Int) (should : Bool) (w : World) (h : LkV w v m p) :
  Calls Try.prog 179 #[v, .int .i64 r, .bool should] w fun e w' => e = .returned (.bool (regF p r should)) ∧ Below w.heap.size w w' := by
 obtain ⟨vg, vd, vp, nm, vo, vb, rfl, ⟨ag, cg, rfl, -⟩, ⟨ad, cd, rfl, -⟩, ⟨ap, cp, rfl, -⟩, ⟨ao, co, rfl, -⟩, ⟨ab, cb, rfl, -⟩⟩ := h
 have HF : Hid (regF p r should = if should = true then decide (0 ≤ r) && decide (r < p.regs) else r == -1) := rfl
 cases should
 ·have HF2 : Hid (regF p r false = (r == -1)) := HF.out
  go_enter Try.func179, Try.ntmps179
  go_wp2
  go_ret
  exact ⟨ret_b HF2.out.symm, below_alloc _ _⟩
 ·by_cases h0 : 0 ≤ r
  ·have e0 : decide (0 ≤ r) = true := decide_eq_true h0
   have HF2 : Hid (regF p r true = decide (r < p.regs)) := by show _ = _; rw [HF.out, if_pos rfl, e0]; rfl
   go_enter Try.func179, Try.ntmps179
   go_wp2
   go_ret
   exact ⟨ret_b HF2.out.symm, below_alloc _ _⟩
  ·have e0 : decide (0 ≤ r) = false := decide_eq_false h0
   have HF2 : Hid (regF p r true = false) := by show _ = _; rw [HF.out, if_pos rfl, e0]; rfl
   go_enter Try.func179, Try.ntmps179
   go_wp2
   go_ret
   exact ⟨ret_b HF2.out.symm, below_alloc _ _⟩
theorem block_c (m : Md) (p : Pr) (v : Value) (n : Int) (w : World) (h : LkV w v m p) :
  Calls Try.prog 181 #[v, .int .i64 n] w fun e w' => e = .returned (.bool (blockF p n)) ∧ Below w.heap.size w w' := by
 obtain ⟨vg, vd, vp, nm, vo, vb, rfl, ⟨ag, cg, rfl, -⟩, ⟨ad, cd, rfl, -⟩, ⟨ap, cp, rfl, -⟩, ⟨ao, co, rfl, -⟩, ⟨ab, cb, rfl, -⟩⟩ := h
 by_cases h0 : 0 ≤ n
 ·have e0 : decide (0 ≤ n) = true := decide_eq_true h0
  have HF2 : Hid (blockF p n = decide (n < p.blks.length)) := by show _ = _; unfold blockF; rw [e0]; rfl
  go_enter Try.func181, Try.ntmps181
  go_wp2
  go_ret
  exact ⟨ret_b HF2.out.symm, below_alloc _ _⟩
 ·have e0 : decide (0 ≤ n) = false := decide_eq_false h0
  have HF2 : Hid (blockF p n = false) := by show _ = _; unfold blockF; rw [e0]; rfl
  go_enter Try.func181, Try.ntmps181
  go_wp2
  go_ret
  exact ⟨ret_b HF2.out.symm, below_alloc _ _⟩
end Go.Proofs.Ytkhfddodmjnecaa

set_option linter.all false
namespace Go.Proofs.Ytkhfddodmjnecaa
open Go.ChangeShapes Go.WideShapes Go.ChangeAt Go.RowKit
set_option maxHeartbeats 2000000
set_option linter.unusedVariables false
set_option maxRecDepth 20000

theorem bit_c (b : Bool) (w : World) : Calls Try.prog 189 #[.bool b] w fun e w' => e = .returned (.int .u32 (if b = true then 1 else 0)) ∧ w = w' := by
 cases b
 all_goals
  go_enter Try.func189, Try.ntmps189
  go_wp2
  go_ret
  exact ⟨rfl, rfl⟩
/-- the least multiple of 4 that is no less -/
def up4 (n : Int) : Int := (n + 3) / 4 * 4
/-- where the first k slots end -/
def slE (l : List Sl) : Nat → Int
 | 0 => 0
 | k + 1 => up4 (slE l k + (l.getD k default).size)
def slL (l : List Sl) (k : Nat) : List Int := (List.range k).map (slE l)
theorem slE_bd (l : List Sl) (h : ∀ i, i < l.length → 0 ≤ (l.getD i default).size ∧ (l.getD i default).size ≤ 40000) : ∀ k, k ≤ l.length → 0 ≤ slE l k ∧ slE l k ≤ 50000 * (k : Int)
 | 0, _ => by simp [slE]
 | k + 1, hk => by
  have ih := slE_bd l h k (by omega)
  have hs := h k (by omega)
  unfold slE up4
  omega
theorem slL_snoc (l : List Sl) (k : Nat) : slL l (k + 1) = slL l k ++ [slE l k] := by simp [slL, List.range_succ]
end Go.Proofs.Ytkhfddodmjnecaa
