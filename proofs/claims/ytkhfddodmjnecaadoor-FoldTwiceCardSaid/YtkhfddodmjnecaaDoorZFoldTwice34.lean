/-
 fold's desk: a register's value, the first register that has a value, what is read.; fold's desk: the value of what a key tells, of a number.
-/
import Derived.Test.YtkhfddodmjnecaaDoorZFoldTwice33
import Derived.BigQuiet
import Derived.Test.YtkhfddodmjnecaaDoorZFoldTwice10

set_option linter.all false
namespace Go.Proofs.YtkhfddodmjnecaaDoor
open Go.ChangeShapes Go.WideShapes Go.ChangeAt Go.RowKit Go.Maps
set_option maxHeartbeats 4000000
set_option maxRecDepth 100000
set_option linter.unusedVariables false

theorem DkX.lookOf {w : World} {S : Nat → Prop} {q : Dkb} {c : Nat} {R : Int} {d : Dk} {vf : Int → Value} (h : DkX w S q c R d vf) {r : Int} (hr : 0 ≤ r ∧ r < R) :
  (Instr.lookup 75 (.map (some q.bo)) (.int .i64 r) true).run Tryd.prog w = .ok (.tuple #[.int .i64 ((d.of r).getD 0), .bool (d.of r).isSome]) w ∧ (Instr.lookup 75 (.map (some q.bo)) (.int .i64 r) false).run Tryd.prog w = .ok (.int .i64 ((d.of r).getD 0)) w := by
 have hRb := h.Rb
 have hw : KyI.W r := WalkArith.wf_i64 (by omega)
 have e : ((d.of r).map (Value.int .i64)).getD (.int .i64 0) = .int .i64 ((d.of r).getD 0) := by cases d.of r <;> rfl
 have h1 := h.mo.look1 Tryd.underlying75 zeroIn r hw
 have h0 := h.mo.look0 Tryd.underlying75 zeroIn r hw
 rw [e] at h0 h1
 rw [Option.isSome_map] at h1
 exact ⟨h1, h0⟩
theorem value_c (w : World) (S : Nat → Prop) (q : Dkb) (c : Nat) (R : Int) (d : Dk) (r : Int) (h : DkM w S q c R d) (hc : c + 2 ≤ 1000000000) (hr : 0 ≤ r ∧ r < R) :
  Calls Tryd.prog 28 #[.pointer (some ⟨q.bd, 0, none⟩), .int .i64 r] w (DkQ S q (c + 2) R (.int .i64 (valueD d r).1) (valueD d r).2 w) := by
 have H := Lib.hid h
 have hlk : (Instr.lookup 75 (.map (some q.bo)) (.int .i64 r) true).run Tryd.prog w = .ok (.tuple #[.int .i64 ((d.of r).getD 0), .bool (d.of r).isSome]) w := let ⟨vf, h⟩ := h; (h.lookOf hr).1
 have HS := Lib.hid h.st
 have hB := h.B
 have hbd := h.bd
 obtain ⟨y0, y1, y2, y3, y4, y5, l0⟩ := cl6 HS.out
 cases e : d.of r with
 | some v =>
  rw [valueD_some e]
  rw [e] at hlk
  simp only [Option.isSome_some, Option.getD_some] at hlk
  clear e hB h
  go_enter Tryd.func28, Tryd.ntmps28
  go_wp2_with fail
  go_ret
  exact ⟨rfl, S, H.out.mono (by omega), Stp.refl _ _⟩
 | none =>
  rw [valueD_none e]
  rw [e] at hlk
  simp only [Option.isSome_none, Option.getD_none] at hlk
  have EF := Lib.hid (fresh_c w S q c R d h (by omega))
  clear e h
  go_enter Tryd.func28, Tryd.ntmps28
  go_wp2_with fail
  refine EF.out.mono ?_
  rintro e w1 ⟨rfl, S1, h1, p1⟩
  have EH := Lib.hid (have_c w1 S1 q (c + 1) R (freshD d) r (d.vs + 1) h1 (by omega) hr ⟨by omega, Int.le_refl _⟩)
  go_wp2_with fail
  refine EH.out.mono ?_
  rintro e w2 ⟨rfl, S2, h2, p2⟩
  go_wp2_with fail
  go_ret
  exact ⟨rfl, S2, h2, p1.trans p2⟩
theorem holder_c (w : World) (S : Nat → Prop) (q : Dkb) (c : Nat) (R : Int) (d : Dk) (v : Int) (h : DkM w S q c R d) (hc : c ≤ 1000000000) (hv : 1 ≤ v ∧ v ≤ d.vs) :
  Calls Tryd.prog 29 #[.pointer (some ⟨q.bd, 0, none⟩), .int .i64 v] w fun e w' => e = .returned (.int .i64 (holderD d v)) ∧ w' = w := by
 obtain ⟨vf, h⟩ := h
 have H := Lib.hid h
 have hv1 := h.vs
 have hwv : KyI.W v := WalkArith.wf_i64 (by omega)
 obtain ⟨ov, hov⟩ : ∃ ov, ov = (if d.fs v = [] then none else some (vf v)).getD (Value.slice none 0 0) := ⟨_, rfl⟩
 have hO : w.ownsRow 0 3 1 ov (d.fs v).length (rowI (d.fs v)) := by
  rw [hov]
  by_cases e : d.fs v = []
  ·rw [if_pos e, e]; exact own_nil w 0 _ _
  ·rw [if_neg e]; exact h.row v e
 have hlk : (Instr.lookup 78 (.map (some q.bf)) (.int .i64 v) false).run Tryd.prog w = .ok ov w := by
  rw [hov]; exact h.mf.look0 Tryd.underlying78 zeroSl v hwv
 have HC : Hid (∀ k, k < (d.fs v).length → (∃ g cc, ov = .slice (some ⟨g, 0, none⟩) (d.fs v).length cc ∧ w.cell? ⟨g, k, none⟩ = some (.int .i64 ((d.fs v).getD k 0))) ∧ 0 ≤ (d.fs v).getD k 0 ∧ (d.fs v).getD k 0 < R) := fun k hk => by
  refine ⟨?_, h.fr v _ (by simp [List.getD, hk])⟩
  obtain ⟨g, cc, e⟩ := own_slice hO (by omega)
  rw [e] at hO ⊢
  refine ⟨g, cc, rfl, (World.ownsRow.cellAt hO k (by omega)).trans ?_⟩
  simp [rowI, List.getD, hk]
 have HLO : Hid (∀ r, 0 ≤ r ∧ r < R → (Instr.lookup 75 (.map (some q.bo)) (.int .i64 r) false).run Tryd.prog w = .ok (.int .i64 ((d.of r).getD 0)) w) := fun r hr => (h.lookOf hr).2
 have HD : Hid (holderD d v = ((d.fs v).find? fun r => (d.of r).getD 0 == v).getD (-1)) := rfl
 have hfl := h.fl v
 obtain ⟨av, cv, e⟩ := ow_form hO
 subst e
 have hcv : (d.fs v).length ≤ cv ∧ cv ≤ 2 ^ 63 - 1 := by
  obtain ⟨-, ⟨e, e2⟩ | ⟨g, cap, cur, e, -, -, h1, h2, -⟩⟩ := hO
  ·simp only [Value.slice.injEq] at e; rw [e.2.2, e2]; exact ⟨Nat.le_refl _, by decide⟩
  ·simp only [Value.slice.injEq] at e; rw [e.2.2]; exact ⟨h1, h2⟩
 have HS := Lib.hid h.st
 obtain ⟨y0, y1, y2, y3, y4, y5, l0⟩ := cl6 HS.out
 clear hov hO h hwv
 obtain ⟨l, hl⟩ : ∃ l, l = d.fs v := ⟨_, rfl⟩
 rw [← hl] at HC HD hfl hcv hlk
 clear hl
 go_enter Tryd.func29, Tryd.ntmps29
 go_wp2_with fail
 go_loopw [14] (fun i wr => ∃ (k : Nat), k ≤ l.length ∧ i = .int .i64 (k : Int) ∧ wr = w ∧ (l.take k).find? (fun r => (d.of r).getD 0 == v) = none) (fun i _ => l.length - (intOf i).toNat)
 case atStart => exact ⟨0, Nat.zero_le _, rfl, rfl, rfl⟩
 case round =>
  obtain ⟨k, hk, rfl, rfl, hno⟩ := hrel
  by_cases hlt : k < l.length
  ·have g1 : decide (k < l.length) = true := decide_eq_true hlt
   have g2 : decide ((k : Int) < (l.length : Int)) = true := decide_eq_true (by omega)
   obtain ⟨⟨g, cc, hg, c0⟩, hr⟩ := HC.out k hlt
   simp only [Value.slice.injEq] at hg
   obtain ⟨rfl, -, rfl⟩ := hg
   have hlo := HLO.out _ hr
   have lg := World.block_lt_of_cell? _ _ c0
   have HT : Hid ((l.take (k + 1)).find? (fun r => (d.of r).getD 0 == v) = if (d.of (l.getD k 0)).getD 0 == v then some (l.getD k 0) else none) := by
    show _ = _
    rw [List.take_succ, List.getElem?_eq_getElem hlt, List.find?_append, hno]
    simp [List.getD, hlt]
   have HF : Hid (∀ r, (l.take (k + 1)).find? (fun r => (d.of r).getD 0 == v) = some r → l.find? (fun r => (d.of r).getD 0 == v) = some r) := fun r hr => by
    rw [← List.take_append_drop (k + 1) l, List.find?_append, hr]; rfl
   generalize l.getD k 0 = x at *
   generalize (d.of x).getD 0 = y at *
   cases hy : (y == v)
   ·rw [hy] at HT
    clear hno
    go_wp2_with fail
    exact ⟨⟨k + 1, hlt, by go_num, trivial, HT.out⟩, by simp [intOf]; omega⟩
   ·rw [hy] at HT
    have HR : Hid (holderD d v = x) := by
     show _ = _
     rw [HD.out, HF.out x HT.out]; rfl
    clear hno HT HF
    go_wp2_with fail
    go_ret
    exact ⟨by rw [HR.out]; rfl, rfl⟩
  ·obtain rfl : k = l.length := by omega
   rw [List.take_length] at hno
   have HR : Hid (holderD d v = -1) := by
    show _ = _
    rw [HD.out, hno]; rfl
   clear hno
   go_wp2_with fail
   go_ret
   exact ⟨by rw [HR.out]; rfl, rfl⟩
theorem read_c (w : World) (S : Nat → Prop) (q : Dkb) (c : Nat) (R : Int) (d : Dk) (r : Int) (h : DkM w S q c R d) (hc : c + 2 ≤ 1000000000) (hr : r = -1 ∨ 0 ≤ r ∧ r < R) :
  Calls Tryd.prog 53 #[.pointer (some ⟨q.bd, 0, none⟩), .int .i64 r] w (DkQ S q (c + 2) R (.int .i64 (readD d r).1) (readD d r).2 w) := by
 by_cases e : r = -1
 ·have g1 : (r == -1) = true := beq_iff_eq.2 e
  have HD : Hid (readD d r = (r, d)) := by
   show _ = _
   unfold readD; rw [if_pos e]
  rw [HD.out]
  clear hr
  go_enter Tryd.func53, Tryd.ntmps53
  go_wp2_with fail
  go_ret
  exact ⟨rfl, S, h.mono (by omega), Stp.refl _ _⟩
 ·have g1 : (r == -1) = false := beq_eq_false_iff_ne.2 e
  have hr : 0 ≤ r ∧ r < R := by omega
  have HD : Hid (readD d r = (holderD (valueD d r).2 (valueD d r).1, (valueD d r).2)) := by
   show _ = _
   unfold readD; rw [if_neg e]
  have EV := Lib.hid (value_c w S q c R d r h hc hr)
  have HV := Lib.hid (h.B.value hr)
  rw [HD.out]
  clear h HD
  generalize valueD d r = vd at *
  obtain ⟨v, d1⟩ := vd
  go_enter Tryd.func53, Tryd.ntmps53
  go_wp2_with fail
  refine EV.out.mono ?_
  rintro e w1 ⟨rfl, S1, h1, p1⟩
  have H1 := Lib.hid h1
  go_wp2_with fail
  refine (holder_c w1 S1 q (c + 2) R d1 v H1.out hc HV.out.2.1).mono ?_
  rintro e w2 ⟨rfl, rfl⟩
  go_wp2_with fail
  go_ret
  exact ⟨rfl, S1, H1.out, p1⟩
end Go.Proofs.YtkhfddodmjnecaaDoor

set_option linter.all false
namespace Go.Proofs.YtkhfddodmjnecaaDoor
open Go.ChangeShapes Go.WideShapes Go.ChangeAt Go.RowKit Go.Maps
set_option maxHeartbeats 4000000
set_option maxRecDepth 100000
set_option linter.unusedVariables false

section
variable {w w' : World} {S : Nat → Prop} {q : Dkb} {c : Nat} {R : Int} {d : Dk} {vf : Int → Value}
/-- the map of numbers has turned -/
theorem DkX.setNum (h : DkX w S q c R d vf) {v n : Int} (hv : 1 ≤ v ∧ v ≤ d.vs) (hn : 0 ≤ n ∧ n < 4294967296) (hg : w.grownBy w' (some q.bn)) (hm : MapH KyI w' q.bn (c + 1) (fun y => if y = v then some (Value.int .u32 n) else (d.num y).map (Value.int .u32))) : DkX w' S q (c + 1) R (setNum d v n) vf ∧ Stp S w w' S := by
 obtain ⟨a1, a2, a3, a4, a5⟩ := h.apart
 obtain ⟨n1, n2, n3, n4, n5, n6⟩ := h.n1
 have keep : ∀ b, S b → b ≠ q.bn → w'.heap[b]? = w.heap[b]? := fun b hb hn => hg.block b (h.sl b hb) (by simpa using hn)
 refine ⟨⟨(keep _ h.s1.1 a3).trans h.st, (h.mo.same (keep _ h.s1.2.1 n2)).mono (by omega), (h.mky.same (keep _ h.s1.2.2.1 n4)).mono (by omega), hm.ext fun y => ?_, (h.mf.same (keep _ h.s1.2.2.2.2 (Ne.symm n6))).mono (by omega), fun v hv => ow_same (h.row v hv) fun g hgb => keep g (h.s2 v g hv hgb) (fun e => (a5 v hv).2.2.2.1 (e ▸ hgb)), h.ap, fun v => by have := h.fl v; show (d.fs v).length ≤ _; omega, h.fr, h.B.setNum hv hn, h.Rb, by have := h.vs; show d.vs ≤ _; omega, by have := h.mm; show 0 ≤ d.mm ∧ d.mm ≤ _; omega, h.n1, h.s1, h.s2, fun b hb => Nat.lt_of_lt_of_le (h.sl b hb) hg.size⟩, ⟨hg.os, hg.tape, hg.output, hg.size, fun b hb hn => hg.block b hb (fun e => hn (by cases e; exact h.s1.2.2.2.1)), fun b hb => .inl hb⟩⟩
 show _ = (updI d.num v (some n) y).map _
 by_cases e : y = v
 ·rw [if_pos e, e, updI_same]; rfl
 ·rw [if_neg e, updI_other _ _ e]
/-- the map of keys has turned -/
theorem DkX.setKy (h : DkX w S q c R d vf) {v : Int} {k : Ky} (hv : 1 ≤ v ∧ v ≤ d.vs) (hg : w.grownBy w' (some q.bk)) (hm : MapH KyK w' q.bk (c + 1) (fun y => if y = k then some (Value.int .i64 v) else (d.ky y).map (Value.int .i64))) : DkX w' S q (c + 1) R (setKy d k v) vf ∧ Stp S w w' S := by
 obtain ⟨a1, a2, a3, a4, a5⟩ := h.apart
 obtain ⟨n1, n2, n3, n4, n5, n6⟩ := h.n1
 have keep : ∀ b, S b → b ≠ q.bk → w'.heap[b]? = w.heap[b]? := fun b hb hn => hg.block b (h.sl b hb) (by simpa using hn)
 refine ⟨⟨(keep _ h.s1.1 a2).trans h.st, (h.mo.same (keep _ h.s1.2.1 n1)).mono (by omega), hm.ext fun y => ?_, (h.mn.same (keep _ h.s1.2.2.2.1 (Ne.symm n4))).mono (by omega), (h.mf.same (keep _ h.s1.2.2.2.2 (Ne.symm n5))).mono (by omega), fun v hv => ow_same (h.row v hv) fun g hgb => keep g (h.s2 v g hv hgb) (fun e => (a5 v hv).2.2.1 (e ▸ hgb)), h.ap, fun v => by have := h.fl v; show (d.fs v).length ≤ _; omega, h.fr, h.B.setKy hv k, h.Rb, by have := h.vs; show d.vs ≤ _; omega, by have := h.mm; show 0 ≤ d.mm ∧ d.mm ≤ _; omega, h.n1, h.s1, h.s2, fun b hb => Nat.lt_of_lt_of_le (h.sl b hb) hg.size⟩, ⟨hg.os, hg.tape, hg.output, hg.size, fun b hb hn => hg.block b hb (fun e => hn (by cases e; exact h.s1.2.2.1)), fun b hb => .inl hb⟩⟩
 show _ = (if y = k then some v else d.ky y).map _
 by_cases e : y = k
 ·rw [if_pos e, if_pos e]; rfl
 ·rw [if_neg e, if_neg e]
theorem DkX.lookNum (h : DkX w S q c R d vf) {v : Int} (hv : 0 ≤ v ∧ v ≤ 1000000000) : (Instr.lookup 77 (.map (some q.bn)) (.int .i64 v) true).run Tryd.prog w = .ok (.tuple #[.int .u32 ((d.num v).getD 0), .bool (d.num v).isSome]) w := by
 have hw : KyI.W v := WalkArith.wf_i64 (by omega)
 have e : ((d.num v).map (Value.int .u32)).getD (.int .u32 0) = .int .u32 ((d.num v).getD 0) := by cases d.num v <;> rfl
 have h1 := h.mn.look1 Tryd.underlying77 zeroU v hw
 rw [e, Option.isSome_map] at h1
 exact h1
end
theorem below_dN {B : Nat} {w w1 : World} (h : Below B w w1) (n : Nat) : Below B w (w1.drewN n) := ⟨h.os, h.tape, h.output, h.size, h.block⟩
theorem cl9 {w : World} {b : Nat} {t : TypeId} {c0 c1 c2 c3 c4 c5 c6 c7 c8 : Value} (h : w.heap[b]? = some (.cells #[c0, c1, c2, c3, c4, c5, c6, c7, c8] t (0, 0))) :
  w.cell? ⟨b, 0, none⟩ = some c0 ∧ w.cell? ⟨b, 1, none⟩ = some c1 ∧ w.cell? ⟨b, 2, none⟩ = some c2 ∧ w.cell? ⟨b, 3, none⟩ = some c3 ∧ w.cell? ⟨b, 4, none⟩ = some c4 ∧ w.cell? ⟨b, 5, none⟩ = some c5 ∧ w.cell? ⟨b, 6, none⟩ = some c6 ∧ w.cell? ⟨b, 7, none⟩ = some c7 ∧ w.cell? ⟨b, 8, none⟩ = some c8 ∧ b < w.heap.size :=
 ⟨cell_of_heap h 0, cell_of_heap h 1, cell_of_heap h 2, cell_of_heap h 3, cell_of_heap h 4, cell_of_heap h 5, cell_of_heap h 6, cell_of_heap h 7, cell_of_heap h 8, (Array.getElem?_eq_some_iff.1 h).1⟩
theorem named_c (w : World) (S : Nat → Prop) (q : Dkb) (c : Nat) (R : Int) (d : Dk) (k : Ky) (h : DkM w S q c R d) (hc : c + 2 ≤ 1000000000) (hk : KyW k) :
  Calls Tryd.prog 57 #[.pointer (some ⟨q.bd, 0, none⟩), keyV k] w (DkQ S q (c + 2) R (.int .i64 (namedD d k).1) (namedD d k).2 w) := by
 have hA := below_alloc w (.cells #[.int .i64 k.op, .int .i64 k.fn, .int .i64 k.a, .int .i64 k.b, .int .i64 k.obj, .int .i64 k.off, .int .i64 k.size, .int .u32 k.num, .int .i64 k.mem] 94)
 obtain ⟨W0, hW0⟩ : ∃ W0, W0 = w.alloc (.cells #[.int .i64 k.op, .int .i64 k.fn, .int .i64 k.a, .int .i64 k.b, .int .i64 k.obj, .int .i64 k.off, .int .i64 k.size, .int .u32 k.num, .int .i64 k.mem] 94) := ⟨_, rfl⟩
 have HB0 := Lib.hid (heap_of_alloc w _ _ hW0)
 rw [← hW0] at hA
 have HW0 := Lib.hid hW0.symm
 clear hW0
 have HA := Lib.hid hA
 have hs0 : w.heap.size < W0.heap.size := (Array.getElem?_eq_some_iff.1 HB0.out).1
 have HNS : Hid (¬ S w.heap.size) := fun e => by have := h.lt e; omega
 have H0 := Lib.hid (h.below hA)
 have hbd := h.bd
 have hst := h.st
 have HLK : Hid (∀ W, W.heap[q.bk]? = W0.heap[q.bk]? → (Instr.lookup 76 (.map (some q.bk)) (keyV k) true).run Tryd.prog W = .ok (.tuple #[.int .i64 ((d.ky k).getD 0), .bool (d.ky k).isSome]) W) := fun W hW => by
  obtain ⟨vf, h0⟩ := H0.out
  have e : ((d.ky k).map (Value.int .i64)).getD (.int .i64 0) = .int .i64 ((d.ky k).getD 0) := by cases d.ky k <;> rfl
  have h1 := (h0.mky.same hW).look1 Tryd.underlying76 zeroIn k hk
  rw [e, Option.isSome_map] at h1
  exact h1
 have hlk := fun n => HLK.out (W0.drewN n) rfl
 clear HLK
 have HP0 : Hid (Stp S w W0 S) := Stp.of_below hA
 obtain ⟨y0, y1, y2, y3, y4, y5, l0⟩ := cl6 H0.out.st
 obtain ⟨x0, x1, x2, x3, x4, x5, x6, x7, x8, lx⟩ := cl9 HB0.out
 clear hA h hst
 have HKW := Lib.hid hk
 clear hk
 obtain ⟨ks, hks⟩ : ∃ ks, ks = w.heap.size := ⟨_, rfl⟩
 unfold keyV at hlk ⊢
 cases e : d.ky k with
 | some v =>
  rw [namedD_some e]
  rw [e] at hlk
  simp only [Option.isSome_some, Option.getD_some] at hlk
  clear e
  go_enter Tryd.func57, Tryd.ntmps57
  go_wp2_with fail
  rw [HW0.out]
  go_quiet (fail)
  go_wp2_with fail
  go_ret
  exact ⟨rfl, S, (H0.out.below (below_dN (Below.refl _ _) _)).mono (by omega), HP0.out.trans (Stp.of_below (below_dN (Below.refl _ _) _))⟩
 | none =>
  rw [namedD_none e]
  rw [e] at hlk
  simp only [Option.isSome_none, Option.getD_none] at hlk
  clear e
  go_enter Tryd.func57, Tryd.ntmps57
  go_wp2_with fail
  rw [HW0.out]
  clear HW0
  go_quiet (fail)
  go_wp2_with fail
  clear hlk y0 y1 y2 y3 y4 y5 x0 x1 x2 x3 x4 x5 x6 x7 x8
  have HB1 : Hid (Below W0.heap.size W0 (W0.drewN nq)) := below_dN (Below.refl _ _) _
  refine (fresh_c (W0.drewN nq) S q c R d (H0.out.below HB1.out) (by omega)).mono ?_
  rintro e w1 ⟨rfl, S1, h1, p1⟩
  have p2 := (Stp.of_below HB1.out).trans p1
  have hS1 := p2.away hs0 HNS.out
  have hb1 := (p2.keep _ hs0 HNS.out).trans HB0.out
  have HP1 := Lib.hid (HP0.out.trans p2)
  have HS1 := Lib.hid hS1
  have HKB := Lib.hid hb1
  have H1 := Lib.hid h1
  have hdv : (freshD d).vs = d.vs + 1 := rfl
  clear p1 p2 hS1 HB1 HB0 HP0 HNS H0 HA h1 hb1
  obtain ⟨y0, y1, y2, y3, y4, y5, l0⟩ := cl6 H1.out.st
  obtain ⟨x0, x1, x2, x3, x4, x5, x6, x7, x8, lx⟩ := cl9 HKB.out
  have hcm : c + 1 < maxLen := by unfold maxLen; omega
  generalize w.heap.size = ks at *
  go_wp2_with fail
  refine wp_region_game (fun z => z = q.bd ∨ z = ks) (by kernel_rfl) ?_
  show wpE _ _ _ _ _ _ _ w1.drew
  refine E_mob2s [0, 1, 2, 3, 4, 5] _ _ _ _ (by kernel_rfl) ?_
  simp only [List.map_cons, List.map_nil, List.getElem?_toArray, List.getElem?_cons_succ, List.getElem?_cons_zero, Option.getD_some, List.size_toArray, List.length_cons, List.length_nil, Nat.reduceAdd, Nat.reduceSub]
  repeat (go_big_quiet_step (fail))
  refine wpQuiet_nil ?_
  clear y0 y1 y2 y3 y4 y5 x0 x1 x2 x3 x4 x5 x6 x7 x8
  refine E_last 6 _ rfl (by kernel_rfl) ?_
  simp only [List.getElem_toArray, List.getElem_cons_succ, List.getElem_cons_zero]
  obtain ⟨vf, h1⟩ := H1.out
  have HX := Lib.hid (h1.same (w' := w1.drew) (Nat.le_refl _) (fun _ _ => rfl))
  clear h1
  go_wp2_with (at_mapUpdate; refine MapH.put HX.out.mky Tryd.underlying76 k (.int .i64 (d.vs + 1)) HKW.out hcm rfl _ _ _ rfl rfl rfl rfl ?_; intro w2 hm2 hg2)
  refine E_done (by kernel_rfl) ?_ _
  have HE : Hid (DkQ S q (c + 2) R (.int .i64 (d.vs + 1)) (setKy (freshD d) k (d.vs + 1)) w (.returned (.int .i64 (d.vs + 1))) w2) := by
   obtain ⟨hx2, px⟩ := HX.out.setKy (v := d.vs + 1) (k := k) ⟨by omega, Int.le_refl _⟩ hg2 (hm2.ext fun y => by split <;> rfl)
   exact ⟨rfl, S1, ⟨vf, hx2⟩, HP1.out.trans ((Stp.of_below (Below.refl _ _).drew).trans px)⟩
  clear hm2 hg2 HX H1 HP1 HKB
  go_wp2_with fail
  go_ret
  exact HE.out
end Go.Proofs.YtkhfddodmjnecaaDoor
