/-
 hazard: spills, Writes, reg, join, the row cleared; what stays while rows turn.; A run of the middle language in memory: the runner's struct, its memory, what it puts out, where the globals lie.; The contracts of the runner's small methods.; The contract of the runner's store.; Contracts of the parts of ir.Check: slots, offsets, registers, blocks, ends, bare instructions.; The contracts of a call's registers, of bit, up and Place.; The contract of Fn.; A run of the middle language as a machine of single steps, in plain data.
-/
import Derived.Test.YtmcddolkpcgddaaZHazardMarks16
import Derived.Test.YtmcddolkpcgddaaZHazardMarks00
import Derived.Test.YtmcddolkpcgddaaZHazardMarks14
import Derived.Test.YtmcddolkpcgddaaZHazardMarks08
import Derived.BigQuiet
import Derived.IntWalk
import Derived.Test.YtmcddolkpcgddaaZHazardMarks11

set_option linter.all false
namespace Go.Proofs.Ytmcddolkpcgddaa
open Go.ChangeShapes Go.WideShapes Go.ChangeAt Go.RowKit
set_option maxHeartbeats 4000000
set_option maxRecDepth 100000
set_option linter.unusedVariables false

theorem spills_c (v : Value) (s : List Bool) (r : Int) (w : World) (h : RdB w v s) :
  Calls Try.prog 44 #[v, .int .i64 r] w fun e w' => e = .returned (.bool (spillB s r)) ∧ w' = w := by
 obtain ⟨a, c, rfl, h1, h2, hc⟩ := h
 unfold maxLen at h2
 have HB : Hid (spillB s r = (decide (0 ≤ r) && (decide (r < (s.length : Int)) && s.getD r.toNat false))) := rfl
 by_cases h0 : 0 ≤ r
 ·obtain ⟨n, rfl⟩ := Int.eq_ofNat_of_zero_le h0
  have q0 : decide ((n : Int) ≥ 0) = true := decide_eq_true h0
  have q0' : decide (0 ≤ (n : Int)) = true := decide_eq_true h0
  by_cases hl : n < s.length
  ·have q1 : decide ((n : Int) < (s.length : Int)) = true := decide_eq_true (by omega)
   have q2 : decide (n < s.length) = true := decide_eq_true hl
   obtain ⟨b, o, rfl, hcell⟩ := hc n hl
   simp only [Nat.mul_one, Nat.add_zero] at hcell
   have HX : Hid (spillB s (n : Int) = s.getD n false) := by
    show _ = _
    rw [HB.out, q0', q1]; rfl
   clear hc HB h0
   generalize s.getD n false = z at *
   cases z
   all_goals
    go_enter Try.func44, Try.ntmps44
    go_wp2_with fail
    go_ret
    exact ⟨ret_b HX.out.symm, rfl⟩
  ·have q1 : decide ((n : Int) < (s.length : Int)) = false := decide_eq_false (by omega)
   have HX : Hid (spillB s (n : Int) = false) := by
    show _ = _
    rw [HB.out, q1]; simp
   clear hc HB h0
   go_enter Try.func44, Try.ntmps44
   go_wp2_with fail
   go_ret
   exact ⟨ret_b HX.out.symm, rfl⟩
 ·have q0 : decide (r ≥ 0) = false := decide_eq_false (by omega)
  have q0' : decide (0 ≤ r) = false := decide_eq_false (by omega)
  have HX : Hid (spillB s r = false) := by
   show _ = _
   rw [HB.out, q0']; rfl
  clear hc HB h0
  go_enter Try.func44, Try.ntmps44
  go_wp2_with fail
  go_ret
  exact ⟨ret_b HX.out.symm, rfl⟩
theorem low_full {S L : Nat} (h : S < 2 ^ (64 * L)) : S % 2 ^ (64 * L) = S := Nat.mod_eq_of_lt h
theorem or_eq_left {R S : Nat} : R ||| S = R ↔ ∀ x, S.testBit x = true → R.testBit x = true := by
 constructor
 ·intro h x hx
  rw [← h, Nat.testBit_or, hx, Bool.or_true]
 ·intro h
  apply Nat.eq_of_testBit_eq
  intro i
  rw [Nat.testBit_or]
  cases hs : S.testBit i
  ·simp
  ·rw [h i hs]; rfl
/-- whether joining the first words brings news -/
def newsU (R S k : Nat) : Bool := (R ||| S % 2 ^ (64 * k)) != R
theorem newsU_zero (R S : Nat) : newsU R S 0 = false := by unfold newsU; simp [Nat.mod_one]
theorem newsU_step (R S k : Nat) : newsU R S (k + 1) = (newsU R S k || ((wU R k ||| wU S k) != wU R k)) := by
 rw [Bool.eq_iff_iff]
 unfold newsU
 rw [Bool.or_eq_true, bne_iff_ne, bne_iff_ne, bne_iff_ne]
 have key : (R ||| S % 2 ^ (64 * (k + 1))) = R ↔ ((R ||| S % 2 ^ (64 * k)) = R ∧ (wU R k ||| wU S k) = wU R k) := by
  rw [or_eq_left, or_eq_left, or_eq_left]
  constructor
  ·intro h
   refine ⟨fun x hx => h x ?_, fun x hx => ?_⟩
   ·rw [Nat.testBit_mod_two_pow, Bool.and_eq_true, decide_eq_true_eq] at hx ⊢
    exact ⟨by omega, hx.2⟩
   ·rw [wU_bit, Bool.and_eq_true, decide_eq_true_eq] at hx ⊢
    refine ⟨hx.1, h _ ?_⟩
    rw [Nat.testBit_mod_two_pow, Bool.and_eq_true, decide_eq_true_eq]
    exact ⟨by omega, hx.2⟩
  ·rintro ⟨h1, h2⟩ x hx
   rw [Nat.testBit_mod_two_pow, Bool.and_eq_true, decide_eq_true_eq] at hx
   by_cases hk : x < 64 * k
   ·exact h1 x (by rw [Nat.testBit_mod_two_pow, Bool.and_eq_true, decide_eq_true_eq]; exact ⟨hk, hx.2⟩)
   ·have := h2 (x - 64 * k)
    rw [wU_bit, wU_bit, Bool.and_eq_true, Bool.and_eq_true, decide_eq_true_eq, show 64 * k + (x - 64 * k) = x by omega] at this
    exact (this ⟨by omega, hx.2⟩).2
 constructor
 ·intro h
  rw [Ne, key] at h
  by_cases h1 : (R ||| S % 2 ^ (64 * k)) = R
  ·exact .inr fun h2 => h ⟨h1, h2⟩
  ·exact .inl h1
 ·rintro (h | h) e
  ·exact h (key.1 e).1
  ·exact h (key.1 e).2
theorem wU_join_at (R S k : Nat) : wU (R ||| S % 2 ^ (64 * k)) k = wU R k := by rw [wU_or, wU_low, if_neg (Nat.lt_irrefl _), Nat.or_zero]
theorem wU_join_step (R S k : Nat) : wU (R ||| S % 2 ^ (64 * (k + 1))) k = wU R k ||| wU S k := by rw [wU_or, wU_low, if_pos (Nat.lt_succ_self _)]
theorem wU_join_ne (R S k i : Nat) (h : i ≠ k) : wU (R ||| S % 2 ^ (64 * (k + 1))) i = wU (R ||| S % 2 ^ (64 * k)) i := by
 rw [wU_or, wU_or, wU_low, wU_low]
 by_cases h1 : i < k
 ·rw [if_pos h1, if_pos (by omega)]
 ·rw [if_neg h1, if_neg (by omega)]
theorem hjoin_c (g c g' c' L R S : Nat) (w : World) (h : RowU w g c L R) (h' : RowU w g' c' L S) (hne : g ≠ g') (hS : S < 2 ^ (64 * L)) :
  Calls Try.prog 71 #[.slice (some ⟨g, 0, none⟩) L c, .slice (some ⟨g', 0, none⟩) L c'] w fun e w' => e = .returned (.bool ((R ||| S) != R)) ∧ RowU w' g c L (R ||| S) ∧ But g w w' := by
 obtain ⟨hc1, hc2⟩ := h.caps
 unfold maxLen at hc2
 have H0 : Hid (RowU w g c L (R ||| S % 2 ^ (64 * 0))) := by
  show RowU _ _ _ _ _
  simpa [Nat.mod_one] using h
 have H1 := Lib.hid h'
 have HF : Hid (newsU R S L = ((R ||| S) != R)) := by
  show _ = _
  unfold newsU; rw [low_full hS]
 have HF2 : Hid ((R ||| S % 2 ^ (64 * L)) = (R ||| S)) := by
  show _ = _
  rw [low_full hS]
 have HZ := Lib.hid (newsU_zero R S)
 clear h h' hS
 go_enter Try.func71, Try.ntmps71
 go_wp2_with fail
 go_loopw [5, 10] (fun b i wr => ∃ k : Nat, k ≤ L ∧ i = .int .i64 (k : Int) ∧ b = .bool (newsU R S k) ∧ Hid (RowU wr g c L (R ||| S % 2 ^ (64 * k))) ∧ Hid (RowU wr g' c' L S) ∧ Hid (But g w wr)) (fun _ i _ => L - (intOf i).toNat)
 case atStart => exact ⟨0, Nat.zero_le _, rfl, by rw [HZ.out], H0, H1, But.refl _ _⟩
 case round =>
  clear H0 H1
  obtain ⟨k, hk, rfl, rfl, HR, HS, HB⟩ := hrel
  by_cases hlt : k < L
  ·have g1 : decide (k < L) = true := decide_eq_true hlt
   have g2 : decide ((k : Int) < (L : Int)) = true := decide_eq_true (by omega)
   obtain ⟨c0, f0⟩ := HR.out.cell hlt
   obtain ⟨d0, -⟩ := HS.out.cell hlt
   rw [wU_join_at] at c0
   have HO : Hid (bits .or .u64 ((wU R k : Nat) : Int) ((wU S k : Nat) : Int) = ((wU R k ||| wU S k : Nat) : Int)) := or64 (wU_lt _ _) (wU_lt _ _)
   have HST := Lib.hid (newsU_step R S k)
   have HN : Hid ((((wU R k ||| wU S k : Nat) : Int) != ((wU R k : Nat) : Int)) = ((wU R k ||| wU S k) != wU R k)) := bneII _ _
   have HR2 : Hid (∀ W, RowU W g c L (R ||| S % 2 ^ (64 * k)) → RowU (W.setCell ⟨g, k, none⟩ (.int .u64 ((wU R k ||| wU S k : Nat) : Int))) g c L (R ||| S % 2 ^ (64 * (k + 1)))) := fun W hW => by
    have := hW.store (R' := R ||| S % 2 ^ (64 * (k + 1))) k (fun i hi => wU_join_ne R S k i hi)
    rw [wU_join_step] at this
    exact this
   generalize newsU R S k = NK at *
   cases NK
   all_goals
    go_wp2_with fail
    go_quiet (fail)
    go_wp2_with fail
    rw [HO.out]
    go_roundw
    case rel =>
     refine ⟨k + 1, hlt, by go_num, ?_, HR2.out _ (HR.out.but (but_drewN (g + 1) _ _) (by omega)), (HS.out.but (but_drewN (g' + 1) _ _) (by omega)).but (But.setCell g k _ _) (Ne.symm hne), (HB.out.trans (but_drewN _ _ nq)).trans (But.setCell _ _ _ _)⟩
     rw [HST.out]
     first | rfl | (rw [HN.out]; rfl) | (simp [HN.out])
    case measure => simp [intOf]; omega
  ·obtain rfl : k = L := by omega
   go_wp2_with fail
   go_ret
   exact ⟨ret_b HF.out, by rw [← HF2.out]; exact HR.out, HB.out⟩
end Go.Proofs.Ytmcddolkpcgddaa

set_option linter.all false
namespace Go.Proofs.Ytmcddolkpcgddaa
open Go.ChangeShapes Go.WideShapes Go.ChangeAt Go.RowKit
set_option maxHeartbeats 1000000
set_option linter.unusedVariables false
set_option maxRecDepth 20000

def rowOf (b n : Nat) : Value := .slice (some ⟨b, 0, none⟩) n n
/-- what stays in a run -/
structure RK where
 wp : World
 br : Nat
 bm : Nat
 vg : Value
 vd : Value
 vp : Value
 va : Value
 vi : Value
 m : Md
 at' : List Int
 en : Int
 inp : List Int
/-- what turns in a run -/
structure RS where
 mem : List Int
 out : List Int
 ins : Int
 exit : Int
 e : Int
 fuel : Int
 deep : Int
def RS.cells (k : RK) (vo : Value) (s : RS) : List Value := [k.vg, k.vd, k.vp, .int .i64 k.m.main, rowOf k.bm 65536, k.va, .int .i64 k.en, k.vi, vo, .int .i64 s.ins, .int .u32 s.exit, .int .i64 s.e, .int .i64 s.fuel, .int .i64 s.deep]
structure Rn (k : RK) (w : World) (vo : Value) (s : RS) : Prop where
 bx : w.ownsRow k.wp.heap.size 108 14 (rowOf k.br 1) 1 (s.cells k vo)
 mm : w.ownsRow k.wp.heap.size 5 1 (rowOf k.bm 65536) 65536 (s.mem.map (Value.int .u8))
 oo : w.ownsRow k.wp.heap.size 56 1 vo s.out.length (s.out.map (Value.int .u32))
 aa : w.ownsRow k.wp.heap.size 3 1 k.va k.at'.length (k.at'.map (Value.int .i64))
 md : MdV k.wp (.agg #[k.vg, k.vd, k.vp, .int .i64 k.m.main]) k.m
 ii : RdW k.wp k.vi k.inp
 below : Below k.wp.heap.size k.wp w
/-- two rows of different types lie in different blocks -/
theorem rows_neR {w : World} {B B' s s' n n' : Nat} {e e' : TypeId} {v v' : Value} {xs xs' : List Value} (h : w.ownsRow B e s v n xs) (h' : w.ownsRow B' e' s' v' n' xs') (he : e ≠ e') : v.ownBlock = none ∨ v.ownBlock ≠ v'.ownBlock := by
 obtain ⟨-, ⟨rfl, -⟩ | ⟨g, cap, cur, rfl, -, hg, -⟩⟩ := h
 ·exact .inl rfl
 ·obtain ⟨-, ⟨rfl, -⟩ | ⟨g', cap', cur', rfl, -, hg', -⟩⟩ := h'
  ·exact .inr (by simp [Value.ownBlock])
  ·refine .inr fun e2 => he ?_
   simp only [Value.ownBlock, Option.some.injEq] at e2
   subst e2
   rw [hg] at hg'
   simp at hg'
   exact hg'.2
/-- all but the run's own blocks stays -/
structure Kp (k : RK) (vo vo' : Value) (w w' : World) : Prop where
 size : w.heap.size ≤ w'.heap.size
 «to» : vo'.ownBlock = vo.ownBlock ∨ ∃ g, vo'.ownBlock = some g ∧ w.heap.size ≤ g
 keep : ∀ b, b < w.heap.size → b ≠ k.br → b ≠ k.bm → some b ≠ vo.ownBlock → w'.heap[b]? = w.heap[b]?
theorem Kp.refl (k : RK) (vo : Value) (w : World) : Kp k vo vo w w := ⟨Nat.le_refl _, .inl rfl, fun _ _ _ _ _ => rfl⟩
theorem Kp.trans {k : RK} {v1 v2 v3 : Value} {w1 w2 w3 : World} (h : Kp k v1 v2 w1 w2) (h' : Kp k v2 v3 w2 w3) : Kp k v1 v3 w1 w3 := by
 refine ⟨Nat.le_trans h.size h'.size, ?_, fun b hb h1 h2 h3 => ?_⟩
 ·rcases h'.to with e | ⟨g, e, hg⟩
  ·rw [e]; exact h.to
  ·exact .inr ⟨g, e, Nat.le_trans h.size hg⟩
 ·rw [h'.keep b (Nat.lt_of_lt_of_le hb h.size) h1 h2, h.keep b hb h1 h2 h3]
  rcases h.to with e | ⟨g, e, hg⟩
  ·rw [e]; exact h3
  ·rw [e]; intro e2; simp only [Option.some.injEq] at e2; omega
theorem Kp.of_below {k : RK} {vo : Value} {w w' : World} (h : Below w.heap.size w w') : Kp k vo vo w w' := ⟨h.size, .inl rfl, fun b hb _ _ _ => h.block b hb⟩
theorem Kp.cell {k : RK} {vo vo' : Value} {w w' : World} (h : Kp k vo vo' w w') {b o : Nat} {v : Value} (h1 : b ≠ k.br) (h2 : b ≠ k.bm) (h3 : some b ≠ vo.ownBlock) (hv : w.cell? ⟨b, o, none⟩ = some v) : w'.cell? ⟨b, o, none⟩ = some v :=
 (World.cell?_of_block (a := ⟨b, o, none⟩) (h.keep b (World.block_lt_of_cell? w _ hv) h1 h2 h3)).trans hv
section
variable {k : RK} {w w' : World} {vo : Value} {s : RS}
theorem Rn.grow (h : Rn k w vo s) (hb : Below w.heap.size w w') : Rn k w' vo s :=
 ⟨own_below h.bx hb, own_below h.mm hb, own_below h.oo hb, own_below h.aa hb, h.md, h.ii, h.below.trans (hb.mono h.below.size)⟩
theorem Rn.bmLt (h : Rn k w vo s) : k.wp.heap.size ≤ k.bm ∧ k.bm < w.heap.size := own_lt h.mm rfl
theorem Rn.ne (h : Rn k w vo s) : k.br ≠ k.bm := fun e => by
 rcases rows_neR h.bx h.mm (by decide) with h | h
 ·cases h
 ·exact h (congrArg some e)
theorem Rn.neO (h : Rn k w vo s) : some k.br ≠ vo.ownBlock := by
 rcases rows_neR h.bx h.oo (by decide) with h | h
 ·cases h
 ·exact h
theorem Rn.c (h : Rn k w vo s) (j : Nat) (hj : j < 14) : w.cell? ⟨k.br, j, none⟩ = (s.cells k vo)[j]? := h.bx.cellAt j (by omega)
end
end Go.Proofs.Ytmcddolkpcgddaa

set_option linter.all false
namespace Go.Proofs.Ytmcddolkpcgddaa
open Go.ChangeShapes Go.WideShapes Go.ChangeAt Go.RowKit
set_option maxHeartbeats 2000000
set_option linter.unusedVariables false
set_option maxRecDepth 20000

section
variable {k : RK} {w : World} {vo : Value} {s : RS}
/-- where so many bytes lie: a place that may be -/
def placeF (a size : Int) : Bool := decide (0 ≤ a - 268435456) && (decide (a - 268435456 ≤ 65536 - size) && decide ((a - 268435456) % size = 0))
/-- bytes, the least one first -/
def loadP (mem : List Int) (n : Nat) : Nat → Int
 | 0 => 0
 | i + 1 => loadP mem n i + mem.getD (n + i) 0 * 256 ^ i
def MemOk (mem : List Int) : Prop := ∀ j, 0 ≤ mem.getD j 0 ∧ mem.getD j 0 < 256
theorem loadP_bd (mem : List Int) (h : MemOk mem) (n : Nat) : ∀ i, 0 ≤ loadP mem n i ∧ loadP mem n i < 256 ^ i
 | 0 => by simp [loadP]
 | i + 1 => by
  have ih := loadP_bd mem h n i
  have hb := h (n + i)
  have hp : (0 : Int) < 256 ^ i := Int.pow_pos (by decide)
  unfold loadP
  generalize mem.getD (n + i) 0 = b at *
  generalize loadP mem n i = l at *
  rw [Int.pow_succ]
  generalize (256 : Int) ^ i = q at *
  refine ⟨Int.add_nonneg ih.1 (Int.mul_nonneg hb.1 (by omega)), ?_⟩
  have : b * q ≤ 255 * q := Int.mul_le_mul_of_nonneg_right (by omega) (by omega)
  omega
/-- bytes put, the least one first -/
def storeP (mem : List Int) (n : Nat) (v : Int) : Nat → List Int
 | 0 => mem
 | i + 1 => (storeP mem n v i).set (n + i) (v / 256 ^ i % 256)
end
end Go.Proofs.Ytmcddolkpcgddaa

set_option linter.all false
namespace Go.Proofs.Ytmcddolkpcgddaa
open Go.ChangeShapes Go.WideShapes Go.ChangeAt Go.RowKit
set_option maxHeartbeats 2000000
set_option linter.unusedVariables false
set_option maxRecDepth 20000

section
variable {k : RK} {w : World} {vo : Value} {s : RS}
end
end Go.Proofs.Ytmcddolkpcgddaa

set_option linter.all false
namespace Go.Proofs.Ytmcddolkpcgddaa
open Go.ChangeShapes Go.WideShapes Go.ChangeAt Go.RowKit
set_option maxHeartbeats 2000000
set_option maxRecDepth 20000

/-- a module and a procedure by value, as a procedure is looked at -/
def LkV (w : World) (v : Value) (m : Md) (p : Pr) : Prop :=
 ∃ vg vd vp nm vo vb, v = .agg #[vg, vd, vp, .int .i64 m.main, .string nm, .bool p.void, .int .i64 p.params, .int .i64 p.regs, vo, vb] ∧ RdSls w vg m.globs ∧ RdYs w vd m.data ∧ RdPrs w vp m.procs ∧ RdSls w vo p.objs ∧ RdBks w vb p.blks
theorem LkV.ext {w w' : World} {v : Value} {m : Md} {p : Pr} (h : LkV w v m p) (he : Ext w w') : LkV w' v m p := by
 obtain ⟨vg, vd, vp, nm, vo, vb, e, h1, h2, h3, h4, h5⟩ := h
 exact ⟨vg, vd, vp, nm, vo, vb, e, h1.ext he, h2.ext he, h3.ext he, h4.ext he, h5.ext he⟩
theorem RdSls.at {w : World} {a : Option Addr} {n c : Nat} {l : List Sl} (h : RdSls w (.slice a n c) l) : n = l.length ∧ ∀ k, k < l.length → ∃ b o nm, a = some ⟨b, o, none⟩ ∧ w.cell? ⟨b, o + k * 4, none⟩ = some (.string nm) ∧ w.cell? ⟨b, o + k * 4 + 1, none⟩ = some (.int .i64 (l.getD k default).size) ∧
  w.cell? ⟨b, o + k * 4 + 2, none⟩ = some (.int .i64 (l.getD k default).align) ∧ w.cell? ⟨b, o + k * 4 + 3, none⟩ = some (.int .i64 (l.getD k default).cell) := by
 obtain ⟨a', c', e, h1, h2, hc⟩ := h
 simp only [Value.slice.injEq] at e
 obtain ⟨rfl, rfl, rfl⟩ := e
 refine ⟨rfl, fun k hk => ?_⟩
 obtain ⟨b, o, rfl, ⟨nm, h0⟩, h1, h2, h3⟩ := hc k hk
 exact ⟨b, o, nm, rfl, by simpa using h0, h1, h2, h3⟩
theorem off_c (n : Int) (w : World) : Calls Try.prog 126 #[.int .i64 n] w fun e w' => e = .returned (.bool (offF n)) ∧ w = w' := by
 by_cases h1 : -32768 ≤ n
 ·have e1 : decide (-32768 ≤ n) = true := decide_eq_true h1
  have HF : Hid (offF n = decide (n ≤ 32768)) := by show _ = _; unfold offF; rw [e1]; rfl
  go_enter Try.func126, Try.ntmps126
  go_wp2
  go_ret
  exact ⟨ret_b HF.out.symm, rfl⟩
 ·have e1 : decide (-32768 ≤ n) = false := decide_eq_false h1
  have HF : Hid (offF n = false) := by show _ = _; unfold offF; rw [e1]; rfl
  go_enter Try.func126, Try.ntmps126
  go_wp2
  go_ret
  exact ⟨ret_b HF.out.symm, rfl⟩
theorem slots_c (l : List Sl) (v : Value) (w : World) (h : RdSls w v l) :
  Calls Try.prog 48 #[v] w fun e w' => e = .returned (.bool (l.all slotF)) ∧ Below w.heap.size w w' := by
 have h' := h
 obtain ⟨a, c, rfl, h1, h2, -⟩ := h'
 have HC := Lib.hid (RdSls.at h).2
 clear h
 unfold maxLen at h2
 go_enter Try.func48, Try.ntmps48
 go_wp2_with fail
 go_loopw [7] (fun i wr => ∃ k : Nat, k ≤ l.length ∧ i = .int .i64 (k : Int) ∧ Hid (Below w.heap.size w wr) ∧ Hid ((l.take k).all slotF = true)) (fun i _ => l.length - (intOf i).toNat)
 case atStart => exact ⟨0, Nat.zero_le _, rfl, Below.refl _ _, rfl⟩
 case round =>
  obtain ⟨k, hk, rfl, hB, HA⟩ := hrel
  by_cases hlt : k < l.length
  ·obtain ⟨b, o, nm, rfl, c0, c1, c2, c3⟩ := HC.out k hlt
   replace c0 := Ext.below hB.out _ _ c0
   replace c1 := Ext.below hB.out _ _ c1
   replace c2 := Ext.below hB.out _ _ c2
   replace c3 := Ext.below hB.out _ _ c3
   have hY := allG_take slotF l k hlt HA.out
   have hZ := allG_no slotF l k hlt
   generalize l.getD k default = s at *
   have hz := hB.out.size
   cases hs : slotF s
   ·have HF : Hid (l.all slotF = false) := hZ hs
    have hs' : ¬ (1 ≤ s.size ∧ s.size ≤ 32768 ∧ (s.align = 1 ∨ s.align = 4)) := by
     unfold slotF at hs
     intro h
     rw [decide_eq_true h.1, decide_eq_true h.2.1] at hs
     rcases h.2.2 with h | h <;> rw [h] at hs <;> simp at hs
    clear hY hZ hs
    have END : Hid (∀ o, (Ending.returned (.bool false) = .returned (.bool (l.all slotF))) ∧ Below w.heap.size w (wr.alloc o)) := fun o => ⟨ret_b HF.out.symm, hB.out.alloc hz o⟩
    by_cases h3 : 1 ≤ s.size
    ·have e1 : decide (s.size < 1) = false := decide_eq_false (by omega)
     by_cases h4 : s.size ≤ 32768
     ·have e2 : decide (32768 < s.size) = false := decide_eq_false (by omega)
      have e3 : (s.align != 1) = true := by rw [bne_iff_ne]; omega
      have e4 : (s.align != 4) = true := by rw [bne_iff_ne]; omega
      clear hs'
      go_wp2_with fail
      go_ret
      exact END.out _
     ·have e2 : decide (32768 < s.size) = true := decide_eq_true (by omega)
      clear hs'
      go_wp2_with fail
      go_ret
      exact END.out _
    ·have e1 : decide (s.size < 1) = true := decide_eq_true (by omega)
     clear hs'
     go_wp2_with fail
     go_ret
     exact END.out _
   ·have HA2 := Lib.hid (hY hs)
    have hs' : 1 ≤ s.size ∧ s.size ≤ 32768 ∧ (s.align = 1 ∨ s.align = 4) := by
     unfold slotF at hs
     simpa using hs
    clear hY hZ hs
    have e1 : decide (s.size < 1) = false := decide_eq_false (by omega)
    have e2 : decide (32768 < s.size) = false := decide_eq_false (by omega)
    obtain ⟨-, -, h5⟩ := hs'
    rcases h5 with h5 | h5
    ·have e3 : (s.align != 1) = false := by rw [h5]; rfl
     clear h5
     go_wp2_with fail
     go_roundw
     case rel => exact ⟨k + 1, by omega, by go_num, hB.out.alloc hz _, HA2⟩
     case measure => simp [intOf]; omega
    ·have e3 : (s.align != 1) = true := by rw [h5]; rfl
     have e4 : (s.align != 4) = false := by rw [h5]; rfl
     clear h5
     go_wp2_with fail
     go_roundw
     case rel => exact ⟨k + 1, by omega, by go_num, hB.out.alloc hz _, HA2⟩
     case measure => simp [intOf]; omega
  ·have HF : Hid (l.all slotF = true) := by have := HA.out; rwa [List.take_of_length_le (by omega)] at this
   go_wp2_with fail
   go_ret
   exact ⟨ret_b HF.out.symm, hB.out⟩
theorem reg_c (m : Md) (p : Pr) (v : Value) (r : Int) (should : Bool) (w : World) (h : LkV w v m p) :
  Calls Try.prog 125 #[v, .int .i64 r, .bool should] w fun e w' => e = .returned (.bool (regF p r should)) ∧ Below w.heap.size w w' := by
 obtain ⟨vg, vd, vp, nm, vo, vb, rfl, ⟨ag, cg, rfl, -⟩, ⟨ad, cd, rfl, -⟩, ⟨ap, cp, rfl, -⟩, ⟨ao, co, rfl, -⟩, ⟨ab, cb, rfl, -⟩⟩ := h
 have HF : Hid (regF p r should = if should = true then decide (0 ≤ r) && decide (r < p.regs) else r == -1) := rfl
 cases should
 ·have HF2 : Hid (regF p r false = (r == -1)) := HF.out
  go_enter Try.func125, Try.ntmps125
  go_wp2
  go_ret
  exact ⟨ret_b HF2.out.symm, below_alloc _ _⟩
 ·by_cases h0 : 0 ≤ r
  ·have e0 : decide (0 ≤ r) = true := decide_eq_true h0
   have HF2 : Hid (regF p r true = decide (r < p.regs)) := by show _ = _; rw [HF.out, if_pos rfl, e0]; rfl
   go_enter Try.func125, Try.ntmps125
   go_wp2
   go_ret
   exact ⟨ret_b HF2.out.symm, below_alloc _ _⟩
  ·have e0 : decide (0 ≤ r) = false := decide_eq_false h0
   have HF2 : Hid (regF p r true = false) := by show _ = _; rw [HF.out, if_pos rfl, e0]; rfl
   go_enter Try.func125, Try.ntmps125
   go_wp2
   go_ret
   exact ⟨ret_b HF2.out.symm, below_alloc _ _⟩
theorem block_c (m : Md) (p : Pr) (v : Value) (n : Int) (w : World) (h : LkV w v m p) :
  Calls Try.prog 127 #[v, .int .i64 n] w fun e w' => e = .returned (.bool (blockF p n)) ∧ Below w.heap.size w w' := by
 obtain ⟨vg, vd, vp, nm, vo, vb, rfl, ⟨ag, cg, rfl, -⟩, ⟨ad, cd, rfl, -⟩, ⟨ap, cp, rfl, -⟩, ⟨ao, co, rfl, -⟩, ⟨ab, cb, rfl, -⟩⟩ := h
 by_cases h0 : 0 ≤ n
 ·have e0 : decide (0 ≤ n) = true := decide_eq_true h0
  have HF2 : Hid (blockF p n = decide (n < p.blks.length)) := by show _ = _; unfold blockF; rw [e0]; rfl
  go_enter Try.func127, Try.ntmps127
  go_wp2
  go_ret
  exact ⟨ret_b HF2.out.symm, below_alloc _ _⟩
 ·have e0 : decide (0 ≤ n) = false := decide_eq_false h0
  have HF2 : Hid (blockF p n = false) := by show _ = _; unfold blockF; rw [e0]; rfl
  go_enter Try.func127, Try.ntmps127
  go_wp2
  go_ret
  exact ⟨ret_b HF2.out.symm, below_alloc _ _⟩
end Go.Proofs.Ytmcddolkpcgddaa

set_option linter.all false
namespace Go.Proofs.Ytmcddolkpcgddaa
open Go.ChangeShapes Go.WideShapes Go.ChangeAt Go.RowKit
set_option maxHeartbeats 2000000
set_option linter.unusedVariables false
set_option maxRecDepth 20000

/-- the least multiple of 4 that is no less -/
def up4 (n : Int) : Int := (n + 3) / 4 * 4
/-- where the first k slots end -/
def slE (l : List Sl) : Nat → Int
 | 0 => 0
 | k + 1 => up4 (slE l k + (l.getD k default).size)
def slL (l : List Sl) (k : Nat) : List Int := (List.range k).map (slE l)
theorem slE_bd (l : List Sl) (h : ∀ i, i < l.length → 0 ≤ (l.getD i default).size ∧ (l.getD i default).size ≤ 40000) : ∀ k, k ≤ l.length → 0 ≤ slE l k ∧ slE l k ≤ 50000 * (k : Int)
 | 0, _ => by simp [slE]
 | k + 1, hk => by
  have ih := slE_bd l h k (by omega)
  have hs := h k (by omega)
  unfold slE up4
  omega
end Go.Proofs.Ytmcddolkpcgddaa

set_option linter.all false
namespace Go.Proofs.Ytmcddolkpcgddaa
open Go.ChangeShapes Go.WideShapes Go.ChangeAt Go.RowKit
set_option maxHeartbeats 4000000
set_option linter.unusedVariables false
set_option maxRecDepth 20000

def bitF (b : Bool) : Int := if b = true then 1 else 0
/-- a function of words -/
def fnF (fn a b : Int) : Int :=
 if fn = 1 then (a + b) % 4294967296 else if fn = 2 then (a - b) % 4294967296 else if fn = 3 then (a * b) % 4294967296 else if fn = 4 then divS a b else if fn = 5 then remS a b
 else if fn = 6 then bits .and .u32 a b else if fn = 7 then bits .or .u32 a b else if fn = 8 then bits .xor .u32 a b else if fn = 9 then shl32 a b else if fn = 10 then sar32 a b
 else if fn = 11 then bitF (a == b) else if fn = 12 then bitF (a != b) else if fn = 13 then lessS a b else if fn = 14 then lessS b a else if fn = 15 then 1 - lessS b a else if fn = 16 then 1 - lessS a b
 else if fn = 17 then (-a) % 4294967296 else if fn = 18 then bits .xor .u32 IntKind.u32.max a else if fn = 19 then bitF (a == 0) else 0
end Go.Proofs.Ytmcddolkpcgddaa

set_option linter.all false
namespace Go.Proofs.Ytmcddolkpcgddaa
set_option linter.unusedVariables false

/-- what a run has made -/
structure Oc where
 mem : List Int
 out : List Int
 ins : Int
 exit : Int
 e : Int
/-- a call that stands -/
structure Fr where
 n : Nat
 regs : List Int
 low : Int
 b : Nat
 i : Nat
structure Ms where
 stk : List Fr
 halt : Bool
 s : Oc
def RS.oc (s : RS) : Oc := ⟨s.mem, s.out, s.ins, s.exit, s.e⟩
def rg (regs : List Int) (n : Int) : Int := regs.getD n.toNat 0
def longM (p : Pr) : Int := slE p.objs p.objs.length
def enM (m : Md) : Int := 4096 + slE m.globs m.globs.length
def pk (m : Md) (n : Nat) : Pr := m.procs.getD n default
def addrM (regs : List Int) (i : In) : Int := (rg regs i.a + i.off) % 4294967296
/-- an instruction that is no call -/
def insM (m : Md) (inp : List Int) (p : Pr) (low : Int) (i : In) (regs : List Int) (s : Oc) : Option (List Int × Oc) :=
 if i.op = 1 then some (regs.set i.d.toNat i.num, s)
 else if i.op = 2 then some (regs.set i.d.toNat (rg regs i.a), s)
 else if i.op = 3 then some (regs.set i.d.toNat (fnF i.fn (rg regs i.a) (rg regs i.b)), s)
 else if i.op = 4 then some (regs.set i.d.toNat (fnF i.fn (rg regs i.a) 0), s)
 else if i.op = 5 then (if placeF (addrM regs i) i.size = true then some (regs.set i.d.toNat (loadP s.mem (addrM regs i - 268435456).toNat i.size.toNat), s) else none)
 else if i.op = 6 then (if placeF (addrM regs i) i.size = true then some (regs, { s with mem := storeP s.mem (addrM regs i - 268435456).toNat (rg regs i.b) i.size.toNat }) else none)
 else if i.op = 7 then some (regs.set i.d.toNat ((268435456 + low + slE p.objs i.obj.toNat + i.off) % 4294967296), s)
 else if i.op = 8 then some (regs.set i.d.toNat ((268435456 + (4096 + slE m.globs i.obj.toNat) + i.off) % 4294967296), s)
 else if i.op = 10 then some (regs, { s with out := s.out ++ [rg regs i.a] })
 else if i.op = 11 then some (regs.set i.d.toNat (if s.ins + 1 ≤ (inp.length : Int) then inp.getD s.ins.toNat 0 else 0), { s with ins := s.ins + 1 })
 else some (regs, s)
/-- a call begins -/
def enterM (m : Md) (K : List Fr) (n : Nat) (args : List Int) (top : Int) (s : Oc) : Ms :=
 if top - longM (pk m n) < enM m ∨ 5000 ≤ K.length then ⟨K, true, { s with e := 8 }⟩
 else ⟨⟨n, args ++ List.replicate ((pk m n).regs.toNat - args.length) 0, top - longM (pk m n), 0, 0⟩ :: K, false, s⟩
/-- a call ends -/
def backM (m : Md) (K : List Fr) (v : Int) (s : Oc) : Ms :=
 match K with
 | [] => ⟨[], false, { s with exit := v % 256 }⟩
 | c :: K' =>
  let d := ((((pk m c.n).blks.getD c.b default).ins).getD (c.i - 1) default).d
  ⟨(if d ≠ -1 then { c with regs := c.regs.set d.toNat v } else c) :: K', false, s⟩
def stepM (m : Md) (inp : List Int) (M : Ms) : Ms :=
 match M.stk with
 | [] => M
 | fr :: K =>
  let b := (pk m fr.n).blks.getD fr.b default
  if fr.i = b.ins.length then
   if b.fin = 3 then backM m K (if b.a ≠ -1 then rg fr.regs b.a else 0) M.s
   else ⟨{ fr with b := (if b.fin = 2 ∧ rg fr.regs b.a = 0 then b.els else b.to).toNat, i := 0 } :: K, false, M.s⟩
  else
   let i := b.ins.getD fr.i default
   if i.op = 9 then enterM m ({ fr with i := fr.i + 1 } :: K) i.obj.toNat (i.args.map (rg fr.regs)) fr.low M.s
   else match insM m inp (pk m fr.n) fr.low i fr.regs M.s with
    | none => ⟨{ fr with i := fr.i + 1 } :: K, true, { M.s with e := 12 }⟩
    | some (regs, s) => ⟨{ fr with regs := regs, i := fr.i + 1 } :: K, false, s⟩
def Ms.fin (M : Ms) : Bool := M.halt || M.stk.isEmpty
def runM (m : Md) (inp : List Int) : Nat → Ms → Oc
 | 0, M => if M.fin = true then M.s else { M.s with e := 16 }
 | f + 1, M => if M.fin = true then M.s else runM m inp f (stepM m inp M)
theorem bitF_bd (b : Bool) : 0 ≤ bitF b ∧ bitF b < 4294967296 := by cases b <;> decide
theorem fnF_bd (fn a b : Int) (h : 0 ≤ a) (h' : a < 4294967296) (h1 : 0 ≤ b) (h1' : b < 4294967296) : 0 ≤ fnF fn a b ∧ fnF fn a b < 4294967296 := by
 have l1 : 0 ≤ lessS a b ∧ lessS a b ≤ 1 := by unfold lessS; split <;> simp
 have l2 : 0 ≤ lessS b a ∧ lessS b a ≤ 1 := by unfold lessS; split <;> simp
 have M : ∀ x : Int, 0 ≤ x % 4294967296 ∧ x % 4294967296 < 4294967296 := fun x => ⟨Int.emod_nonneg _ (by decide), Int.emod_lt_of_pos _ (by decide)⟩
 have d4 : 0 ≤ divS a b ∧ divS a b < 4294967296 := by unfold divS; split; exact ⟨by decide, by decide⟩; exact M _
 have d5 : 0 ≤ remS a b ∧ remS a b < 4294967296 := by unfold remS; split; exact ⟨h, h'⟩; exact M _
 have d9 : 0 ≤ shl32 a b ∧ shl32 a b < 4294967296 := by unfold shl32; exact M _
 have d10 : 0 ≤ sar32 a b ∧ sar32 a b < 4294967296 := by unfold sar32; exact M _
 have hB : 0 ≤ bits .and .u32 a b ∧ bits .and .u32 a b < 4294967296 ∧ 0 ≤ bits .or .u32 a b ∧ bits .or .u32 a b < 4294967296 ∧ 0 ≤ bits .xor .u32 a b ∧ bits .xor .u32 a b < 4294967296 ∧ 0 ≤ bits .xor .u32 IntKind.u32.max a ∧ bits .xor .u32 IntKind.u32.max a < 4294967296 := by
  simp only [bits, IntKind.wrap_u32]
  exact ⟨(M _).1, (M _).2, (M _).1, (M _).2, (M _).1, (M _).2, (M _).1, (M _).2⟩
 obtain ⟨b1, b2, b3, b4, b5, b6, b7, b8⟩ := hB
 unfold fnF
 generalize divS a b = x1 at *
 generalize remS a b = x2 at *
 generalize shl32 a b = x3 at *
 generalize sar32 a b = x4 at *
 generalize bits .and .u32 a b = x5 at *
 generalize bits .or .u32 a b = x6 at *
 generalize bits .xor .u32 a b = x7 at *
 generalize bits .xor .u32 IntKind.u32.max a = x8 at *
 generalize lessS a b = x9 at *
 generalize lessS b a = x10 at *
 have P : ∀ (q : Prop) [Decidable q] (x y : Int), (0 ≤ x ∧ x < 4294967296) → (0 ≤ y ∧ y < 4294967296) → 0 ≤ (if q then x else y) ∧ (if q then x else y) < 4294967296 := fun q _ x y hx hy => by split <;> assumption
 repeat' apply P
 all_goals first
  | exact M _
  | exact bitF_bd _
  | (constructor <;> first | assumption | omega)
/-- data put at a place -/
def putL (mem : List Int) (at' : Nat) (d : List Int) : List Int := mem.take at' ++ (d ++ mem.drop (at' + d.length))
def mem0 (m : Md) : Nat → List Int
 | 0 => List.replicate 65536 0
 | k + 1 => putL (mem0 m k) (4096 + slE m.globs k).toNat (m.data.getD k [])
def playM (m : Md) (inp : List Int) (fuel : Nat) : Oc :=
 if okM m = false then ⟨[], [], 0, 0, 3⟩
 else if 65536 < enM m then ⟨[], [], 0, 0, 8⟩
 else runM m inp fuel (enterM m [] m.main.toNat [] 65536 ⟨mem0 m m.globs.length, [], 0, 0, 0⟩)
end Go.Proofs.Ytmcddolkpcgddaa
