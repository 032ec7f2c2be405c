/-
 Contract of the statements' ins: are an instruction's numbers such as statements go through?; Contract of flow's Reach.; Contract of flow's Reach.; How the reference's walk lies in memory, and what its stores and appends make of it.; The marking of live registers finds what going all ways on finds (plain lists, no program).
-/
import Derived.Test.YtkhfddodmjnecaaZAliasMeets02
import Derived.Test.YtkhfddodmjnecaaZAliasMeets01
import Derived.Test.YtkhfddodmjnecaaZAliasMeets06
import Derived.BigQuiet

set_option linter.all false
namespace Go.Proofs.Ytkhfddodmjnecaa
open Go.ChangeShapes Go.WideShapes Go.ChangeAt Go.RowKit
set_option maxHeartbeats 2000000
set_option maxRecDepth 20000

def okN (x : Int) : Bool := !(decide (1099511627776 < x) || decide (x < -1099511627776))
def numsI (i : In) : List Int := [i.op, i.d, i.a, i.b, i.fn, i.obj, i.off, i.size]
def insF (i : In) : Bool := (numsI i).all okN && (i.args.all okN && decide (i.args.length ≤ 12))
theorem all_take (l : List Int) (k : Nat) (h : k < l.length) (h1 : (l.take k).all okN = true) (h2 : okN (l.getD k 0) = true) : (l.take (k + 1)).all okN = true := by
 rw [take_snoc l k h, List.all_append, h1]; simp at h2 ⊢; exact h2
theorem all_no (l : List Int) (k : Nat) (h : k < l.length) (h2 : okN (l.getD k 0) = false) : l.all okN = false := by
 rw [List.all_eq_false]
 exact ⟨l.getD k 0, by simp [List.getD, h], by rw [h2]; decide⟩
theorem okN_no {x : Int} (h : okN x = false) : 1099511627776 < x ∨ (¬ 1099511627776 < x ∧ x < -1099511627776) := by
 unfold okN at h; simp at h; omega
theorem okN_yes {x : Int} (h : okN x = true) : ¬ 1099511627776 < x ∧ ¬ x < -1099511627776 := by
 unfold okN at h; simp at h; omega
theorem ins_c (i : In) (v : Value) (w : World) (hv : InV w v i) (hn : i.args.length ≤ 9223372036854775807) :
  Calls Try.prog 88 #[v] w fun e w' => e = .returned (.bool (insF i)) ∧ Below w.heap.size w w' := by
 obtain ⟨va, rfl, a, c, rfl, hc1, hc2, hcell⟩ := hv
 have HC := Lib.hid hcell
 clear hcell
 have HI : Hid (insF i = ((numsI i).all okN && (i.args.all okN && decide (i.args.length ≤ 12)))) := rfl
 have hnl : (numsI i).length = 8 := rfl
 have HN : Hid (∀ (w1 : World), OwnI (w1.alloc (.cells #[.int .i64 i.op, .int .i64 i.d, .int .i64 i.a, .int .i64 i.b, .int .i64 i.fn, .int .i64 i.obj, .int .i64 i.off, .int .i64 i.size] 3)) 0 (.slice (some ⟨w1.heap.size, 0, none⟩) 8 8) (numsI i)) := fun w1 => OwnI.mk w1 0 (numsI i) (Nat.zero_le _) (by rw [hnl]; simp [maxLen])
 have hB : Hid (∀ o o', Below w.heap.size w ((w.alloc o).alloc o')) := fun o o' => (below_alloc w o).trans ((below_alloc _ o').mono (by simp))
 go_enter Try.func88, Try.ntmps88
 go_wp2_with fail
 go_loopw [4] (fun k wr => ∃ n : Nat, n ≤ 8 ∧ k = .int .i64 (n : Int) ∧ wr = ((w.alloc (.cells #[.int .i64 i.op, .int .i64 i.d, .int .i64 i.a, .int .i64 i.b, .int .i64 i.fn, .int .i64 i.obj, .int .i64 i.off, .int .i64 i.size, .int .u32 i.num, .slice a i.args.length c, .bool i.log] 39)).alloc (.cells #[.int .i64 i.op, .int .i64 i.d, .int .i64 i.a, .int .i64 i.b, .int .i64 i.fn, .int .i64 i.obj, .int .i64 i.off, .int .i64 i.size] 3)) ∧ Hid (((numsI i).take n).all okN = true)) (fun k _ => 8 - (intOf k).toNat)
 case atStart => exact ⟨0, Nat.zero_le _, rfl, rfl, rfl⟩
 case round =>
  obtain ⟨n, hn8, rfl, hwr, HA⟩ := hrel
  have hBr : Hid (Below w.heap.size w wr) := by rw [hwr]; exact hB.out _ _
  have HNr : OwnI wr 0 (.slice (some ⟨w.heap.size + 1, 0, none⟩) 8 8) (numsI i) := by
   rw [hwr]
   have := HN.out (w.alloc (.cells #[.int .i64 i.op, .int .i64 i.d, .int .i64 i.a, .int .i64 i.b, .int .i64 i.fn, .int .i64 i.obj, .int .i64 i.off, .int .i64 i.size, .int .u32 i.num, .slice a i.args.length c, .bool i.log] 39))
   simpa using this
  have q9 : wr.cell? ⟨w.heap.size, 9, none⟩ = some (.slice a i.args.length c) := by rw [hwr]; simp
  by_cases hlt : n < 8
  ·have hcn := HNr.cellAt.2.2.2.2.1 n hlt
   have hY := all_take (numsI i) n (by rw [hnl]; exact hlt) HA.out
   have hZ := all_no (numsI i) n (by rw [hnl]; exact hlt)
   generalize (numsI i).getD n 0 = x at *
   cases hx : okN x
   ·have HF : Hid (insF i = false) := by show _ = _; rw [HI.out, hZ hx]; rfl
    have hx' := okN_no hx
    clear hY hZ hx HNr hwr
    rcases hx' with hx' | ⟨hx', hx2⟩
    ·have e1 : decide (1099511627776 < x) = true := decide_eq_true hx'
     go_wp2_with fail
     go_ret
     exact ⟨ret_b HF.out.symm, hBr.out⟩
    ·have e1 : decide (1099511627776 < x) = false := decide_eq_false hx'
     have e2 : decide (x < -1099511627776) = true := decide_eq_true hx2
     go_wp2_with fail
     go_ret
     exact ⟨ret_b HF.out.symm, hBr.out⟩
   ·have HA2 := Lib.hid (hY hx)
    obtain ⟨hx1, hx2⟩ := okN_yes hx
    have e1 : decide (1099511627776 < x) = false := decide_eq_false hx1
    have e2 : decide (x < -1099511627776) = false := decide_eq_false hx2
    clear hY hZ hx HNr
    have hwr2 := Lib.hid hwr
    clear hwr
    go_wp2_with fail
    go_roundw
    case rel => exact ⟨n + 1, by omega, by go_num, hwr2.out, HA2⟩
    case measure => simp [intOf]; omega
  ·have HA3 : Hid ((numsI i).all okN = true) := by have := HA.out; rwa [List.take_of_length_le (by rw [hnl]; omega)] at this
   clear HNr hwr HA
   go_wp2_with fail
   go_loopw [5] (fun k wr => ∃ n : Nat, n ≤ i.args.length ∧ k = .int .i64 (n : Int) ∧ Hid (Below w.heap.size w wr) ∧ wr.cell? ⟨w.heap.size, 9, none⟩ = some (.slice a i.args.length c) ∧ Hid ((i.args.take n).all okN = true)) (fun k _ => i.args.length - (intOf k).toNat)
   case atStart => exact ⟨0, Nat.zero_le _, rfl, hBr, q9, rfl⟩
   case round =>
    clear q9
    obtain ⟨n, hnn, rfl, hBr, q9, HA⟩ := hrel
    by_cases hlt : n < i.args.length
    ·obtain ⟨b, o, rfl, hc⟩ := HC.out n hlt
     simp only [Nat.mul_one, Nat.add_zero] at hc
     replace hc := Ext.below hBr.out _ _ hc
     have hY := all_take i.args n hlt HA.out
     have hZ := all_no i.args n hlt
     generalize i.args.getD n 0 = x at *
     cases hx : okN x
     ·have HF : Hid (insF i = false) := by show _ = _; rw [HI.out, HA3.out, hZ hx]; rfl
      have hx' := okN_no hx
      clear hY hZ hx
      rcases hx' with hx' | ⟨hx', hx2⟩
      ·have e1 : decide (1099511627776 < x) = true := decide_eq_true hx'
       go_wp2_with fail
       go_ret
       exact ⟨ret_b HF.out.symm, hBr.out⟩
      ·have e1 : decide (1099511627776 < x) = false := decide_eq_false hx'
       have e2 : decide (x < -1099511627776) = true := decide_eq_true hx2
       go_wp2_with fail
       go_ret
       exact ⟨ret_b HF.out.symm, hBr.out⟩
     ·have HA2 := Lib.hid (hY hx)
      obtain ⟨hx1, hx2⟩ := okN_yes hx
      have e1 : decide (1099511627776 < x) = false := decide_eq_false hx1
      have e2 : decide (x < -1099511627776) = false := decide_eq_false hx2
      clear hY hZ hx
      go_wp2_with fail
      go_roundw
      case rel => exact ⟨n + 1, by omega, by go_num, hBr, q9, HA2⟩
      case measure => simp [intOf]; omega
    ·have HA4 : Hid (i.args.all okN = true) := by have := HA.out; rwa [List.take_of_length_le (by omega)] at this
     have HF : Hid (insF i = decide ((i.args.length : Int) ≤ 12)) := by show _ = _; rw [HI.out, HA3.out, HA4.out]; simp; omega
     go_wp2_with fail
     go_ret
     exact ⟨ret_b HF.out.symm, hBr.out⟩
end Go.Proofs.Ytkhfddodmjnecaa

set_option linter.all false
namespace Go.Proofs.Ytkhfddodmjnecaa
open Go.ChangeShapes Go.WideShapes Go.ChangeAt Go.RowKit
set_option maxHeartbeats 2000000
set_option maxRecDepth 20000

end Go.Proofs.Ytkhfddodmjnecaa

set_option linter.all false
namespace Go.Proofs.Ytkhfddodmjnecaa
open Go.ChangeShapes Go.WideShapes Go.ChangeAt Go.RowKit
set_option maxHeartbeats 2000000
set_option maxRecDepth 20000

end Go.Proofs.Ytkhfddodmjnecaa

set_option linter.all false
namespace Go.Proofs.Ytkhfddodmjnecaa
open Go.ChangeShapes Go.WideShapes Go.ChangeAt Go.RowKit
set_option maxHeartbeats 400000
set_option maxRecDepth 10000

/-- what lies in none of the walk's blocks stays, and its rows are those of before or new -/
structure FrR (w w' : World) (bw bs : Nat) (ov bv ov' bv' : Value) : Prop where
 os : w'.os = w.os
 tape : w'.tape = w.tape
 output : w'.output = w.output
 size : w.heap.size ≤ w'.heap.size
 block : ∀ k, k < w.heap.size → k ≠ bw → k ≠ bs → ov.ownBlock ≠ some k → bv.ownBlock ≠ some k → w'.heap[k]? = w.heap[k]?
 no : NewB w ov ov'
 nb : NewB w bv bv'
theorem FrR.refl (w : World) (bw bs : Nat) (ov bv : Value) : FrR w w bw bs ov bv ov bv := ⟨rfl, rfl, rfl, Nat.le_refl _, fun _ _ _ _ _ _ => rfl, .refl _ _, .refl _ _⟩
theorem newB_far {w : World} {v v' : Value} {k : Nat} (h : NewB w v v') (hk : k < w.heap.size) (hv : v.ownBlock ≠ some k) : v'.ownBlock ≠ some k := by
 rcases h with e | ⟨j, hj, e⟩
 ·rw [e]; exact hv
 ·rw [e]; intro e2; simp only [Option.some.injEq] at e2; omega
theorem NewB.trans {w w1 : World} {v v1 v2 : Value} (h : NewB w v v1) (h1 : NewB w1 v1 v2) (hs : w.heap.size ≤ w1.heap.size) : NewB w v v2 := by
 rcases h1 with e | ⟨j, hj, e⟩
 ·rcases h with e0 | ⟨k, hk, e0⟩
  ·exact .inl (e.trans e0)
  ·exact .inr ⟨k, hk, e.trans e0⟩
 ·exact .inr ⟨j, Nat.le_trans hs hj, e⟩
theorem FrR.trans {a b c : World} {bw bs : Nat} {o1 b1 o2 b2 o3 b3 : Value} (h : FrR a b bw bs o1 b1 o2 b2) (h' : FrR b c bw bs o2 b2 o3 b3) : FrR a c bw bs o1 b1 o3 b3 :=
 ⟨h'.os.trans h.os, h'.tape.trans h.tape, h'.output.trans h.output, Nat.le_trans h.size h'.size,
   fun k hk k1 k2 k3 k4 => (h'.block k (Nat.lt_of_lt_of_le hk h.size) k1 k2 (newB_far h.no hk k3) (newB_far h.nb hk k4)).trans (h.block k hk k1 k2 k3 k4),
   h.no.trans h'.no h.size, h.nb.trans h'.nb h.size⟩
section
variable {w : World} {bw bs B n : Nat} {s : S3} {ov bv : Value}
end
end Go.Proofs.Ytkhfddodmjnecaa

set_option linter.all false
namespace Go.Proofs.Ytkhfddodmjnecaa
open Go Go.RowKit
/-- live at the start of a block, by all ways on -/
def LvS (p : Pr) (r : Int) (n : Nat) : Prop :=
 ∀ S : Nat → Prop, (∀ n, withinB (p.blks.getD n default) 0 r = 1 → S n) → (∀ n t, withinB (p.blks.getD n default) 0 r = 0 → t ∈ outsP p n → S t.toNat → S n) → S n
theorem LvS.on {p : Pr} {r : Int} (n : Nat) (t : Int) (h : withinB (p.blks.getD n default) 0 r = 0) (ht : t ∈ outsP p n) (h' : LvS p r t.toNat) : LvS p r n := fun S h1 h2 => h2 n t h ht (h' S h1 h2)
theorem getD_setb (l : List Bool) (i j : Nat) (h : i < l.length) : (l.set i true).getD j false = if j = i then true else l.getD j false := by
 simp only [List.getD, List.getElem?_set]
 by_cases e : i = j
 ·subst e; simp [h]
 ·simp [e, Ne.symm e]
end Go.Proofs.Ytkhfddodmjnecaa
