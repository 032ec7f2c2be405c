/-
 Contracts of flow's Order, Back and Reach.; Whether a register is live at a place of a block, by going all ways on; how this search lies in memory.; Contract of the reference's Live.; Contract of the statements' same.; Plain arithmetic of 32-bit words: signed readings, products by halves, truncated and floored division.; Contracts of the functions of word and of its reference: each returns the number that the plain arithmetic of W1 says, and leaves the world as it is. Conditions: each word lies between 0 and 2^32 - 1.; The game of a drawn region, where lengths and greatest numbers may be taken first too.; Contract of the statements' ins: are an instruction's numbers such as statements go through?; Contract of flow's Reach.; Contract of flow's Reach.; How the reference's walk lies in memory, and what its stores and appends make of it.; The marking of live registers finds what going all ways on finds (plain lists, no program).
-/
import Derived.Test.YtmcddolkpcgddaaZHazardMarks07
import Derived.RowKit
import Derived.Test.YtmcddolkpcgddaaRows
import Derived.WalkKit
import Derived.ProofKit
import Derived.OpenShut
import Derived.Outline
import Derived.Lib.Hide
import Derived.Deep.QuietTactic
import Derived.BigQuiet
import Derived.Test.YtmcddolkpcgddaaZHazardMarks03
import Derived.Test.YtmcddolkpcgddaaZHazardMarks01
import Derived.Test.YtmcddolkpcgddaaZHazardMarks02

set_option linter.all false
namespace Go.Proofs.Ytmcddolkpcgddaa
open Go.ChangeShapes Go.WideShapes Go.ChangeAt Go.RowKit
set_option maxHeartbeats 2000000
set_option maxRecDepth 20000

theorem ownsRow_base {w : World} {B B' n s : Nat} {e : TypeId} {v : Value} {xs : List Value} (h : w.ownsRow B e s v n xs) (hB : B' ≤ B) : w.ownsRow B' e s v n xs := by
 obtain ⟨h1, h2 | ⟨g, cap, cur, h3, hb, r⟩⟩ := h
 ·exact ⟨h1, .inl h2⟩
 ·exact ⟨h1, .inr ⟨g, cap, cur, h3, Nat.le_trans hB hb, r⟩⟩
theorem order_c (p : Pr) (V : Value) (w : World) (hP : PrV w V p) (hlen : p.blks.length ≤ 1000000) :
  Calls Try.prog 67 #[V] w (RetI w (wkD p).ord.reverse) := by
 have EW : Hid (∀ o, Calls Try.prog 96 #[V] (w.alloc o) (WkR (w.alloc o) p)) := fun o => walked_c p V _ (hP.ext (Ext.alloc w o)) hlen
 obtain ⟨nm, vo, vb, rfl, -, a, c, rfl, -, -, -⟩ := hP
 go_enter Try.func67, Try.ntmps67
 go_wp2_with (go_at_call 96; refine (EW.out _).mono ?_; rintro e w1 ⟨bw, bs, B, ov, bv, tv, hd, s, rfl, M, ho, hb, hr⟩; have M := Lib.hid M; have q7 : w1.cell? ⟨bw, 7, none⟩ = some ov := (M.out.wk.cellAt 7 (by decide)).trans (by rw [List.getElem?_append_right (by rw [M.out.hd6]; decide), M.out.hd6]; rfl))
 go_ret
 refine ⟨_, rfl, ?_, ?_⟩
 ·rw [← ho]
  exact ownsRow_base M.out.ord (Nat.le_trans (by simp) M.out.pB)
 ·exact (below_alloc w _).trans (M.out.below.mono (by simp))
end Go.Proofs.Ytmcddolkpcgddaa

set_option linter.all false
namespace Go.Proofs.Ytmcddolkpcgddaa
open Go.ChangeShapes Go.WideShapes Go.ChangeAt Go.RowKit
set_option maxHeartbeats 2000000
set_option maxRecDepth 20000

/-- the search, with the blocks that are still to be gone into -/
def lvQ (p : Pr) (r : Int) : Nat → List Bool → List Int → Bool
 | 0, _, _ => false
 | _ + 1, _, [] => false
 | f + 1, seen, b :: q =>
  if seen.getD b.toNat false = true then lvQ p r f seen q
  else if withinB (p.blks.getD b.toNat default) 0 r = 1 then true
  else if withinB (p.blks.getD b.toNat default) 0 r = 0 then lvQ p r f (seen.set b.toNat true) (q ++ outsP p b.toNat)
  else lvQ p r f (seen.set b.toNat true) q
/-- is a register live at a place of a block? -/
def liveP (p : Pr) (n k : Nat) (r : Int) : Bool :=
 if 0 < withinB (p.blks.getD n default) k r then decide (withinB (p.blks.getD n default) k r = 1) else lvQ p r (2 + 3 * p.blks.length) (List.replicate p.blks.length false) (outsP p n)
/-- how far the search has come -/
structure LvQ (p : Pr) (r : Int) (R : Bool) (f : Nat) (seen : List Bool) (todo : List Int) (k : Nat) : Prop where
 res : lvQ p r f seen (todo.drop k) = R
 le : k ≤ todo.length
 len : seen.length = p.blks.length
 fuel : todo.length - k + 3 * seen.count false ≤ f
 room : todo.length + 2 * seen.count false ≤ 2 + 2 * p.blks.length
 ins : ∀ t ∈ todo, 0 ≤ t ∧ t < p.blks.length
theorem LvQ.start (p : Pr) (r : Int) (n : Nat) : LvQ p r (lvQ p r (2 + 3 * p.blks.length) (List.replicate p.blks.length false) (outsP p n)) (2 + 3 * p.blks.length) (List.replicate p.blks.length false) (outsP p n) 0 := by
 have := outsP_len p n
 refine ⟨rfl, by omega, by simp, ?_, ?_, fun t ht => outsP_mem ht⟩
 ·simp [List.count_replicate_self]; omega
 ·simp [List.count_replicate_self]; omega
section
variable {p : Pr} {r : Int} {R : Bool} {f : Nat} {seen : List Bool} {todo : List Int} {k : Nat}
theorem LvQ.done (h : LvQ p r R f seen todo k) (hk : ¬ k < todo.length) : R = false := by
 have h1 := h.res
 rw [List.drop_eq_nil_of_le (by omega)] at h1
 rw [← h1]
 cases f <;> rfl
theorem LvQ.cons (h : LvQ p r R f seen todo k) (hk : k < todo.length) : ∃ f', f = f' + 1 ∧ (0 ≤ todo.getD k 0 ∧ todo.getD k 0 < p.blks.length) ∧ lvQ p r (f' + 1) seen (todo.getD k 0 :: todo.drop (k + 1)) = R := by
 have h1 := h.fuel
 refine ⟨f - 1, by omega, h.ins _ (by simp [List.getD, hk]), ?_⟩
 have h2 := h.res
 rw [List.drop_eq_getElem_cons hk] at h2
 rw [show f - 1 + 1 = f by omega]
 simpa [List.getD, hk] using h2
theorem LvQ.old (h : LvQ p r R f seen todo k) (hk : k < todo.length) (hs : seen.getD (todo.getD k 0).toNat false = true) : ∃ f', f' < f ∧ LvQ p r R f' seen todo (k + 1) := by
 obtain ⟨f', rfl, -, h1⟩ := h.cons hk
 have h2 := h.fuel
 unfold lvQ at h1
 rw [if_pos hs] at h1
 exact ⟨f', Nat.lt_succ_self _, h1, hk, h.len, by omega, h.room, h.ins⟩
theorem LvQ.yes (h : LvQ p r R f seen todo k) (hk : k < todo.length) (hs : seen.getD (todo.getD k 0).toNat false = false) (hw : withinB (p.blks.getD (todo.getD k 0).toNat default) 0 r = 1) : R = true := by
 obtain ⟨f', rfl, -, h1⟩ := h.cons hk
 unfold lvQ at h1
 rw [if_neg (by rw [hs]; decide), if_pos hw] at h1
 exact h1.symm
end

/-- the search in memory -/
structure LQ (W0 w : World) (gs B n : Nat) (seen : List Bool) (tv : Value) (todo : List Int) : Prop where
 below : Below W0.heap.size W0 w
 row : RowB w gs n n seen
 own : OwnI w B tv todo
 g0 : W0.heap.size ≤ gs
 gB : gs < B
 Bw : B ≤ w.heap.size
section
variable {W0 w : World} {gs B n : Nat} {seen : List Bool} {tv : Value} {todo : List Int}
theorem LQ.grow {w' : World} (h : LQ W0 w gs B n seen tv todo) (hb : Below w.heap.size w w') : LQ W0 w' gs B n seen tv todo := by
 have hg : w.grownBy w' none := ⟨hb.os, hb.tape, hb.output, hb.size, fun k hk _ => hb.block k hk⟩
 have h1 := h.g0
 have h2 := h.gB
 have h3 := h.Bw
 exact ⟨h.below.trans (hb.mono (by omega)), h.row.below hb, World.ownsRow.kept h.own hg (by cases tv.ownBlock <;> simp), h.g0, h.gB, Nat.le_trans h.Bw hb.size⟩
theorem LQ.set (h : LQ W0 w gs B n seen tv todo) (i : Nat) : LQ W0 (w.setCell ⟨gs, i, none⟩ (.bool true)) gs B n (seen.set i true) tv todo := by
 have hg : w.grownBy (w.setCell ⟨gs, i, none⟩ (.bool true)) (some gs) := ⟨rfl, rfl, rfl, by simp, fun k _ hk => Below.heap_setCell w ⟨gs, i, none⟩ _ k (fun e => hk (by rw [show k = gs from e]))⟩
 exact ⟨h.below.setCell h.g0 _, OwnB.set h.row i true, World.ownsRow.kept h.own hg (ne_of (row_far h.own h.gB)), h.g0, h.gB, by simpa using h.Bw⟩
end
end Go.Proofs.Ytmcddolkpcgddaa

set_option linter.all false
namespace Go.Proofs.Ytmcddolkpcgddaa
open Go.ChangeShapes Go.WideShapes Go.ChangeAt Go.RowKit
set_option maxHeartbeats 2000000
set_option maxRecDepth 20000

end Go.Proofs.Ytmcddolkpcgddaa

set_option linter.all false
namespace Go.Proofs.Ytmcddolkpcgddaa
open Go.ChangeShapes Go.WideShapes Go.ChangeAt Go.RowKit
set_option maxHeartbeats 2000000
set_option maxRecDepth 20000

end Go.Proofs.Ytmcddolkpcgddaa

set_option linter.all false
namespace Go.Proofs.Ytmcddolkpcgddaa
open Go.RowKit

/-- a word as a signed number -/
def sg (a : Int) : Int := if a < 2147483648 then a else a - 4294967296
/-- shifted to the left by so many -/
def shl32 (a b : Int) : Int := (a * 2 ^ (b % 32).toNat) % 4294967296
def sar32 (a b : Int) : Int := (sg a / 2 ^ (b % 32).toNat) % 4294967296
def divS (a b : Int) : Int := if b = 0 then 4294967295 else ((sg a).tdiv (sg b)) % 4294967296
def remS (a b : Int) : Int := if b = 0 then a else ((sg a).tmod (sg b)) % 4294967296
def lessS (a b : Int) : Int := if sg a < sg b then 1 else 0
/-- a power of two -/
def pw (k : Nat) : Int := 2 ^ k
end Go.Proofs.Ytmcddolkpcgddaa

set_option linter.all false
namespace Go.Proofs.Ytmcddolkpcgddaa
open Go.ChangeShapes Go.WideShapes Go.ChangeAt Go.RowKit
set_option maxHeartbeats 400000
set_option linter.unusedVariables false

theorem wraps_u32 (n : Int) (h₀ : 0 ≤ n) (h₁ : n < 2 ^ 32) : IntKind.u32.wrap n = n := by rw [IntKind.wrap_u32]; omega
theorem u32_and31 (x : Int) (h₀ : 0 ≤ x) (h₁ : x < 4294967296) : bits .and .u32 x 31 = x % 32 := bits_mask .u32 32 (by decide) wraps_u32 5 (by decide) x h₀ h₁
attribute [local go_sem] u32_and31

end Go.Proofs.Ytmcddolkpcgddaa

set_option linter.all false
namespace Go.Proofs.Ytmcddolkpcgddaa
open Go Go.RowKit

def lookB (o : Oper) : Bool :=
 match o.op with
 | .call c => (match c.callee with | .builtin .len | .builtin .max => true | _ => false)
 | _ => false
theorem lookB_spec {P : Program} {o : Oper} {ρ : Operand → Value} {w : World} {n : Next} {w' : World} (h : lookB o = true) (hr : (execOp ρ o).run P w = .ok n w') : ∃ v, n = .value v := by
 unfold lookB at h
 split at h
 ·rename_i c hc
  split at h
  ·rename_i hb
   simp only [execOp, hc, resolve, hb, Sem.run_bind, Sem.run_pure, Result.andThen_ok, invoke] at hr
   exact bind_value hr
  ·rename_i hb
   simp only [execOp, hc, resolve, hb, Sem.run_bind, Sem.run_pure, Result.andThen_ok, invoke] at hr
   exact bind_value hr
  ·cases h
 ·cases h
section
variable {P : Program} {ops : Array Oper} {Q : Act → World → Prop} {S : Nat → Prop}
theorem E_mob2 {f : Nat} {listed : Array Bool} {a : Act} {w : World} (i : Nat) (o : Oper) (hio : ops[i]? = some o)
  (hc : (closedB ops listed && (Region.noSelect ops && (Region.ready .any ops listed).contains i && Region.free .any ops listed i && (lookOp o || lookB o))) = true)
  (h : wpQuiet P ops (fun w' => ∃ x, w' = kp S w x) (fun a' => wpE S P ops Q f (listed.setIfInBounds i true) a' w) [o] a) : wpE S P ops Q (f + 1) listed a w := by
 simp only [Bool.and_eq_true] at hc
 obtain ⟨hcl, ⟨⟨hs, hr⟩, hf⟩, hk⟩ := hc
 simp only [wpQuiet] at h
 have hy : ∃ v, YieldsE S P ops w o v a ∧ wpE S P ops Q f (listed.setIfInBounds i true) (a.put o.dst v) w := by
  split at h
  ·rename_i hw
   obtain ⟨v, hv, hn⟩ := h
   refine ⟨v, .inl ⟨hw, fun w' hb => ?_⟩, hn⟩
   have h3 := hv w' (keep_kp hb)
   unfold Oper.quietAt at h3
   generalize hrr : (execOp a.eval o).run P w' = r at h3
   cases r with
   | ok n w1 =>
    have hu : ∃ v, n = .value v := by
     rw [Bool.or_eq_true] at hk
     rcases hk with hk | hk
     ·exact lookOp_spec hk hrr
     ·exact lookB_spec hk hrr
    obtain ⟨u, rfl⟩ := hu
    simp only [Oper.quietUpon] at h3
    obtain ⟨rfl, rfl⟩ := h3
    rfl
   | halt x w1 => simp only [Oper.quietUpon] at h3
  ·rename_i hw
   exact ⟨undef, .inr ⟨by simpa using hw, rfl⟩, h⟩
 obtain ⟨v, hy, hn⟩ := hy
 exact wpE_first hio (Region.noSelect_spec hs) f listed a w (Region.free_spec hio hf) (closed_of hcl) (by simpa using hr) hy hn
end
end Go.Proofs.Ytmcddolkpcgddaa

set_option linter.all false
namespace Go.Proofs.Ytmcddolkpcgddaa
open Go.ChangeShapes Go.WideShapes Go.ChangeAt Go.RowKit
set_option maxHeartbeats 2000000
set_option maxRecDepth 20000

def okN (x : Int) : Bool := !(decide (1099511627776 < x) || decide (x < -1099511627776))
def numsI (i : In) : List Int := [i.op, i.d, i.a, i.b, i.fn, i.obj, i.off, i.size]
def insF (i : In) : Bool := (numsI i).all okN && (i.args.all okN && decide (i.args.length ≤ 12))
theorem all_take (l : List Int) (k : Nat) (h : k < l.length) (h1 : (l.take k).all okN = true) (h2 : okN (l.getD k 0) = true) : (l.take (k + 1)).all okN = true := by
 rw [take_snoc l k h, List.all_append, h1]; simp at h2 ⊢; exact h2
theorem all_no (l : List Int) (k : Nat) (h : k < l.length) (h2 : okN (l.getD k 0) = false) : l.all okN = false := by
 rw [List.all_eq_false]
 exact ⟨l.getD k 0, by simp [List.getD, h], by rw [h2]; decide⟩
theorem okN_no {x : Int} (h : okN x = false) : 1099511627776 < x ∨ (¬ 1099511627776 < x ∧ x < -1099511627776) := by
 unfold okN at h; simp at h; omega
theorem okN_yes {x : Int} (h : okN x = true) : ¬ 1099511627776 < x ∧ ¬ x < -1099511627776 := by
 unfold okN at h; simp at h; omega
theorem ins_c (i : In) (v : Value) (w : World) (hv : InV w v i) (hn : i.args.length ≤ 9223372036854775807) :
  Calls Try.prog 47 #[v] w fun e w' => e = .returned (.bool (insF i)) ∧ Below w.heap.size w w' := by
 obtain ⟨va, rfl, a, c, rfl, hc1, hc2, hcell⟩ := hv
 have HC := Lib.hid hcell
 clear hcell
 have HI : Hid (insF i = ((numsI i).all okN && (i.args.all okN && decide (i.args.length ≤ 12)))) := rfl
 have hnl : (numsI i).length = 8 := rfl
 have HN : Hid (∀ (w1 : World), OwnI (w1.alloc (.cells #[.int .i64 i.op, .int .i64 i.d, .int .i64 i.a, .int .i64 i.b, .int .i64 i.fn, .int .i64 i.obj, .int .i64 i.off, .int .i64 i.size] 3)) 0 (.slice (some ⟨w1.heap.size, 0, none⟩) 8 8) (numsI i)) := fun w1 => OwnI.mk w1 0 (numsI i) (Nat.zero_le _) (by rw [hnl]; simp [maxLen])
 have hB : Hid (∀ o o', Below w.heap.size w ((w.alloc o).alloc o')) := fun o o' => (below_alloc w o).trans ((below_alloc _ o').mono (by simp))
 go_enter Try.func47, Try.ntmps47
 go_wp2_with fail
 go_loopw [4] (fun k wr => ∃ n : Nat, n ≤ 8 ∧ k = .int .i64 (n : Int) ∧ wr = ((w.alloc (.cells #[.int .i64 i.op, .int .i64 i.d, .int .i64 i.a, .int .i64 i.b, .int .i64 i.fn, .int .i64 i.obj, .int .i64 i.off, .int .i64 i.size, .int .u32 i.num, .slice a i.args.length c, .bool i.log] 58)).alloc (.cells #[.int .i64 i.op, .int .i64 i.d, .int .i64 i.a, .int .i64 i.b, .int .i64 i.fn, .int .i64 i.obj, .int .i64 i.off, .int .i64 i.size] 3)) ∧ Hid (((numsI i).take n).all okN = true)) (fun k _ => 8 - (intOf k).toNat)
 case atStart => exact ⟨0, Nat.zero_le _, rfl, rfl, rfl⟩
 case round =>
  obtain ⟨n, hn8, rfl, hwr, HA⟩ := hrel
  have hBr : Hid (Below w.heap.size w wr) := by rw [hwr]; exact hB.out _ _
  have HNr : OwnI wr 0 (.slice (some ⟨w.heap.size + 1, 0, none⟩) 8 8) (numsI i) := by
   rw [hwr]
   have := HN.out (w.alloc (.cells #[.int .i64 i.op, .int .i64 i.d, .int .i64 i.a, .int .i64 i.b, .int .i64 i.fn, .int .i64 i.obj, .int .i64 i.off, .int .i64 i.size, .int .u32 i.num, .slice a i.args.length c, .bool i.log] 58))
   simpa using this
  have q9 : wr.cell? ⟨w.heap.size, 9, none⟩ = some (.slice a i.args.length c) := by rw [hwr]; simp
  by_cases hlt : n < 8
  ·have hcn := HNr.cellAt.2.2.2.2.1 n hlt
   have hY := all_take (numsI i) n (by rw [hnl]; exact hlt) HA.out
   have hZ := all_no (numsI i) n (by rw [hnl]; exact hlt)
   generalize (numsI i).getD n 0 = x at *
   cases hx : okN x
   ·have HF : Hid (insF i = false) := by show _ = _; rw [HI.out, hZ hx]; rfl
    have hx' := okN_no hx
    clear hY hZ hx HNr hwr
    rcases hx' with hx' | ⟨hx', hx2⟩
    ·have e1 : decide (1099511627776 < x) = true := decide_eq_true hx'
     go_wp2_with fail
     go_ret
     exact ⟨ret_b HF.out.symm, hBr.out⟩
    ·have e1 : decide (1099511627776 < x) = false := decide_eq_false hx'
     have e2 : decide (x < -1099511627776) = true := decide_eq_true hx2
     go_wp2_with fail
     go_ret
     exact ⟨ret_b HF.out.symm, hBr.out⟩
   ·have HA2 := Lib.hid (hY hx)
    obtain ⟨hx1, hx2⟩ := okN_yes hx
    have e1 : decide (1099511627776 < x) = false := decide_eq_false hx1
    have e2 : decide (x < -1099511627776) = false := decide_eq_false hx2
    clear hY hZ hx HNr
    have hwr2 := Lib.hid hwr
    clear hwr
    go_wp2_with fail
    go_roundw
    case rel => exact ⟨n + 1, by omega, by go_num, hwr2.out, HA2⟩
    case measure => simp [intOf]; omega
  ·have HA3 : Hid ((numsI i).all okN = true) := by have := HA.out; rwa [List.take_of_length_le (by rw [hnl]; omega)] at this
   clear HNr hwr HA
   go_wp2_with fail
   go_loopw [5] (fun k wr => ∃ n : Nat, n ≤ i.args.length ∧ k = .int .i64 (n : Int) ∧ Hid (Below w.heap.size w wr) ∧ wr.cell? ⟨w.heap.size, 9, none⟩ = some (.slice a i.args.length c) ∧ Hid ((i.args.take n).all okN = true)) (fun k _ => i.args.length - (intOf k).toNat)
   case atStart => exact ⟨0, Nat.zero_le _, rfl, hBr, q9, rfl⟩
   case round =>
    clear q9
    obtain ⟨n, hnn, rfl, hBr, q9, HA⟩ := hrel
    by_cases hlt : n < i.args.length
    ·obtain ⟨b, o, rfl, hc⟩ := HC.out n hlt
     simp only [Nat.mul_one, Nat.add_zero] at hc
     replace hc := Ext.below hBr.out _ _ hc
     have hY := all_take i.args n hlt HA.out
     have hZ := all_no i.args n hlt
     generalize i.args.getD n 0 = x at *
     cases hx : okN x
     ·have HF : Hid (insF i = false) := by show _ = _; rw [HI.out, HA3.out, hZ hx]; rfl
      have hx' := okN_no hx
      clear hY hZ hx
      rcases hx' with hx' | ⟨hx', hx2⟩
      ·have e1 : decide (1099511627776 < x) = true := decide_eq_true hx'
       go_wp2_with fail
       go_ret
       exact ⟨ret_b HF.out.symm, hBr.out⟩
      ·have e1 : decide (1099511627776 < x) = false := decide_eq_false hx'
       have e2 : decide (x < -1099511627776) = true := decide_eq_true hx2
       go_wp2_with fail
       go_ret
       exact ⟨ret_b HF.out.symm, hBr.out⟩
     ·have HA2 := Lib.hid (hY hx)
      obtain ⟨hx1, hx2⟩ := okN_yes hx
      have e1 : decide (1099511627776 < x) = false := decide_eq_false hx1
      have e2 : decide (x < -1099511627776) = false := decide_eq_false hx2
      clear hY hZ hx
      go_wp2_with fail
      go_roundw
      case rel => exact ⟨n + 1, by omega, by go_num, hBr, q9, HA2⟩
      case measure => simp [intOf]; omega
    ·have HA4 : Hid (i.args.all okN = true) := by have := HA.out; rwa [List.take_of_length_le (by omega)] at this
     have HF : Hid (insF i = decide ((i.args.length : Int) ≤ 12)) := by show _ = _; rw [HI.out, HA3.out, HA4.out]; simp; omega
     go_wp2_with fail
     go_ret
     exact ⟨ret_b HF.out.symm, hBr.out⟩
end Go.Proofs.Ytmcddolkpcgddaa

set_option linter.all false
namespace Go.Proofs.Ytmcddolkpcgddaa
open Go.ChangeShapes Go.WideShapes Go.ChangeAt Go.RowKit
set_option maxHeartbeats 2000000
set_option maxRecDepth 20000

/-- numbers of blocks that there are -/
def Blks (p : Pr) (l : List Int) : Prop := ∀ t ∈ l, 0 ≤ t ∧ t < (p.blks.length : Int)
theorem foldl_ord (p : Pr) (f : Nat) (n : Int) (ih : ∀ t s, (0 ≤ t ∧ t < (p.blks.length : Int)) → Blks p s.ord → Blks p (rI p f t s).ord) : ∀ (l : List Int) (s : S3), Blks p l → Blks p s.ord → Blks p (l.foldl (hI p f n) s).ord
 | [], _, _, hs => hs
 | t :: l, s, hl, hs => by
  rw [List.foldl_cons]
  refine foldl_ord p f n ih l _ (fun x hx => hl x (List.mem_cons_of_mem _ hx)) ?_
  unfold hI
  split
  ·exact hs
  ·split
   ·exact ih t s (hl t List.mem_cons_self) hs
   ·exact hs
theorem rI_ord (p : Pr) : ∀ (f : Nat) (n : Int) (s : S3), (0 ≤ n ∧ n < (p.blks.length : Int)) → Blks p s.ord → Blks p (rI p f n s).ord
 | 0, _, _, _, hs => hs
 | f + 1, n, s, hn, hs => by
  rw [rI_succ]
  have := foldl_ord p f n (rI_ord p f) (outsP p n.toNat) (s.enter n) (fun t ht => outsP_mem ht) hs
  intro t ht
  rcases List.mem_append.1 ht with ht | ht
  ·exact this t ht
  ·rw [List.mem_singleton.1 ht]; exact hn
theorem wkD_ord (p : Pr) : Blks p (wkD p).ord := by
 rcases Nat.eq_zero_or_pos p.blks.length with h0 | h0
 ·unfold wkD
  rw [h0]
  intro t ht
  cases ht
 ·exact rI_ord p _ 0 _ (by omega) (fun t ht => by cases ht)
/-- which blocks are reached -/
def reachP (p : Pr) : List Bool := marksB (List.replicate p.blks.length false) (wkD p).ord.reverse
end Go.Proofs.Ytmcddolkpcgddaa

set_option linter.all false
namespace Go.Proofs.Ytmcddolkpcgddaa
open Go.ChangeShapes Go.WideShapes Go.ChangeAt Go.RowKit
set_option maxHeartbeats 2000000
set_option maxRecDepth 20000

theorem setB_in (l : List Bool) (k : Nat) (h : k < l.length) : setB l (k : Int) true = l.set k true := by unfold setB; rw [if_pos ⟨by omega, by omega⟩]; rfl
theorem reach_c (p : Pr) (V : Value) (w : World) (hP : PrV w V p) (hlen : p.blks.length ≤ 1000000) :
  Calls Try.prog 68 #[V] w fun e w' => ∃ g, e = .returned (.slice (some ⟨g, 0, none⟩) p.blks.length p.blks.length) ∧ w.heap.size ≤ g ∧ RowB w' g p.blks.length p.blks.length (reachP p) ∧ Below w.heap.size w w' := by
 have EW : Hid (∀ w', Ext w w' → Calls Try.prog 96 #[V] w' (WkR w' p)) := fun w' he => walked_c p V _ (hP.ext he) hlen
 obtain ⟨nm, vo, vb, rfl, -, a, c, rfl, -, -, -⟩ := hP
 have hmk := run_make_row' (P := Try.prog) 37 4 (.bool false) 1 Try.underlying37 info_bool rfl .i64 .i64 p.blks.length (by omega) (by omega)
 have hOB := Lib.hid (wkD_ord p)
 go_enter Try.func68, Try.ntmps68
 go_wp2_with fail
 refine (EW.out _ ((Ext.alloc w _).trans (Ext.alloc _ _))).mono ?_
 rintro e w1 ⟨bw, bs, B, ov, bv, tv, hd, s, rfl, M, ho, hb, hr⟩
 have M := Lib.hid M
 have Ho := Lib.hid ho
 have hrm : s.ord.length ≤ 10000000 := by omega
 clear ho hb hr
 have q7 : w1.cell? ⟨bw, 7, none⟩ = some ov := (M.out.wk.cellAt 7 (by decide)).trans (by rw [List.getElem?_append_right (by rw [M.out.hd6]; decide), M.out.hd6]; rfl)
 obtain ⟨a1, c1, rfl, h1, h2, h3⟩ := OwnI.rd (show OwnI w1 B ov s.ord from M.out.ord)
 have H3 := Lib.hid h3
 clear h3
 go_wp2_with fail
 have hOS : Hid (Blks p s.ord) := by
  show Blks p s.ord
  rw [Ho.out]
  exact fun t ht => hOB.out t (List.mem_reverse.1 ht)
 have hRE : Hid (reachP p = marksB (List.replicate p.blks.length false) s.ord) := by show _ = _; unfold reachP; rw [Ho.out]
 have hbl := M.out.below
 have hR1 : Hid (RowB w1 (w.heap.size + 1) p.blks.length p.blks.length (List.replicate p.blks.length false)) := by
  have := (madeB (w.alloc (.cells #[.string nm, .bool p.void, .int .i64 p.params, .int .i64 p.regs, vo, .slice a p.blks.length c] 32)) p.blks.length (by unfold maxLen; omega)).below hbl
  show RowB _ _ _ _ _
  simpa using this
 have hB1 : Hid (Below w.heap.size w w1) := ((below_alloc w _).trans ((below_alloc _ _).mono (by simp))).trans (hbl.mono (by simp; omega))
 have hw1 : Hid (∀ b o l c, OwnI w1 B (.slice (some ⟨b, o, none⟩) l c) s.ord → b ≠ w.heap.size + 1) := fun b o l c h => by
  have h1 := (OwnI.rf h).2 _ _ _ rfl
  have h2 := M.out.pB
  simp at h1 h2
  omega
 have hMO : Hid (OwnI w1 B (.slice a1 s.ord.length c1) s.ord) := M.out.ord
 clear hbl M q7 EW hmk Ho
 generalize s.ord = l at *
 go_loopw [16] (fun i wr => ∃ k : Nat, k ≤ l.length ∧ i = .int .i64 (k : Int) ∧ Hid (RowB wr (w.heap.size + 1) p.blks.length p.blks.length (marksB (List.replicate p.blks.length false) (l.take k))) ∧ Hid (But (w.heap.size + 1) w1 wr)) (fun i _ => l.length - (intOf i).toNat)
 case atStart => exact ⟨0, Nat.zero_le _, rfl, hR1, But.refl _ _⟩
 case round =>
  obtain ⟨k, hk, rfl, R, Bu⟩ := hrel
  by_cases hlt : k < l.length
  ·obtain ⟨b, o, rfl, hc⟩ := H3.out k hlt
   simp only [Nat.mul_one, Nat.add_zero] at hc
   have hbn := hw1.out _ _ _ _ hMO.out
   replace hc := Bu.out.ext _ _ hbn hc
   have hin := hOS.out (l.getD k 0) (by simp [List.getD, hlt])
   have HM := marksB_succ (List.replicate p.blks.length false) l k hlt
   generalize l.getD k 0 = t at *
   obtain ⟨tk, rfl⟩ := Int.eq_ofNat_of_zero_le hin.1
   have htk : tk < p.blks.length := by omega
   obtain ⟨-, -, -, -, hcells, hfr, hgs⟩ := OwnB.cellAt R.out
   have hcs := hcells tk htk
   have hfs := hfr tk
   have R2 : Hid (RowB (wr.setCell ⟨w.heap.size + 1, tk, none⟩ (.bool true)) (w.heap.size + 1) p.blks.length p.blks.length (marksB (List.replicate p.blks.length false) (l.take (k + 1)))) := by
    have := OwnB.set R.out tk true
    rw [HM, setB_in _ _ (by rw [marksB_len]; simpa using htk)]
    exact this
   have B2 : Hid (But (w.heap.size + 1) w1 (wr.setCell ⟨w.heap.size + 1, tk, none⟩ (.bool true))) := Bu.out.trans (But.setCell _ _ _ _)
   clear hcells hfr HM R Bu
   go_wp2_with fail
   go_roundw
   case rel => exact ⟨k + 1, by omega, by go_num, R2, B2⟩
   case measure => simp [intOf]; omega
  ·have hT : Hid (RowB wr (w.heap.size + 1) p.blks.length p.blks.length (reachP p)) := by
    have := R.out
    rw [List.take_of_length_le (by omega)] at this
    show RowB _ _ _ _ _
    rw [hRE.out]
    exact this
   go_wp2_with fail
   go_ret
   exact ⟨_, rfl, by omega, hT.out, hB1.out.trans (Bu.out.toBelow (by omega) hB1.out.size)⟩
end Go.Proofs.Ytmcddolkpcgddaa

set_option linter.all false
namespace Go.Proofs.Ytmcddolkpcgddaa
open Go.ChangeShapes Go.WideShapes Go.ChangeAt Go.RowKit
set_option maxHeartbeats 400000
set_option maxRecDepth 10000

/-- what lies in none of the walk's blocks stays, and its rows are those of before or new -/
structure FrR (w w' : World) (bw bs : Nat) (ov bv ov' bv' : Value) : Prop where
 os : w'.os = w.os
 tape : w'.tape = w.tape
 output : w'.output = w.output
 size : w.heap.size ≤ w'.heap.size
 block : ∀ k, k < w.heap.size → k ≠ bw → k ≠ bs → ov.ownBlock ≠ some k → bv.ownBlock ≠ some k → w'.heap[k]? = w.heap[k]?
 no : NewB w ov ov'
 nb : NewB w bv bv'
theorem FrR.refl (w : World) (bw bs : Nat) (ov bv : Value) : FrR w w bw bs ov bv ov bv := ⟨rfl, rfl, rfl, Nat.le_refl _, fun _ _ _ _ _ _ => rfl, .refl _ _, .refl _ _⟩
theorem newB_far {w : World} {v v' : Value} {k : Nat} (h : NewB w v v') (hk : k < w.heap.size) (hv : v.ownBlock ≠ some k) : v'.ownBlock ≠ some k := by
 rcases h with e | ⟨j, hj, e⟩
 ·rw [e]; exact hv
 ·rw [e]; intro e2; simp only [Option.some.injEq] at e2; omega
theorem NewB.trans {w w1 : World} {v v1 v2 : Value} (h : NewB w v v1) (h1 : NewB w1 v1 v2) (hs : w.heap.size ≤ w1.heap.size) : NewB w v v2 := by
 rcases h1 with e | ⟨j, hj, e⟩
 ·rcases h with e0 | ⟨k, hk, e0⟩
  ·exact .inl (e.trans e0)
  ·exact .inr ⟨k, hk, e.trans e0⟩
 ·exact .inr ⟨j, Nat.le_trans hs hj, e⟩
theorem FrR.trans {a b c : World} {bw bs : Nat} {o1 b1 o2 b2 o3 b3 : Value} (h : FrR a b bw bs o1 b1 o2 b2) (h' : FrR b c bw bs o2 b2 o3 b3) : FrR a c bw bs o1 b1 o3 b3 :=
 ⟨h'.os.trans h.os, h'.tape.trans h.tape, h'.output.trans h.output, Nat.le_trans h.size h'.size,
   fun k hk k1 k2 k3 k4 => (h'.block k (Nat.lt_of_lt_of_le hk h.size) k1 k2 (newB_far h.no hk k3) (newB_far h.nb hk k4)).trans (h.block k hk k1 k2 k3 k4),
   h.no.trans h'.no h.size, h.nb.trans h'.nb h.size⟩
section
variable {w : World} {bw bs B n : Nat} {s : S3} {ov bv : Value}
end
end Go.Proofs.Ytmcddolkpcgddaa

set_option linter.all false
namespace Go.Proofs.Ytmcddolkpcgddaa
open Go Go.RowKit
/-- live at the start of a block, by all ways on -/
def LvS (p : Pr) (r : Int) (n : Nat) : Prop :=
 ∀ S : Nat → Prop, (∀ n, withinB (p.blks.getD n default) 0 r = 1 → S n) → (∀ n t, withinB (p.blks.getD n default) 0 r = 0 → t ∈ outsP p n → S t.toNat → S n) → S n
theorem LvS.on {p : Pr} {r : Int} (n : Nat) (t : Int) (h : withinB (p.blks.getD n default) 0 r = 0) (ht : t ∈ outsP p n) (h' : LvS p r t.toNat) : LvS p r n := fun S h1 h2 => h2 n t h ht (h' S h1 h2)
theorem getD_setb (l : List Bool) (i j : Nat) (h : i < l.length) : (l.set i true).getD j false = if j = i then true else l.getD j false := by
 simp only [List.getD, List.getElem?_set]
 by_cases e : i = j
 ·subst e; simp [h]
 ·simp [e, Ne.symm e]
theorem setB_get (l : List Bool) (x : Int) (is : Bool) (r : Nat) (h : r < l.length) : (setB l x is).getD r false = if x = r then is else l.getD r false := by
 unfold setB
 split
 ·simp only [List.getD, List.getElem?_set]
  by_cases e : x.toNat = r
  ·rw [if_pos e, if_pos (by omega), if_pos (by omega)]; rfl
  ·rw [if_neg e, if_neg (by omega)]
 ·rw [if_neg (by omega)]
theorem marksB_get (l : List Bool) (rs : List Int) (r : Nat) (h : r < l.length) : (marksB l rs).getD r false = (l.getD r false || hasL rs r) := by
 unfold marksB
 induction rs generalizing l with
 | nil => simp [hasL]
 | cons x rs ih =>
  rw [List.foldl_cons, ih _ (by rw [setB_len]; exact h), setB_get _ _ _ _ h]
  unfold hasL
  rw [List.contains_cons]
  by_cases e : x = r
  ·subst e; simp
  ·rw [if_neg e, show ((r : Int) == x) = false from beq_eq_false_iff_ne.2 (Ne.symm e), Bool.false_or]
end Go.Proofs.Ytmcddolkpcgddaa
