/-
 Rows of instructions put together: slices.Grow and slices.Concat walked.; Rows of instructions put together, whatever they are: slices.Concat.; inline: what a put reads and makes, in memory.
-/
import Derived.Test.YtchoiankeohonaaGreatDoorZInlineAll34
import Derived.Test.YtchoiankeohonaaGreatDoorZInlineAll02
import Derived.Test.YtchoiankeohonaaGreatDoorZInlineAll05
import Derived.Test.YtchoiankeohonaaGreatDoorZInlineAll03
import Derived.Test.YtchoiankeohonaaGreatDoorZInlineAll38

set_option linter.all false
namespace Go.Proofs.YtchoiankeohonaaGreatDoor
open Go.ChangeShapes Go.WideShapes Go.ChangeAt Go.RowKit Go.Maps
set_option maxHeartbeats 4000000
set_option linter.unusedVariables false
set_option maxRecDepth 100000

section
variable {P : Program}
/-- append of so many zeros to no slice -/
theorem run_append_nil_zeros (t u ty e : TypeId) (i : TypeInfo) (z : Value) (ht : P.underlying t = some (.slice e)) (hu : P.underlying u = some (.int .i64)) (hi : P.info? e = some i) (hz : i.zero = some z)
  (n : Nat) (h0 : 0 < n) (h63 : n ≤ 1000000) (h48 : n * i.bytes ≤ 281474976710656) (w : World) :
  (Builtin.append_ #[t, u] ty #[.slice none 0 0, .int .i64 (n : Int)]).run P w =
   .ok (.slice (some ⟨w.heap.size, 0, none⟩) n (grownCap w n 0 e)) (w.drew.alloc (.cells ((if n * i.size = 0 then #[] else Builtin.zeroCells z.cells n) ++ Builtin.zeroCells z.cells (grownCap w n 0 e - n)) e)) := by
 have hn : n ≠ 0 := by omega
 have h63' : ¬ (9223372036854775807 < (n : Int)) := by omega
 have h48' : ¬ (281474976710656 < Builtin.nextslicecap n 0 * i.bytes) := by rw [nextslicecap_zero h0]; omega
 have hw : IntKind.i64.wrap (n : Int) = (n : Int) := IntWalk.i64_in _ (by omega)
 have h1 : ¬ ((n : Int) < 0) := by omega
 have h2 : ¬ (281474976710656 < (n : Int) * (i.bytes : Int)) := by
  have : ((n * i.bytes : Nat) : Int) ≤ 281474976710656 := by omega
  rw [Int.natCast_mul] at this; omega
 by_cases h3 : n * i.size = 0
 ·rw [if_pos h3]
  simp [Builtin.append_, run_underlying ht, run_underlying hu, sizeOf, typeInfo, zeroValue, hi, hz, hw, h1, h2, hn, h63', h48', Question.forced, run_firstCells_none, newRow, grownCap, asInt, asIntOf, h3]
 ·rw [if_neg h3]
  simp [Builtin.append_, run_underlying ht, run_underlying hu, sizeOf, typeInfo, zeroValue, hi, hz, hw, h1, h2, hn, h63', h48', Question.forced, run_firstCells_none, newRow, grownCap, asInt, asIntOf, h3]
end
theorem wpList_append_zeros {ops : Array Oper} {rest : List Oper} {o : Oper} {a : Act} {w : World} {Q : Exit → Act → World → Prop} {s x : Operand} (k : Nat) (h0 : 0 < k) (hk : k ≤ 1000000) (hgd : o.guard = none)
  (ho : o.op = .call { callee := .builtin .append, args := #[s, x], argTypes := #[49, 3] }) (hs : a.eval s = .slice none 0 0) (hx : a.eval x = .int .i64 (k : Int))
  (h : ∀ c w', k ≤ c → c ≤ maxLen → w'.ownsRow w.heap.size 48 11 (.slice (some ⟨w.heap.size, 0, none⟩) 0 c) 0 [] → Below w.heap.size w w' → wpList Tryz.prog ops Q rest (a.put o.dst (.slice (some ⟨w.heap.size, 0, none⟩) k c)) w') : wpList Tryz.prog ops Q (o :: rest) a w := by
 obtain ⟨i0, hi, hz0, hz1, hz2⟩ := info_parts info_in
 have hr := run_append_nil_zeros (P := Tryz.prog) 49 3 o.type 48 i0 _ Tryz.underlying49 Tryz.underlying3 hi hz0 k h0 hk (by rw [hz2]; omega) w
 rw [if_neg (by rw [hz1]; omega)] at hr
 have hge := grownCap_ge w k 0 48
 have hle := grownCap_le_maxLen w k 0 48 (by unfold maxLen; omega)
 refine wpList_plain hgd fun K hK => ?_
 unfold Oper.wp execOp
 simp only [ho, resolve, invoke, builtin, Sem.run_bind, Sem.run_pure, Result.andThen_ok, List.map_toArray, List.map_cons, List.map_nil, hs, hx, hr]
 refine hK _ _ (h _ _ hge hle ⟨rfl, .inr ⟨w.heap.size, _, _, rfl, Nat.le_refl _, heap_alloc_new w.drew _, Nat.zero_le _, hle, ?_, by simp⟩⟩ ((Below.refl _ w).drew.trans (below_alloc w.drew _)))
 rw [Array.size_append, size_zeroCells, size_zeroCells, ← Nat.add_mul]
 show (k + (grownCap w k 0 48 - k)) * 11 = _
 congr 1; omega
theorem grow_c (k : Nat) (hk : k ≤ 1000000) (w : World) :
  Calls Tryz.prog 52 #[.slice none 0 0, .int .i64 (k : Int)] w fun e w' => ∃ a c, e = .returned (.slice a 0 c) ∧ w'.ownsRow w.heap.size 48 11 (.slice a 0 c) 0 [] ∧ Below w.heap.size w w' := by
 obtain ⟨i0, hi, hz0, hz1, hz2⟩ := info_parts info_in
 have k0 : 0 ≤ (k : Int) := by omega
 have k1 : (k : Int) ≤ 9223372036854775807 := by omega
 have k2 : decide ((k : Int) < 0) = false := decide_eq_false (by omega)
 by_cases h0 : 0 < k
 ·have g1 : decide (0 < (k : Int)) = true := decide_eq_true (by omega)
  have g2 : decide (0 < k) = true := decide_eq_true (by omega)
  go_enter Tryz.func52, Tryz.ntmps52
  go_wp2_with (at_builtin; refine wpList_append_zeros k h0 hk rfl rfl rfl rfl ?_; intro c w1 hc1 hc2 ho1 hb1; have hc1 := hc1; have hc3 : 0 ≤ c := Nat.zero_le _)
  go_ret
  exact ⟨_, c, rfl, ho1, hb1⟩
 ·obtain rfl : k = 0 := by omega
  have g1 : decide (0 < ((0 : Nat) : Int)) = false := rfl
  go_enter Tryz.func52, Tryz.ntmps52
  go_wp2_with fail
  go_ret
  exact ⟨none, 0, rfl, World.ownsRow_nil _ _ _ _, Below.refl _ _⟩
/-- a row of instructions that lies in memory now; the rows of arguments lie where they lay in the first world -/
def SrcQ (w0 w : World) (v : Value) (l : List In) : Prop := ∃ (ad : Addr) (c : Nat) (L : List (In × Value)), v = .slice (some ad) l.length c ∧ l.length ≤ c ∧ c ≤ maxLen ∧ L.map Prod.fst = l ∧ (∀ x ∈ L, RdI w0 x.2 x.1.args) ∧ ∀ j u, (L.flatMap inCells)[j]? = some u → ∃ b o, ad = ⟨b, o, none⟩ ∧ w.cell? ⟨b, o + j, none⟩ = some u
theorem SrcQ.own {w0 w : World} {B : Nat} {v : Value} {L : List (In × Value)} {l : List In} (h : w.ownsRow B 48 11 v L.length (L.flatMap inCells)) (hL : L.map Prod.fst = l) (hA : ∀ x ∈ L, RdI w0 x.2 x.1.args) (hne : l ≠ []) : SrcQ w0 w v l := by
 have hlen : L.length = l.length := by rw [← hL]; simp
 rcases src_own h with ⟨-, h0, -⟩ | ⟨ad, c, e, h1, h2, hc⟩
 ·exact absurd (List.eq_nil_of_length_eq_zero (hlen ▸ h0)) hne
 ·exact ⟨ad, c, L, hlen ▸ e, hlen ▸ h1, h2, hL, hA, hc⟩
theorem own_slice {w : World} {B s n : Nat} {e : TypeId} {v : Value} {xs : List Value} (h : w.ownsRow B e s v n xs) : ∃ a c, v = .slice a n c := by
 obtain ⟨-, ⟨rfl, rfl⟩ | ⟨g, cap, cur, rfl, -⟩⟩ := h
 ·exact ⟨_, _, rfl⟩
 ·exact ⟨_, _, rfl⟩
end Go.Proofs.YtchoiankeohonaaGreatDoor

set_option linter.all false
namespace Go.Proofs.YtchoiankeohonaaGreatDoor
open Go.ChangeShapes Go.WideShapes Go.ChangeAt Go.RowKit
set_option maxHeartbeats 4000000
set_option linter.unusedVariables false
set_option maxRecDepth 100000

theorem run_append_v0 {P : Program} (w : World) (t ty e : TypeId) (i : TypeInfo) (z : Value) (base : Option Addr) (n m c : Nat) (hle : n ≤ m) (ht : P.underlying t = some (.slice e)) (hi : P.info? e = some i) (hz : i.zero = some z) :
  (Builtin.append_ #[t, t] ty #[.slice base n m, .slice none 0 c]).run P w = .ok (.slice base n m) w := by
 cases base <;> simp [Builtin.append_, run_underlying ht, sizeOf, typeInfo, zeroValue, hi, hz, Builtin.lenOf, run_firstCells_none, hle, storeCells]
/-- what is appended may be nothing -/
theorem appQ {ops : Array Oper} {rest : List Oper} {o : Oper} {a : Act} {w : World} {Q : Exit → Act → World → Prop} (t e : TypeId) {z : Value} {s bytes : Nat} (hinf : (Tryz.prog.info? e).map (fun i => (i.zero, i.size, i.bytes)) = some (some z, s, bytes)) (ht : Tryz.prog.underlying t = some (.slice e)) (hzs : z.cells.size = s) (h0 : 0 < s) (hbt : bytes ≤ 128)
  (hgd : o.guard = none) {S x : Operand} (ho : o.op = .call { callee := .builtin .append, args := #[S, x], argTypes := #[t, t] }) {B : Nat} {v : Value} {m : Nat} {xs : List Value} (hs : a.eval S = v) (hown : w.ownsRow B e s v m xs) {v2 : Value} {n : Nat} {ys : List Value} (hx : a.eval x = v2) (hsrc : Src w v2 n ys) (hl : ys.length = n * s) (hn : m + n ≤ 1000000) (h1 : ∀ u ∈ ys, u.oneCell' = true) (hB : B ≤ w.heap.size)
  (h : ∀ v' w', w'.ownsRow B e s v' (m + n) (xs ++ ys) → w.grownBy w' v.ownBlock → wpList Tryz.prog ops Q rest (a.put o.dst v') w') : wpList Tryz.prog ops Q (o :: rest) a w := by
 obtain ⟨i0, hi, hz0, hz1, hz2⟩ := info_parts hinf
 rcases hsrc with ⟨⟨c, rfl⟩, rfl, rfl⟩ | ⟨ad, c, rfl, hc1, hc2, hc⟩
 ·obtain ⟨av, cv, rfl, hle⟩ : ∃ av cv, v = .slice av m cv ∧ m ≤ cv := by
   obtain ⟨-, ⟨h2, h3⟩ | ⟨g, cap, cur, h2, -, -, h4, -⟩⟩ := hown
   ·exact ⟨none, 0, by rw [h2, h3], by omega⟩
   ·exact ⟨_, cap, h2, h4⟩
  refine wpList_plain hgd fun K hK => ?_
  unfold Oper.wp execOp
  simp only [ho, resolve, invoke, builtin, Sem.run_bind, Sem.run_pure, Result.andThen_ok, List.map_toArray, List.map_cons, List.map_nil, hs, hx, run_append_v0 w t o.type e i0 z av m cv c hle ht hi hz0]
  exact hK _ _ (h _ _ (by simpa using hown) ⟨rfl, rfl, rfl, Nat.le_refl _, fun _ _ _ => rfl⟩)
 ·refine wpList_append_own _ hgd S x t ho B e i0 z s bytes ht hi hz0 hz1 hz2 hzs h0 v m xs hs hown ad n c ys hx hl (fun j u hj => ?_) h1 (by unfold maxLen; omega) ?_ hB fun v' w' h2 h3 _ => h v' w' h2 h3
  ·obtain ⟨b, o, rfl, hcl⟩ := hc j u hj
   rw [vadd_plain]; exact hcl
  ·have : (m + n) * bytes ≤ (m + n) * 128 := Nat.mul_le_mul_left _ hbt
   omega
theorem src_form {w : World} {v : Value} {n : Nat} {xs : List Value} (h : Src w v n xs) : ∃ a c, v = .slice a n c ∧ n ≤ c ∧ c ≤ 9223372036854775807 ∨ v = .slice a n c ∧ n = 0 := by
 rcases h with ⟨⟨c, rfl⟩, rfl, -⟩ | ⟨ad, c, rfl, h1, h2, -⟩
 ·exact ⟨none, c, .inr ⟨rfl, rfl⟩⟩
 ·unfold maxLen at h2
  exact ⟨some ad, c, .inl ⟨rfl, h1, by omega⟩⟩
theorem concat2_c (v1 v2 : Value) (L1 L2 : List (In × Value)) (gg : Nat) (w : World) (hb : w.heap[gg]? = some (.cells #[v1, v2] 49 (0, 0))) (h1 : Src w v1 L1.length (L1.flatMap inCells)) (h2 : Src w v2 L2.length (L2.flatMap inCells)) (o1 : ∀ x ∈ L1, ∃ a n c, x.2 = .slice a n c) (o2 : ∀ x ∈ L2, ∃ a n c, x.2 = .slice a n c) (hn : L1.length + L2.length ≤ 1000000) :
  Calls Tryz.prog 38 #[.slice (some ⟨gg, 0, none⟩) 2 2] w fun e w' => ∃ v', e = .returned v' ∧ w'.ownsRow w.heap.size 48 11 v' (L1 ++ L2).length ((L1 ++ L2).flatMap inCells) ∧ Below w.heap.size w w' := by
 have O1 := Lib.hid (in_one L1 o1)
 have O2 := Lib.hid (in_one L2 o2)
 have f1 := Lib.hid (flat_len inCells 11 (fun _ => rfl) L1)
 have f2 := Lib.hid (flat_len inCells 11 (fun _ => rfl) L2)
 have S1 := Lib.hid h1
 have S2 := Lib.hid h2
 obtain ⟨a1, c1, e1⟩ := src_form h1
 obtain ⟨a2, c2, e2⟩ := src_form h2
 have e1 : v1 = .slice a1 L1.length c1 := by rcases e1 with e | e <;> exact e.1
 have e2 : v2 = .slice a2 L2.length c2 := by rcases e2 with e | e <;> exact e.1
 subst e1 e2
 have x0 : w.cell? ⟨gg, 0, none⟩ = some (.slice a1 L1.length c1) := cell_of_heap hb 0
 have x1 : w.cell? ⟨gg, 1, none⟩ = some (.slice a2 L2.length c2) := cell_of_heap hb 1
 have hgg : gg < w.heap.size := (Array.getElem?_eq_some_iff.1 hb).1
 have FA : Hid ((L1 ++ L2).length = L1.length + L2.length) := List.length_append
 have FB : Hid ((L1 ++ L2).flatMap inCells = L1.flatMap inCells ++ L2.flatMap inCells) := List.flatMap_append
 rw [FA.out, FB.out]
 clear FA FB h1 h2 o1 o2 hb
 generalize L1.flatMap inCells = xs1 at *
 generalize L2.flatMap inCells = xs2 at *
 generalize L1.length = m1 at *
 generalize L2.length = m2 at *
 have kk1 : 0 ≤ (m1 : Int) := by omega
 have kk2 : (m1 : Int) ≤ 1000000 := by omega
 have kk3 : 0 ≤ (m2 : Int) := by omega
 have kk4 : (m2 : Int) ≤ 1000000 := by omega
 have kk5 : decide ((m1 : Int) < 0) = false := decide_eq_false (by omega)
 have kk6 : decide ((m1 : Int) + (m2 : Int) < 0) = false := decide_eq_false (by omega)
 go_enter Tryz.func38, Tryz.ntmps38
 go_wp2_with fail
 go_loop [3, 11] (fun sz i => (i = .int .i64 0 ∧ sz = .int .i64 0) ∨ (i = .int .i64 1 ∧ sz = .int .i64 (m1 : Int)) ∨ (i = .int .i64 2 ∧ sz = .int .i64 ((m1 : Int) + (m2 : Int)))) (fun _ i => 2 - (intOf i).toNat)
 case atStart => exact .inl ⟨rfl, rfl⟩
 case round =>
  obtain ⟨rfl, rfl⟩ | ⟨rfl, rfl⟩ | ⟨rfl, rfl⟩ := hrel
  ·go_wp2_with fail
   exact ⟨.inr (.inl ⟨rfl, rfl⟩), by simp [intOf]⟩
  ·go_wp2_with fail
   exact ⟨.inr (.inr ⟨rfl, rfl⟩), by simp [intOf]⟩
  ·go_wp2_with fail
   rw [show (m1 : Int) + (m2 : Int) = ((m1 + m2 : Nat) : Int) from by omega]
   refine (grow_c (m1 + m2) hn w).mono ?_
   rintro e w2 ⟨a0, c0, rfl, ho, hb2⟩
   have HO := Lib.hid ho
   have HB := Lib.hid hb2
   clear ho hb2 kk5 kk6
   go_wp2_with fail
   go_loopw [6, 27] (fun sv i wr => ∃ (a : Option Addr) (m c : Nat), sv = .slice a m c ∧ ((i = .int .i64 0 ∧ m = 0 ∧ Hid (wr.ownsRow w.heap.size 48 11 (.slice a m c) 0 [])) ∨ (i = .int .i64 1 ∧ m = m1 ∧ Hid (wr.ownsRow w.heap.size 48 11 (.slice a m c) m1 xs1)) ∨ (i = .int .i64 2 ∧ m = m1 + m2 ∧ Hid (wr.ownsRow w.heap.size 48 11 (.slice a m c) (m1 + m2) (xs1 ++ xs2)))) ∧ Hid (Below w.heap.size w wr)) (fun _ i _ => 2 - (intOf i).toNat)
   case atStart => exact ⟨a0, 0, c0, rfl, .inl ⟨rfl, rfl, HO⟩, HB⟩
   case round =>
    clear HO HB
    obtain ⟨a, m, c, rfl, ⟨rfl, rfl, HO⟩ | ⟨rfl, rfl, HO⟩ | ⟨rfl, rfl, HO⟩, HB⟩ := hrel
    ·have x0 := (HB.out.cell (p := ⟨gg, 0, none⟩) hgg).trans x0
     have hsz := HB.out.size
     go_wp2_with (at_builtin; refine appQ 49 48 info_in Tryz.underlying49 rfl (by decide) (by decide) rfl rfl rfl HO.out rfl (S1.out.keep (Ext.below HB.out)) f1.out (by omega) O1.out hsz ?_; intro v3 w3 hown hgrow)
     simp only [Nat.zero_add, List.nil_append] at hown
     obtain ⟨a3, c3, rfl⟩ := own_slice hown
     have hbl := HB.out.grown hgrow hsz (fun k hk => (own_lt HO.out hk).1)
     exact ⟨⟨a3, m1, c3, rfl, .inr (.inl ⟨rfl, rfl, hown⟩), hbl⟩, by simp [intOf]⟩
    ·have x1 := (HB.out.cell (p := ⟨gg, 1, none⟩) hgg).trans x1
     have hsz := HB.out.size
     go_wp2_with (at_builtin; refine appQ 49 48 info_in Tryz.underlying49 rfl (by decide) (by decide) rfl rfl rfl HO.out rfl (S2.out.keep (Ext.below HB.out)) f2.out (by omega) O2.out hsz ?_; intro v3 w3 hown hgrow)
     obtain ⟨a3, c3, rfl⟩ := own_slice hown
     have hbl := HB.out.grown hgrow hsz (fun k hk => (own_lt HO.out hk).1)
     exact ⟨⟨a3, m + m2, c3, rfl, .inr (.inr ⟨rfl, rfl, hown⟩), hbl⟩, by simp [intOf]⟩
    ·go_wp2_with fail
     go_ret
     exact ⟨_, rfl, HO.out, HB.out⟩
end Go.Proofs.YtchoiankeohonaaGreatDoor

set_option linter.all false
namespace Go.Proofs.YtchoiankeohonaaGreatDoor
open Go.ChangeShapes Go.WideShapes Go.ChangeAt Go.RowKit
set_option maxHeartbeats 4000000
set_option maxRecDepth 100000
set_option linter.unusedVariables false

theorem KrS.src {w0 w : World} {x : Bk × Value} (h : KrS w0 w x) (he : Ext w0 w) : ∃ LI : List (In × Value), LI.map Prod.fst = x.1.ins ∧ (∀ y ∈ LI, RdI w0 y.2 y.1.args) ∧ Src w x.2 LI.length (LI.flatMap inCells) := by
 rcases h with h | ⟨LI, h1, h2, h3⟩
 ·obtain ⟨L, h1, h2, h3⟩ := h.src
  have hl : L.length = x.1.ins.length := by rw [← h1, List.length_map]
  rw [← hl] at h3
  exact ⟨L, h1, h2, h3.keep he⟩
 ·exact ⟨LI, h1, h2, src_own h3⟩
theorem flat_take {α : Type} (f : α → List Value) (s : Nat) (hf : ∀ a, (f a).length = s) : ∀ (L : List α) (k : Nat), (L.take k).flatMap f = (L.flatMap f).take (k * s)
 | [], k => by simp
 | a :: L, 0 => by simp
 | a :: L, k + 1 => by
  have h1 : (f a).take (k * s + s) = f a := List.take_of_length_le (by rw [hf]; exact Nat.le_add_left _ _)
  rw [List.take_succ_cons, List.flatMap_cons, List.flatMap_cons, flat_take f s hf L k, Nat.succ_mul, List.take_append, h1, hf, Nat.add_sub_cancel]
theorem flat_drop {α : Type} (f : α → List Value) (s : Nat) (hf : ∀ a, (f a).length = s) : ∀ (L : List α) (k : Nat), (L.drop k).flatMap f = (L.flatMap f).drop (k * s)
 | [], k => by simp
 | a :: L, 0 => by simp
 | a :: L, k + 1 => by
  have h1 : (f a).drop (k * s + s) = [] := List.drop_of_length_le (by rw [hf]; exact Nat.le_add_left _ _)
  rw [List.drop_succ_cons, List.flatMap_cons, flat_drop f s hf L k, Nat.succ_mul, List.drop_append, h1, hf, List.nil_append, Nat.add_sub_cancel]
theorem Src.takeI {w : World} {b o c : Nat} {L : List (In × Value)} (h : Src w (.slice (some ⟨b, o, none⟩) L.length c) L.length (L.flatMap inCells)) {k : Nat} (hk : k ≤ L.length) : Src w (.slice (some ⟨b, o, none⟩) k c) (L.take k).length ((L.take k).flatMap inCells) := by
 rcases h with ⟨⟨c', e⟩, -⟩ | ⟨ad, c', e, h1, h2, hc⟩
 ·simp at e
 ·simp only [Value.slice.injEq, Option.some.injEq] at e
  obtain ⟨rfl, -, rfl⟩ := e
  refine .inr ⟨_, c, by rw [List.length_take, Nat.min_eq_left hk], by rw [List.length_take]; omega, h2, fun j u hj => hc j u ?_⟩
  rw [flat_take inCells 11 (fun _ => rfl), List.getElem?_take] at hj
  split at hj
  ·exact hj
  ·cases hj
theorem Src.dropI {w : World} {b o c : Nat} {L : List (In × Value)} (h : Src w (.slice (some ⟨b, o, none⟩) L.length c) L.length (L.flatMap inCells)) {k : Nat} (hk : k ≤ L.length) : Src w (.slice (some ⟨b, o + k * 11, none⟩) (L.length - k) (c - k)) (L.drop k).length ((L.drop k).flatMap inCells) := by
 rcases h with ⟨⟨c', e⟩, -⟩ | ⟨ad, c', e, h1, h2, hc⟩
 ·simp at e
 ·simp only [Value.slice.injEq, Option.some.injEq] at e
  obtain ⟨rfl, -, rfl⟩ := e
  refine .inr ⟨⟨b, o + k * 11, none⟩, c - k, by rw [List.length_drop], by rw [List.length_drop]; omega, by omega, fun j u hj => ?_⟩
  rw [flat_drop inCells 11 (fun _ => rfl), List.getElem?_drop] at hj
  obtain ⟨b', o', e, hcl⟩ := hc _ u hj
  simp only [Addr.mk.injEq, and_true] at e
  obtain ⟨rfl, rfl⟩ := e
  exact ⟨b, o + k * 11, rfl, by rw [Nat.add_assoc]; exact hcl⟩
/-- an instruction's eleven cells -/
theorem Src.atI {w : World} {v : Value} {L : List (In × Value)} (h : Src w v L.length (L.flatMap inCells)) {k : Nat} (hk : k < L.length) : ∃ b o c, v = .slice (some ⟨b, o, none⟩) L.length c ∧ L.length ≤ c ∧ c ≤ 9223372036854775807 ∧ ∀ j u, (inCells (L.getD k default))[j]? = some u → j < 11 → w.cell? ⟨b, o + k * 11 + j, none⟩ = some u := by
 rcases h with ⟨-, h0, -⟩ | ⟨ad, c, e, h1, h2, hc⟩
 ·omega
 ·have h3 := flat_at inCells 11 (fun _ => rfl) L k 0 hk (by decide)
  obtain ⟨b, o, e2, -⟩ := hc _ _ (h3.trans rfl)
  subst e2
  unfold maxLen at h2
  refine ⟨b, o, c, e, h1, by omega, fun j u hj hj2 => ?_⟩
  have h4 := flat_at inCells 11 (fun _ => rfl) L k j hk hj2
  obtain ⟨b', o', e3, hcl⟩ := hc _ u (h4.trans hj)
  simp only [Addr.mk.injEq, and_true] at e3
  obtain ⟨rfl, rfl⟩ := e3
  rw [Nat.add_assoc]; exact hcl
/-- a block's five cells -/
theorem Src.atB {w : World} {v : Value} {L : List (Bk × Value)} (h : Src w v L.length (L.flatMap bkCells)) {k : Nat} (hk : k < L.length) : ∃ b o c, v = .slice (some ⟨b, o, none⟩) L.length c ∧ L.length ≤ c ∧ c ≤ 9223372036854775807 ∧ ∀ j u, (bkCells (L.getD k default))[j]? = some u → j < 5 → w.cell? ⟨b, o + k * 5 + j, none⟩ = some u := by
 rcases h with ⟨-, h0, -⟩ | ⟨ad, c, e, h1, h2, hc⟩
 ·omega
 ·have h3 := flat_at bkCells 5 (fun _ => rfl) L k 0 hk (by decide)
  obtain ⟨b, o, e2, -⟩ := hc _ _ (h3.trans rfl)
  subst e2
  unfold maxLen at h2
  refine ⟨b, o, c, e, h1, by omega, fun j u hj hj2 => ?_⟩
  have h4 := flat_at bkCells 5 (fun _ => rfl) L k j hk hj2
  obtain ⟨b', o', e3, hcl⟩ := hc _ u (h4.trans hj)
  simp only [Addr.mk.injEq, and_true] at e3
  obtain ⟨rfl, rfl⟩ := e3
  rw [Nat.add_assoc]; exact hcl
/-- a clone of a row of instructions whose cells are known -/
theorem cloneS {w0 : World} (v : Value) (L : List (In × Value)) (w : World) (h : Src w v L.length (L.flatMap inCells)) (ha : ∀ y ∈ L, RdI w0 y.2 y.1.args) (hn : L.length ≤ 1000000) :
  Calls Tryz.prog 40 #[v] w fun e w' => ∃ v', e = .returned v' ∧ InA w0 w.heap.size w' v' L ∧ Below w.heap.size w w' := by
 refine (cloneIn v L.length _ w h (flat_len inCells 11 (fun _ => rfl) L) hn (in_one L fun x hx => (ha x hx).sl)).mono ?_
 rintro e w' ⟨v', rfl, ho, hb⟩
 exact ⟨v', rfl, ⟨ho, ha⟩, hb⟩
theorem concatS {w0 : World} (v1 v2 : Value) (L1 L2 : List (In × Value)) (gg : Nat) (w : World) (hb : w.heap[gg]? = some (.cells #[v1, v2] 49 (0, 0))) (h1 : Src w v1 L1.length (L1.flatMap inCells)) (h2 : Src w v2 L2.length (L2.flatMap inCells)) (a1 : ∀ y ∈ L1, RdI w0 y.2 y.1.args) (a2 : ∀ y ∈ L2, RdI w0 y.2 y.1.args) (hn : L1.length + L2.length ≤ 1000000) :
  Calls Tryz.prog 38 #[.slice (some ⟨gg, 0, none⟩) 2 2] w fun e w' => ∃ v', e = .returned v' ∧ InA w0 w.heap.size w' v' (L1 ++ L2) ∧ Below w.heap.size w w' := by
 refine (concat2_c v1 v2 L1 L2 gg w hb h1 h2 (fun x hx => (a1 x hx).sl) (fun x hx => (a2 x hx).sl) hn).mono ?_
 rintro e w' ⟨v', rfl, ho, hbl⟩
 exact ⟨v', rfl, ⟨ho, fun y hy => by
  rcases List.mem_append.1 hy with hy | hy
  ·exact a1 y hy
  ·exact a2 y hy⟩, hbl⟩
/-- the row of blocks that is made -/
structure NxS (w0 : World) (B : Nat) (w : World) (v : Value) (L : List (Bk × Value)) : Prop where
 own : w.ownsRow B 51 5 v L.length (L.flatMap bkCells)
 ins : ∀ x ∈ L, KrS w0 w x
section
variable {w0 w w' : World} {B : Nat} {v v' : Value} {L : List (Bk × Value)}
theorem NxS.below (h : NxS w0 B w v L) (hb : Below w.heap.size w w') : NxS w0 B w' v L := ⟨own_below h.own hb, fun x hx => (h.ins x hx).below hb⟩
theorem NxS.form (h : NxS w0 B w v L) : ∃ a c, v = .slice a L.length c := by
 obtain ⟨-, ⟨rfl, h3⟩ | ⟨g, cap, cur, rfl, -⟩⟩ := h.own
 ·exact ⟨none, 0, by rw [h3]⟩
 ·exact ⟨_, _, rfl⟩
theorem NxS.app (h : NxS w0 B w v L) {y : Bk × Value} (hy : KrS w0 w y) (o : w'.ownsRow B 51 5 v' (L.length + 1) (L.flatMap bkCells ++ bkCells y)) (g : w.grownBy w' v.ownBlock) : NxS w0 B w' v' (L ++ [y]) := by
 refine ⟨by rw [List.length_append, List.length_singleton, List.flatMap_append]; simpa using o, fun x hx => ?_⟩
 have key : ∀ x, KrS w0 w x → KrS w0 w' x := fun x hk => by
  rcases hk with h1 | ⟨LI, h1, h2, h3⟩
  ·exact .inl h1
  ·refine .inr ⟨LI, h1, h2, World.ownsRow.kept h3 g ?_⟩
   obtain ⟨-, ⟨e, -⟩ | ⟨g2, cap, cur, e, -, hg2, -⟩⟩ := h.own
   ·rw [e]
    by_cases h0 : x.2.ownBlock = none
    ·exact .inl h0
    ·exact .inr h0
   ·rw [e]
    right
    exact il_not h3 hg2 (by decide)
 rcases List.mem_append.1 hx with hx | hx
 ·exact key x (h.ins x hx)
 ·rw [List.mem_singleton.1 hx]; exact key y hy
theorem NxS.bks (h : NxS w0 B w v L) : BkS w0 w v (L.map Prod.fst) := .inr ⟨L, rfl, by
 obtain ⟨h1, h2⟩ := h.own
 refine ⟨h1, ?_⟩
 rcases h2 with h2 | ⟨g, cap, cur, e, -, h3⟩
 ·exact .inl h2
 ·exact .inr ⟨g, cap, cur, e, Nat.zero_le _, h3⟩, h.ins⟩
/-- a block of the row written whole -/
theorem NxS.put5 {g c : Nat} (h : NxS w0 B w (.slice (some ⟨g, 0, none⟩) L.length c) L) {k : Nat} (hk : k < L.length) {y : Bk × Value} (hy : KrS w0 w y) :
  NxS w0 B (((((w.setCell ⟨g, k * 5, none⟩ y.2).setCell ⟨g, k * 5 + 1, none⟩ (.int .i64 y.1.fin)).setCell ⟨g, k * 5 + 2, none⟩ (.int .i64 y.1.a)).setCell ⟨g, k * 5 + 3, none⟩ (.int .i64 y.1.to)).setCell ⟨g, k * 5 + 4, none⟩ (.int .i64 y.1.els)) (.slice (some ⟨g, 0, none⟩) L.length c) (L.set k y) := by
 obtain ⟨-, ⟨e, -⟩ | ⟨g2, cap, cur, e, -, hg2, -⟩⟩ := id h.own
 ·cases e
 simp only [Value.slice.injEq, Option.some.injEq, Addr.mk.injEq, and_true, true_and] at e
 obtain ⟨rfl, rfl⟩ := e
 have h1 := (World.ownsRow.stored h.own (k * 5 + 0) y.2).1
 rw [flat_setS bkCells 5 (fun _ => rfl) L k 0 y.2 ((L.getD k default).1, y.2) hk (by decide) rfl] at h1
 have h2 := (World.ownsRow.stored h1 (k * 5 + 1) (.int .i64 y.1.fin)).1
 rw [flat_setS bkCells 5 (fun _ => rfl) _ k 1 (.int .i64 y.1.fin) ({ (L.getD k default).1 with fin := y.1.fin }, y.2) (by simpa using hk) (by decide) (by simp [List.getD, hk]; rfl), List.set_set] at h2
 have h3 := (World.ownsRow.stored h2 (k * 5 + 2) (.int .i64 y.1.a)).1
 rw [flat_setS bkCells 5 (fun _ => rfl) _ k 2 (.int .i64 y.1.a) ({ (L.getD k default).1 with fin := y.1.fin, a := y.1.a }, y.2) (by simpa using hk) (by decide) (by simp [List.getD, hk]; rfl), List.set_set] at h3
 have h4 := (World.ownsRow.stored h3 (k * 5 + 3) (.int .i64 y.1.to)).1
 rw [flat_setS bkCells 5 (fun _ => rfl) _ k 3 (.int .i64 y.1.to) ({ (L.getD k default).1 with fin := y.1.fin, a := y.1.a, «to» := y.1.to }, y.2) (by simpa using hk) (by decide) (by simp [List.getD, hk]; rfl), List.set_set] at h4
 have h5 := (World.ownsRow.stored h4 (k * 5 + 4) (.int .i64 y.1.els)).1
 rw [flat_setS bkCells 5 (fun _ => rfl) _ k 4 (.int .i64 y.1.els) y (by simpa using hk) (by decide) (by simp [List.getD, hk]; rfl), List.set_set] at h5
 have hb : But g w (((((w.setCell ⟨g, k * 5 + 0, none⟩ y.2).setCell ⟨g, k * 5 + 1, none⟩ (.int .i64 y.1.fin)).setCell ⟨g, k * 5 + 2, none⟩ (.int .i64 y.1.a)).setCell ⟨g, k * 5 + 3, none⟩ (.int .i64 y.1.to)).setCell ⟨g, k * 5 + 4, none⟩ (.int .i64 y.1.els)) :=
  ((((But.setCell g _ w _).trans (But.setCell g _ _ _)).trans (But.setCell g _ _ _)).trans (But.setCell g _ _ _)).trans (But.setCell g _ _ _)
 refine ⟨by rw [List.length_set]; exact h5, fun x hx => ?_⟩
 rcases List.mem_or_eq_of_mem_set hx with hx | rfl
 ·exact (h.ins x hx).but hb hg2 (by decide)
 ·exact hy.but hb hg2 (by decide)
end
/-- a clone of a row of blocks -/
theorem cloneN {w0 : World} (v : Value) (L : List (Bk × Value)) (w : World) (h : Src w v L.length (L.flatMap bkCells)) (hk : ∀ x ∈ L, KrS w0 w x) (he : Ext w0 w) (hn : L.length ≤ 1000000) :
  Calls Tryz.prog 41 #[v] w fun e w' => ∃ v', e = .returned v' ∧ NxS w0 w.heap.size w' v' L ∧ Below w.heap.size w w' := by
 refine (cloneBk v L.length _ w h (flat_len bkCells 5 (fun _ => rfl) L) hn (bk_one L fun x hx => Rows'.sl ((hk x hx).rd he))).mono ?_
 rintro e w' ⟨v', rfl, ho, hb⟩
 exact ⟨v', rfl, ⟨ho, fun x hx => (hk x hx).below hb⟩, hb⟩
end Go.Proofs.YtchoiankeohonaaGreatDoor
