/-
 The document's answer for alias: rows of bools that are made anew (join, with).
-/
import Derived.Test.YtkhfddodmjnecaaZAliasMeets02
import Derived.Test.YtkhfddodmjnecaaZAliasMeets15
import Derived.Test.YtkhfddodmjnecaaZAliasMeets09
set_option linter.all false
namespace Go.Proofs.Ytkhfddodmjnecaa
open Go.ChangeShapes Go.WideShapes Go.ChangeAt Go.RowKit
set_option maxHeartbeats 4000000
set_option maxRecDepth 100000
set_option linter.unusedVariables false

theorem info_boolA : (Try.prog.info? 4).map (fun i => (i.zero, i.size, i.bytes)) = some (some (.bool false), 1, 1) := by kernel_rfl
def RetB (w : World) (l : List Bool) (e : Ending) (w' : World) : Prop := ∃ v, e = .returned v ∧ OwnB w' w.heap.size v l ∧ Below w.heap.size w w'
/-- append of one bool to a row of the call's own -/
theorem appBo {ops : Array Oper} {rest : List Oper} {o : Oper} {a : Act} {W w0 : World} {B : Nat} {v : Value} {l : List Bool} {n : Bool} {g : Nat} {Q : Exit → Act → World → Prop} {s x : Operand} (hown : OwnB W B v l) (hbl : Below B w0 W) (hle : B ≤ w0.heap.size) (hgd : o.guard = none)
  (ho : o.op = .call { callee := .builtin .append, args := #[s, x], argTypes := #[45, 45] }) (hs : a.eval s = v)
  (hx : a.eval x = .slice (some ⟨g, 0, none⟩) 1 1) (hg : g = W.heap.size) (hlen : l.length ≤ 1000000000)
  (h : ∀ v' w', OwnB w' B v' (l ++ [n]) → Below B w0 w' → wpList Try.prog ops Q rest (a.put o.dst v') w') : wpList Try.prog ops Q (o :: rest) a (W.alloc (.cells #[.bool n] 4)) := by
 have hz := Nat.le_trans hle hbl.size
 have hA : Below W.heap.size W (W.alloc (.cells #[.bool n] 4)) := Below.alloc (Below.refl _ _) (Nat.le_refl _) _
 refine appG 45 4 info_boolA Try.underlying45 rfl (by decide) (by decide) [.bool n] rfl (by intro u hu; simp at hu; subst hu; rfl) (own_below hown hA) hgd ho hs hx (cell_new1 W (.bool n) 4 g hg) hlen (by simp; omega) ?_
 intro v' w' h1 h2 h3
 refine h v' w' ?_ (below_grown (hbl.trans (hA.mono hz)) h2 (by simp; omega) fun k hk => (own_lt hown hk).1)
 unfold OwnB
 simpa using h1
theorem ownB_form {w : World} {B : Nat} {v : Value} {l : List Bool} (h : OwnB w B v l) : ∃ a c, v = .slice a l.length c := by
 obtain ⟨-, ⟨rfl, h2⟩ | ⟨g, cap, cur, rfl, -⟩⟩ := h
 ·exact ⟨none, 0, by rw [h2]⟩
 ·exact ⟨_, _, rfl⟩
theorem orL_take (a b : List Bool) (k : Nat) (hk : k < a.length) : (List.range (k + 1)).map (fun i => a.getD i false || b.getD i false) = (List.range k).map (fun i => a.getD i false || b.getD i false) ++ [a.getD k false || b.getD k false] := by
 rw [List.range_succ, List.map_append]; rfl
theorem withL_take (a : List Bool) (n : Int) (k : Nat) : (List.range (k + 1)).map (fun i : Nat => a.getD i false || decide ((i : Int) = n)) = (List.range k).map (fun i : Nat => a.getD i false || decide ((i : Int) = n)) ++ [a.getD k false || decide ((k : Int) = n)] := by
 rw [List.range_succ, List.map_append]; rfl

theorem joinB21_c (ga na ca gb nb cb : Nat) (a b : List Bool) (w : World) (ha : RowB w ga na ca a) (hb : RowB w gb nb cb b) (hl : a.length ≤ b.length) (hn : b.length ≤ 1000) :
  Calls Try.prog 52 #[.slice (some ⟨ga, 0, none⟩) na ca, .slice (some ⟨gb, 0, none⟩) nb cb] w (RetB w (orL a b)) := by
 obtain ⟨rfl, a1, a2, -, a3, -, a4⟩ := ha.cellAt
 obtain ⟨rfl, b1, b2, -, b3, -, b4⟩ := hb.cellAt
 have HA := Lib.hid a3
 have HB := Lib.hid b3
 have O0 : Hid (OwnB w w.heap.size (.slice none 0 0) ((List.range 0).map (fun i => a.getD i false || b.getD i false))) := World.ownsRow_nil _ _ _ _
 have HL : Hid (orL a b = (List.range a.length).map (fun i => a.getD i false || b.getD i false)) := rfl
 have HS : Hid (∀ k, k < a.length → (List.range (k + 1)).map (fun i => a.getD i false || b.getD i false) = (List.range k).map (fun i => a.getD i false || b.getD i false) ++ [a.getD k false || b.getD k false]) := fun k hk => orL_take a b k hk
 unfold maxLen at a2 b2
 clear a3 b3 ha hb
 rw [HL.out]
 clear HL
 go_enter Try.func52, Try.ntmps52
 go_wp2_with fail
 go_loopw [5, 6] (fun v i wr => ∃ (t : Nat), t ≤ a.length ∧ i = .int .i64 (t : Int) ∧ Hid (OwnB wr w.heap.size v ((List.range t).map (fun i => a.getD i false || b.getD i false))) ∧ Hid (Below w.heap.size w wr)) (fun _ i _ => a.length - (intOf i).toNat)
 case atStart => exact ⟨0, Nat.zero_le _, rfl, O0, Below.refl _ _⟩
 case round =>
  clear O0
  obtain ⟨t, ht, rfl, O, HBW⟩ := hrel
  have hbz := HBW.out.size
  by_cases hlt : t < a.length
  ·have gt : decide ((t : Int) < (a.length : Int)) = true := decide_eq_true (by omega)
   have gt1 : decide (t < a.length) = true := decide_eq_true hlt
   have gt2 : decide ((t : Int) < (b.length : Int)) = true := decide_eq_true (by omega)
   have gt3 : decide (t < b.length) = true := decide_eq_true (by omega)
   have x1 : wr.cell? ⟨ga, t, none⟩ = some (.bool (a.getD t false)) := (HBW.out.cell (p := ⟨ga, t, none⟩) a4).trans (HA.out t hlt)
   have x2 : wr.cell? ⟨gb, t, none⟩ = some (.bool (b.getD t false)) := (HBW.out.cell (p := ⟨gb, t, none⟩) b4).trans (HB.out t (by omega))
   have HN := Lib.hid (HS.out t hlt)
   have hlen : ((List.range t).map (fun i => a.getD i false || b.getD i false)).length = t := by simp
   have HLn := Lib.hid hlen
   clear hlen
   generalize (List.range t).map (fun i => a.getD i false || b.getD i false) = L at *
   generalize hA : a.getD t false = A at *
   generalize hB : b.getD t false = B at *
   clear hA hB
   have O := O.out
   obtain ⟨av, cv, rfl⟩ := ownB_form O
   have hLl := HLn.out
   have HLn2 : L.length ≤ 1000000000 := by omega
   clear hLl
   cases A
   ·go_wp2_with (at_builtin; refine appBo (n := B) O HBW.out (Nat.le_refl _) rfl rfl rfl rfl (by simp) HLn2 ?_; intro v1 w2 O1 B1)
    go_roundw
    case rel => exact ⟨t + 1, hlt, by go_num, by rw [HN.out]; exact O1, B1⟩
    case measure => simp [intOf]; omega
   ·go_wp2_with (at_builtin; refine appBo (n := true) O HBW.out (Nat.le_refl _) rfl rfl rfl rfl (by simp) HLn2 ?_; intro v1 w2 O1 B1)
    go_roundw
    case rel => exact ⟨t + 1, hlt, by go_num, by rw [HN.out]; exact O1, B1⟩
    case measure => simp [intOf]; omega
  ·obtain rfl : t = a.length := by omega
   go_wp2_with fail
   go_ret
   exact ⟨_, rfl, O.out, HBW.out⟩
theorem withB21_c (ga na ca : Nat) (a : List Bool) (n : Int) (w : World) (ha : RowB w ga na ca a) (hn : a.length ≤ 1000) :
  Calls Try.prog 93 #[.slice (some ⟨ga, 0, none⟩) na ca, .int .i64 n] w (RetB w (withL a n)) := by
 obtain ⟨rfl, a1, a2, -, a3, -, a4⟩ := ha.cellAt
 have HA := Lib.hid a3
 have O0 : Hid (OwnB w w.heap.size (.slice none 0 0) ((List.range 0).map (fun i : Nat => a.getD i false || decide ((i : Int) = n)))) := World.ownsRow_nil _ _ _ _
 have HL : Hid (withL a n = (List.range a.length).map (fun i : Nat => a.getD i false || decide ((i : Int) = n))) := rfl
 have HS : Hid (∀ k, (List.range (k + 1)).map (fun i : Nat => a.getD i false || decide ((i : Int) = n)) = (List.range k).map (fun i : Nat => a.getD i false || decide ((i : Int) = n)) ++ [a.getD k false || decide ((k : Int) = n)]) := fun k => withL_take a n k
 unfold maxLen at a2
 clear a3 ha
 rw [HL.out]
 clear HL
 go_enter Try.func93, Try.ntmps93
 go_wp2_with fail
 go_loopw [5, 6] (fun v i wr => ∃ (t : Nat), t ≤ a.length ∧ i = .int .i64 (t : Int) ∧ Hid (OwnB wr w.heap.size v ((List.range t).map (fun i : Nat => a.getD i false || decide ((i : Int) = n)))) ∧ Hid (Below w.heap.size w wr)) (fun _ i _ => a.length - (intOf i).toNat)
 case atStart => exact ⟨0, Nat.zero_le _, rfl, O0, Below.refl _ _⟩
 case round =>
  clear O0
  obtain ⟨t, ht, rfl, O, HBW⟩ := hrel
  have hbz := HBW.out.size
  by_cases hlt : t < a.length
  ·have gt : decide ((t : Int) < (a.length : Int)) = true := decide_eq_true (by omega)
   have gt1 : decide (t < a.length) = true := decide_eq_true hlt
   have x1 : wr.cell? ⟨ga, t, none⟩ = some (.bool (a.getD t false)) := (HBW.out.cell (p := ⟨ga, t, none⟩) a4).trans (HA.out t hlt)
   have HN := Lib.hid (HS.out t)
   have hlen : ((List.range t).map (fun i : Nat => a.getD i false || decide ((i : Int) = n))).length = t := by simp
   have HLn := Lib.hid hlen
   clear hlen
   generalize (List.range t).map (fun i : Nat => a.getD i false || decide ((i : Int) = n)) = L at *
   generalize hA : a.getD t false = A at *
   have hE : ((t : Int) == n) = decide ((t : Int) = n) := by rw [Bool.eq_iff_iff]; simp
   generalize hB : decide ((t : Int) = n) = B at *
   clear hA hB
   have O := O.out
   obtain ⟨av, cv, rfl⟩ := ownB_form O
   have hLl := HLn.out
   have HLn2 : L.length ≤ 1000000000 := by omega
   clear hLl
   cases A
   ·go_wp2_with (at_builtin; refine appBo (n := B) O HBW.out (Nat.le_refl _) rfl rfl rfl rfl (by simp) HLn2 ?_; intro v1 w2 O1 B1)
    go_roundw
    case rel => exact ⟨t + 1, hlt, by go_num, by rw [HN.out]; exact O1, B1⟩
    case measure => simp [intOf]; omega
   ·go_wp2_with (at_builtin; refine appBo (n := true) O HBW.out (Nat.le_refl _) rfl rfl rfl rfl (by simp) HLn2 ?_; intro v1 w2 O1 B1)
    go_roundw
    case rel => exact ⟨t + 1, hlt, by go_num, by rw [HN.out]; exact O1, B1⟩
    case measure => simp [intOf]; omega
  ·obtain rfl : t = a.length := by omega
   go_wp2_with fail
   go_ret
   exact ⟨_, rfl, O.out, HBW.out⟩
end Go.Proofs.Ytkhfddodmjnecaa
