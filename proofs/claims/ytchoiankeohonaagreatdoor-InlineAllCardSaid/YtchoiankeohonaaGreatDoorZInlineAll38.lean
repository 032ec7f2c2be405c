/-
 inline: what sets a small procedure's registers.
-/
import Derived.Test.YtchoiankeohonaaGreatDoorZInlineAll37
import Derived.Test.YtchoiankeohonaaGreatDoorZInlineAll29
import Derived.Test.YtchoiankeohonaaGreatDoorZInlineAll31
set_option linter.all false
namespace Go.Proofs.YtchoiankeohonaaGreatDoor
open Go.ChangeShapes Go.WideShapes Go.ChangeAt Go.RowKit
set_option maxHeartbeats 4000000
set_option maxRecDepth 100000
set_option linter.unusedVariables false

theorem InA.base {w0 w : World} {B B' : Nat} {v : Value} {L : List (In × Value)} (h : InA w0 B w v L) (hB : B' ≤ B) : InA w0 B' w v L := by
 obtain ⟨⟨h1, h2⟩, h3⟩ := h
 refine ⟨⟨h1, ?_⟩, h3⟩
 rcases h2 with h2 | ⟨g, cap, cur, e, h4, h5⟩
 ·exact .inl h2
 ·exact .inr ⟨g, cap, cur, e, Nat.le_trans hB h4, h5⟩
def argsK (args : List Int) (g : Int) (k : Nat) : List In := (List.range k).map fun (j : Nat) => copI (g + (j : Int)) (args.getD j 0)
theorem argsK_succ (args : List Int) (g : Int) (k : Nat) : argsK args g (k + 1) = argsK args g k ++ [copI (g + (k : Int)) (args.getD k 0)] := by
 unfold argsK; rw [List.range_succ, List.map_append]; rfl
def liveK (q : Pr) (k : Nat) : List Nat := (List.range k).filter fun (r : Nat) => liveP q 0 0 (r : Int) && decide (q.params ≤ (r : Int))
theorem liveK_yes {q : Pr} {k : Nat} (h : (liveP q 0 0 (k : Int) && decide (q.params ≤ (k : Int))) = true) : liveK q (k + 1) = liveK q k ++ [k] := by
 unfold liveK; rw [List.range_succ, List.filter_append]; simp [h]
theorem liveK_no {q : Pr} {k : Nat} (h : (liveP q 0 0 (k : Int) && decide (q.params ≤ (k : Int))) = false) : liveK q (k + 1) = liveK q k := by
 unfold liveK; rw [List.range_succ, List.filter_append]
 simp only [List.filter_cons, h, List.filter_nil]
 simp
def zrosK (q : Pr) (g : Int) (k : Nat) : List In := (liveK q k).map fun (r : Nat) => zroI (g + (r : Int))
theorem zrosK_yes {q : Pr} {g : Int} {k : Nat} (h : (liveP q 0 0 (k : Int) && decide (q.params ≤ (k : Int))) = true) : zrosK q g (k + 1) = zrosK q g k ++ [zroI (g + (k : Int))] := by
 unfold zrosK; rw [liveK_yes h, List.map_append]; rfl
theorem zrosK_no {q : Pr} {g : Int} {k : Nat} (h : (liveP q 0 0 (k : Int) && decide (q.params ≤ (k : Int))) = false) : zrosK q g (k + 1) = zrosK q g k := by
 unfold zrosK; rw [liveK_no h]
theorem argsK_len (args : List Int) (g : Int) (k : Nat) : (argsK args g k).length = k := by unfold argsK; simp
theorem zrosK_len (q : Pr) (g : Int) (k : Nat) : (zrosK q g k).length ≤ k := by
 unfold zrosK liveK
 rw [List.length_map]
 have := List.length_filter_le (fun (r : Nat) => liveP q 0 0 (r : Int) && decide (q.params ≤ (r : Int))) (List.range k)
 rw [List.length_range] at this
 exact this
theorem one11 (y : In) : ∀ u ∈ inCells (y, Value.slice none 0 0), u.oneCell' = true := fun u hu => by
 simp only [inCells, List.mem_cons, List.not_mem_nil, or_false] at hu
 rcases hu with rfl | rfl | rfl | rfl | rfl | rfl | rfl | rfl | rfl | rfl | rfl <;> rfl
/-- what has been put so far -/
structure HdS (w0 w : World) (l : List In) (v : Value) (L : List (In × Value)) (wr : World) : Prop where
 row : InA w0 (w.heap.size + 1) wr v L
 is : L.map Prod.fst = l
 be : Below w.heap.size w wr
theorem HdS.below {w0 w wr w' : World} {l : List In} {v : Value} {L : List (In × Value)} (h : HdS w0 w l v L wr) (hb : Below wr.heap.size wr w') : HdS w0 w l v L w' := ⟨h.row.below hb, h.is, h.be.trans (hb.mono h.be.size)⟩
theorem HdS.app {w0 w wr w' : World} {l : List In} {v v' : Value} {L : List (In × Value)} (h : HdS w0 w l v L wr) (y : In) (hy : y.args = []) (hz : w.heap.size + 1 ≤ wr.heap.size) (o : w'.ownsRow (w.heap.size + 1) 48 11 v' (L.length + 1) (L.flatMap inCells ++ inCells (y, .slice none 0 0))) (g : wr.grownBy w' v.ownBlock) : HdS w0 w (l ++ [y]) v' (L ++ [(y, .slice none 0 0)]) w' :=
 ⟨h.row.app (by show RdI w0 (.slice none 0 0) y.args; rw [hy]; exact RdI.nil w0) o, by rw [List.map_append, h.is]; rfl, h.be.grown g h.be.size (fun k hk => by have := (own_lt h.row.own hk).1; omega)⟩
theorem HdS.box {w0 w wr w' : World} {l : List In} {v : Value} {L : List (In × Value)} (h : HdS w0 w l v L wr) (hz : w.heap.size < wr.heap.size) (g : wr.grownBy w' v.ownBlock) : w'.heap[w.heap.size]? = wr.heap[w.heap.size]? :=
 g.block _ hz (fun e => by have := (own_lt h.row.own e.symm).1; omega)
def prO (nm : ByteArray) (q : Pr) (vo vb : Value) : Obj := .cells #[.string nm, .bool q.void, .int .i64 q.params, .int .i64 q.regs, vo, vb] 35
def HandQ (w0 : World) (q : Pr) (args : List Int) (g : Int) (w : World) (e : Ending) (w' : World) : Prop := ∃ v' L, e = .returned v' ∧ L.map Prod.fst = handL q args g ∧ InA w0 w.heap.size w' v' L ∧ Below w.heap.size w w'
theorem handed_c (w0 : World) (q : Pr) (V va : Value) (args : List Int) (g : Int) (w : World) (hq : PrV w V q) (ha : RdI w va args) (hal : args.length ≤ 1000) (hg : 0 ≤ g ∧ g ≤ 100000) (hb1 : 1 ≤ q.blks.length) (hlen : q.blks.length ≤ 1000)
  (hins : ∀ n, n < q.blks.length → (q.blks.getD n default).ins.length ≤ 1000 ∧ ∀ k, k < (q.blks.getD n default).ins.length → ((q.blks.getD n default).ins.getD k default).args.length ≤ 1000) (hreg : q.regs ≤ 10000) (hreg' : I64 q.regs) (hpar : 0 ≤ q.params ∧ q.params ≤ 1000) :
  Calls Tryz.prog 39 #[V, va, .int .i64 g] w (HandQ w0 q args g w) := by
 have EL : Hid (∀ w', Ext w w' → Calls Tryz.prog 54 #[V] w' (LivePost q w')) := fun w' he => live_c q V w' (hq.ext he) hlen hins hreg hreg'
 have HC : Hid (∀ (d a : Int) w', Calls Tryz.prog 53 #[.int .i64 d, .int .i64 a] w' fun e w'' => e = .returned (.agg #[.int .i64 2, .int .i64 d, .int .i64 a, .int .i64 (-1), .int .i64 0, .int .i64 0, .int .i64 0, .int .i64 0, .int .u32 0, .slice none 0 0, .bool false]) ∧ Below w'.heap.size w' w'') := fun d a w' => copied_c d a w'
 clear hins
 obtain ⟨nm, vo, vb, rfl, hvo, hvb⟩ := hq
 obtain ⟨ao, co, rfl, -⟩ := hvo
 obtain ⟨ab, cb, rfl, -⟩ := hvb
 have ha' := ha
 obtain ⟨aa, ca, rfl, hl1, hl2, -⟩ := ha'
 unfold maxLen at hl2
 have HA := Lib.hid (RdI.at' ha).2
 clear ha
 obtain ⟨W0, hW0⟩ : ∃ W0, W0 = w.alloc (.cells #[.string nm, .bool q.void, .int .i64 q.params, .int .i64 q.regs, .slice ao q.objs.length co, .slice ab q.blks.length cb] 35) := ⟨_, rfl⟩
 have B0 : Hid (Below w.heap.size w W0) := by rw [hW0]; exact below_alloc w _
 have H0 : Hid (W0.heap[w.heap.size]? = some (prO nm q (.slice ao q.objs.length co) (.slice ab q.blks.length cb))) := heap_of_alloc w _ _ hW0
 have hz0 : W0.heap.size = w.heap.size + 1 := by rw [hW0]; simp
 have HW0 := Lib.hid hW0
 have S0 : Hid (HdS w0 w (argsK args g 0) (.slice none 0 0) [] W0) := ⟨InA.nil _ _ _, rfl, B0.out⟩
 clear hW0
 go_enter Tryz.func39, Tryz.ntmps39
 go_wp2_with fail
 rw [← HW0.out]
 go_loopw [7, 16] (fun v i wr => ∃ (k : Nat) (L : List (In × Value)), k ≤ args.length ∧ i = .int .i64 (k : Int) ∧ Hid (HdS w0 w (argsK args g k) v L wr) ∧ Hid (wr.heap[w.heap.size]? = some (prO nm q (.slice ao q.objs.length co) (.slice ab q.blks.length cb)))) (fun _ i _ => args.length - (intOf i).toNat)
 case atStart => exact ⟨0, [], Nat.zero_le _, rfl, S0, H0⟩
 case round =>
  clear S0 H0 B0 HW0
  obtain ⟨k, L, hk, rfl, S, HP⟩ := hrel
  have lp := (Array.getElem?_eq_some_iff.1 HP.out).1
  have hLk : L.length = k := by
   have := congrArg List.length S.out.is
   rw [List.length_map, argsK_len] at this
   exact this
  obtain ⟨av, cv, ev⟩ := S.out.row.form
  subst ev
  by_cases hlt : k < args.length
  ·obtain ⟨b, o, rfl, hcx⟩ := HA.out k hlt
   replace hcx := Ext.below S.out.be _ _ hcx
   have HKS := Lib.hid (argsK_succ args g k)
   generalize args.getD k 0 = x at *
   have q1 : decide ((k : Int) < (args.length : Int)) = true := decide_eq_true (by omega)
   have q2 : decide (k < args.length) = true := decide_eq_true hlt
   have hLl : L.length ≤ 1000 := by omega
   clear hLk
   go_wp2_with fail
   refine (HC.out (g + (k : Int)) x wr).mono ?_
   rintro e w7 ⟨rfl, hb7⟩
   have S7 := Lib.hid ((S.out.below hb7).below (below_alloc w7 (.cells #[.int .i64 2, .int .i64 (g + (k : Int)), .int .i64 x, .int .i64 (-1), .int .i64 0, .int .i64 0, .int .i64 0, .int .i64 0, .int .u32 0, .slice none 0 0, .bool false] 48)))
   have HP7 := Lib.hid ((((below_alloc w7 (.cells #[.int .i64 2, .int .i64 (g + (k : Int)), .int .i64 x, .int .i64 (-1), .int .i64 0, .int .i64 0, .int .i64 0, .int .i64 0, .int .u32 0, .slice none 0 0, .bool false] 48)).block _ (Nat.lt_of_lt_of_le lp hb7.size)).trans (hb7.block _ lp)).trans HP.out)
   have HCX : Hid (∀ jj u, (inCells (copI (g + (k : Int)) x, .slice none 0 0))[jj]? = some u → (w7.alloc (.cells #[.int .i64 2, .int .i64 (g + (k : Int)), .int .i64 x, .int .i64 (-1), .int .i64 0, .int .i64 0, .int .i64 0, .int .i64 0, .int .u32 0, .slice none 0 0, .bool false] 48)).cell? ⟨w7.heap.size, jj, none⟩ = some u) := cell_newX w7 (inCells (copI (g + (k : Int)) x, .slice none 0 0)) 48 _ rfl
   have l7 := (Array.getElem?_eq_some_iff.1 HP7.out).1
   clear S HP lp hb7 HC EL hcx
   go_wp2_with (at_builtin; refine appG 49 48 info_in Tryz.underlying49 rfl (by decide) (by decide) (inCells (copI (g + (k : Int)) x, .slice none 0 0)) rfl (one11 _) S7.out.row.own rfl rfl rfl rfl HCX.out (by omega) (by omega) ?_; intro v9 w9 O9 G9 D9)
   have S9 := Lib.hid (S7.out.app _ rfl (by omega) O9 G9)
   have HP9 := Lib.hid ((S7.out.box l7 G9).trans HP7.out)
   clear O9 G9 D9 S7 HP7 HCX l7
   go_roundw
   case rel => exact ⟨k + 1, L ++ [(copI (g + (k : Int)) x, .slice none 0 0)], by omega, by go_num, by rw [HKS.out]; exact S9, HP9⟩
   case measure => simp [intOf]; omega
  ·obtain rfl : k = args.length := by omega
   have q1 : decide ((args.length : Int) < (args.length : Int)) = false := decide_eq_false (by omega)
   have q2 : decide (args.length < args.length) = false := decide_eq_false (by omega)
   obtain ⟨x0, x1, x2, x3, x4, x5, lx⟩ := cl6 HP.out
   go_wp2_with fail
   refine (EL.out wr (Ext.below S.out.be)).mono ?_
   rintro e w2 ⟨kk, vi, vt, gi, go, rfl, hgr, M⟩
   have S2 := Lib.hid (S.out.below M.below)
   have HP2 := Lib.hid ((M.below.block _ lp).trans HP.out)
   have HL : Hid (∀ r : Nat, r < regsN q → ((lvN q kk).li.getD 0 []).getD r false = liveP q 0 0 r) := fun r hr => (lv_live hgr (by omega) hr).1
   obtain ⟨tj, cj, rfl, ho1, ho2, hto⟩ := M.atI (by omega : 0 < q.blks.length)
   obtain ⟨to', co', rfl, -, -, -⟩ := M.atO (by omega : 0 < q.blks.length)
   unfold maxLen at ho2
   have cI := hto 0 (by omega)
   have HRI := Lib.hid (M.rowI 0 (by omega))
   have hnR : (regsN q : Int) ≤ 10000 := by unfold regsN; omega
   have hL0 : L.length ≤ 1000 := by omega
   have HRE : Hid (regsN q = q.regs.toNat) := rfl
   clear hgr M EL HC hto S HP x0 x1 x2 x3 x4 x5 lx lp hLk hlt
   unfold rowV at cI
   generalize gi 0 = g2 at *
   generalize (lvN q kk).li.getD 0 [] = li at *
   obtain ⟨hri0, hri1, hri2, -, hri, -, lg2⟩ := HRI.out.cellAt
   unfold maxLen at hri2
   generalize regsN q = R at *
   obtain ⟨x0, x1, x2, x3, x4, x5, lx⟩ := cl6 HP2.out
   have q3 : decide (0 < q.blks.length) = true := decide_eq_true (by omega)
   have q4 : decide ((0 : Int) < (q.blks.length : Int)) = true := decide_eq_true (by omega)
   go_wp2_with fail
   clear x0 x1 x2 x3 x4 x5 lx cI q1 q2 q3 q4 hri
   go_loopw [7, 39] (fun v i wr => ∃ (k : Nat) (L : List (In × Value)), k ≤ R ∧ i = .int .i64 (k : Int) ∧ Hid (HdS w0 w (argsK args g args.length ++ zrosK q g k) v L wr) ∧ Hid (wr.heap[w.heap.size]? = some (prO nm q (.slice ao q.objs.length co) (.slice ab q.blks.length cb))) ∧ Hid (RowB wr g2 R R li)) (fun _ i _ => R - (intOf i).toNat)
   case atStart => exact ⟨0, L, Nat.zero_le _, rfl, by show HdS _ _ _ _ _ _; rw [show zrosK q g 0 = [] from rfl, List.append_nil]; exact S2.out, HP2, HRI⟩
   case round =>
    clear S2 HP2 HRI
    obtain ⟨k, L1, hk, rfl, S, HP, HR⟩ := hrel
    obtain ⟨x0, x1, x2, x3, x4, x5, lx⟩ := cl6 HP.out
    have hLk : L1.length ≤ args.length + k := by
     have := congrArg List.length S.out.is
     rw [List.length_map, List.length_append, argsK_len] at this
     have := zrosK_len q g k
     omega
    obtain ⟨av, cv, ev⟩ := S.out.row.form
    subst ev
    by_cases hlt : k < R
    ·obtain ⟨-, -, -, -, hri, -, lg3⟩ := HR.out.cellAt
     have cr := hri k hlt
     rw [HL.out k hlt] at cr
     clear hri
     have HZY := Lib.hid (@zrosK_yes q g k)
     have HZN := Lib.hid (@zrosK_no q g k)
     have q1 : decide ((k : Int) < (R : Int)) = true := decide_eq_true (by omega)
     have q2 : decide (k < R) = true := decide_eq_true hlt
     have hLl : L1.length ≤ 20000 := by omega
     clear hLk
     generalize liveP q 0 0 (k : Int) = lv at *
     cases lv
     ·have HZ := Lib.hid (HZN.out rfl)
      clear HZY HZN
      go_wp2_with fail
      go_roundw
      case rel => exact ⟨k + 1, L1, by omega, by go_num, by rw [HZ.out]; exact S, HP, HR⟩
      case measure => simp [intOf]; omega
     ·by_cases hp : q.params ≤ (k : Int)
      ·have g1 : decide (q.params ≤ (k : Int)) = true := decide_eq_true hp
       have HZ := Lib.hid (HZY.out (by rw [g1]; rfl))
       clear HZY HZN hp
       have S7 := Lib.hid (S.out.below (below_alloc wr (.cells #[.int .i64 1, .int .i64 (g + (k : Int)), .int .i64 (-1), .int .i64 (-1), .int .i64 0, .int .i64 0, .int .i64 0, .int .i64 0, .int .u32 0, .slice none 0 0, .bool false] 48)))
       have HP7 := Lib.hid (((below_alloc wr (.cells #[.int .i64 1, .int .i64 (g + (k : Int)), .int .i64 (-1), .int .i64 (-1), .int .i64 0, .int .i64 0, .int .i64 0, .int .i64 0, .int .u32 0, .slice none 0 0, .bool false] 48)).block _ lx).trans HP.out)
       have HR7 := Lib.hid (HR.out.below (below_alloc wr (.cells #[.int .i64 1, .int .i64 (g + (k : Int)), .int .i64 (-1), .int .i64 (-1), .int .i64 0, .int .i64 0, .int .i64 0, .int .i64 0, .int .u32 0, .slice none 0 0, .bool false] 48)))
       have HCX : Hid (∀ jj u, (inCells (zroI (g + (k : Int)), .slice none 0 0))[jj]? = some u → (wr.alloc (.cells #[.int .i64 1, .int .i64 (g + (k : Int)), .int .i64 (-1), .int .i64 (-1), .int .i64 0, .int .i64 0, .int .i64 0, .int .i64 0, .int .u32 0, .slice none 0 0, .bool false] 48)).cell? ⟨wr.heap.size, jj, none⟩ = some u) := cell_newX wr (inCells (zroI (g + (k : Int)), .slice none 0 0)) 48 _ rfl
       have l7 := (Array.getElem?_eq_some_iff.1 HP7.out).1
       have hne : Hid (some g2 ≠ (Value.slice av L1.length cv).ownBlock) := fun e => by
        obtain ⟨cur, hc⟩ := HR7.out.heap
        exact il_not S7.out.row.own hc (by decide) e.symm
       clear S HP HR
       go_wp2_with (at_builtin; refine appG 49 48 info_in Tryz.underlying49 rfl (by decide) (by decide) (inCells (zroI (g + (k : Int)), .slice none 0 0)) rfl (one11 _) S7.out.row.own rfl rfl rfl rfl HCX.out (by omega) (by simp at l7 ⊢; omega) ?_; intro v9 w9 O9 G9 D9)
       have S9 := Lib.hid (S7.out.app _ rfl (by omega) O9 G9)
       have HP9 := Lib.hid ((S7.out.box l7 G9).trans HP7.out)
       have HR9 := Lib.hid (HR7.out.grown G9 hne.out.symm)
       clear O9 G9 D9 S7 HP7 HR7 HCX l7 hne x0 x1 x2 x3 x4 x5 lx
       go_roundw
       case rel => exact ⟨k + 1, L1 ++ [(zroI (g + (k : Int)), .slice none 0 0)], by omega, by go_num, by rw [HZ.out, ← List.append_assoc]; exact S9, HP9, HR9⟩
       case measure => simp [intOf]; omega
      ·have g1 : decide (q.params ≤ (k : Int)) = false := decide_eq_false hp
       have HZ := Lib.hid (HZN.out (by rw [g1]; rfl))
       clear HZY HZN hp
       go_wp2_with fail
       go_roundw
       case rel => exact ⟨k + 1, L1, by omega, by go_num, by rw [HZ.out]; exact S, HP, HR⟩
       case measure => simp [intOf]; omega
    ·obtain rfl : k = R := by omega
     have q1 : decide ((k : Int) < (k : Int)) = false := decide_eq_false (by omega)
     have q2 : decide (k < k) = false := decide_eq_false (by omega)
     clear x0 x1 x2 x3 x4 x5 lx HP HR
     go_wp2_with fail
     go_ret
     refine ⟨_, L1, rfl, ?_, S.out.row.base (by omega), S.out.be⟩
     rw [S.out.is, HRE.out]
     rfl
end Go.Proofs.YtchoiankeohonaaGreatDoor
