/-
  The device's ports and stores.
-/
import Derived.Test.YtppmjdljnacpgaaV6
import Derived.Test.YtppmjdljnacpgaaN2
set_option linter.all false
namespace Go.Proofs.Ytppmjdljnacpgaa
open Go.ChangeShapes Go.WideShapes Go.ChangeAt Go.RowKit
set_option maxHeartbeats 2000000
set_option linter.unusedVariables false
set_option maxRecDepth 20000

def portD (m : Dv) (at' v : Int) : Option Dv :=
  if at' = 536870912 then some { m with seq := v }
  else if at' = 536870916 then some { m with log := m.log ++ [(m.seq, v)] }
  else if at' = 536870920 then some { m with index := v }
  else if at' = 536870928 then some { m with state := 1, exit := v }
  else none
theorem storeD_eq (m : Dv) (op at' v : Int) : storeD m op at' v = match (if op = 18 then portD m at' v else none) with
    | some m' => some m'
    | none => if liesP m at' (sizeP op) = true then some { m with data := putP m.data (at' - 268435456).toNat v (sizeP op).toNat } else none := by
  unfold storeD portD
  by_cases h : op = 18
  · by_cases h1 : at' = 536870912
    · simp [h, h1]
    · by_cases h2 : at' = 536870916
      · simp [h, h2]
      · by_cases h3 : at' = 536870920
        · simp [h, h3]
        · by_cases h4 : at' = 536870928
          · simp [h, h4]
          · simp [h, h1, h2, h3, h4]
  · simp only [h, false_and, if_false]
theorem vinfoRec : (Try.prog.info? 82).map (fun i => (i.zero, i.size, i.bytes)) = some (some (.agg #[.int .u32 0, .int .u32 0]), 2, 8) := by kernel_rfl
theorem vkeep {S : Nat → Prop} {w w' : World} (hb : Below w.heap.size w w') (h : ∀ b, S b → b < w.heap.size) : Keep S w w' := fun b o hs => hb.cell (p := ⟨b, o, none⟩) (h b hs)
theorem vbelow1 (w : World) (o : Obj) : Below w.heap.size w (w.alloc o) := Below.alloc (Below.refl _ _) (Nat.le_refl _) o
theorem vown_form {w : World} {B n sz : Nat} {e : TypeId} {v : Value} {xs : List Value} (h : w.ownsRow B e sz v n xs) : ∃ a c, v = .slice a n c := by
  obtain ⟨-, ⟨rfl, h0⟩ | ⟨g, cap, cur, rfl, -⟩⟩ := h
  · exact ⟨none, 0, by rw [h0]⟩
  · exact ⟨_, _, rfl⟩
section
variable {k : VK} {w : World} {vl : Value} {m : Dv} {ts : List Mt}
theorem vport_no (at' v : Int) (w : World) (bm : Nat) (hp : portD m at' v = none) :
    Calls Try.prog 64 #[.pointer (some ⟨bm, 0, none⟩), .int .u32 at', .int .u32 v] w fun e w' => e = .returned (.bool false) ∧ w = w' := by
  have h1 : ¬ at' = 536870912 := fun h => by subst h; simp [portD] at hp
  have h2 : ¬ at' = 536870916 := fun h => by subst h; simp [portD] at hp
  have h3 : ¬ at' = 536870920 := fun h => by subst h; simp [portD] at hp
  have h4 : ¬ at' = 536870928 := fun h => by subst h; simp [portD] at hp
  have g1 : (at' == 536870912) = false := beq_eq_false_iff_ne.2 h1
  have g2 : (at' == 536870916) = false := beq_eq_false_iff_ne.2 h2
  have g3 : (at' == 536870920) = false := beq_eq_false_iff_ne.2 h3
  have g4 : (at' == 536870928) = false := beq_eq_false_iff_ne.2 h4
  clear hp h1 h2 h3 h4
  go_enter Try.func64, Try.ntmps64
  go_wp2_with fail
  go_ret
  exact ⟨rfl, rfl⟩
theorem vport_seq (v : Int) (h : Vm k w vl m ts) :
    Calls Try.prog 64 #[.pointer (some ⟨k.bm, 0, none⟩), .int .u32 536870912, .int .u32 v] w fun e w' => e = .returned (.bool true) ∧ Vm k w' vl { m with seq := v } ts ∧ Chv k vl vl w w' := by
  have HS := Lib.hid (h.setSeq v)
  have cF := h.c 1 (by decide)
  have fz := h.fz 33
  have lb := h.bmLt.2
  clear h
  generalize k.bm = bm at *
  go_enter Try.func64, Try.ntmps64
  go_wp2_with fail
  go_ret
  exact ⟨rfl, HS.out⟩
theorem vport_index (v : Int) (h : Vm k w vl m ts) :
    Calls Try.prog 64 #[.pointer (some ⟨k.bm, 0, none⟩), .int .u32 536870920, .int .u32 v] w fun e w' => e = .returned (.bool true) ∧ Vm k w' vl { m with index := v } ts ∧ Chv k vl vl w w' := by
  have HS := Lib.hid (h.setIndex v)
  have cF := h.c 2 (by decide)
  have fz := h.fz 34
  have lb := h.bmLt.2
  clear h
  generalize k.bm = bm at *
  go_enter Try.func64, Try.ntmps64
  go_wp2_with fail
  go_ret
  exact ⟨rfl, HS.out⟩
theorem vport_halt (v : Int) (h : Vm k w vl m ts) :
    Calls Try.prog 64 #[.pointer (some ⟨k.bm, 0, none⟩), .int .u32 536870928, .int .u32 v] w fun e w' => e = .returned (.bool true) ∧ Vm k w' vl { m with state := 1, exit := v } ts ∧ Chv k vl vl w w' := by
  obtain ⟨s1, s2⟩ := h.setState 1
  obtain ⟨s3, s4⟩ := s1.setExit v
  have HS : Hid (Vm k _ vl { m with state := 1, exit := v } ts ∧ Chv k vl vl w _) := ⟨s3, s2.trans s4⟩
  have cF := h.c 9 (by decide)
  have cG := h.c 10 (by decide)
  have fz := h.fz 41
  have fy := h.fz 42
  have lb := h.bmLt.2
  clear h s1 s2 s3 s4
  generalize k.bm = bm at *
  go_enter Try.func64, Try.ntmps64
  go_wp2_with fail
  go_ret
  exact ⟨rfl, HS.out⟩
theorem vport_out (v : Int) (h : Vm k w vl m ts) (hl : m.log.length ≤ 1000000) :
    Calls Try.prog 64 #[.pointer (some ⟨k.bm, 0, none⟩), .int .u32 536870916, .int .u32 v] w fun e w' => ∃ vl', e = .returned (.bool true) ∧ Vm k w' vl' { m with log := m.log ++ [(m.seq, v)] } ts ∧ Chv k vl vl' w w' := by
  have H := Lib.hid h
  have BD := Lib.hid (Below.drew (Below.refl w.heap.size w))
  have cL := h.c 7 (by decide)
  have cS := h.c 1 (by decide)
  have cL : w.drew.cell? ⟨k.bm, 39, none⟩ = some vl := cL
  have cS : w.drew.cell? ⟨k.bm, 33, none⟩ = some (.int .u32 m.seq) := cS
  have lb : k.bm < w.drew.heap.size := h.bmLt.2
  clear h
  go_enter Try.func64, Try.ntmps64
  go_wp2_with fail
  refine wp_region_game (fun x => x = k.bm) (by kernel_rfl) ?_
  show wpE _ _ _ _ _ _ _ w.drew
  have HD := Lib.hid (H.out.grow BD.out)
  generalize w.drew = W1 at *
  clear H
  refine E_mob2s [0, 1, 2, 3, 4, 5, 6, 7, 8, 9, 10, 11] _ _ _ _ (by kernel_rfl) ?_
  simp only [List.map_cons, List.map_nil, List.getElem?_toArray, List.getElem?_cons_succ, List.getElem?_cons_zero, Option.getD_some, List.size_toArray, List.length_cons, List.length_nil, Nat.reduceAdd, Nat.reduceSub]
  repeat (go_big_quiet_step (fail))
  refine wpQuiet_nil ?_
  refine E_loud1 12 _ rfl (by kernel_rfl) ?_
  simp only [List.getElem_toArray, List.getElem_cons_succ, List.getElem_cons_zero]
  go_wp2_with fail
  refine ⟨vkeep (vbelow1 _ _) (fun x hx => by cases hx; omega), ?_⟩
  have B2 := Lib.hid (vbelow1 W1 (.cells #[.int .u32 m.seq, .int .u32 v] 82))
  have O2 := Lib.hid (own_below HD.out.ll B2.out)
  refine E_loud1 13 _ rfl (by kernel_rfl) ?_
  simp only [List.getElem_toArray, List.getElem_cons_succ, List.getElem_cons_zero]
  refine appG 50 82 vinfoRec Try.underlying50 rfl (by decide) (by decide) [.int .u32 m.seq, .int .u32 v] rfl (by simp [Value.oneCell']) O2.out rfl rfl rfl rfl (cell_newL _ _ _ _ rfl) (by omega) (by have := HD.out.low; have := B2.out.size; omega) ?_
  intro o6 w6 O6 G6 D6
  have D7 : o6.ownBlock = vl.ownBlock ∨ o6.ownBlock = some (W1.alloc (.cells #[.int .u32 m.seq, .int .u32 v] 82)).heap.size := D6
  obtain ⟨a6, c6, ho6⟩ := vown_form O6
  obtain ⟨s1, s2⟩ := (HD.out.grow B2.out).appLog G6 O6 D7
  have HS : Hid (Vm k _ o6 { m with log := m.log ++ [(m.seq, v)] } ts ∧ Chv k vl o6 w _) := ⟨s1, ((Chv.of_below BD.out).trans (Chv.of_below B2.out)).trans s2⟩
  have HK6 : Hid (Keep (fun x => x = k.bm) (W1.alloc (.cells #[.int .u32 m.seq, .int .u32 v] 82)) w6) := fun x p hx => by
    refine World.cell?_of_block (a := ⟨x, p, none⟩) (G6.block x (by cases hx; have := B2.out.size; simp; omega) ?_)
    cases hx
    rcases vm_ne (a := 0) (b := 0) (HD.out.grow B2.out).bx O2.out (by decide) with h | h
    · cases h
    · exact h
  have bx6 := (HD.out.grow B2.out).bx.kept G6 (vm_ne (a := 0) (b := 0) (HD.out.grow B2.out).bx O2.out (by decide))
  have f6 := bx6.frozenAt 39
  have q6 := bx6.cellAt 39 (by decide)
  rw [VK.cells_at k vl m HD.out.rl 7] at q6
  have l6 : k.bm < w6.heap.size := by have := G6.size; have := B2.out.size; omega
  clear G6 D6 D7 O6 B2 O2 HD bx6 s1 s2 cL cS BD
  subst ho6
  go_wp2_with fail
  refine ⟨HK6.out, ?_⟩
  refine E_mob2s [14, 15] _ _ _ _ (by kernel_rfl) ?_
  simp only [List.map_cons, List.map_nil, List.getElem?_toArray, List.getElem?_cons_succ, List.getElem?_cons_zero, Option.getD_some, List.size_toArray, List.length_cons, List.length_nil, Nat.reduceAdd, Nat.reduceSub]
  repeat (go_big_quiet_step (fail))
  refine wpQuiet_nil ?_
  refine E_last 16 _ rfl (by kernel_rfl) ?_
  simp only [List.getElem_toArray, List.getElem_cons_succ, List.getElem_cons_zero]
  go_wp2_with fail
  refine E_done (by kernel_rfl) ?_ _
  go_wp2_with fail
  go_ret
  exact ⟨_, rfl, HS.out⟩
theorem vport_yes (at' v : Int) (h : Vm k w vl m ts) (hl : m.log.length ≤ 1000000) (m' : Dv) (hp : portD m at' v = some m') :
    Calls Try.prog 64 #[.pointer (some ⟨k.bm, 0, none⟩), .int .u32 at', .int .u32 v] w fun e w' => ∃ vl', e = .returned (.bool true) ∧ Vm k w' vl' m' ts ∧ Chv k vl vl' w w' := by
  unfold portD at hp
  split at hp
  · rename_i e; subst e; cases hp; exact (vport_seq v h).mono fun e w' h => ⟨vl, h⟩
  split at hp
  · rename_i e; subst e; cases hp; exact vport_out v h hl
  split at hp
  · rename_i e; subst e; cases hp; exact (vport_index v h).mono fun e w' h => ⟨vl, h⟩
  split at hp
  · rename_i e; subst e; cases hp; exact (vport_halt v h).mono fun e w' h => ⟨vl, h⟩
  · cases hp
end
end Go.Proofs.Ytppmjdljnacpgaa
