/-
  The machine of layer 3 in memory: the struct, what was met of the code, the data, the log.
-/
import Derived.Test.YtppmjdljnacpgaaV1
import Derived.Test.YtppmjdljnacpgaaE5
import Derived.Test.YtppmjdljnacpgaaN2
set_option linter.all false
namespace Go.Proofs.Ytppmjdljnacpgaa
open Go.ChangeShapes Go.WideShapes Go.ChangeAt Go.RowKit
set_option maxHeartbeats 1000000
set_option linter.unusedVariables false
set_option maxRecDepth 20000

/-- what stays in a run -/
structure VK where
  B : Nat
  bm : Nat
  bt : Nat
  vc : Value
  vd : Value
  vi : Value
  code : List Int
  inp : List Int
/-- a word that was looked at: whether, whether it is an instruction, which -/
structure Mt where
  seen : Bool
  is' : Bool
  i : Iv
instance : Inhabited Mt := ⟨⟨false, false, ⟨0, 0, 0, 0, 0⟩⟩⟩
def Mt.cells (t : Mt) : List Value := [.bool t.seen, .bool t.is', .int .i64 t.i.op, .int .i64 t.i.rd, .int .i64 t.i.rs1, .int .i64 t.i.rs2, .int .i64 t.i.imm]
theorem Mt.cells_len (t : Mt) : t.cells.length = 7 := rfl
def Mt.right (t : Mt) (w : Int) : Prop := t.seen = true → (match decD w with | none => t.is' = false ∧ t.i = ⟨0, 0, 0, 0, 0⟩ | some i => t.is' = true ∧ t.i = i)
def VK.cells (k : VK) (vl : Value) (m : Dv) : List Value := m.regs.map (Value.int .u32) ++ [.int .u32 m.pc, .int .u32 m.seq, .int .u32 m.index, k.vc, .slice (some ⟨k.bt, 0, none⟩) k.code.length k.code.length, k.vd, k.vi, vl, .int .i64 m.steps, .int .i64 m.state, .int .u32 m.exit]
def logV (l : List (Int × Int)) : List Value := l.flatMap fun x => [.int .u32 x.1, .int .u32 x.2]
theorem logV_snoc (l : List (Int × Int)) (a b : Int) : logV (l ++ [(a, b)]) = logV l ++ [.int .u32 a, .int .u32 b] := by simp [logV]
structure Vm (k : VK) (w : World) (vl : Value) (m : Dv) (ts : List Mt) : Prop where
  bx : w.ownsRow k.B 79 43 (.slice (some ⟨k.bm, 0, none⟩) 1 1) 1 (k.cells vl m)
  cc : w.ownsRow k.B 24 1 k.vc k.code.length (k.code.map (Value.int .u32))
  mt : w.ownsRow k.B 90 7 (.slice (some ⟨k.bt, 0, none⟩) k.code.length k.code.length) k.code.length (ts.flatMap Mt.cells)
  dd : w.ownsRow k.B 5 1 k.vd m.data.length (m.data.map (Value.int .u8))
  ii : w.ownsRow k.B 24 1 k.vi k.inp.length (k.inp.map (Value.int .u32))
  ll : w.ownsRow k.B 82 2 vl m.log.length (logV m.log)
  rl : m.regs.length = 32
  tl : ts.length = k.code.length
  tr : ∀ j, j < k.code.length → (ts.getD j default).right (k.code.getD j 0)
  low : k.B ≤ w.heap.size
/-- all but the machine's own blocks stays -/
structure Chv (k : VK) (vl vl' : Value) (w w' : World) : Prop where
  os : w'.os = w.os
  tape : w'.tape = w.tape
  output : w'.output = w.output
  size : w.heap.size ≤ w'.heap.size
  to : vl'.ownBlock = vl.ownBlock ∨ ∃ g, vl'.ownBlock = some g ∧ w.heap.size ≤ g
  keep : ∀ b, b < w.heap.size → b ≠ k.bm → b ≠ k.bt → some b ≠ k.vd.ownBlock → some b ≠ vl.ownBlock → w'.heap[b]? = w.heap[b]?
theorem Chv.refl (k : VK) (vl : Value) (w : World) : Chv k vl vl w w := ⟨rfl, rfl, rfl, Nat.le_refl _, .inl rfl, fun _ _ _ _ _ _ => rfl⟩
theorem Chv.trans {k : VK} {v1 v2 v3 : Value} {w1 w2 w3 : World} (h : Chv k v1 v2 w1 w2) (h' : Chv k v2 v3 w2 w3) : Chv k v1 v3 w1 w3 := by
  refine ⟨h'.os.trans h.os, h'.tape.trans h.tape, h'.output.trans h.output, Nat.le_trans h.size h'.size, ?_, fun b hb h1 h2 h3 h4 => ?_⟩
  · rcases h'.to with e | ⟨g, e, hg⟩
    · rw [e]; exact h.to
    · exact .inr ⟨g, e, Nat.le_trans h.size hg⟩
  · rw [h'.keep b (Nat.lt_of_lt_of_le hb h.size) h1 h2 h3, h.keep b hb h1 h2 h3 h4]
    rcases h.to with e | ⟨g, e, hg⟩
    · rw [e]; exact h4
    · rw [e]; intro e2; simp only [Option.some.injEq] at e2; omega
theorem Chv.of_below {k : VK} {vl : Value} {w w' : World} (h : Below w.heap.size w w') : Chv k vl vl w w' := ⟨h.os, h.tape, h.output, h.size, .inl rfl, fun b hb _ _ _ _ => h.block b hb⟩
theorem Chv.cell {k : VK} {vl vl' : Value} {w w' : World} (h : Chv k vl vl' w w') {b o : Nat} {v : Value} (h1 : b ≠ k.bm) (h2 : b ≠ k.bt) (h3 : some b ≠ k.vd.ownBlock) (h4 : some b ≠ vl.ownBlock) (hv : w.cell? ⟨b, o, none⟩ = some v) : w'.cell? ⟨b, o, none⟩ = some v :=
  (World.cell?_of_block (a := ⟨b, o, none⟩) (h.keep b (World.block_lt_of_cell? w _ hv) h1 h2 h3 h4)).trans hv
/-- where the blocks below a bound stay as they are -/
theorem Chv.below {k : VK} {vl vl' : Value} {w w' : World} {b : Nat} (h : Chv k vl vl' w w') (hb : b ≤ w.heap.size) (h1 : b ≤ k.bm) (h2 : b ≤ k.bt) (h3 : ∀ g, k.vd.ownBlock = some g → b ≤ g) (h4 : ∀ g, vl.ownBlock = some g → b ≤ g) : Below b w w' :=
  ⟨h.os, h.tape, h.output, h.size, fun c hc => h.keep c (by omega) (by omega) (by omega) (fun e => by have := h3 c e.symm; omega) (fun e => by have := h4 c e.symm; omega)⟩
section
variable {k : VK} {w w' : World} {vl : Value} {m : Dv} {ts : List Mt}
theorem Vm.grow (h : Vm k w vl m ts) (hb : Below w.heap.size w w') : Vm k w' vl m ts :=
  ⟨own_below h.bx hb, own_below h.cc hb, own_below h.mt hb, own_below h.dd hb, own_below h.ii hb, own_below h.ll hb, h.rl, h.tl, h.tr, Nat.le_trans h.low hb.size⟩
theorem vm_ne {w : World} {B B' a b s s' n n' : Nat} {e e' : TypeId} {v v' : Value} {xs xs' : List Value} (h : w.ownsRow B e s v n xs) (h' : w.ownsRow B' e' s' v' n' xs') (he : e ≠ e') : v.ownBlock = none ∨ v.ownBlock ≠ v'.ownBlock := by
  obtain ⟨-, ⟨rfl, -⟩ | ⟨g, cap, cur, rfl, -, hg, -⟩⟩ := h
  · exact .inl rfl
  · obtain ⟨-, ⟨rfl, -⟩ | ⟨g', cap', cur', rfl, -, hg', -⟩⟩ := h'
    · exact .inr (by simp [Value.ownBlock])
    · refine .inr fun e2 => he ?_
      simp only [Value.ownBlock, Option.some.injEq] at e2
      subst e2
      rw [hg] at hg'
      simp at hg'
      exact hg'.2
theorem Vm.bmLt (h : Vm k w vl m ts) : k.B ≤ k.bm ∧ k.bm < w.heap.size := own_lt h.bx rfl
theorem Vm.btLt (h : Vm k w vl m ts) : k.B ≤ k.bt ∧ k.bt < w.heap.size := own_lt h.mt rfl
theorem Chv.set {k : VK} {vl : Value} {w : World} {g j : Nat} {x : Value} (hg : g = k.bm ∨ g = k.bt ∨ k.vd.ownBlock = some g) : Chv k vl vl w (w.setCell ⟨g, j, none⟩ x) :=
  ⟨rfl, rfl, rfl, by simp, .inl rfl, fun b _ h1 h2 h3 _ => heap_setCell_other w ⟨g, j, none⟩ b x (fun e => by
    have e : b = g := e
    subst e
    rcases hg with h | h | h
    · exact h1 h
    · exact h2 h
    · exact h3 h.symm)⟩
/-- a field of the struct is set -/
theorem Vm.setF (h : Vm k w vl m ts) (j : Nat) (x : Value) (m' : Dv) (hs : (k.cells vl m).set j x = k.cells vl m') (h1 : m'.data = m.data) (h2 : m'.log = m.log) (h3 : m'.regs.length = 32) : Vm k (w.setCell ⟨k.bm, j, none⟩ x) vl m' ts ∧ Chv k vl vl w (w.setCell ⟨k.bm, j, none⟩ x) := by
  obtain ⟨a, b⟩ := h.bx.stored j x
  rw [hs] at a
  refine ⟨⟨a, h.cc.kept b (vm_ne (a := 0) (b := 0) h.cc h.bx (by decide)), h.mt.kept b (vm_ne (a := 0) (b := 0) h.mt h.bx (by decide)), ?_, h.ii.kept b (vm_ne (a := 0) (b := 0) h.ii h.bx (by decide)), ?_, h3, h.tl, h.tr, by simpa using h.low⟩, Chv.set (.inl rfl)⟩
  · rw [h1]; exact h.dd.kept b (vm_ne (a := 0) (b := 0) h.dd h.bx (by decide))
  · rw [h2]; exact h.ll.kept b (vm_ne (a := 0) (b := 0) h.ll h.bx (by decide))
/-- a byte of the data is set -/
theorem Vm.setD (h : Vm k w vl m ts) {g c : Nat} (hd : k.vd = .slice (some ⟨g, 0, none⟩) m.data.length c) (j : Nat) (x : Int) : Vm k (w.setCell ⟨g, j, none⟩ (.int .u8 x)) vl { m with data := m.data.set j x } ts ∧ Chv k vl vl w (w.setCell ⟨g, j, none⟩ (.int .u8 x)) := by
  have hdd := h.dd
  rw [hd] at hdd
  obtain ⟨a, b⟩ := hdd.stored j (.int .u8 x)
  have hg := own_lt hdd rfl
  refine ⟨⟨h.bx.kept b (vm_ne (a := 0) (b := 0) h.bx hdd (by decide)), h.cc.kept b (vm_ne (a := 0) (b := 0) h.cc hdd (by decide)), h.mt.kept b (vm_ne (a := 0) (b := 0) h.mt hdd (by decide)), ?_, h.ii.kept b (vm_ne (a := 0) (b := 0) h.ii hdd (by decide)), h.ll.kept b (vm_ne (a := 0) (b := 0) h.ll hdd (by decide)), h.rl, h.tl, h.tr, by simpa using h.low⟩, Chv.set (.inr (.inr (by rw [hd]; rfl)))⟩
  show World.ownsRow _ _ _ _ _ (m.data.set j x).length ((m.data.set j x).map _)
  rw [hd, List.map_set, List.length_set]; exact a
theorem take_drop_set {α : Type} (xs : List α) (n : Nat) (c : α) (h : n < xs.length) : xs.set n c = xs.take n ++ c :: xs.drop (n + 1) := List.set_eq_take_append_cons_drop.trans (if_pos h)
/-- seven cells of a row of sevens are set -/
theorem set7 (ts : List Mt) (i : Nat) (t : Mt) (hi : i < ts.length) :
    (((((((ts.flatMap Mt.cells).set (i * 7) (.bool t.seen)).set (i * 7 + 1) (.bool t.is')).set (i * 7 + 2) (.int .i64 t.i.op)).set (i * 7 + 3) (.int .i64 t.i.rd)).set (i * 7 + 4) (.int .i64 t.i.rs1)).set (i * 7 + 5) (.int .i64 t.i.rs2)).set (i * 7 + 6) (.int .i64 t.i.imm) = (ts.set i t).flatMap Mt.cells := by
  induction ts generalizing i with
  | nil => simp at hi
  | cons a ts ih =>
    cases i with
    | zero => simp [Mt.cells]
    | succ i =>
      have := ih i (by simpa using hi)
      rw [List.set_cons_succ, List.flatMap_cons, List.flatMap_cons, ← this]
      have e : ∀ j (xs : List Value) c, (a.cells ++ xs).set ((i + 1) * 7 + j) c = a.cells ++ xs.set (i * 7 + j) c := fun j xs c => by
        rw [List.set_append_right _ _ (by rw [Mt.cells_len]; omega), Mt.cells_len]
        congr 2
        omega
      have e0 := e 0
      simp only [Nat.add_zero] at e0
      rw [e0, e, e, e, e, e, e]
/-- a word's instruction is noted -/
theorem Vm.setT (h : Vm k w vl m ts) (i : Nat) (hi : i < k.code.length) (t : Mt) (ht : t.right (k.code.getD i 0)) :
    Vm k (((((((w.setCell ⟨k.bt, i * 7, none⟩ (.bool t.seen)).setCell ⟨k.bt, i * 7 + 1, none⟩ (.bool t.is')).setCell ⟨k.bt, i * 7 + 2, none⟩ (.int .i64 t.i.op)).setCell ⟨k.bt, i * 7 + 3, none⟩ (.int .i64 t.i.rd)).setCell ⟨k.bt, i * 7 + 4, none⟩ (.int .i64 t.i.rs1)).setCell ⟨k.bt, i * 7 + 5, none⟩ (.int .i64 t.i.rs2)).setCell ⟨k.bt, i * 7 + 6, none⟩ (.int .i64 t.i.imm)) vl m (ts.set i t) ∧ Chv k vl vl w (((((((w.setCell ⟨k.bt, i * 7, none⟩ (.bool t.seen)).setCell ⟨k.bt, i * 7 + 1, none⟩ (.bool t.is')).setCell ⟨k.bt, i * 7 + 2, none⟩ (.int .i64 t.i.op)).setCell ⟨k.bt, i * 7 + 3, none⟩ (.int .i64 t.i.rd)).setCell ⟨k.bt, i * 7 + 4, none⟩ (.int .i64 t.i.rs1)).setCell ⟨k.bt, i * 7 + 5, none⟩ (.int .i64 t.i.rs2)).setCell ⟨k.bt, i * 7 + 6, none⟩ (.int .i64 t.i.imm)) := by
  have G : ∀ (w : World) (j : Nat) (x : Value), w.grownBy (w.setCell ⟨k.bt, j, none⟩ x) (some k.bt) := fun w j x => ⟨rfl, rfl, rfl, by simp, fun b _ hb => heap_setCell_other w ⟨k.bt, j, none⟩ b x (fun e => hb (by rw [e]))⟩
  have K : ∀ {e : TypeId} {s n : Nat} {v : Value} {xs : List Value}, w.ownsRow k.B e s v n xs → e ≠ 90 → ∀ (x0 x1 x2 x3 x4 x5 x6 : Value), (((((((w.setCell ⟨k.bt, i * 7, none⟩ x0).setCell ⟨k.bt, i * 7 + 1, none⟩ x1).setCell ⟨k.bt, i * 7 + 2, none⟩ x2).setCell ⟨k.bt, i * 7 + 3, none⟩ x3).setCell ⟨k.bt, i * 7 + 4, none⟩ x4).setCell ⟨k.bt, i * 7 + 5, none⟩ x5).setCell ⟨k.bt, i * 7 + 6, none⟩ x6).ownsRow k.B e s v n xs := fun hr he x0 x1 x2 x3 x4 x5 x6 => by
    have hne := vm_ne (a := 0) (b := 0) hr h.mt he
    exact ((((((hr.kept (G _ _ _) hne).kept (G _ _ _) hne).kept (G _ _ _) hne).kept (G _ _ _) hne).kept (G _ _ _) hne).kept (G _ _ _) hne).kept (G _ _ _) hne
  have C : ∀ (w : World) (j : Nat) (x : Value), Chv k vl vl w (w.setCell ⟨k.bt, j, none⟩ x) := fun w j x => Chv.set (.inr (.inl rfl))
  refine ⟨⟨K h.bx (by decide) _ _ _ _ _ _ _, K h.cc (by decide) _ _ _ _ _ _ _, ?_, K h.dd (by decide) _ _ _ _ _ _ _, K h.ii (by decide) _ _ _ _ _ _ _, K h.ll (by decide) _ _ _ _ _ _ _, h.rl, by rw [List.length_set]; exact h.tl, fun j hj => ?_, by simpa using h.low⟩,
    ((((((C _ _ _).trans (C _ _ _)).trans (C _ _ _)).trans (C _ _ _)).trans (C _ _ _)).trans (C _ _ _)).trans (C _ _ _)⟩
  · rw [← set7 ts i t (by rw [h.tl]; exact hi)]
    exact ((((((((h.mt.stored _ _).1.stored _ _).1.stored _ _).1.stored _ _).1.stored _ _).1.stored _ _).1.stored _ _).1)
  · by_cases e : j = i
    · subst e
      have : (ts.set j t).getD j default = t := by simp [List.getD, show j < ts.length by rw [h.tl]; exact hj]
      rw [this]; exact ht
    · have : (ts.set i t).getD j default = ts.getD j default := by simp [List.getD, List.getElem?_set_ne (Ne.symm e)]
      rw [this]; exact h.tr j hj
theorem VK.cells_at (k : VK) (vl : Value) (m : Dv) (h : m.regs.length = 32) (j : Nat) : (k.cells vl m)[32 + j]? = ([.int .u32 m.pc, .int .u32 m.seq, .int .u32 m.index, k.vc, .slice (some ⟨k.bt, 0, none⟩) k.code.length k.code.length, k.vd, k.vi, vl, .int .i64 m.steps, .int .i64 m.state, .int .u32 m.exit] : List Value)[j]? := by
  unfold VK.cells
  rw [List.getElem?_append_right (by rw [List.length_map, h]; omega), List.length_map, h, Nat.add_sub_cancel_left]
theorem VK.cells_set (k : VK) (vl : Value) (m : Dv) (h : m.regs.length = 32) (j : Nat) (x : Value) : (k.cells vl m).set (32 + j) x = m.regs.map (Value.int .u32) ++ ([.int .u32 m.pc, .int .u32 m.seq, .int .u32 m.index, k.vc, .slice (some ⟨k.bt, 0, none⟩) k.code.length k.code.length, k.vd, k.vi, vl, .int .i64 m.steps, .int .i64 m.state, .int .u32 m.exit] : List Value).set j x := by
  unfold VK.cells
  rw [List.set_append_right _ _ (by rw [List.length_map, h]; omega), List.length_map, h, Nat.add_sub_cancel_left]
theorem Vm.c (h : Vm k w vl m ts) (j : Nat) (hj : j < 11) : w.cell? ⟨k.bm, 32 + j, none⟩ = ([.int .u32 m.pc, .int .u32 m.seq, .int .u32 m.index, k.vc, .slice (some ⟨k.bt, 0, none⟩) k.code.length k.code.length, k.vd, k.vi, vl, .int .i64 m.steps, .int .i64 m.state, .int .u32 m.exit] : List Value)[j]? := by
  rw [h.bx.cellAt (32 + j) (by omega), VK.cells_at k vl m h.rl]
theorem Vm.cR (h : Vm k w vl m ts) (j : Nat) (hj : j < 32) : w.cell? ⟨k.bm, j, none⟩ = some (.int .u32 (m.regs.getD j 0)) := by
  rw [h.bx.cellAt j (by omega)]
  unfold VK.cells
  rw [List.getElem?_append_left (by rw [List.length_map, h.rl]; exact hj)]
  simp [List.getD, show j < m.regs.length by rw [h.rl]; exact hj]
theorem Vm.fz (h : Vm k w vl m ts) (j : Nat) : w.frozen? ⟨k.bm, j, none⟩ = false := h.bx.frozenAt j
theorem Vm.setR (h : Vm k w vl m ts) (j : Nat) (hj : j < 32) (x : Int) : Vm k (w.setCell ⟨k.bm, j, none⟩ (.int .u32 x)) vl { m with regs := m.regs.set j x } ts ∧ Chv k vl vl w (w.setCell ⟨k.bm, j, none⟩ (.int .u32 x)) :=
  h.setF j _ { m with regs := m.regs.set j x } (by
    unfold VK.cells
    rw [List.set_append_left _ _ (by rw [List.length_map, h.rl]; exact hj), List.map_set]) rfl rfl (by simpa using h.rl)
theorem Vm.setPc (h : Vm k w vl m ts) (x : Int) : Vm k (w.setCell ⟨k.bm, 32, none⟩ (.int .u32 x)) vl { m with pc := x } ts ∧ Chv k vl vl w (w.setCell ⟨k.bm, 32, none⟩ (.int .u32 x)) := h.setF 32 _ { m with pc := x } (VK.cells_set k vl m h.rl 0 _) rfl rfl h.rl
theorem Vm.setSeq (h : Vm k w vl m ts) (x : Int) : Vm k (w.setCell ⟨k.bm, 33, none⟩ (.int .u32 x)) vl { m with seq := x } ts ∧ Chv k vl vl w (w.setCell ⟨k.bm, 33, none⟩ (.int .u32 x)) := h.setF 33 _ { m with seq := x } (VK.cells_set k vl m h.rl 1 _) rfl rfl h.rl
theorem Vm.setIndex (h : Vm k w vl m ts) (x : Int) : Vm k (w.setCell ⟨k.bm, 34, none⟩ (.int .u32 x)) vl { m with index := x } ts ∧ Chv k vl vl w (w.setCell ⟨k.bm, 34, none⟩ (.int .u32 x)) := h.setF 34 _ { m with index := x } (VK.cells_set k vl m h.rl 2 _) rfl rfl h.rl
theorem Vm.setSteps (h : Vm k w vl m ts) (x : Int) : Vm k (w.setCell ⟨k.bm, 40, none⟩ (.int .i64 x)) vl { m with steps := x } ts ∧ Chv k vl vl w (w.setCell ⟨k.bm, 40, none⟩ (.int .i64 x)) := h.setF 40 _ { m with steps := x } (VK.cells_set k vl m h.rl 8 _) rfl rfl h.rl
theorem Vm.setState (h : Vm k w vl m ts) (x : Int) : Vm k (w.setCell ⟨k.bm, 41, none⟩ (.int .i64 x)) vl { m with state := x } ts ∧ Chv k vl vl w (w.setCell ⟨k.bm, 41, none⟩ (.int .i64 x)) := h.setF 41 _ { m with state := x } (VK.cells_set k vl m h.rl 9 _) rfl rfl h.rl
theorem Vm.setExit (h : Vm k w vl m ts) (x : Int) : Vm k (w.setCell ⟨k.bm, 42, none⟩ (.int .u32 x)) vl { m with exit := x } ts ∧ Chv k vl vl w (w.setCell ⟨k.bm, 42, none⟩ (.int .u32 x)) := h.setF 42 _ { m with exit := x } (VK.cells_set k vl m h.rl 10 _) rfl rfl h.rl
/-- one more record -/
theorem Vm.appLog {w1 : World} {vl' : Value} {a b : Int} (h : Vm k w vl m ts) (hg : w.grownBy w1 vl.ownBlock) (ho : w1.ownsRow k.B 82 2 vl' (m.log.length + 1) (logV m.log ++ [.int .u32 a, .int .u32 b])) (ht : vl'.ownBlock = vl.ownBlock ∨ vl'.ownBlock = some w.heap.size) :
    Vm k (w1.setCell ⟨k.bm, 39, none⟩ vl') vl' { m with log := m.log ++ [(a, b)] } ts ∧ Chv k vl vl' w (w1.setCell ⟨k.bm, 39, none⟩ vl') := by
  have fr : ∀ b, vl.ownBlock = some b → k.B ≤ b := fun b e => (own_lt h.ll e).1
  have bx1 := h.bx.kept hg (vm_ne (a := 0) (b := 0) h.bx h.ll (by decide))
  obtain ⟨q, r⟩ := bx1.stored 39 vl'
  have K : ∀ {e : TypeId} {s n : Nat} {v : Value} {xs : List Value}, w.ownsRow k.B e s v n xs → e ≠ 82 → e ≠ 79 → (w1.setCell ⟨k.bm, 39, none⟩ vl').ownsRow k.B e s v n xs := fun hr h1 h2 =>
    (hr.kept hg (vm_ne (a := 0) (b := 0) hr h.ll h1)).kept r (vm_ne (a := 0) (b := 0) hr h.bx h2)
  refine ⟨⟨?_, K h.cc (by decide) (by decide), K h.mt (by decide) (by decide), K h.dd (by decide) (by decide), K h.ii (by decide) (by decide), ?_, h.rl, h.tl, h.tr, by have := h.low; have := hg.size; simp; omega⟩,
    hg.os, hg.tape, hg.output, by have := hg.size; simpa using this, ht.imp_right fun e => ⟨_, e, Nat.le_refl _⟩, fun c hc h1 h2 h3 h4 => (heap_setCell_other w1 ⟨k.bm, 39, none⟩ c vl' h1).trans (hg.block c hc h4)⟩
  · rw [VK.cells_set k vl m h.rl 7] at q
    exact q
  · have := ho.kept r (vm_ne (a := 0) (b := 0) ho bx1 (by decide))
    show World.ownsRow _ _ _ _ _ (m.log ++ [(a, b)]).length (logV (m.log ++ [(a, b)]))
    rw [logV_snoc, List.length_append]
    exact this
end
end Go.Proofs.Ytppmjdljnacpgaa
