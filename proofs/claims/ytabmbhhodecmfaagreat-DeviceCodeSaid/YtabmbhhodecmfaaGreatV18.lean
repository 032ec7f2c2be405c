/-
  The document's machine in memory.
-/
import Derived.Test.YtabmbhhodecmfaaGreatV16
set_option linter.all false
namespace Go.Proofs.YtabmbhhodecmfaaGreat
open Go.ChangeShapes Go.WideShapes Go.ChangeAt Go.RowKit
set_option maxHeartbeats 1000000
set_option linter.unusedVariables false
set_option maxRecDepth 20000

/-- what stays in a run of the document's machine -/
structure WK where
  wp : World
  B : Nat
  br : Nat
  vc : Value
  vd : Value
  vi : Value
  code : List Int
  inp : List Int
def WK.cells (k : WK) (vr vl : Value) (m : Dv) : List Value := [k.vc, k.vd, k.vi, vr, .int .i64 m.pc, .int .u32 m.seq, .int .u32 m.index, vl, .int .i64 m.steps, .int .i64 m.state, .int .u32 m.exit]
structure Wm (k : WK) (w : World) (vr vl : Value) (m : Dv) : Prop where
  bx : w.ownsRow k.B 43 11 (.slice (some ⟨k.br, 0, none⟩) 1 1) 1 (k.cells vr vl m)
  dd : w.ownsRow k.B 5 1 k.vd m.data.length (m.data.map (Value.int .u8))
  rr : w.ownsRow k.B 40 1 vr 32 (m.regs.map (Value.int .u32))
  ll : w.ownsRow k.B 67 2 vl m.log.length (logV m.log)
  cc : Src k.wp k.vc k.code.length (k.code.map (Value.int .u32))
  ii : Src k.wp k.vi k.inp.length (k.inp.map (Value.int .u32))
  low : k.wp.heap.size ≤ k.B ∧ k.B ≤ w.heap.size
  below : Below k.wp.heap.size k.wp w
/-- all but the machine's own blocks stays -/
structure Chw (k : WK) (vr vl vr' vl' : Value) (w w' : World) : Prop where
  os : w'.os = w.os
  tape : w'.tape = w.tape
  output : w'.output = w.output
  size : w.heap.size ≤ w'.heap.size
  tr : vr'.ownBlock = vr.ownBlock ∨ ∃ g, vr'.ownBlock = some g ∧ w.heap.size ≤ g
  tl : vl'.ownBlock = vl.ownBlock ∨ ∃ g, vl'.ownBlock = some g ∧ w.heap.size ≤ g
  keep : ∀ b, b < w.heap.size → b ≠ k.br → some b ≠ k.vd.ownBlock → some b ≠ vr.ownBlock → some b ≠ vl.ownBlock → w'.heap[b]? = w.heap[b]?
theorem Chw.refl (k : WK) (vr vl : Value) (w : World) : Chw k vr vl vr vl w w := ⟨rfl, rfl, rfl, Nat.le_refl _, .inl rfl, .inl rfl, fun _ _ _ _ _ _ => rfl⟩
theorem Chw.trans {k : WK} {r1 r2 r3 v1 v2 v3 : Value} {w1 w2 w3 : World} (h : Chw k r1 v1 r2 v2 w1 w2) (h' : Chw k r2 v2 r3 v3 w2 w3) : Chw k r1 v1 r3 v3 w1 w3 := by
  refine ⟨h'.os.trans h.os, h'.tape.trans h.tape, h'.output.trans h.output, Nat.le_trans h.size h'.size, ?_, ?_, fun b hb h1 h2 h3 h4 => ?_⟩
  · rcases h'.tr with e | ⟨g, e, hg⟩
    · rw [e]; exact h.tr
    · exact .inr ⟨g, e, Nat.le_trans h.size hg⟩
  · rcases h'.tl with e | ⟨g, e, hg⟩
    · rw [e]; exact h.tl
    · exact .inr ⟨g, e, Nat.le_trans h.size hg⟩
  · rw [h'.keep b (Nat.lt_of_lt_of_le hb h.size) h1 h2, h.keep b hb h1 h2 h3 h4]
    · rcases h.tr with e | ⟨g, e, hg⟩
      · rw [e]; exact h3
      · rw [e]; intro e2; simp only [Option.some.injEq] at e2; omega
    · rcases h.tl with e | ⟨g, e, hg⟩
      · rw [e]; exact h4
      · rw [e]; intro e2; simp only [Option.some.injEq] at e2; omega
theorem Chw.of_below {k : WK} {vr vl : Value} {w w' : World} (h : Below w.heap.size w w') : Chw k vr vl vr vl w w' := ⟨h.os, h.tape, h.output, h.size, .inl rfl, .inl rfl, fun b hb _ _ _ _ => h.block b hb⟩
theorem Chw.cell {k : WK} {vr vl vr' vl' : Value} {w w' : World} (h : Chw k vr vl vr' vl' w w') {b o : Nat} {v : Value} (h1 : b ≠ k.br) (h3 : some b ≠ k.vd.ownBlock) (h4 : some b ≠ vr.ownBlock) (h5 : some b ≠ vl.ownBlock) (hv : w.cell? ⟨b, o, none⟩ = some v) : w'.cell? ⟨b, o, none⟩ = some v :=
  (World.cell?_of_block (a := ⟨b, o, none⟩) (h.keep b (World.block_lt_of_cell? w _ hv) h1 h3 h4 h5)).trans hv
theorem Chw.below {k : WK} {vr vl vr' vl' : Value} {w w' : World} {b : Nat} (h : Chw k vr vl vr' vl' w w') (h1 : b ≤ k.br) (h2 : ∀ g, k.vd.ownBlock = some g → b ≤ g) (h3 : ∀ g, vr.ownBlock = some g → b ≤ g) (h4 : ∀ g, vl.ownBlock = some g → b ≤ g) (hb : b ≤ w.heap.size) : Below b w w' :=
  ⟨h.os, h.tape, h.output, h.size, fun c hc => h.keep c (by omega) (by omega) (fun e => by have := h2 c e.symm; omega) (fun e => by have := h3 c e.symm; omega) (fun e => by have := h4 c e.symm; omega)⟩
section
variable {k : WK} {w w' : World} {vr vl : Value} {m : Dv}
theorem Wm.grow (h : Wm k w vr vl m) (hb : Below w.heap.size w w') : Wm k w' vr vl m :=
  ⟨own_below h.bx hb, own_below h.dd hb, own_below h.rr hb, own_below h.ll hb, h.cc, h.ii, ⟨h.low.1, Nat.le_trans h.low.2 hb.size⟩, h.below.trans (hb.mono (Nat.le_trans h.low.1 h.low.2))⟩
theorem Wm.brLt (h : Wm k w vr vl m) : k.B ≤ k.br ∧ k.br < w.heap.size := own_lt h.bx rfl
theorem below_one {w0 w w' : World} {b0 b : Nat} (h : Below b0 w0 w) (hg : w.grownBy w' (some b)) (hb : b0 ≤ b) (hs : b0 ≤ w.heap.size) : Below b0 w0 w' := below_grown h hg hs fun c e => by cases e; exact hb
theorem Chw.set {g j : Nat} {x : Value} (hg : g = k.br ∨ k.vd.ownBlock = some g ∨ vr.ownBlock = some g) : Chw k vr vl vr vl w (w.setCell ⟨g, j, none⟩ x) :=
  ⟨rfl, rfl, rfl, by simp, .inl rfl, .inl rfl, fun b _ h1 h2 h3 _ => heap_setCell_other w ⟨g, j, none⟩ b x (fun e => by
    have e : b = g := e
    subst e
    rcases hg with h | h | h
    · exact h1 h
    · exact h2 h.symm
    · exact h3 h.symm)⟩
theorem Wm.setF (h : Wm k w vr vl m) (j : Nat) (x : Value) (m' : Dv) (hs : (k.cells vr vl m).set j x = k.cells vr vl m') (h1 : m'.data = m.data) (h2 : m'.log = m.log) (h3 : m'.regs = m.regs) : Wm k (w.setCell ⟨k.br, j, none⟩ x) vr vl m' ∧ Chw k vr vl vr vl w (w.setCell ⟨k.br, j, none⟩ x) := by
  obtain ⟨a, b⟩ := h.bx.stored j x
  rw [hs] at a
  refine ⟨⟨a, ?_, ?_, ?_, h.cc, h.ii, ⟨h.low.1, by simpa using h.low.2⟩, below_one h.below b (Nat.le_trans h.low.1 h.brLt.1) (Nat.le_trans h.low.1 h.low.2)⟩, Chw.set (.inl rfl)⟩
  · rw [h1]; exact h.dd.kept b (vm_ne (a := 0) (b := 0) h.dd h.bx (by decide))
  · rw [h3]; exact h.rr.kept b (vm_ne (a := 0) (b := 0) h.rr h.bx (by decide))
  · rw [h2]; exact h.ll.kept b (vm_ne (a := 0) (b := 0) h.ll h.bx (by decide))
theorem Wm.setD (h : Wm k w vr vl m) {g c : Nat} (hd : k.vd = .slice (some ⟨g, 0, none⟩) m.data.length c) (j : Nat) (x : Int) : Wm k (w.setCell ⟨g, j, none⟩ (.int .u8 x)) vr vl { m with data := m.data.set j x } ∧ Chw k vr vl vr vl w (w.setCell ⟨g, j, none⟩ (.int .u8 x)) := by
  have hdd := h.dd
  rw [hd] at hdd
  obtain ⟨a, b⟩ := hdd.stored j (.int .u8 x)
  have hg := own_lt hdd rfl
  refine ⟨⟨h.bx.kept b (vm_ne (a := 0) (b := 0) h.bx hdd (by decide)), ?_, h.rr.kept b (vm_ne (a := 0) (b := 0) h.rr hdd (by decide)), h.ll.kept b (vm_ne (a := 0) (b := 0) h.ll hdd (by decide)), h.cc, h.ii, ⟨h.low.1, by simpa using h.low.2⟩, below_one h.below b (Nat.le_trans h.low.1 hg.1) (Nat.le_trans h.low.1 h.low.2)⟩, Chw.set (.inr (.inl (by rw [hd]; rfl)))⟩
  show World.ownsRow _ _ _ _ _ (m.data.set j x).length ((m.data.set j x).map _)
  rw [hd, List.map_set, List.length_set]; exact a
theorem Wm.rF (h : Wm k w vr vl m) : ∃ g c, vr = .slice (some ⟨g, 0, none⟩) 32 c ∧ k.B ≤ g ∧ g < w.heap.size ∧ m.regs.length = 32 ∧ 32 ≤ c := by
  have H := h.rr
  obtain ⟨hl, ⟨-, h0⟩ | ⟨g, cap, cur, e, hb, hgg, hn, hc, -⟩⟩ := h.rr
  · omega
  · rw [e] at H
    exact ⟨g, cap, e, hb, (own_lt H rfl).2, by simpa using hl, hn⟩
theorem Wm.cR (h : Wm k w vr vl m) {g c : Nat} (hr : vr = .slice (some ⟨g, 0, none⟩) 32 c) (j : Nat) (hj : j < 32) : w.cell? ⟨g, j, none⟩ = some (.int .u32 (m.regs.getD j 0)) ∧ w.frozen? ⟨g, j, none⟩ = false ∧ g < w.heap.size := by
  have H := h.rr
  have hl : m.regs.length = 32 := by simpa using h.rr.1
  rw [hr] at H
  refine ⟨?_, H.frozenAt j, (own_lt H rfl).2⟩
  rw [H.cellAt j (by simpa using hj)]
  simp [List.getD, hl, hj]
theorem Wm.setR (h : Wm k w vr vl m) {g c : Nat} (hr : vr = .slice (some ⟨g, 0, none⟩) 32 c) (j : Nat) (x : Int) : Wm k (w.setCell ⟨g, j, none⟩ (.int .u32 x)) vr vl { m with regs := m.regs.set j x } ∧ Chw k vr vl vr vl w (w.setCell ⟨g, j, none⟩ (.int .u32 x)) := by
  have hrr := h.rr
  rw [hr] at hrr
  obtain ⟨a, b⟩ := hrr.stored j (.int .u32 x)
  have hg := own_lt hrr rfl
  refine ⟨⟨h.bx.kept b (vm_ne (a := 0) (b := 0) h.bx hrr (by decide)), h.dd.kept b (vm_ne (a := 0) (b := 0) h.dd hrr (by decide)), ?_, h.ll.kept b (vm_ne (a := 0) (b := 0) h.ll hrr (by decide)), h.cc, h.ii, ⟨h.low.1, by simpa using h.low.2⟩, below_one h.below b (Nat.le_trans h.low.1 hg.1) (Nat.le_trans h.low.1 h.low.2)⟩, Chw.set (.inr (.inr (by rw [hr]; rfl)))⟩
  show World.ownsRow _ _ _ _ _ 32 ((m.regs.set j x).map _)
  rw [hr, List.map_set]; exact a
theorem Wm.c (h : Wm k w vr vl m) (j : Nat) (hj : j < 11) : w.cell? ⟨k.br, j, none⟩ = (k.cells vr vl m)[j]? := h.bx.cellAt j (by omega)
theorem Wm.fz (h : Wm k w vr vl m) (j : Nat) : w.frozen? ⟨k.br, j, none⟩ = false := h.bx.frozenAt j
theorem Wm.setPc (h : Wm k w vr vl m) (x : Int) : Wm k (w.setCell ⟨k.br, 4, none⟩ (.int .i64 x)) vr vl { m with pc := x } ∧ Chw k vr vl vr vl w (w.setCell ⟨k.br, 4, none⟩ (.int .i64 x)) := h.setF 4 _ { m with pc := x } rfl rfl rfl rfl
theorem Wm.setSeq (h : Wm k w vr vl m) (x : Int) : Wm k (w.setCell ⟨k.br, 5, none⟩ (.int .u32 x)) vr vl { m with seq := x } ∧ Chw k vr vl vr vl w (w.setCell ⟨k.br, 5, none⟩ (.int .u32 x)) := h.setF 5 _ { m with seq := x } rfl rfl rfl rfl
theorem Wm.setIndex (h : Wm k w vr vl m) (x : Int) : Wm k (w.setCell ⟨k.br, 6, none⟩ (.int .u32 x)) vr vl { m with index := x } ∧ Chw k vr vl vr vl w (w.setCell ⟨k.br, 6, none⟩ (.int .u32 x)) := h.setF 6 _ { m with index := x } rfl rfl rfl rfl
theorem Wm.setSteps (h : Wm k w vr vl m) (x : Int) : Wm k (w.setCell ⟨k.br, 8, none⟩ (.int .i64 x)) vr vl { m with steps := x } ∧ Chw k vr vl vr vl w (w.setCell ⟨k.br, 8, none⟩ (.int .i64 x)) := h.setF 8 _ { m with steps := x } rfl rfl rfl rfl
theorem Wm.setState (h : Wm k w vr vl m) (x : Int) : Wm k (w.setCell ⟨k.br, 9, none⟩ (.int .i64 x)) vr vl { m with state := x } ∧ Chw k vr vl vr vl w (w.setCell ⟨k.br, 9, none⟩ (.int .i64 x)) := h.setF 9 _ { m with state := x } rfl rfl rfl rfl
theorem Wm.setExit (h : Wm k w vr vl m) (x : Int) : Wm k (w.setCell ⟨k.br, 10, none⟩ (.int .u32 x)) vr vl { m with exit := x } ∧ Chw k vr vl vr vl w (w.setCell ⟨k.br, 10, none⟩ (.int .u32 x)) := h.setF 10 _ { m with exit := x } rfl rfl rfl rfl
theorem Wm.appLog {w1 : World} {vl' : Value} {a b : Int} (h : Wm k w vr vl m) (hg : w.grownBy w1 vl.ownBlock) (ho : w1.ownsRow k.B 67 2 vl' (m.log.length + 1) (logV m.log ++ [.int .u32 a, .int .u32 b])) (ht : vl'.ownBlock = vl.ownBlock ∨ vl'.ownBlock = some w.heap.size) :
    Wm k (w1.setCell ⟨k.br, 7, none⟩ vl') vr vl' { m with log := m.log ++ [(a, b)] } ∧ Chw k vr vl vr vl' w (w1.setCell ⟨k.br, 7, none⟩ vl') := by
  have bx1 := h.bx.kept hg (vm_ne (a := 0) (b := 0) h.bx h.ll (by decide))
  obtain ⟨q, r⟩ := bx1.stored 7 vl'
  have K : ∀ {e : TypeId} {s n : Nat} {v : Value} {xs : List Value}, w.ownsRow k.B e s v n xs → e ≠ 67 → e ≠ 43 → (w1.setCell ⟨k.br, 7, none⟩ vl').ownsRow k.B e s v n xs := fun hr h1 h2 =>
    (hr.kept hg (vm_ne (a := 0) (b := 0) hr h.ll h1)).kept r (vm_ne (a := 0) (b := 0) hr h.bx h2)
  have hb1 : Below k.wp.heap.size k.wp w1 := below_grown h.below hg (Nat.le_trans h.low.1 h.low.2) fun c e => Nat.le_trans h.low.1 (own_lt h.ll e).1
  refine ⟨⟨q, K h.dd (by decide) (by decide), K h.rr (by decide) (by decide), ?_, h.cc, h.ii, ⟨h.low.1, by have := h.low.2; have := hg.size; simp; omega⟩, below_one hb1 r (Nat.le_trans h.low.1 h.brLt.1) (by have := h.low; have := hg.size; omega)⟩,
    hg.os, hg.tape, hg.output, by have := hg.size; simpa using this, .inl rfl, ht.imp_right fun e => ⟨_, e, Nat.le_refl _⟩, fun c hc h1 h2 h3 h4 => (heap_setCell_other w1 ⟨k.br, 7, none⟩ c vl' h1).trans (hg.block c hc h4)⟩
  have := ho.kept r (vm_ne (a := 0) (b := 0) ho bx1 (by decide))
  show World.ownsRow _ _ _ _ _ (m.log ++ [(a, b)]).length (logV (m.log ++ [(a, b)]))
  rw [logV_snoc, List.length_append]
  exact this
/-- new registers -/
theorem Wm.newR (h : Wm k w vr vl m) {g c : Nat} (ho : w.ownsRow k.B 40 1 (.slice (some ⟨g, 0, none⟩) 32 c) 32 ((List.replicate 32 0).map (Value.int .u32))) :
    Wm k (w.setCell ⟨k.br, 3, none⟩ (.slice (some ⟨g, 0, none⟩) 32 c)) (.slice (some ⟨g, 0, none⟩) 32 c) vl { m with regs := List.replicate 32 0 } := by
  obtain ⟨a, b⟩ := h.bx.stored 3 (.slice (some ⟨g, 0, none⟩) 32 c)
  exact ⟨a, h.dd.kept b (vm_ne (a := 0) (b := 0) h.dd h.bx (by decide)), ho.kept b (vm_ne (a := 0) (b := 0) ho h.bx (by decide)), h.ll.kept b (vm_ne (a := 0) (b := 0) h.ll h.bx (by decide)), h.cc, h.ii, ⟨h.low.1, by simpa using h.low.2⟩, below_one h.below b (Nat.le_trans h.low.1 h.brLt.1) (Nat.le_trans h.low.1 h.low.2)⟩
theorem Wm.cD (h : Wm k w vr vl m) (hl : 1 ≤ m.data.length) : ∃ g c, k.vd = .slice (some ⟨g, 0, none⟩) m.data.length c ∧ m.data.length ≤ c := by
  obtain ⟨-, ⟨-, h0⟩ | ⟨g, cap, cur, e, hb, hgg, hn, hc, -⟩⟩ := h.dd
  · omega
  · exact ⟨g, cap, e, hn⟩
theorem Wm.cDat (h : Wm k w vr vl m) {g L c : Nat} (hd : k.vd = .slice (some ⟨g, 0, none⟩) L c) (j : Nat) (hj : j < m.data.length) : w.cell? ⟨g, j, none⟩ = some (.int .u8 (m.data.getD j 0)) ∧ w.frozen? ⟨g, j, none⟩ = false ∧ g < w.heap.size := by
  have H := h.dd
  rw [hd] at H
  have hL : L = m.data.length := by
    obtain ⟨-, ⟨e, -⟩ | ⟨g', cap, cur, e, -⟩⟩ := id H
    · cases e
    · simp only [Value.slice.injEq] at e; exact e.2.1
  subst hL
  refine ⟨?_, H.frozenAt j, (own_lt H rfl).2⟩
  rw [H.cellAt j (by simpa using hj)]
  simp [List.getD, hj]
/-- a word of a given row -/
theorem src_at {wp w : World} {v : Value} {L : List Int} (h : Src wp v L.length (L.map (Value.int .u32))) (hb : Below wp.heap.size wp w) (j : Nat) (hj : j < L.length) : ∃ b o c, v = .slice (some ⟨b, o, none⟩) L.length c ∧ w.cell? ⟨b, o + j, none⟩ = some (.int .u32 (L.getD j 0)) ∧ b < w.heap.size := by
  rcases h with ⟨-, h0, -⟩ | ⟨ad, c, e, hc⟩
  · omega
  · obtain ⟨b, o, rfl, hx⟩ := hc j (.int .u32 (L.getD j 0)) (by simp [List.getD, hj])
    have hlt := World.block_lt_of_cell? wp _ hx
    exact ⟨b, o, c, e, (hb.cell (p := ⟨b, o + j, none⟩) hlt).trans hx, Nat.lt_of_lt_of_le hlt hb.size⟩
end
end Go.Proofs.YtabmbhhodecmfaaGreat
