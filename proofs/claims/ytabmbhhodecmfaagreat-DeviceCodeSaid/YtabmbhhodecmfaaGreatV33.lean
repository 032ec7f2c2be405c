/-
  A copy of any slice, appended to nothing.
-/
import Derived.Test.YtabmbhhodecmfaaGreatV31
set_option linter.all false
namespace Go.Proofs.YtabmbhhodecmfaaGreat
open Go.ChangeShapes Go.WideShapes Go.ChangeAt Go.RowKit
set_option maxHeartbeats 4000000
set_option linter.unusedVariables false
set_option maxRecDepth 100000

theorem run_append_nn {P : Program} (w : World) (t ty e : TypeId) (i : TypeInfo) (z : Value) (c : Nat) (ht : P.underlying t = some (.slice e)) (hi : P.info? e = some i) (hz : i.zero = some z) :
    (Builtin.append_ #[t, t] ty #[.slice none 0 0, .slice none 0 c]).run P w = .ok (.slice none 0 0) w := by
  simp [Builtin.append_, run_underlying ht, sizeOf, typeInfo, zeroValue, hi, hz, Builtin.lenOf, run_firstCells_none]
theorem appS {ops : Array Oper} {rest : List Oper} {o : Oper} {a : Act} {w : World} {Q : Exit → Act → World → Prop} (t e : TypeId) {z : Value} {s bytes : Nat} (hinf : (Tryz.prog.info? e).map (fun i => (i.zero, i.size, i.bytes)) = some (some z, s, bytes)) (ht : Tryz.prog.underlying t = some (.slice e)) (hzs : z.cells.size = s) (h0 : 0 < s) (hbt : bytes ≤ 128)
    (hgd : o.guard = none) {S x : Operand} (ho : o.op = .call { callee := .builtin .append, args := #[S, x], argTypes := #[t, t] }) (hs : a.eval S = .slice none 0 0) {v : Value} {n : Nat} {xs : List Value} (hx : a.eval x = v) (hsrc : Src w v n xs) (hl : xs.length = n * s) (hn : n ≤ 1000000) (h1 : ∀ u ∈ xs, u.oneCell' = true)
    (h : ∀ v' w', w'.ownsRow w.heap.size e s v' n xs → Below w.heap.size w w' → wpList Tryz.prog ops Q rest (a.put o.dst v') w') : wpList Tryz.prog ops Q (o :: rest) a w := by
  obtain ⟨i0, hi, hz0, hz1, hz2⟩ := info_parts hinf
  rcases hsrc with ⟨⟨c, rfl⟩, rfl, rfl⟩ | ⟨ad, c, rfl, hc⟩
  · refine wpList_plain hgd fun K hK => ?_
    unfold Oper.wp execOp
    simp only [ho, resolve, invoke, builtin, Sem.run_bind, Sem.run_pure, Result.andThen_ok, List.map_toArray, List.map_cons, List.map_nil, hs, hx, run_append_nn w t o.type e i0 z c ht hi hz0]
    exact hK _ _ (h _ _ (World.ownsRow_nil _ _ _ _) (Below.refl _ _))
  · refine wpList_append_own _ hgd S x t ho w.heap.size e i0 z s bytes ht hi hz0 hz1 hz2 hzs h0 (.slice none 0 0) 0 [] hs (World.ownsRow_nil _ _ _ _) ad n c xs hx hl (fun j u hj => ?_) h1 (by unfold maxLen; omega) ?_ (Nat.le_refl _) fun v' w' h2 h3 _ => ?_
    · obtain ⟨b, o, rfl, hcl⟩ := hc j u hj
      rw [vadd_plain]; exact hcl
    · have : (0 + n) * bytes ≤ (0 + n) * 128 := Nat.mul_le_mul_left _ hbt
      omega
    · rw [Nat.zero_add] at h2
      exact h v' w' h2 ((Below.refl w.heap.size w).grown h3 (Nat.le_refl _) fun k hk => by cases hk)
/-- a row of the statement's own written: the device's is another one -/
theorem Vm.setLow {k : VK} {w : World} {vl : Value} {m : Dv} {ts : List Mt} (h : Vm k w vl m ts) {g j : Nat} {x : Value} (hg : g < k.B ∨ w.heap.size ≤ g) : Vm k (w.setCell ⟨g, j, none⟩ x) vl m ts := by
  have key : ∀ {s n : Nat} {e : TypeId} {v : Value} {xs : List Value}, w.ownsRow k.B e s v n xs → (w.setCell ⟨g, j, none⟩ x).ownsRow k.B e s v n xs := fun hr => own_same hr fun b e1 h2 => heap_setCell_other w ⟨g, j, none⟩ b x (by
    show b ≠ g
    have := (own_lt hr e1).1
    omega)
  exact ⟨key h.bx, key h.cc, key h.mt, key h.dd, key h.ii, key h.ll, h.rl, h.tl, h.tr, by simpa using h.low⟩
/-- the statement's own rows beside the machine -/
structure Cod (k : VK) (w wr : World) (bx : Obj) (m : Dv) (ts : List Mt) (vA vD vI : Value) (nA nD nI s0 s1 s2 : Nat) : Prop where
  M : Vm k wr (.slice none 0 0) m ts
  B : Below w.heap.size w wr
  X : wr.heap[w.heap.size]? = some bx
  A : ∃ L : List Int, L.length = nA ∧ wr.ownsRow s0 40 1 vA nA (L.map (Value.int .u32))
  D : ∃ L : List Int, L.length = nD ∧ wr.ownsRow s1 5 1 vD nD (L.map (Value.int .u8))
  I : ∃ L : List Int, L.length = nI ∧ wr.ownsRow s2 40 1 vI nI (L.map (Value.int .u32))
  ga : ∀ g, vA.ownBlock = some g → g < s1
  gd : ∀ g, vD.ownBlock = some g → g < s2
  gi : ∀ g, vI.ownBlock = some g → g < k.B
  h0 : w.heap.size < s0
  h1 : s0 ≤ s1 ∧ s1 ≤ s2 ∧ s2 ≤ k.B
theorem own_set_ne {w : World} {B s n g j : Nat} {e : TypeId} {v x : Value} {xs : List Value} (h : w.ownsRow B e s v n xs) (hne : ∀ b, v.ownBlock = some b → b ≠ g) : (w.setCell ⟨g, j, none⟩ x).ownsRow B e s v n xs := own_same h fun b e1 _ => heap_setCell_other w ⟨g, j, none⟩ b x (hne b e1)
theorem below_set_hi {B g j : Nat} {w0 w : World} {x : Value} (h : Below B w0 w) (hg : B ≤ g) : Below B w0 (w.setCell ⟨g, j, none⟩ x) := Below.setCell (p := ⟨g, j, none⟩) h hg _
section
variable {k : VK} {w wr : World} {bx : Obj} {m : Dv} {ts : List Mt} {vA vD vI : Value} {nA nD nI s0 s1 s2 : Nat}
theorem Cod.setA (h : Cod k w wr bx m ts vA vD vI nA nD nI s0 s1 s2) {g c : Nat} (hv : vA = .slice (some ⟨g, 0, none⟩) nA c) (j : Nat) (x : Int) : Cod k w (wr.setCell ⟨g, j, none⟩ (.int .u32 x)) bx m ts vA vD vI nA nD nI s0 s1 s2 := by
  obtain ⟨L, hL, hA⟩ := h.A
  have g1 := h.ga g (by rw [hv]; rfl)
  have g0 : s0 ≤ g := (own_lt hA (by rw [hv]; rfl)).1
  have := h.h0; have := h.h1
  refine ⟨h.M.setLow (.inl (by omega)), below_set_hi h.B (by omega), (heap_setCell_other wr ⟨g, j, none⟩ _ _ (by show w.heap.size ≠ g; omega)).trans h.X, ⟨L.set j x, by simpa using hL, ?_⟩, ?_, ?_, h.ga, h.gd, h.gi, h.h0, h.h1⟩
  · rw [hv] at hA ⊢; rw [List.map_set]; exact (hA.stored j _).1
  · obtain ⟨L', h1, h2⟩ := h.D; exact ⟨L', h1, own_set_ne h2 fun b e => by have := (own_lt h2 e).1; omega⟩
  · obtain ⟨L', h1, h2⟩ := h.I; exact ⟨L', h1, own_set_ne h2 fun b e => by have := (own_lt h2 e).1; omega⟩
theorem Cod.setD (h : Cod k w wr bx m ts vA vD vI nA nD nI s0 s1 s2) {g c : Nat} (hv : vD = .slice (some ⟨g, 0, none⟩) nD c) (j : Nat) (x : Int) : Cod k w (wr.setCell ⟨g, j, none⟩ (.int .u8 x)) bx m ts vA vD vI nA nD nI s0 s1 s2 := by
  obtain ⟨L, hL, hD⟩ := h.D
  have g1 := h.gd g (by rw [hv]; rfl)
  have g0 : s1 ≤ g := (own_lt hD (by rw [hv]; rfl)).1
  have := h.h0; have := h.h1
  refine ⟨h.M.setLow (.inl (by omega)), below_set_hi h.B (by omega), (heap_setCell_other wr ⟨g, j, none⟩ _ _ (by show w.heap.size ≠ g; omega)).trans h.X, ?_, ⟨L.set j x, by simpa using hL, ?_⟩, ?_, h.ga, h.gd, h.gi, h.h0, h.h1⟩
  · obtain ⟨L', h1, h2⟩ := h.A; exact ⟨L', h1, own_set_ne h2 fun b e => by have := h.ga b e; omega⟩
  · rw [hv] at hD ⊢; rw [List.map_set]; exact (hD.stored j _).1
  · obtain ⟨L', h1, h2⟩ := h.I; exact ⟨L', h1, own_set_ne h2 fun b e => by have := (own_lt h2 e).1; omega⟩
theorem Cod.setI (h : Cod k w wr bx m ts vA vD vI nA nD nI s0 s1 s2) {g c : Nat} (hv : vI = .slice (some ⟨g, 0, none⟩) nI c) (j : Nat) (x : Int) : Cod k w (wr.setCell ⟨g, j, none⟩ (.int .u32 x)) bx m ts vA vD vI nA nD nI s0 s1 s2 := by
  obtain ⟨L, hL, hI⟩ := h.I
  have g1 := h.gi g (by rw [hv]; rfl)
  have g0 : s2 ≤ g := (own_lt hI (by rw [hv]; rfl)).1
  have := h.h0; have := h.h1
  refine ⟨h.M.setLow (.inl (by omega)), below_set_hi h.B (by omega), (heap_setCell_other wr ⟨g, j, none⟩ _ _ (by show w.heap.size ≠ g; omega)).trans h.X, ?_, ?_, ⟨L.set j x, by simpa using hL, ?_⟩, h.ga, h.gd, h.gi, h.h0, h.h1⟩
  · obtain ⟨L', h1, h2⟩ := h.A; exact ⟨L', h1, own_set_ne h2 fun b e => by have := h.ga b e; omega⟩
  · obtain ⟨L', h1, h2⟩ := h.D; exact ⟨L', h1, own_set_ne h2 fun b e => by have := h.gd b e; omega⟩
  · rw [hv] at hI ⊢; rw [List.map_set]; exact (hI.stored j _).1
/-- a cell of an own row of numbers -/
theorem own_get {kd : IntKind} {w : World} {B n c nn : Nat} {e : TypeId} {a : Option Addr} (h : ∃ L : List Int, L.length = nn ∧ w.ownsRow B e 1 (.slice a n c) nn (L.map (Value.int kd))) (j : Nat) (hj : j < nn) : ∃ g x, a = some ⟨g, 0, none⟩ ∧ n = nn ∧ w.cell? ⟨g, j, none⟩ = some (.int kd x) ∧ w.frozen? ⟨g, j, none⟩ = false ∧ g < w.heap.size := by
  obtain ⟨L, hL, H⟩ := h
  obtain ⟨g, ea, en, hc, hlt⟩ := own_ints H hL.symm j (by omega)
  refine ⟨g, L.getD j 0, ea, by omega, hc, ?_, hlt⟩
  rw [ea, en, hL] at H
  exact H.frozenAt j
end
end Go.Proofs.YtabmbhhodecmfaaGreat
