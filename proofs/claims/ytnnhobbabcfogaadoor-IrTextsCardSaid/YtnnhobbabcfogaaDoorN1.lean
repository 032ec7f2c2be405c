/-
  Instructions, blocks, procedures and modules written out in the text: how they lie in memory.
-/
import Derived.Test.YtnnhobbabcfogaaDoorM
import Derived.Test.YtnnhobbabcfogaaDoorE5
set_option linter.all false
namespace Go.Proofs.YtnnhobbabcfogaaDoor
open Go.ChangeShapes Go.WideShapes Go.ChangeAt Go.RowKit
set_option maxHeartbeats 1000000
set_option linter.unusedVariables false
set_option maxRecDepth 20000

def vNil : Value := .slice none 0 0
def rowOf' (b n : Nat) : Value := .slice (some ⟨b, 0, none⟩) n n
/-- a row of structs that is known whole -/
theorem own_lit {w : World} {g : Nat} {e : TypeId} {s : Nat} {α : Type} {P : List α} {f : α → List Value} (hf : ∀ a, (f a).length = s) (hp : P.length ≤ 1000000) (h : w.heap[g]? = some (.cells (P.flatMap f).toArray e (0, 0))) : w.ownsRow 0 e s (rowOf' g P.length) P.length (P.flatMap f) := by
  have hl := flat_len f s hf P
  refine ⟨hl, .inr ⟨g, P.length, _, rfl, Nat.zero_le _, h, Nat.le_refl _, by unfold maxLen; omega, by simpa using hl, ?_⟩⟩
  rw [List.toList_toArray]; exact List.take_of_length_le (by omega)
theorem RdI.nil (w : World) : RdI w vNil [] := ⟨none, 0, rfl, Nat.le_refl _, by decide, fun i hi => absurd hi (Nat.not_lt_zero i)⟩
theorem RdW.nil (w : World) : RdW w vNil [] := ⟨none, 0, rfl, Nat.le_refl _, by decide, fun i hi => absurd hi (Nat.not_lt_zero i)⟩
theorem RdSls.nil (w : World) : RdSls w vNil [] := ⟨none, 0, rfl, Nat.le_refl _, by decide, fun i hi => absurd hi (Nat.not_lt_zero i)⟩
theorem RdYs.nil (w : World) : RdYs w vNil [] := ⟨none, 0, rfl, Nat.le_refl _, by decide, fun i hi => absurd hi (Nat.not_lt_zero i)⟩
theorem RdPrs.nil (w : World) : RdPrs w vNil [] := ⟨none, 0, rfl, Nat.le_refl _, by decide, fun i hi => absurd hi (Nat.not_lt_zero i)⟩
def inCells (x : In × Value) : List Value := [.int .i64 x.1.op, .int .i64 x.1.d, .int .i64 x.1.a, .int .i64 x.1.b, .int .i64 x.1.fn, .int .i64 x.1.obj, .int .i64 x.1.off, .int .i64 x.1.size, .int .u32 x.1.num, x.2, .bool x.1.log]
theorem RdIns.lit {w : World} {g : Nat} {e : TypeId} (L : List (In × Value)) (hp : L.length ≤ 1000000) (h : w.heap[g]? = some (.cells (L.flatMap inCells).toArray e (0, 0))) (ha : ∀ x ∈ L, RdI w x.2 x.1.args) : RdIns w (rowOf' g L.length) (L.map Prod.fst) := by
  have H := own_flat (α := In × Value) (f := inCells) (by decide : 0 < 11) (fun _ => rfl) (own_lit (fun _ => rfl) hp h)
  have hl : L.length = (L.map Prod.fst).length := by simp
  unfold RdIns
  rw [← hl]
  obtain ⟨a, c, h1, h2, h3, h4⟩ := H
  refine ⟨a, c, h1, h2, h3, fun i hi => ?_⟩
  obtain ⟨b, o, e1, r⟩ := h4 i hi
  have eg : L.getD i default = L[i] := by simp [List.getD, hi]
  have eg2 : (L.map Prod.fst).getD i default = L[i].1 := by simp [List.getD, hi]
  rw [eg] at r
  refine ⟨b, o, e1, ?_⟩
  dsimp only
  rw [eg2]
  exact ⟨r 0 _ rfl, r 1 _ rfl, r 2 _ rfl, r 3 _ rfl, r 4 _ rfl, r 5 _ rfl, r 6 _ rfl, r 7 _ rfl, r 8 _ rfl, ⟨_, r 9 _ rfl, ha _ (List.getElem_mem hi)⟩, r 10 _ rfl⟩
def bkCells (x : Bk × Value) : List Value := [x.2, .int .i64 x.1.fin, .int .i64 x.1.a, .int .i64 x.1.to, .int .i64 x.1.els]
theorem RdBks.lit {w : World} {g : Nat} {e : TypeId} (L : List (Bk × Value)) (hp : L.length ≤ 1000000) (h : w.heap[g]? = some (.cells (L.flatMap bkCells).toArray e (0, 0))) (ha : ∀ x ∈ L, RdIns w x.2 x.1.ins) : RdBks w (rowOf' g L.length) (L.map Prod.fst) := by
  have H := own_flat (α := Bk × Value) (f := bkCells) (by decide : 0 < 5) (fun _ => rfl) (own_lit (fun _ => rfl) hp h)
  have hl : L.length = (L.map Prod.fst).length := by simp
  unfold RdBks
  rw [← hl]
  obtain ⟨a, c, h1, h2, h3, h4⟩ := H
  refine ⟨a, c, h1, h2, h3, fun i hi => ?_⟩
  obtain ⟨b, o, e1, r⟩ := h4 i hi
  have eg : L.getD i default = L[i] := by simp [List.getD, hi]
  have eg2 : (L.map Prod.fst).getD i default = L[i].1 := by simp [List.getD, hi]
  rw [eg] at r
  refine ⟨b, o, e1, ?_⟩
  dsimp only
  rw [eg2]
  exact ⟨⟨_, r 0 _ rfl, ha _ (List.getElem_mem hi)⟩, r 1 _ rfl, r 2 _ rfl, r 3 _ rfl, r 4 _ rfl⟩
def slCells (x : Sl × ByteArray) : List Value := [.string x.2, .int .i64 x.1.size, .int .i64 x.1.align, .int .i64 x.1.cell]
theorem RdSls.lit {w : World} {g : Nat} {e : TypeId} (L : List (Sl × ByteArray)) (hp : L.length ≤ 1000000) (h : w.heap[g]? = some (.cells (L.flatMap slCells).toArray e (0, 0))) : RdSls w (rowOf' g L.length) (L.map Prod.fst) := by
  haveI : Inhabited (Sl × ByteArray) := ⟨(default, ⟨#[]⟩)⟩
  have H := own_flat (α := Sl × ByteArray) (f := slCells) (by decide : 0 < 4) (fun _ => rfl) (own_lit (fun _ => rfl) hp h)
  have hl : L.length = (L.map Prod.fst).length := by simp
  unfold RdSls
  rw [← hl]
  obtain ⟨a, c, h1, h2, h3, h4⟩ := H
  refine ⟨a, c, h1, h2, h3, fun i hi => ?_⟩
  obtain ⟨b, o, e1, r⟩ := h4 i hi
  have eg : L.getD i default = L[i] := by simp [List.getD, hi]
  have eg2 : (L.map Prod.fst).getD i default = L[i].1 := by simp [List.getD, hi]
  rw [eg] at r
  refine ⟨b, o, e1, ?_⟩
  dsimp only
  rw [eg2]
  exact ⟨⟨_, r 0 _ rfl⟩, r 1 _ rfl, r 2 _ rfl, r 3 _ rfl⟩
def prCells (x : Pr × ByteArray × Value × Value) : List Value := [.string x.2.1, .bool x.1.void, .int .i64 x.1.params, .int .i64 x.1.regs, x.2.2.1, x.2.2.2]
theorem RdPrs.lit {w : World} {g : Nat} {e : TypeId} (L : List (Pr × ByteArray × Value × Value)) (hp : L.length ≤ 1000000) (h : w.heap[g]? = some (.cells (L.flatMap prCells).toArray e (0, 0))) (ha : ∀ x ∈ L, RdSls w x.2.2.1 x.1.objs ∧ RdBks w x.2.2.2 x.1.blks) : RdPrs w (rowOf' g L.length) (L.map Prod.fst) := by
  haveI : Inhabited (Pr × ByteArray × Value × Value) := ⟨(default, ⟨#[]⟩, vNil, vNil)⟩
  have H := own_flat (α := Pr × ByteArray × Value × Value) (f := prCells) (by decide : 0 < 6) (fun _ => rfl) (own_lit (fun _ => rfl) hp h)
  have hl : L.length = (L.map Prod.fst).length := by simp
  unfold RdPrs
  rw [← hl]
  obtain ⟨a, c, h1, h2, h3, h4⟩ := H
  refine ⟨a, c, h1, h2, h3, fun i hi => ?_⟩
  obtain ⟨b, o, e1, r⟩ := h4 i hi
  have eg : L.getD i default = L[i] := by simp [List.getD, hi]
  have eg2 : (L.map Prod.fst).getD i default = L[i].1 := by simp [List.getD, hi]
  rw [eg] at r
  have := ha _ (List.getElem_mem hi)
  refine ⟨b, o, e1, ?_⟩
  dsimp only
  rw [eg2]
  exact ⟨⟨_, r 0 _ rfl⟩, r 1 _ rfl, r 2 _ rfl, r 3 _ rfl, ⟨_, r 4 _ rfl, this.1⟩, ⟨_, r 5 _ rfl, this.2⟩⟩
theorem RdW.lit {w : World} {g : Nat} {e : TypeId} (L : List Int) (hp : L.length ≤ 1000000) (h : w.heap[g]? = some (.cells (L.map (Value.int .u32)).toArray e (0, 0))) : RdW w (rowOf' g L.length) L := by
  refine own_rows (B := 0) (e := e) 0 ⟨by simp, .inr ⟨g, L.length, _, rfl, Nat.zero_le _, h, Nat.le_refl _, by unfold maxLen; omega, by simp, ?_⟩⟩
  rw [Nat.mul_one, List.toList_toArray]; exact List.take_of_length_le (by simp)
theorem RdI.lit {w : World} {g : Nat} {e : TypeId} (L : List Int) (hp : L.length ≤ 1000000) (h : w.heap[g]? = some (.cells (L.map (Value.int .i64)).toArray e (0, 0))) : RdI w (rowOf' g L.length) L := by
  refine own_rows (B := 0) (e := e) 0 ⟨by simp, .inr ⟨g, L.length, _, rfl, Nat.zero_le _, h, Nat.le_refl _, by unfold maxLen; omega, by simp, ?_⟩⟩
  rw [Nat.mul_one, List.toList_toArray]; exact List.take_of_length_le (by simp)
theorem RdY.lit {w : World} {g : Nat} {e : TypeId} (L : List Int) (hp : L.length ≤ 1000000) (h : w.heap[g]? = some (.cells (L.map (Value.int .u8)).toArray e (0, 0))) : RdY w (rowOf' g L.length) L := by
  refine own_rows (B := 0) (e := e) 0 ⟨by simp, .inr ⟨g, L.length, _, rfl, Nat.zero_le _, h, Nat.le_refl _, by unfold maxLen; omega, by simp, ?_⟩⟩
  rw [Nat.mul_one, List.toList_toArray]; exact List.take_of_length_le (by simp)
theorem heap_of_alloc (w : World) (c : Array Value) (t : TypeId) {W0 : World} (h : W0 = w.alloc (.cells c t)) : W0.heap[w.heap.size]? = some (.cells c t (0, 0)) := by subst h; exact heap_alloc_new w _
/-- blocks made one behind the other -/
def allocs (w : World) (l : List Obj) : World := l.foldl World.alloc w
theorem allocs_below : ∀ (l : List Obj) (w : World), Below w.heap.size w (allocs w l)
  | [], w => Below.refl _ _
  | o :: l, w => ((Below.refl _ _).alloc (Nat.le_refl _) o).trans ((allocs_below l (w.alloc o)).mono (by simp))
theorem allocs_size : ∀ (l : List Obj) (w : World), (allocs w l).heap.size = w.heap.size + l.length
  | [], w => rfl
  | o :: l, w => by
    show (allocs (w.alloc o) l).heap.size = _
    rw [allocs_size l (w.alloc o)]; simp; omega
theorem allocs_heap : ∀ (l : List Obj) (w : World) (i : Nat), i < l.length → (allocs w l).heap[w.heap.size + i]? = l[i]?
  | [], _, _, h => absurd h (Nat.not_lt_zero _)
  | o :: l, w, 0, _ => by
    show (allocs (w.alloc o) l).heap[w.heap.size]? = some o
    rw [(allocs_below l (w.alloc o)).block w.heap.size (by simp)]
    exact heap_alloc_new w o
  | o :: l, w, i + 1, h => by
    have := allocs_heap l (w.alloc o) i (by simpa using h)
    show (allocs (w.alloc o) l).heap[w.heap.size + (i + 1)]? = l[i]?
    rw [← this]
    congr 1
    simp; omega
end Go.Proofs.YtnnhobbabcfogaaDoor
