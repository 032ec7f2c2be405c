/-
 Several moves of a drawn region at once.; Contracts: which stores are hidden; places of which something holds; the document's idle instructions and stores.; Rows that the call owns: one more element, of any size; what stays where one row alone has turned.; Own rows of structs: their cells one struct behind the other.
-/
import Derived.Test.YtmcddolkpcgddaaZHazardMarks13
import Derived.Test.YtmcddolkpcgddaaZHazardMarks01
import Derived.BigQuiet
import Derived.Test.YtmcddolkpcgddaaZHazardMarks12
import Derived.Test.YtmcddolkpcgddaaZHazardMarks02
import Derived.Test.YtmcddolkpcgddaaZHazardMarks08
import Derived.Test.YtmcddolkpcgddaaZHazardMarks10
import Derived.Test.YtmcddolkpcgddaaZHazardMarks00
import Derived.Test.YtmcddolkpcgddaaRows
import Derived.ProofKit
import Derived.Below
import Derived.Maps.AppendAt
import Derived.Laws.OwnMore

set_option linter.all false
namespace Go.Proofs.Ytmcddolkpcgddaa
open Go Go.RowKit
set_option linter.unusedVariables false

def opD : Oper := { dst := none, op := .move (.tmp 0), type := 0, pos := "", after := #[], guard := none }
def movesOk (look : Oper → Bool) (ops : Array Oper) : List Nat → Array Bool → Bool
 | [], _ => true
 | i :: is, listed => (closedB ops listed && (Region.noSelect ops && (Region.ready .any ops listed).contains i && Region.free .any ops listed i && ((ops[i]?).map look).getD false)) && movesOk look ops is (listed.setIfInBounds i true)
def listAll (is : List Nat) (listed : Array Bool) : Array Bool := is.foldl (fun l i => l.setIfInBounds i true) listed
def lookJ (o : Oper) : Bool := lookOp o || lookB o
section
variable {P : Program} {ops : Array Oper} {Q : Act → World → Prop} {S : Nat → Prop}
theorem quiet_one {C : World → Prop} {K : Act → Prop} {o : Oper} {l : List Oper} {a : Act} (h : wpQuiet P ops C K (o :: l) a) : wpQuiet P ops C (fun a' => wpQuiet P ops C K l a') [o] a := h
theorem quiet_mono {C : World → Prop} {K K' : Act → Prop} (hk : ∀ a, K a → K' a) {o : Oper} {a : Act} (h : wpQuiet P ops C K [o] a) : wpQuiet P ops C K' [o] a := by
 unfold wpQuiet at h ⊢
 split
 ·rename_i hw
  rw [if_pos hw] at h
  obtain ⟨v, h1, h2⟩ := h
  exact ⟨v, h1, hk _ h2⟩
 ·rename_i hw
  rw [if_neg hw] at h
  exact hk _ h
theorem J_mobs : ∀ (is : List Nat) (n : Nat) (listed : Array Bool) (a : Act) (w : World), (decide (is.length ≤ n) && movesOk lookJ ops is listed) = true →
  wpQuiet P ops (fun w' => ∃ x, w' = kx S w x) (fun a' => wpJs S P ops Q (n - is.length) (listAll is listed) a' w) (is.map fun i => (ops[i]?).getD opD) a → wpJs S P ops Q n listed a w
 | [], n, listed, a, w, _, h => h
 | i :: is, n, listed, a, w, hc, h => by
  simp only [Bool.and_eq_true, decide_eq_true_eq, movesOk] at hc
  obtain ⟨hl, ⟨h1, ⟨⟨h2, h3⟩, h4⟩, h5⟩, h6⟩ := hc
  cases n with
  | zero => exact absurd hl (by simp)
  | succ n =>
   cases ho : ops[i]? with
   | none => rw [ho] at h5; cases h5
   | some o =>
    rw [ho] at h5
    have h5 : lookJ o = true := h5
    refine J_mob i o ho (by simp only [Bool.and_eq_true]; exact ⟨h1, ⟨⟨h2, h3⟩, h4⟩, h5⟩) ?_
    rw [List.map_cons, ho] at h
    refine quiet_mono (fun a' h' => ?_) (quiet_one h)
    refine J_mobs is n _ a' w (by simp only [Bool.and_eq_true, decide_eq_true_eq]; exact ⟨by simpa using hl, h6⟩) ?_
    have e : n + 1 - (i :: is).length = n - is.length := by simp
    rw [e] at h'
    exact h'
theorem E_mob2s : ∀ (is : List Nat) (n : Nat) (listed : Array Bool) (a : Act) (w : World), (decide (is.length ≤ n) && movesOk lookJ ops is listed) = true →
  wpQuiet P ops (fun w' => ∃ x, w' = kp S w x) (fun a' => wpE S P ops Q (n - is.length) (listAll is listed) a' w) (is.map fun i => (ops[i]?).getD opD) a → wpE S P ops Q n listed a w
 | [], n, listed, a, w, _, h => h
 | i :: is, n, listed, a, w, hc, h => by
  simp only [Bool.and_eq_true, decide_eq_true_eq, movesOk] at hc
  obtain ⟨hl, ⟨h1, ⟨⟨h2, h3⟩, h4⟩, h5⟩, h6⟩ := hc
  cases n with
  | zero => exact absurd hl (by simp)
  | succ n =>
   cases ho : ops[i]? with
   | none => rw [ho] at h5; cases h5
   | some o =>
    rw [ho] at h5
    have h5 : lookJ o = true := h5
    refine E_mob2 i o ho (by simp only [Bool.and_eq_true]; exact ⟨h1, ⟨⟨h2, h3⟩, h4⟩, h5⟩) ?_
    rw [List.map_cons, ho] at h
    refine quiet_mono (fun a' h' => ?_) (quiet_one h)
    refine E_mob2s is n _ a' w (by simp only [Bool.and_eq_true, decide_eq_true_eq]; exact ⟨by simpa using hl, h6⟩) ?_
    have e : n + 1 - (i :: is).length = n - is.length := by simp
    rw [e] at h'
    exact h'
end
/-! cells of small blocks -/
theorem cl4 {w : World} {b : Nat} {t : TypeId} {c0 c1 c2 c3 : Value} (h : w.heap[b]? = some (.cells #[c0, c1, c2, c3] t (0, 0))) :
  w.cell? ⟨b, 0, none⟩ = some c0 ∧ w.cell? ⟨b, 1, none⟩ = some c1 ∧ w.cell? ⟨b, 2, none⟩ = some c2 ∧ w.cell? ⟨b, 3, none⟩ = some c3 ∧ b < w.heap.size :=
 ⟨cell_of_heap h 0, cell_of_heap h 1, cell_of_heap h 2, cell_of_heap h 3, (Array.getElem?_eq_some_iff.1 h).1⟩
theorem cl5 {w : World} {b : Nat} {t : TypeId} {c0 c1 c2 c3 c4 : Value} (h : w.heap[b]? = some (.cells #[c0, c1, c2, c3, c4] t (0, 0))) :
  w.cell? ⟨b, 0, none⟩ = some c0 ∧ w.cell? ⟨b, 1, none⟩ = some c1 ∧ w.cell? ⟨b, 2, none⟩ = some c2 ∧ w.cell? ⟨b, 3, none⟩ = some c3 ∧ w.cell? ⟨b, 4, none⟩ = some c4 ∧ b < w.heap.size :=
 ⟨cell_of_heap h 0, cell_of_heap h 1, cell_of_heap h 2, cell_of_heap h 3, cell_of_heap h 4, (Array.getElem?_eq_some_iff.1 h).1⟩
theorem cl6 {w : World} {b : Nat} {t : TypeId} {c0 c1 c2 c3 c4 c5 : Value} (h : w.heap[b]? = some (.cells #[c0, c1, c2, c3, c4, c5] t (0, 0))) :
  w.cell? ⟨b, 0, none⟩ = some c0 ∧ w.cell? ⟨b, 1, none⟩ = some c1 ∧ w.cell? ⟨b, 2, none⟩ = some c2 ∧ w.cell? ⟨b, 3, none⟩ = some c3 ∧ w.cell? ⟨b, 4, none⟩ = some c4 ∧ w.cell? ⟨b, 5, none⟩ = some c5 ∧ b < w.heap.size :=
 ⟨cell_of_heap h 0, cell_of_heap h 1, cell_of_heap h 2, cell_of_heap h 3, cell_of_heap h 4, cell_of_heap h 5, (Array.getElem?_eq_some_iff.1 h).1⟩
theorem cl11 {w : World} {b : Nat} {t : TypeId} {c0 c1 c2 c3 c4 c5 c6 c7 c8 c9 c10 : Value} (h : w.heap[b]? = some (.cells #[c0, c1, c2, c3, c4, c5, c6, c7, c8, c9, c10] t (0, 0))) :
  w.cell? ⟨b, 0, none⟩ = some c0 ∧ w.cell? ⟨b, 1, none⟩ = some c1 ∧ w.cell? ⟨b, 2, none⟩ = some c2 ∧ w.cell? ⟨b, 3, none⟩ = some c3 ∧ w.cell? ⟨b, 4, none⟩ = some c4 ∧ w.cell? ⟨b, 5, none⟩ = some c5 ∧ w.cell? ⟨b, 6, none⟩ = some c6 ∧ w.cell? ⟨b, 7, none⟩ = some c7 ∧ w.cell? ⟨b, 8, none⟩ = some c8 ∧ w.cell? ⟨b, 9, none⟩ = some c9 ∧ w.cell? ⟨b, 10, none⟩ = some c10 ∧ b < w.heap.size :=
 ⟨cell_of_heap h 0, cell_of_heap h 1, cell_of_heap h 2, cell_of_heap h 3, cell_of_heap h 4, cell_of_heap h 5, cell_of_heap h 6, cell_of_heap h 7, cell_of_heap h 8, cell_of_heap h 9, cell_of_heap h 10, (Array.getElem?_eq_some_iff.1 h).1⟩
end Go.Proofs.Ytmcddolkpcgddaa

set_option linter.all false
namespace Go.Proofs.Ytmcddolkpcgddaa
open Go.ChangeShapes Go.WideShapes Go.ChangeAt Go.RowKit
set_option maxHeartbeats 4000000
set_option maxRecDepth 100000
set_option linter.unusedVariables false

/-! what can be read stays, told by block and place -/
abbrev KeepT (w w' : World) : Prop := KeepX (fun _ => True) w w'
theorem Rows'.keep {w w' : World} {v : Value} {k n : Nat} {R R' : Nat → (Nat → Option Value) → Prop} (h : Rows' w v k n R) (he : KeepT w w') (hR : ∀ i c c', Sub c c' → R i c → R' i c') : Rows' w' v k n R' := by
 obtain ⟨a, c, h1, h2, h3, h4⟩ := h
 refine ⟨a, c, h1, h2, h3, fun i hi => ?_⟩
 obtain ⟨b, o, e, r⟩ := h4 i hi
 exact ⟨b, o, e, hR i _ _ (fun j v hv => he _ _ _ trivial hv) r⟩
theorem RdI.keep {w w' : World} {v : Value} {l : List Int} (h : RdI w v l) (he : KeepT w w') : RdI w' v l := Rows'.keep h he fun _ _ _ hs h => hs _ _ h
theorem InC.keep {w w' : World} {c c' : Nat → Option Value} {i : In} (h : InC w c i) (he : KeepT w w') (hs : Sub c c') : InC w' c' i := by
 obtain ⟨h0, h1, h2, h3, h4, h5, h6, h7, h8, ⟨v, h9, hv⟩, h10⟩ := h
 exact ⟨hs _ _ h0, hs _ _ h1, hs _ _ h2, hs _ _ h3, hs _ _ h4, hs _ _ h5, hs _ _ h6, hs _ _ h7, hs _ _ h8, ⟨v, hs _ _ h9, hv.keep he⟩, hs _ _ h10⟩
theorem RdIns.keep {w w' : World} {v : Value} {l : List In} (h : RdIns w v l) (he : KeepT w w') : RdIns w' v l := Rows'.keep h he fun _ _ _ hs h => h.keep he hs
theorem BkC.keep {w w' : World} {c c' : Nat → Option Value} {b : Bk} (h : BkC w c b) (he : KeepT w w') (hs : Sub c c') : BkC w' c' b := by
 obtain ⟨⟨v, h0, hv⟩, h1, h2, h3, h4⟩ := h
 exact ⟨⟨v, hs _ _ h0, hv.keep he⟩, hs _ _ h1, hs _ _ h2, hs _ _ h3, hs _ _ h4⟩
theorem RdBks.keep {w w' : World} {v : Value} {l : List Bk} (h : RdBks w v l) (he : KeepT w w') : RdBks w' v l := Rows'.keep h he fun _ _ _ hs h => h.keep he hs
theorem RdSls.keep {w w' : World} {v : Value} {l : List Sl} (h : RdSls w v l) (he : KeepT w w') : RdSls w' v l := Rows'.keep h he fun _ _ _ hs h => h.ext hs
theorem PrV.keep {w w' : World} {v : Value} {p : Pr} (h : PrV w v p) (he : KeepT w w') : PrV w' v p := let ⟨nm, vo, vb, e, h, k⟩ := h; ⟨nm, vo, vb, e, h.keep he, k.keep he⟩

theorem drewN_b {B : Nat} {w w1 : World} (h : Below B w w1) (n : Nat) : Below B w (w1.drewN n) := ⟨h.os, h.tape, h.output, h.size, h.block⟩
/-- an instruction by value, its row of arguments whatever it is -/
def aggI (i : In) (va : Value) : Value := .agg #[.int .i64 i.op, .int .i64 i.d, .int .i64 i.a, .int .i64 i.b, .int .i64 i.fn, .int .i64 i.obj, .int .i64 i.off, .int .i64 i.size, .int .u32 i.num, va, .bool i.log]
theorem def_v (i : In) (va : Value) (w : World) :
  Calls Try.prog 45 #[aggI i va] w fun e w' => e = .returned (.int .i64 (defI i)) ∧ Below w.heap.size w w' := by
 unfold aggI
 go_enter Try.func45, Try.ntmps45
 go_wp2
 all_goals
  go_ret
  simp only [beq_iff_eq, beq_eq_false_iff_ne, ne_eq] at *
  exact ⟨ret_i (by unfold defI; first | rw [if_pos (by omega)] | rw [if_neg (by omega)]), below_alloc _ _⟩
end Go.Proofs.Ytmcddolkpcgddaa

set_option linter.all false
namespace Go.Proofs.Ytmcddolkpcgddaa
open Go.ChangeShapes Go.WideShapes Go.ChangeAt Go.RowKit
set_option maxHeartbeats 1000000
set_option linter.unusedVariables false
set_option maxRecDepth 20000

/-- append of one element that lies in a block of its own, for rows of any element -/
theorem appG (t e : TypeId) {z : Value} {s bytes : Nat} (hinf : (Try.prog.info? e).map (fun i => (i.zero, i.size, i.bytes)) = some (some z, s, bytes)) (ht : Try.prog.underlying t = some (.slice e)) (hz : z.cells.size = s) (h0 : 0 < s) (hbt : bytes ≤ 128) (ys : List Value) (hyl : ys.length = s) (hy : ∀ u ∈ ys, u.oneCell' = true)
  {ops : Array Oper} {rest : List Oper} {o : Oper} {a : Act} {W : World} {B : Nat} {v : Value} {m : Nat} {xs : List Value} {g : Nat} {Q : Exit → Act → World → Prop} {S x : Operand} (hown : W.ownsRow B e s v m xs) (hgd : o.guard = none)
  (ho : o.op = .call { callee := .builtin .append, args := #[S, x], argTypes := #[t, t] }) (hs : a.eval S = v)
  (hx : a.eval x = .slice (some ⟨g, 0, none⟩) 1 1) (hc : ∀ j u, ys[j]? = some u → W.cell? ⟨g, j, none⟩ = some u) (hlen : m ≤ 1000000000) (hB : B ≤ W.heap.size)
  (h : ∀ v' w', w'.ownsRow B e s v' (m + 1) (xs ++ ys) → W.grownBy w' v.ownBlock → (v'.ownBlock = v.ownBlock ∨ v'.ownBlock = some W.heap.size) → wpList Try.prog ops Q rest (a.put o.dst v') w') : wpList Try.prog ops Q (o :: rest) a W := by
 obtain ⟨i0, hi, hz0, hz1, hz2⟩ := info_parts hinf
 refine wpList_append_own_at _ hgd S x t ho B e i0 z s bytes ht hi hz0 hz1 hz2 hz h0 v m _ hs hown ⟨g, 0, none⟩ 1 1 ys hx (by omega) ?_ hy ?_ ?_ hB ?_
 ·intro j u hj
  have := hc j u hj
  have e : ({ block := g, off := 0 } : Addr).add j = ⟨g, j, none⟩ := by by_cases hj0 : j = 0 <;> simp [Addr.add, hj0]
  rw [e]; exact this
 ·unfold maxLen; omega
 ·have : (m + 1) * bytes ≤ (m + 1) * 128 := Nat.mul_le_mul_left _ hbt
  omega
 ·intro v' w' h1 h2 _ h4
  exact h v' w' h1 h2 h4
theorem cell_newL (w : World) (c : Array Value) (t : TypeId) (g : Nat) (hg : g = w.heap.size) : ∀ j u, c.toList[j]? = some u → (w.alloc (.cells c t)).cell? ⟨g, j, none⟩ = some u := by
 subst hg
 intro j u hj
 have := cell_of_heap (heap_alloc_new w (.cells c t)) j
 rw [this]
 simpa using hj
/-- a slice's block is another one than row -/
def Apart (v : Value) (row : Option Nat) : Prop := ∀ b o n c, v = .slice (some ⟨b, o, none⟩) n c → some b ≠ row
theorem Apart.none {v : Value} : Apart v none := fun _ _ _ _ _ => by simp
theorem Apart.nil {row : Option Nat} : Apart (.slice Option.none 0 0) row := fun _ _ _ _ h => by cases h
theorem cell_grown {w w' : World} {row : Option Nat} (hg : w.grownBy w' row) {b o : Nat} {u : Value} (hb : some b ≠ row) (h : w.cell? ⟨b, o, Option.none⟩ = some u) : w'.cell? ⟨b, o, Option.none⟩ = some u :=
 (World.cell?_of_block (a := ⟨b, o, Option.none⟩) (hg.block b (World.block_lt_of_cell? w _ h) hb)).trans h
theorem Rows'.grown {w w' : World} {v : Value} {k n : Nat} {R R' : Nat → (Nat → Option Value) → Prop} {row : Option Nat} (h : Rows' w v k n R) (hg : w.grownBy w' row) (ha : Apart v row) (hR : ∀ i c c', Sub c c' → R i c → R' i c') : Rows' w' v k n R' := by
 obtain ⟨a, c, h1, h2, h3, h4⟩ := h
 refine ⟨a, c, h1, h2, h3, fun i hi => ?_⟩
 obtain ⟨b, o, e, r⟩ := h4 i hi
 subst e
 exact ⟨b, o, rfl, hR i _ _ (fun j v hv => cell_grown hg (ha b o n c h1) hv) r⟩
theorem own_lt {w : World} {B s n g : Nat} {e : TypeId} {v : Value} {xs : List Value} (h : w.ownsRow B e s v n xs) (hg : v.ownBlock = some g) : B ≤ g ∧ g < w.heap.size := by
 obtain ⟨-, ⟨rfl, -⟩ | ⟨b, cap, cur, rfl, hb, hgg, -⟩⟩ := h
 ·cases hg
 ·simp only [Value.ownBlock, Option.some.injEq] at hg
  subst hg
  exact ⟨hb, (Array.getElem?_eq_some_iff.1 hgg).1⟩
theorem below_grown {B : Nat} {w0 w w' : World} {row : Option Nat} (h : Below B w0 w) (hg : w.grownBy w' row) (hB : B ≤ w.heap.size) (hr : ∀ b, row = some b → B ≤ b) : Below B w0 w' :=
 ⟨hg.os.trans h.os, hg.tape.trans h.tape, hg.output.trans h.output, Nat.le_trans h.size hg.size, fun k hk => (hg.block k (by omega) (fun e => by have := hr k e.symm; omega)).trans (h.block k hk)⟩
theorem grown_below {w w' : World} (hb : Below w.heap.size w w') (row : Option Nat) : w.grownBy w' row := ⟨hb.os, hb.tape, hb.output, hb.size, fun k hk _ => hb.block k hk⟩
theorem own_below {w w' : World} {B s n : Nat} {e : TypeId} {v : Value} {xs : List Value} (h : w.ownsRow B e s v n xs) (hb : Below w.heap.size w w') : w'.ownsRow B e s v n xs :=
 h.kept (grown_below hb none) (by cases v.ownBlock <;> simp)
theorem own_nil (w : World) (B : Nat) (e : TypeId) (s : Nat) : w.ownsRow B e s (.slice none 0 0) 0 [] := World.ownsRow_nil _ _ _ _
/-- an own row of one-cell elements read as a row -/
theorem own_rows {w : World} {B : Nat} {e : TypeId} {v : Value} {α : Type} {l : List α} {f : α → Value} (d : α) (h : w.ownsRow B e 1 v l.length (l.map f)) : Rows' w v 1 l.length fun i c => c 0 = some (f (l.getD i d)) := by
 have H := h
 obtain ⟨-, ⟨rfl, h0⟩ | ⟨b, cap, cur, rfl, hb, hgg, hn, hc, -⟩⟩ := h
 ·rw [h0]; exact ⟨none, 0, rfl, Nat.le_refl _, by simp [maxLen], fun i hi => absurd hi (Nat.not_lt_zero i)⟩
 ·refine ⟨_, _, rfl, hn, hc, fun i hi => ⟨b, 0, rfl, ?_⟩⟩
  have := H.cellAt i (by simpa using hi)
  simp only [Nat.mul_one, Nat.add_zero, Nat.zero_add] at this ⊢
  rw [this]
  simp [List.getD, hi]
end Go.Proofs.Ytmcddolkpcgddaa

set_option linter.all false
namespace Go.Proofs.Ytmcddolkpcgddaa
open Go.ChangeShapes Go.WideShapes Go.ChangeAt Go.RowKit
set_option maxHeartbeats 1000000
set_option linter.unusedVariables false
set_option maxRecDepth 20000

theorem flat_len {α β : Type} (f : α → List β) (s : Nat) (hf : ∀ a, (f a).length = s) : ∀ P : List α, (P.flatMap f).length = P.length * s
 | [] => by simp
 | a :: P => by
  rw [List.flatMap_cons, List.length_append, hf, flat_len f s hf P, List.length_cons, Nat.succ_mul]; omega
theorem flat_at {α β : Type} [Inhabited α] (f : α → List β) (s : Nat) (hf : ∀ a, (f a).length = s) : ∀ (P : List α) (i j : Nat), i < P.length → j < s → (P.flatMap f)[i * s + j]? = (f (P.getD i default))[j]?
 | [], i, j, h, _ => absurd h (Nat.not_lt_zero i)
 | a :: P, 0, j, _, hj => by
  rw [List.flatMap_cons, Nat.zero_mul, Nat.zero_add, List.getElem?_append_left (by rw [hf]; exact hj)]
  rfl
 | a :: P, i + 1, j, h, hj => by
  have ih := flat_at f s hf P i j (by simpa using h) hj
  rw [List.flatMap_cons, List.getElem?_append_right (by rw [hf, Nat.succ_mul]; omega), hf, show (i + 1) * s + j - s = i * s + j by rw [Nat.succ_mul]; omega, ih]
  rfl
/-- an own row of structs read as a row -/
theorem own_flat {w : World} {B s : Nat} {e : TypeId} {v : Value} {α : Type} [Inhabited α] {P : List α} {f : α → List Value} (hs : 0 < s) (hf : ∀ a, (f a).length = s) (h : w.ownsRow B e s v P.length (P.flatMap f)) : Rows' w v s P.length fun i c => ∀ j u, (f (P.getD i default))[j]? = some u → c j = some u := by
 have H := h
 obtain ⟨-, ⟨rfl, h0⟩ | ⟨b, cap, cur, rfl, hb, hgg, hn, hc, -⟩⟩ := h
 ·rw [h0]; exact ⟨none, 0, rfl, Nat.le_refl _, by simp [maxLen], fun i hi => absurd hi (Nat.not_lt_zero i)⟩
 ·refine ⟨_, _, rfl, hn, hc, fun i hi => ⟨b, 0, rfl, fun j u hu => ?_⟩⟩
  have hj : j < s := by have := (List.getElem?_eq_some_iff.1 hu).1; rw [hf] at this; exact this
  have hlt : i * s + j < P.length * s := by
   have : (i + 1) * s ≤ P.length * s := Nat.mul_le_mul_right _ hi
   rw [Nat.succ_mul] at this
   omega
  have := H.cellAt (i * s + j) hlt
  rw [flat_at f s hf P i j hi hj, hu] at this
  rw [Nat.zero_add]; exact this
theorem take_snocD {α : Type} [Inhabited α] (l : List α) (k : Nat) (h : k < l.length) : l.take (k + 1) = l.take k ++ [l.getD k default] := by
 rw [List.take_succ]; simp [List.getD, h]
/-- the cells of a block just made, of the length of a list -/
theorem cell_newX (w : World) (c : List Value) (t : TypeId) (g : Nat) (hg : g = w.heap.size) : ∀ j u, c[j]? = some u → (w.alloc (.cells c.toArray t)).cell? ⟨g, j, none⟩ = some u := cell_newL w c.toArray t g hg
end Go.Proofs.Ytmcddolkpcgddaa
