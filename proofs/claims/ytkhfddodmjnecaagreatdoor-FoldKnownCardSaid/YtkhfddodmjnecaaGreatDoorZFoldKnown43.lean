/-
 Rows of structs: copied, and written to.; Contracts: is a store hidden by what comes behind it; the document's idle instructions and stores; places of which something holds.; Contracts: the document's idle instructions and stores; places of which something holds.; Contract of dead's Stores.; Contract of dead's Idle.
-/
import Derived.Test.YtkhfddodmjnecaaGreatDoorZFoldKnown19
import Derived.Test.YtkhfddodmjnecaaGreatDoorZFoldKnown15
import Derived.Lib.SliceRun
import Derived.WalkSpells
import Derived.Test.YtkhfddodmjnecaaGreatDoorZFoldKnown12
import Derived.Test.YtkhfddodmjnecaaGreatDoorZFoldKnown23

set_option linter.all false
namespace Go.Proofs.YtkhfddodmjnecaaGreatDoor
open Go.ChangeShapes Go.WideShapes Go.ChangeAt Go.RowKit
set_option maxHeartbeats 2000000
set_option linter.unusedVariables false
set_option maxRecDepth 20000

/-- a slice whose cells are known -/
def Src (w : World) (v : Value) (n : Nat) (xs : List Value) : Prop := ((∃ c, v = .slice none 0 c) ∧ n = 0 ∧ xs = []) ∨ ∃ (ad : Addr) (c : Nat), v = .slice (some ad) n c ∧ n ≤ c ∧ c ≤ maxLen ∧ ∀ j u, xs[j]? = some u → ∃ b o, ad = ⟨b, o, none⟩ ∧ w.cell? ⟨b, o + j, none⟩ = some u
theorem Src.keep {w w' : World} {v : Value} {n : Nat} {xs : List Value} (h : Src w v n xs) (hb : Ext w w') : Src w' v n xs := by
 rcases h with h | ⟨ad, c, e, h1, h2, hc⟩
 ·exact .inl h
 ·exact .inr ⟨ad, c, e, h1, h2, fun j u hj => by
   obtain ⟨b, o, ea, this⟩ := hc j u hj
   exact ⟨b, o, ea, hb _ _ this⟩⟩
/-- what stands in a row of structs, one behind the other -/
theorem src_rows {α : Type} {k : Nat} {w : World} {v : Value} {n : Nat} {R : Nat → (Nat → Option Value) → Prop} {P : Nat → α → Prop} (f : α → List Value) (hf : ∀ a, (f a).length = k) (h : Rows' w v k n R)
  (hR : ∀ i c, i < n → R i c → ∃ x : α, P i x ∧ ∀ j u, (f x)[j]? = some u → c j = some u) : ∃ L : List α, L.length = n ∧ (∀ i (hi : i < L.length), P i L[i]) ∧ Src w v n (L.flatMap f) := by
 obtain ⟨a, c, rfl, h1, h2, h3⟩ := h
 have key : ∀ m, m ≤ n → ∃ L : List α, L.length = m ∧ (∀ i (hi : i < L.length), P i L[i]) ∧ ∀ j u, (L.flatMap f)[j]? = some u → ∃ b o, a = some ⟨b, o, none⟩ ∧ w.cell? ⟨b, o + j, none⟩ = some u := by
  intro m
  induction m with
  | zero => exact fun _ => ⟨[], rfl, fun i hi => absurd hi (Nat.not_lt_zero i), fun j u hj => by simp at hj⟩
  | succ m ih =>
   intro hm
   obtain ⟨L, hl, hP, hc⟩ := ih (by omega)
   obtain ⟨b, o, ea, r⟩ := h3 m (by omega)
   obtain ⟨x, hx, hxc⟩ := hR m _ (by omega) r
   refine ⟨L ++ [x], by simp [hl], fun i hi => ?_, fun j u hj => ?_⟩
   ·by_cases e : i < L.length
    ·rw [List.getElem_append_left e]; exact hP i e
    ·obtain rfl : i = L.length := by simp at hi; omega
     rw [List.getElem_concat_length rfl, hl]; exact hx
   ·have hfl := flat_len f k hf L
    rw [flat_snoc, List.getElem?_append] at hj
    split at hj
    ·exact hc j u hj
    ·rename_i hge
     refine ⟨b, o, ea, ?_⟩
     have := hxc _ _ hj
     rw [hfl, hl] at this hge
     rw [show o + j = o + m * k + (j - m * k) by omega]
     exact this
 obtain ⟨L, hl, hP, hc⟩ := key n (Nat.le_refl _)
 refine ⟨L, hl, hP, ?_⟩
 cases a with
 | none =>
  have hn : n = 0 := by
   rcases Nat.eq_zero_or_pos n with e | e
   ·exact e
   ·obtain ⟨b, o, ea, -⟩ := h3 0 e
    cases ea
  subst hn
  exact .inl ⟨⟨c, rfl⟩, rfl, by rw [List.eq_nil_of_length_eq_zero hl]; rfl⟩
 | some ad =>
  exact .inr ⟨ad, c, rfl, h1, h2, fun j u hj => by
   obtain ⟨b, o, ea, hx⟩ := hc j u hj
   exact ⟨b, o, Option.some.inj ea, hx⟩⟩
/-- a row of instructions as cells -/
theorem RdIns.src {w : World} {v : Value} {l : List In} (h : RdIns w v l) : ∃ L : List (In × Value), L.map Prod.fst = l ∧ (∀ x ∈ L, RdI w x.2 x.1.args) ∧ Src w v l.length (L.flatMap inCells) := by
 obtain ⟨L, hl, hP, hs⟩ := src_rows (P := fun i x => x.1 = l.getD i default ∧ RdI w x.2 x.1.args) inCells (fun _ => rfl) h (fun i c hi hc => by
  obtain ⟨h0, h1, h2, h3, h4, h5, h6, h7, h8, ⟨va, h9, hva⟩, h10⟩ := hc
  refine ⟨(l.getD i default, va), ⟨rfl, hva⟩, fun j u hj => ?_⟩
  match j, hj with
  | 0, hj => simp [inCells] at hj; subst hj; exact h0
  | 1, hj => simp [inCells] at hj; subst hj; exact h1
  | 2, hj => simp [inCells] at hj; subst hj; exact h2
  | 3, hj => simp [inCells] at hj; subst hj; exact h3
  | 4, hj => simp [inCells] at hj; subst hj; exact h4
  | 5, hj => simp [inCells] at hj; subst hj; exact h5
  | 6, hj => simp [inCells] at hj; subst hj; exact h6
  | 7, hj => simp [inCells] at hj; subst hj; exact h7
  | 8, hj => simp [inCells] at hj; subst hj; exact h8
  | 9, hj => simp [inCells] at hj; subst hj; exact h9
  | 10, hj => simp [inCells] at hj; subst hj; exact h10
  | j + 11, hj => simp [inCells] at hj)
 refine ⟨L, ?_, fun x hx => ?_, hs⟩
 ·apply List.ext_getElem (by simpa using hl)
  intro i h1 h2
  have := (hP i (by simpa using h1)).1
  simp [List.getD, h2] at this
  simpa using this
 ·obtain ⟨i, hi, rfl⟩ := List.getElem_of_mem hx
  exact (hP i hi).2
/-- a row of blocks as cells -/
theorem RdBks.src {w : World} {v : Value} {l : List Bk} (h : RdBks w v l) : ∃ L : List (Bk × Value), L.map Prod.fst = l ∧ (∀ x ∈ L, RdIns w x.2 x.1.ins) ∧ Src w v l.length (L.flatMap bkCells) := by
 obtain ⟨L, hl, hP, hs⟩ := src_rows (P := fun i x => x.1 = l.getD i default ∧ RdIns w x.2 x.1.ins) bkCells (fun _ => rfl) h (fun i c hi hc => by
  obtain ⟨⟨va, h0, hva⟩, h1, h2, h3, h4⟩ := hc
  refine ⟨(l.getD i default, va), ⟨rfl, hva⟩, fun j u hj => ?_⟩
  match j, hj with
  | 0, hj => simp [bkCells] at hj; subst hj; exact h0
  | 1, hj => simp [bkCells] at hj; subst hj; exact h1
  | 2, hj => simp [bkCells] at hj; subst hj; exact h2
  | 3, hj => simp [bkCells] at hj; subst hj; exact h3
  | 4, hj => simp [bkCells] at hj; subst hj; exact h4
  | j + 5, hj => simp [bkCells] at hj)
 refine ⟨L, ?_, fun x hx => ?_, hs⟩
 ·apply List.ext_getElem (by simpa using hl)
  intro i h1 h2
  have := (hP i (by simpa using h1)).1
  simp [List.getD, h2] at this
  simpa using this
 ·obtain ⟨i, hi, rfl⟩ := List.getElem_of_mem hx
  exact (hP i hi).2
/-- one cell of a row of structs set -/
theorem flat_setS {α β : Type} [Inhabited α] (f : α → List β) (s : Nat) (hf : ∀ a, (f a).length = s) : ∀ (L : List α) (i j : Nat) (x : β) (a : α), i < L.length → j < s → f a = (f (L.getD i default)).set j x → (L.flatMap f).set (i * s + j) x = (L.set i a).flatMap f
 | [], i, _, _, _, h, _, _ => absurd h (Nat.not_lt_zero i)
 | y :: L, 0, j, x, a, _, hj, e => by
  rw [List.flatMap_cons, Nat.zero_mul, Nat.zero_add, List.set_append_left _ _ (by rw [hf]; exact hj), List.set_cons_zero, List.flatMap_cons, e]
  rfl
 | y :: L, i + 1, j, x, a, h, hj, e => by
  have ih := flat_setS f s hf L i j x a (by simpa using h) hj e
  rw [List.flatMap_cons, List.set_append_right _ _ (by rw [hf, Nat.succ_mul]; omega), hf, show (i + 1) * s + j - s = i * s + j by rw [Nat.succ_mul]; omega, ih, List.set_cons_succ, List.flatMap_cons]
theorem vadd_plain (g o j : Nat) : (⟨g, o, none⟩ : Addr).add j = ⟨g, o + j, none⟩ := by unfold Addr.add; split <;> simp_all
theorem vbelow1 (w : World) (o : Obj) : Below w.heap.size w (w.alloc o) := (Below.refl _ _).alloc (Nat.le_refl _) o
theorem info_bk : (Tryz.prog.info? 43).map (fun i => (i.zero, i.size, i.bytes)) = some (some (.agg #[.slice none 0 0, .int .i64 0, .int .i64 0, .int .i64 0, .int .i64 0]), 5, 56) := by kernel_rfl
theorem info_in : (Tryz.prog.info? 48).map (fun i => (i.zero, i.size, i.bytes)) = some (some (.agg #[.int .i64 0, .int .i64 0, .int .i64 0, .int .i64 0, .int .i64 0, .int .i64 0, .int .i64 0, .int .i64 0, .int .u32 0, .slice none 0 0, .bool false]), 11, 104) := by kernel_rfl
theorem cloneBk (v : Value) (n : Nat) (xs : List Value) (w : World) (h : Src w v n xs) (hl : xs.length = n * 5) (hn : n ≤ 1000000) (h1 : ∀ u ∈ xs, u.oneCell' = true) :
  Calls Tryz.prog 27 #[v] w fun e w' => ∃ v', e = .returned v' ∧ w'.ownsRow w.heap.size 43 5 v' n xs ∧ Below w.heap.size w w' := by
 rcases h with ⟨⟨c0, rfl⟩, rfl, rfl⟩ | ⟨ad, c, rfl, -, -, hc⟩
 ·have hnil := fun w => Lib.run_eql_slice_nil (P := Tryz.prog) w 30 43 none 0 c0 0 0 Tryz.underlying30
  go_enter Tryz.func27, Tryz.ntmps27
  go_wp2_with fail
  go_ret
  exact ⟨_, rfl, World.ownsRow_nil _ _ _ _, Below.refl _ _⟩
 ·have hnil := fun w => Lib.run_eql_slice_nil (P := Tryz.prog) w 30 43 (some ad) n c 0 0 Tryz.underlying30
  obtain ⟨i0, hi, hz0, hz1, hz2⟩ := info_parts info_bk
  have HC : Hid (∀ j u, xs[j]? = some u → (w.alloc (.cells #[] 43)).cell? (ad.add j) = some u) := fun j u hj => by
   obtain ⟨b, o, rfl, hx⟩ := hc j u hj
   rw [vadd_plain]
   exact ((vbelow1 w _).cell (p := ⟨b, o + j, none⟩) (World.block_lt_of_cell? w _ hx)).trans hx
  clear hc
  go_enter Tryz.func27, Tryz.ntmps27
  go_wp2_with (at_builtin; refine wpList_append_own _ rfl _ _ 30 rfl w.heap.size 43 i0 (.agg #[.slice none 0 0, .int .i64 0, .int .i64 0, .int .i64 0, .int .i64 0]) 5 56 Tryz.underlying30 hi hz0 hz1 hz2 rfl (by decide) (.slice (some ⟨w.heap.size, 0, none⟩) 0 0) 0 [] rfl (World.ownsRow_made w #[] 0 (Nat.le_refl _) (by simp [maxLen]) (by simp)) ad n c xs rfl hl HC.out h1 (by unfold maxLen; omega) (by omega) (by simp) ?_; intro v' w1 hown hgrow hnn)
  go_ret
  simp only [Nat.zero_add, List.nil_append] at hown
  exact ⟨v', rfl, hown, (vbelow1 w _).grown hgrow (by simp) fun k hk => by simp [Value.ownBlock] at hk; omega⟩
theorem cloneIn (v : Value) (n : Nat) (xs : List Value) (w : World) (h : Src w v n xs) (hl : xs.length = n * 11) (hn : n ≤ 1000000) (h1 : ∀ u ∈ xs, u.oneCell' = true) :
  Calls Tryz.prog 28 #[v] w fun e w' => ∃ v', e = .returned v' ∧ w'.ownsRow w.heap.size 48 11 v' n xs ∧ Below w.heap.size w w' := by
 rcases h with ⟨⟨c0, rfl⟩, rfl, rfl⟩ | ⟨ad, c, rfl, -, -, hc⟩
 ·have hnil := fun w => Lib.run_eql_slice_nil (P := Tryz.prog) w 41 48 none 0 c0 0 0 Tryz.underlying41
  go_enter Tryz.func28, Tryz.ntmps28
  go_wp2_with fail
  go_ret
  exact ⟨_, rfl, World.ownsRow_nil _ _ _ _, Below.refl _ _⟩
 ·have hnil := fun w => Lib.run_eql_slice_nil (P := Tryz.prog) w 41 48 (some ad) n c 0 0 Tryz.underlying41
  obtain ⟨i0, hi, hz0, hz1, hz2⟩ := info_parts info_in
  have HC : Hid (∀ j u, xs[j]? = some u → (w.alloc (.cells #[] 48)).cell? (ad.add j) = some u) := fun j u hj => by
   obtain ⟨b, o, rfl, hx⟩ := hc j u hj
   rw [vadd_plain]
   exact ((vbelow1 w _).cell (p := ⟨b, o + j, none⟩) (World.block_lt_of_cell? w _ hx)).trans hx
  clear hc
  go_enter Tryz.func28, Tryz.ntmps28
  go_wp2_with (at_builtin; refine wpList_append_own _ rfl _ _ 41 rfl w.heap.size 48 i0 (.agg #[.int .i64 0, .int .i64 0, .int .i64 0, .int .i64 0, .int .i64 0, .int .i64 0, .int .i64 0, .int .i64 0, .int .u32 0, .slice none 0 0, .bool false]) 11 104 Tryz.underlying41 hi hz0 hz1 hz2 rfl (by decide) (.slice (some ⟨w.heap.size, 0, none⟩) 0 0) 0 [] rfl (World.ownsRow_made w #[] 0 (Nat.le_refl _) (by simp [maxLen]) (by simp)) ad n c xs rfl hl HC.out h1 (by unfold maxLen; omega) (by omega) (by simp) ?_; intro v' w1 hown hgrow hnn)
  go_ret
  simp only [Nat.zero_add, List.nil_append] at hown
  exact ⟨v', rfl, hown, (vbelow1 w _).grown hgrow (by simp) fun k hk => by simp [Value.ownBlock] at hk; omega⟩
/-- a row of blocks of the call's own -/
structure OwnBk (w : World) (B : Nat) (v : Value) (L : List (Bk × Value)) : Prop where
 own : w.ownsRow B 43 5 v L.length (L.flatMap bkCells)
 ins : ∀ x ∈ L, RdIns w x.2 x.1.ins
theorem OwnBk.rd {w : World} {B : Nat} {v : Value} {L : List (Bk × Value)} (h : OwnBk w B v L) : RdBks w v (L.map Prod.fst) := by
 have H := own_flat (α := Bk × Value) (f := bkCells) (by decide : 0 < 5) (fun _ => rfl) h.own
 have hl : L.length = (L.map Prod.fst).length := by simp
 unfold RdBks
 rw [← hl]
 obtain ⟨a, c, h1, h2, h3, h4⟩ := H
 refine ⟨a, c, h1, h2, h3, fun i hi => ?_⟩
 obtain ⟨b, o, e1, r⟩ := h4 i hi
 have eg : L.getD i default = L[i] := by simp [List.getD, hi]
 have eg2 : (L.map Prod.fst).getD i default = L[i].1 := by simp [List.getD, hi]
 rw [eg] at r
 refine ⟨b, o, e1, ?_⟩
 dsimp only
 rw [eg2]
 exact ⟨⟨_, r 0 _ rfl, h.ins _ (List.getElem_mem hi)⟩, r 1 _ rfl, r 2 _ rfl, r 3 _ rfl, r 4 _ rfl⟩
theorem OwnBk.below {w w' : World} {B : Nat} {v : Value} {L : List (Bk × Value)} (h : OwnBk w B v L) (hb : Below w.heap.size w w') : OwnBk w' B v L := ⟨own_below h.own hb, fun x hx => (h.ins x hx).ext (Ext.below hb)⟩
theorem bk_one : ∀ (L : List (Bk × Value)), (∀ x ∈ L, ∃ a n c, x.2 = .slice a n c) → ∀ u ∈ L.flatMap bkCells, u.oneCell' = true := fun L h u hu => by
 obtain ⟨x, hx, hu⟩ := List.mem_flatMap.1 hu
 obtain ⟨a, n, c, e⟩ := h x hx
 simp only [bkCells, List.mem_cons, List.not_mem_nil, or_false, e] at hu
 rcases hu with rfl | rfl | rfl | rfl | rfl <;> rfl
theorem in_one : ∀ (L : List (In × Value)), (∀ x ∈ L, ∃ a n c, x.2 = .slice a n c) → ∀ u ∈ L.flatMap inCells, u.oneCell' = true := fun L h u hu => by
 obtain ⟨x, hx, hu⟩ := List.mem_flatMap.1 hu
 obtain ⟨a, n, c, e⟩ := h x hx
 simp only [inCells, List.mem_cons, List.not_mem_nil, or_false, e] at hu
 rcases hu with rfl | rfl | rfl | rfl | rfl | rfl | rfl | rfl | rfl | rfl | rfl <;> rfl
theorem Rows'.sl {w : World} {v : Value} {k n : Nat} {R : Nat → (Nat → Option Value) → Prop} (h : Rows' w v k n R) : ∃ a m c, v = .slice a m c := by
 obtain ⟨a, c, h1, -⟩ := h
 exact ⟨a, n, c, h1⟩
/-- a row of instructions of the call's own -/
structure OwnIn (w : World) (B : Nat) (v : Value) (L : List (In × Value)) : Prop where
 own : w.ownsRow B 48 11 v L.length (L.flatMap inCells)
 args : ∀ x ∈ L, RdI w x.2 x.1.args
theorem OwnIn.rd {w : World} {B : Nat} {v : Value} {L : List (In × Value)} (h : OwnIn w B v L) : RdIns w v (L.map Prod.fst) := by
 have H := own_flat (α := In × Value) (f := inCells) (by decide : 0 < 11) (fun _ => rfl) h.own
 have hl : L.length = (L.map Prod.fst).length := by simp
 unfold RdIns
 rw [← hl]
 obtain ⟨a, c, h1, h2, h3, h4⟩ := H
 refine ⟨a, c, h1, h2, h3, fun i hi => ?_⟩
 obtain ⟨b, o, e1, r⟩ := h4 i hi
 have eg : L.getD i default = L[i] := by simp [List.getD, hi]
 have eg2 : (L.map Prod.fst).getD i default = L[i].1 := by simp [List.getD, hi]
 rw [eg] at r
 refine ⟨b, o, e1, ?_⟩
 dsimp only
 rw [eg2]
 exact ⟨r 0 _ rfl, r 1 _ rfl, r 2 _ rfl, r 3 _ rfl, r 4 _ rfl, r 5 _ rfl, r 6 _ rfl, r 7 _ rfl, r 8 _ rfl, ⟨_, r 9 _ rfl, h.args _ (List.getElem_mem hi)⟩, r 10 _ rfl⟩
theorem OwnIn.below {w w' : World} {B : Nat} {v : Value} {L : List (In × Value)} (h : OwnIn w B v L) (hb : Below w.heap.size w w') : OwnIn w' B v L := ⟨own_below h.own hb, fun x hx => (h.args x hx).ext (Ext.below hb)⟩
end Go.Proofs.YtkhfddodmjnecaaGreatDoor

set_option linter.all false
namespace Go.Proofs.YtkhfddodmjnecaaGreatDoor
open Go.ChangeShapes Go.WideShapes Go.ChangeAt Go.RowKit
set_option maxHeartbeats 4000000
set_option maxRecDepth 100000
set_option linter.unusedVariables false

end Go.Proofs.YtkhfddodmjnecaaGreatDoor

set_option linter.all false
namespace Go.Proofs.YtkhfddodmjnecaaGreatDoor
open Go.ChangeShapes Go.WideShapes Go.ChangeAt Go.RowKit
set_option maxHeartbeats 4000000
set_option maxRecDepth 100000
set_option linter.unusedVariables false

end Go.Proofs.YtkhfddodmjnecaaGreatDoor

set_option linter.all false
namespace Go.Proofs.YtkhfddodmjnecaaGreatDoor
open Go.ChangeShapes Go.WideShapes Go.ChangeAt Go.RowKit
set_option maxHeartbeats 4000000
set_option maxRecDepth 100000
set_option linter.unusedVariables false

/-- a table under way: rows below n are as they shall be, row n is r, all others are empty -/
def rowT (N : Nat) (F : Nat → List Int) (n : Nat) (r : List Int) : List (List Int) := (List.range N).map fun t => if t < n then F t else if t = n then r else []
theorem rowT_get (N : Nat) (F : Nat → List Int) (n : Nat) (r : List Int) {t : Nat} (h : t < N) : (rowT N F n r).getD t [] = if t < n then F t else if t = n then r else [] := by
 simp [rowT, List.getD, h]
theorem rowT_at (N : Nat) (F : Nat → List Int) (n : Nat) (r : List Int) (h : n < N) : (rowT N F n r).getD n [] = r := by
 rw [rowT_get _ _ _ _ h, if_neg (Nat.lt_irrefl n), if_pos rfl]
theorem rowT_set (N : Nat) (F : Nat → List Int) (n : Nat) (r r' : List Int) : (rowT N F n r).set n r' = rowT N F n r' := by
 apply List.ext_getElem
 ·simp [rowT]
 ·intro i h1 h2
  rw [List.getElem_set]
  simp only [rowT, List.getElem_map, List.getElem_range]
  by_cases e : n = i
  ·subst e; simp
  ·rw [if_neg e]; simp [Ne.symm e]
theorem RdIns.zero {w : World} {a : Option Addr} {n c : Nat} {L : List In} (h1 : L.length = 0) (h2 : n = 0) (h3 : c ≤ maxLen) : RdIns w (.slice a n c) L := ⟨a, c, by rw [h1, h2], by omega, h3, fun i hi => by omega⟩
theorem RdIns.drop {w : World} {b o n c : Nat} {L : List In} (h : RdIns w (.slice (some ⟨b, o, none⟩) n c) L) {k : Nat} (hk : k ≤ L.length) : RdIns w (.slice (some ⟨b, o + k * 11, none⟩) (n - k) (c - k)) (L.drop k) := by
 obtain ⟨a', c', e, h1, h2, h3⟩ := h
 simp only [Value.slice.injEq] at e
 obtain ⟨rfl, rfl, rfl⟩ := e
 refine ⟨_, _, by rw [List.length_drop], by rw [List.length_drop]; omega, by omega, fun i hi => ?_⟩
 rw [List.length_drop] at hi
 obtain ⟨b', o', e, hc⟩ := h3 (k + i) (by omega)
 simp only [Option.some.injEq, Addr.mk.injEq, and_true] at e
 obtain ⟨rfl, rfl⟩ := e
 refine ⟨b, o + k * 11, rfl, ?_⟩
 show InC w (fun j => w.cell? ⟨b, o + k * 11 + i * 11 + j, none⟩) ((L.drop k).getD i default)
 have e2 : (L.drop k).getD i default = L.getD (k + i) default := by simp [List.getD]
 rw [e2]
 have e3 : ∀ j, o + k * 11 + i * 11 + j = o + (k + i) * 11 + j := fun j => by omega
 simp only [e3]
 exact hc
/-- a block that none of a table's rows lies in -/
def FarB (n : Nat) (vs : List Value) (bx : Nat) : Prop := ∀ i, i < n → (vs.getD i undef).ownBlock ≠ some bx
theorem FarB.push {n : Nat} {vs : List Value} {bx : Nat} {w : World} {v' : Value} {j : Nat} (h : FarB n vs bx) (hl : vs.length = n) (hj : j < n) (hb : bx < w.heap.size) (hat : v'.ownBlock = (vs.getD j undef).ownBlock ∨ v'.ownBlock = some w.heap.size) : FarB n (vs.set j v') bx := fun k hk => by
 rw [getD_setV _ _ _ _ (by omega)]
 by_cases e2 : k = j
 ·rw [if_pos e2]
  rcases hat with e3 | e3
  ·rw [e3]; exact h j hj
  ·rw [e3]; intro e4; simp only [Option.some.injEq] at e4; omega
 ·rw [if_neg e2]; exact h k hk
theorem FarB.keep {n : Nat} {vs : List Value} {bx gP : Nat} {w w' : World} {v' : Value} {j : Nat} (h : FarB n vs bx) (hj : j < n) (hb : bx < w.heap.size) (hg : w.grownBy w' (vs.getD j undef).ownBlock) (hgp : bx ≠ gP) : (w'.setCell ⟨gP, j, none⟩ v').heap[bx]? = w.heap[bx]? :=
 (Below.heap_setCell w' ⟨gP, j, none⟩ v' bx hgp).trans (hg.block bx hb (fun e => h j hj e.symm))
end Go.Proofs.YtkhfddodmjnecaaGreatDoor

set_option linter.all false
namespace Go.Proofs.YtkhfddodmjnecaaGreatDoor
open Go.ChangeShapes Go.WideShapes Go.ChangeAt Go.RowKit
set_option maxHeartbeats 4000000
set_option maxRecDepth 100000
set_option linter.unusedVariables false
attribute [local go_sem] Oper.semAt_some

theorem own_cells {w : World} {base n sz b : Nat} {e : TypeId} {v : Value} {xs : List Value} (h : w.ownsRow base e sz v n xs) (hb : v.ownBlock = some b) : ∃ cur t f, w.heap[b]? = some (.cells cur t f) := by
 obtain ⟨-, ⟨rfl, -⟩ | ⟨g, cap, cur, rfl, -, hg, -⟩⟩ := h
 ·cases hb
 ·simp only [Value.ownBlock, Option.some.injEq] at hb
  subst hb
  exact ⟨_, _, _, hg⟩
section
variable {W0 w w' : World} {gP B n : Nat} {vs : List Value} {rows : List (List Int)}
/-- one block, no row's and not the table's, turns -/
theorem PT.other (h : PT W0 w gP B n vs rows) {g : Nat} (hg : w.grownBy w' (some g)) (h0 : W0.heap.size ≤ g) (hgp : gP ≠ g) (hr : ∀ i, i < n → (vs.getD i undef).ownBlock ≠ some g) : PT W0 w' gP B n vs rows :=
 ⟨grown_belG h.below (by have := h.Bw; have := h.gB; have := h.g0; omega) hg (fun b e => by cases e; exact h0), World.ownsRow.kept h.tab hg (.inr (by simpa [Value.ownBlock] using hgp)), fun j hj => World.ownsRow.kept (h.row j hj) hg (.inr (hr j hj)), h.ne, h.g0, h.gB, Nat.le_trans h.Bw hg.size, h.len⟩
/-- a row's own block turns -/
theorem PT.turn (h : PT W0 w gP B n vs rows) {j : Nat} (hj : j < n) {l : List Int} (hg : w.grownBy w' (vs.getD j undef).ownBlock) (ho : OwnI w' B (vs.getD j undef) l) : PT W0 w' gP B n vs (rows.set j l) := by
 have h1 := h.g0
 have h2 := h.gB
 have h3 := h.Bw
 have hrl := h.len
 refine ⟨grown_belG h.below (by omega) hg (fun b e => by have := (World.ownsRow.lt (h.row j hj) b e).1; omega), World.ownsRow.kept h.tab hg (.inr fun e => by have := (World.ownsRow.lt (h.row j hj) gP e.symm).1; omega), fun i hi => ?_, h.ne, h.g0, h.gB, Nat.le_trans h.Bw hg.size, by simpa using h.len⟩
 rw [getD_setR _ _ _ _ (by omega)]
 by_cases e : i = j
 ·subst e; rw [if_pos rfl]; exact ho
 ·rw [if_neg e]
  exact World.ownsRow.kept (h.row i hi) hg (h.ne i j hi hj e)
end
/-- where the rows of a table lie while a block is gone through -/
def FarE (lo hi : Nat) (n : Nat) (vs : List Value) (pre : List EX) : Prop := ∀ i, i < n → ∀ b, (vs.getD i undef).ownBlock = some b → b < lo ∨ (hi ≤ b ∧ pre ≠ [] ∧ ∀ y ∈ pre, y.g ≠ b)
/-- between two rounds -/
structure IdI (W0 w4 : World) (gP lo n : Nat) (ds : List Nat) (F : Nat → List Int) (k : Nat) (r : List Int) (pre : List EX) (vs : List Value) (W : World) : Prop where
 pt : PT W0 W gP (gP + 2) n vs (rowT n F k r)
 far : FarE lo (w4.heap.size + 1 + 1) n vs pre
 keep : ∀ b, b < w4.heap.size → (b = gP + 1 ∨ lo ≤ b ∨ b ∈ ds) → W.heap[b]? = w4.heap[b]?
 size : w4.heap.size ≤ W.heap.size
section
variable {W0 w4 W W' : World} {gP lo n : Nat} {ds : List Nat} {F : Nat → List Int} {k : Nat} {r : List Int} {pre : List EX} {vs : List Value}
theorem IdI.below (h : IdI W0 w4 gP lo n ds F k r pre vs W) (hb : Below W.heap.size W W') : IdI W0 w4 gP lo n ds F k r pre vs W' :=
 ⟨h.pt.grow hb, h.far, fun b hb1 hb2 => (hb.block b (Nat.lt_of_lt_of_le hb1 h.size)).trans (h.keep b hb1 hb2), Nat.le_trans h.size hb.size⟩
theorem IdI.other (h : IdI W0 w4 gP lo n ds F k r pre vs W) {g : Nat} (hg : W.grownBy W' (some g)) (h1 : w4.heap.size ≤ g) (h2 : ∀ i, i < n → (vs.getD i undef).ownBlock ≠ some g) (hgp : gP < w4.heap.size) (hw : W0.heap.size ≤ gP) : IdI W0 w4 gP lo n ds F k r pre vs W' :=
 ⟨h.pt.other hg (by omega) (by omega) h2, h.far, fun b hb1 hb2 => (hg.block b (Nat.lt_of_lt_of_le hb1 h.size) (fun e => by cases e; omega)).trans (h.keep b hb1 hb2), Nat.le_trans h.size hg.size⟩
theorem IdI.put (h : IdI W0 w4 gP lo n ds F k r pre vs W) (o : Obj) (hgp : gP < w4.heap.size) (hw : W0.heap.size ≤ gP) (hlo : lo ≤ w4.heap.size) : IdI W0 w4 gP lo n ds F k r pre vs (W.putObj (w4.heap.size + 1) o) :=
 h.other (grownBy_putObj' W _ o) (by omega) (fun i hi e => by rcases h.far i hi _ e with h1 | ⟨h1, -⟩ <;> omega) hgp hw
theorem IdI.st (h : IdI W0 w4 gP lo n ds F k r pre vs W) (hs : StE (w4.heap.size + 1 + 1) pre W W') (hgp : gP < w4.heap.size) (hw : W0.heap.size ≤ gP) (hlo : lo ≤ w4.heap.size) : IdI W0 w4 gP lo n ds F k r pre vs W' := by
 cases pre with
 | nil => exact h.below hs
 | cons x l =>
  obtain ⟨h1, h2⟩ := hs
  refine h.other (g := x.g) ⟨h2.os, h2.tape, h2.output, h2.size, fun b hb hne => h2.block b hb (fun e => hne (by rw [e]))⟩ (by omega) (fun i hi e => ?_) hgp hw
  rcases h.far i hi _ e with h3 | ⟨-, -, h3⟩
  ·omega
  ·exact h3 x (List.mem_cons_self ..) rfl
/-- a place is put at a row's end, and the row is laid down in the table -/
theorem IdI.push {v' : Value} {x : EX} {y : Int} (h : IdI W0 w4 gP lo n ds F k r pre vs W) (hk : k < n) (hg : W.grownBy W' (vs.getD k undef).ownBlock)
  (ho : W'.ownsRow (gP + 2) 3 1 v' (r.length + 1) (r.map (Value.int .i64) ++ [.int .i64 y])) (hat : v'.ownBlock = (vs.getD k undef).ownBlock ∨ v'.ownBlock = some W.heap.size)
  (hd : ∀ D ∈ ds, D < lo ∧ ∃ c, w4.heap[D]? = some (.deferred c)) (hx : w4.heap.size + 1 + 1 ≤ x.g) (hxW : x.g < W.heap.size) (hs : ∀ y ∈ pre, y.g = x.g) (hlo : lo ≤ w4.heap.size) (hgp : gP < lo) (hrx : ∀ i, i < n → (vs.getD i undef).ownBlock ≠ some x.g) (hgd : gP ∉ ds) :
  IdI W0 w4 gP lo n ds F k (r ++ [y]) (pre ++ [x]) (vs.set k v') (W'.setCell ⟨gP, k, none⟩ v') := by
 have hl := h.pt.vlen
 have hrow : (rowT n F k r).getD k [] = r := rowT_at n F k r hk
 have hp := h.pt.push hk hg (by rw [hrow]; exact ho) hat
 rw [hrow, rowT_set] at hp
 refine ⟨hp, fun i hi b e => ?_, fun b hb1 hb2 => ?_, by have := hg.size; have := h.size; simp; omega⟩
 ·rw [getD_setV _ _ _ _ (by omega)] at e
  have old : ∀ j, j < n → (vs.getD j undef).ownBlock = some b → b < lo ∨ (w4.heap.size + 1 + 1 ≤ b ∧ pre ++ [x] ≠ [] ∧ ∀ y ∈ pre ++ [x], y.g ≠ b) := fun j hj e => by
   rcases h.far j hj b e with h1 | ⟨h1, h2, h3⟩
   ·exact .inl h1
   ·refine .inr ⟨h1, by simp, fun z hz => ?_⟩
    rcases List.mem_append.1 hz with hz | hz
    ·exact h3 z hz
    ·rw [List.mem_singleton.1 hz]; intro e2; exact hrx j hj (by rw [e, ← e2])
  by_cases e2 : i = k
  ·rw [if_pos e2] at e
   rcases hat with e3 | e3
   ·rw [e3] at e; exact old k hk e
   ·rw [e3] at e
    simp only [Option.some.injEq] at e
    refine .inr ⟨by have := h.size; omega, by simp, fun z hz => ?_⟩
    rcases List.mem_append.1 hz with hz | hz
    ·rw [hs z hz]; omega
    ·rw [List.mem_singleton.1 hz]; omega
  ·rw [if_neg e2] at e; exact old i hi e
 ·have hne : b ≠ gP := by
   rcases hb2 with h1 | h1 | h1
   ·omega
   ·omega
   ·intro e; subst e; exact hgd h1
  refine (Below.heap_setCell W' ⟨gP, k, none⟩ v' b hne).trans ((hg.block b (Nat.lt_of_lt_of_le hb1 h.size) (fun e => ?_)).trans (h.keep b hb1 hb2))
  rcases hb2 with h1 | h1 | h1
  ·have := (World.ownsRow.lt (h.pt.row k hk) b e.symm).1; omega
  ·rcases h.far k hk b e.symm with h3 | ⟨h3, -⟩ <;> omega
  ·obtain ⟨-, c, hc⟩ := hd b h1
   obtain ⟨cur, t, f, hcc⟩ := own_cells (h.pt.row k hk) e.symm
   rw [h.keep b hb1 (.inr (.inr h1)), hc] at hcc
   cases hcc
/-- a round in which nothing is put -/
theorem IdI.pass {x : EX} (h : IdI W0 w4 gP lo n ds F k r pre vs W) (hrx : ∀ i, i < n → (vs.getD i undef).ownBlock ≠ some x.g) : IdI W0 w4 gP lo n ds F k r (pre ++ [x]) vs W :=
 ⟨h.pt, fun i hi b e => by
   rcases h.far i hi b e with h1 | ⟨h1, h2, h3⟩
   ·exact .inl h1
   ·refine .inr ⟨h1, by simp, fun z hz => ?_⟩
    rcases List.mem_append.1 hz with hz | hz
    ·exact h3 z hz
    ·rw [List.mem_singleton.1 hz]; intro e2; exact hrx i hi (by rw [e, ← e2]), h.keep, h.size⟩
/-- no row lies where the marks are -/
theorem IdI.off {x : EX} {L : List In} {lo' : List Bool} {R : Nat} {We : World} (h : IdI W0 w4 gP lo n ds F k r pre vs W) (hp : PrE We (w4.heap.size + 1 + 1) L lo' R pre x W) (hlo : lo ≤ w4.heap.size) : ∀ i, i < n → (vs.getD i undef).ownBlock ≠ some x.g := fun i hi e => by
 rcases h.far i hi _ e with h1 | ⟨h1, h2, h3⟩
 ·have := hp.g; omega
 ·cases pre with
  | nil => exact h2 rfl
  | cons y l => exact h3 y (List.mem_cons_self ..) (hp.same y (List.mem_cons_self ..))
end
end Go.Proofs.YtkhfddodmjnecaaGreatDoor
