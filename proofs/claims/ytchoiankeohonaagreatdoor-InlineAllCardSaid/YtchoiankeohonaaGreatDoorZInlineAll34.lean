/-
 Rows of structs: copied, and written to.
-/
import Derived.Test.YtchoiankeohonaaGreatDoorZInlineAll10
import Derived.Test.YtchoiankeohonaaGreatDoorZInlineAll07
import Derived.Lib.SliceRun
import Derived.WalkSpells
set_option linter.all false
namespace Go.Proofs.YtchoiankeohonaaGreatDoor
open Go.ChangeShapes Go.WideShapes Go.ChangeAt Go.RowKit
set_option maxHeartbeats 2000000
set_option linter.unusedVariables false
set_option maxRecDepth 20000

/-- a slice whose cells are known -/
def Src (w : World) (v : Value) (n : Nat) (xs : List Value) : Prop := ((∃ c, v = .slice none 0 c) ∧ n = 0 ∧ xs = []) ∨ ∃ (ad : Addr) (c : Nat), v = .slice (some ad) n c ∧ n ≤ c ∧ c ≤ maxLen ∧ ∀ j u, xs[j]? = some u → ∃ b o, ad = ⟨b, o, none⟩ ∧ w.cell? ⟨b, o + j, none⟩ = some u
theorem Src.keep {w w' : World} {v : Value} {n : Nat} {xs : List Value} (h : Src w v n xs) (hb : Ext w w') : Src w' v n xs := by
 rcases h with h | ⟨ad, c, e, h1, h2, hc⟩
 ·exact .inl h
 ·exact .inr ⟨ad, c, e, h1, h2, fun j u hj => by
   obtain ⟨b, o, ea, this⟩ := hc j u hj
   exact ⟨b, o, ea, hb _ _ this⟩⟩
theorem src_own {w : World} {B s n : Nat} {e : TypeId} {v : Value} {xs : List Value} (h : w.ownsRow B e s v n xs) : Src w v n xs := by
 have H := h
 obtain ⟨hl, ⟨rfl, rfl⟩ | ⟨g, cap, cur, rfl, hb, hgg, hn, hc, hsz, htk⟩⟩ := h
 ·exact .inl ⟨⟨0, rfl⟩, rfl, by simpa using hl⟩
 ·refine .inr ⟨⟨g, 0, none⟩, cap, rfl, hn, hc, fun j u hj => ⟨g, 0, rfl, ?_⟩⟩
  have hlt : j < n * s := by rw [← hl]; exact (List.getElem?_eq_some_iff.1 hj).1
  rw [Nat.zero_add, H.cellAt j hlt]; exact hj
/-- what stands in a row of structs, one behind the other -/
theorem src_rows {α : Type} {k : Nat} {w : World} {v : Value} {n : Nat} {R : Nat → (Nat → Option Value) → Prop} {P : Nat → α → Prop} (f : α → List Value) (hf : ∀ a, (f a).length = k) (h : Rows' w v k n R)
  (hR : ∀ i c, i < n → R i c → ∃ x : α, P i x ∧ ∀ j u, (f x)[j]? = some u → c j = some u) : ∃ L : List α, L.length = n ∧ (∀ i (hi : i < L.length), P i L[i]) ∧ Src w v n (L.flatMap f) := by
 obtain ⟨a, c, rfl, h1, h2, h3⟩ := h
 have key : ∀ m, m ≤ n → ∃ L : List α, L.length = m ∧ (∀ i (hi : i < L.length), P i L[i]) ∧ ∀ j u, (L.flatMap f)[j]? = some u → ∃ b o, a = some ⟨b, o, none⟩ ∧ w.cell? ⟨b, o + j, none⟩ = some u := by
  intro m
  induction m with
  | zero => exact fun _ => ⟨[], rfl, fun i hi => absurd hi (Nat.not_lt_zero i), fun j u hj => by simp at hj⟩
  | succ m ih =>
   intro hm
   obtain ⟨L, hl, hP, hc⟩ := ih (by omega)
   obtain ⟨b, o, ea, r⟩ := h3 m (by omega)
   obtain ⟨x, hx, hxc⟩ := hR m _ (by omega) r
   refine ⟨L ++ [x], by simp [hl], fun i hi => ?_, fun j u hj => ?_⟩
   ·by_cases e : i < L.length
    ·rw [List.getElem_append_left e]; exact hP i e
    ·obtain rfl : i = L.length := by simp at hi; omega
     rw [List.getElem_concat_length rfl, hl]; exact hx
   ·have hfl := flat_len f k hf L
    rw [flat_snoc, List.getElem?_append] at hj
    split at hj
    ·exact hc j u hj
    ·rename_i hge
     refine ⟨b, o, ea, ?_⟩
     have := hxc _ _ hj
     rw [hfl, hl] at this hge
     rw [show o + j = o + m * k + (j - m * k) by omega]
     exact this
 obtain ⟨L, hl, hP, hc⟩ := key n (Nat.le_refl _)
 refine ⟨L, hl, hP, ?_⟩
 cases a with
 | none =>
  have hn : n = 0 := by
   rcases Nat.eq_zero_or_pos n with e | e
   ·exact e
   ·obtain ⟨b, o, ea, -⟩ := h3 0 e
    cases ea
  subst hn
  exact .inl ⟨⟨c, rfl⟩, rfl, by rw [List.eq_nil_of_length_eq_zero hl]; rfl⟩
 | some ad =>
  exact .inr ⟨ad, c, rfl, h1, h2, fun j u hj => by
   obtain ⟨b, o, ea, hx⟩ := hc j u hj
   exact ⟨b, o, Option.some.inj ea, hx⟩⟩
/-- a row of instructions as cells -/
theorem RdIns.src {w : World} {v : Value} {l : List In} (h : RdIns w v l) : ∃ L : List (In × Value), L.map Prod.fst = l ∧ (∀ x ∈ L, RdI w x.2 x.1.args) ∧ Src w v l.length (L.flatMap inCells) := by
 obtain ⟨L, hl, hP, hs⟩ := src_rows (P := fun i x => x.1 = l.getD i default ∧ RdI w x.2 x.1.args) inCells (fun _ => rfl) h (fun i c hi hc => by
  obtain ⟨h0, h1, h2, h3, h4, h5, h6, h7, h8, ⟨va, h9, hva⟩, h10⟩ := hc
  refine ⟨(l.getD i default, va), ⟨rfl, hva⟩, fun j u hj => ?_⟩
  match j, hj with
  | 0, hj => simp [inCells] at hj; subst hj; exact h0
  | 1, hj => simp [inCells] at hj; subst hj; exact h1
  | 2, hj => simp [inCells] at hj; subst hj; exact h2
  | 3, hj => simp [inCells] at hj; subst hj; exact h3
  | 4, hj => simp [inCells] at hj; subst hj; exact h4
  | 5, hj => simp [inCells] at hj; subst hj; exact h5
  | 6, hj => simp [inCells] at hj; subst hj; exact h6
  | 7, hj => simp [inCells] at hj; subst hj; exact h7
  | 8, hj => simp [inCells] at hj; subst hj; exact h8
  | 9, hj => simp [inCells] at hj; subst hj; exact h9
  | 10, hj => simp [inCells] at hj; subst hj; exact h10
  | j + 11, hj => simp [inCells] at hj)
 refine ⟨L, ?_, fun x hx => ?_, hs⟩
 ·apply List.ext_getElem (by simpa using hl)
  intro i h1 h2
  have := (hP i (by simpa using h1)).1
  simp [List.getD, h2] at this
  simpa using this
 ·obtain ⟨i, hi, rfl⟩ := List.getElem_of_mem hx
  exact (hP i hi).2
/-- a row of blocks as cells -/
theorem RdBks.src {w : World} {v : Value} {l : List Bk} (h : RdBks w v l) : ∃ L : List (Bk × Value), L.map Prod.fst = l ∧ (∀ x ∈ L, RdIns w x.2 x.1.ins) ∧ Src w v l.length (L.flatMap bkCells) := by
 obtain ⟨L, hl, hP, hs⟩ := src_rows (P := fun i x => x.1 = l.getD i default ∧ RdIns w x.2 x.1.ins) bkCells (fun _ => rfl) h (fun i c hi hc => by
  obtain ⟨⟨va, h0, hva⟩, h1, h2, h3, h4⟩ := hc
  refine ⟨(l.getD i default, va), ⟨rfl, hva⟩, fun j u hj => ?_⟩
  match j, hj with
  | 0, hj => simp [bkCells] at hj; subst hj; exact h0
  | 1, hj => simp [bkCells] at hj; subst hj; exact h1
  | 2, hj => simp [bkCells] at hj; subst hj; exact h2
  | 3, hj => simp [bkCells] at hj; subst hj; exact h3
  | 4, hj => simp [bkCells] at hj; subst hj; exact h4
  | j + 5, hj => simp [bkCells] at hj)
 refine ⟨L, ?_, fun x hx => ?_, hs⟩
 ·apply List.ext_getElem (by simpa using hl)
  intro i h1 h2
  have := (hP i (by simpa using h1)).1
  simp [List.getD, h2] at this
  simpa using this
 ·obtain ⟨i, hi, rfl⟩ := List.getElem_of_mem hx
  exact (hP i hi).2
/-- one cell of a row of structs set -/
theorem flat_setS {α β : Type} [Inhabited α] (f : α → List β) (s : Nat) (hf : ∀ a, (f a).length = s) : ∀ (L : List α) (i j : Nat) (x : β) (a : α), i < L.length → j < s → f a = (f (L.getD i default)).set j x → (L.flatMap f).set (i * s + j) x = (L.set i a).flatMap f
 | [], i, _, _, _, h, _, _ => absurd h (Nat.not_lt_zero i)
 | y :: L, 0, j, x, a, _, hj, e => by
  rw [List.flatMap_cons, Nat.zero_mul, Nat.zero_add, List.set_append_left _ _ (by rw [hf]; exact hj), List.set_cons_zero, List.flatMap_cons, e]
  rfl
 | y :: L, i + 1, j, x, a, h, hj, e => by
  have ih := flat_setS f s hf L i j x a (by simpa using h) hj e
  rw [List.flatMap_cons, List.set_append_right _ _ (by rw [hf, Nat.succ_mul]; omega), hf, show (i + 1) * s + j - s = i * s + j by rw [Nat.succ_mul]; omega, ih, List.set_cons_succ, List.flatMap_cons]
theorem vadd_plain (g o j : Nat) : (⟨g, o, none⟩ : Addr).add j = ⟨g, o + j, none⟩ := by unfold Addr.add; split <;> simp_all
theorem vbelow1 (w : World) (o : Obj) : Below w.heap.size w (w.alloc o) := (Below.refl _ _).alloc (Nat.le_refl _) o
theorem info_bk : (Tryz.prog.info? 51).map (fun i => (i.zero, i.size, i.bytes)) = some (some (.agg #[.slice none 0 0, .int .i64 0, .int .i64 0, .int .i64 0, .int .i64 0]), 5, 56) := by kernel_rfl
theorem info_in : (Tryz.prog.info? 48).map (fun i => (i.zero, i.size, i.bytes)) = some (some (.agg #[.int .i64 0, .int .i64 0, .int .i64 0, .int .i64 0, .int .i64 0, .int .i64 0, .int .i64 0, .int .i64 0, .int .u32 0, .slice none 0 0, .bool false]), 11, 104) := by kernel_rfl
theorem cloneBk (v : Value) (n : Nat) (xs : List Value) (w : World) (h : Src w v n xs) (hl : xs.length = n * 5) (hn : n ≤ 1000000) (h1 : ∀ u ∈ xs, u.oneCell' = true) :
  Calls Tryz.prog 41 #[v] w fun e w' => ∃ v', e = .returned v' ∧ w'.ownsRow w.heap.size 51 5 v' n xs ∧ Below w.heap.size w w' := by
 rcases h with ⟨⟨c0, rfl⟩, rfl, rfl⟩ | ⟨ad, c, rfl, -, -, hc⟩
 ·have hnil := fun w => Lib.run_eql_slice_nil (P := Tryz.prog) w 33 51 none 0 c0 0 0 Tryz.underlying33
  go_enter Tryz.func41, Tryz.ntmps41
  go_wp2_with fail
  go_ret
  exact ⟨_, rfl, World.ownsRow_nil _ _ _ _, Below.refl _ _⟩
 ·have hnil := fun w => Lib.run_eql_slice_nil (P := Tryz.prog) w 33 51 (some ad) n c 0 0 Tryz.underlying33
  obtain ⟨i0, hi, hz0, hz1, hz2⟩ := info_parts info_bk
  have HC : Hid (∀ j u, xs[j]? = some u → (w.alloc (.cells #[] 51)).cell? (ad.add j) = some u) := fun j u hj => by
   obtain ⟨b, o, rfl, hx⟩ := hc j u hj
   rw [vadd_plain]
   exact ((vbelow1 w _).cell (p := ⟨b, o + j, none⟩) (World.block_lt_of_cell? w _ hx)).trans hx
  clear hc
  go_enter Tryz.func41, Tryz.ntmps41
  go_wp2_with (at_builtin; refine wpList_append_own _ rfl _ _ 33 rfl w.heap.size 51 i0 (.agg #[.slice none 0 0, .int .i64 0, .int .i64 0, .int .i64 0, .int .i64 0]) 5 56 Tryz.underlying33 hi hz0 hz1 hz2 rfl (by decide) (.slice (some ⟨w.heap.size, 0, none⟩) 0 0) 0 [] rfl (World.ownsRow_made w #[] 0 (Nat.le_refl _) (by simp [maxLen]) (by simp)) ad n c xs rfl hl HC.out h1 (by unfold maxLen; omega) (by omega) (by simp) ?_; intro v' w1 hown hgrow hnn)
  go_ret
  simp only [Nat.zero_add, List.nil_append] at hown
  exact ⟨v', rfl, hown, (vbelow1 w _).grown hgrow (by simp) fun k hk => by simp [Value.ownBlock] at hk; omega⟩
theorem cloneIn (v : Value) (n : Nat) (xs : List Value) (w : World) (h : Src w v n xs) (hl : xs.length = n * 11) (hn : n ≤ 1000000) (h1 : ∀ u ∈ xs, u.oneCell' = true) :
  Calls Tryz.prog 40 #[v] w fun e w' => ∃ v', e = .returned v' ∧ w'.ownsRow w.heap.size 48 11 v' n xs ∧ Below w.heap.size w w' := by
 rcases h with ⟨⟨c0, rfl⟩, rfl, rfl⟩ | ⟨ad, c, rfl, -, -, hc⟩
 ·have hnil := fun w => Lib.run_eql_slice_nil (P := Tryz.prog) w 49 48 none 0 c0 0 0 Tryz.underlying49
  go_enter Tryz.func40, Tryz.ntmps40
  go_wp2_with fail
  go_ret
  exact ⟨_, rfl, World.ownsRow_nil _ _ _ _, Below.refl _ _⟩
 ·have hnil := fun w => Lib.run_eql_slice_nil (P := Tryz.prog) w 49 48 (some ad) n c 0 0 Tryz.underlying49
  obtain ⟨i0, hi, hz0, hz1, hz2⟩ := info_parts info_in
  have HC : Hid (∀ j u, xs[j]? = some u → (w.alloc (.cells #[] 48)).cell? (ad.add j) = some u) := fun j u hj => by
   obtain ⟨b, o, rfl, hx⟩ := hc j u hj
   rw [vadd_plain]
   exact ((vbelow1 w _).cell (p := ⟨b, o + j, none⟩) (World.block_lt_of_cell? w _ hx)).trans hx
  clear hc
  go_enter Tryz.func40, Tryz.ntmps40
  go_wp2_with (at_builtin; refine wpList_append_own _ rfl _ _ 49 rfl w.heap.size 48 i0 (.agg #[.int .i64 0, .int .i64 0, .int .i64 0, .int .i64 0, .int .i64 0, .int .i64 0, .int .i64 0, .int .i64 0, .int .u32 0, .slice none 0 0, .bool false]) 11 104 Tryz.underlying49 hi hz0 hz1 hz2 rfl (by decide) (.slice (some ⟨w.heap.size, 0, none⟩) 0 0) 0 [] rfl (World.ownsRow_made w #[] 0 (Nat.le_refl _) (by simp [maxLen]) (by simp)) ad n c xs rfl hl HC.out h1 (by unfold maxLen; omega) (by omega) (by simp) ?_; intro v' w1 hown hgrow hnn)
  go_ret
  simp only [Nat.zero_add, List.nil_append] at hown
  exact ⟨v', rfl, hown, (vbelow1 w _).grown hgrow (by simp) fun k hk => by simp [Value.ownBlock] at hk; omega⟩
/-- a row of blocks of the call's own -/
structure OwnBk (w : World) (B : Nat) (v : Value) (L : List (Bk × Value)) : Prop where
 own : w.ownsRow B 51 5 v L.length (L.flatMap bkCells)
 ins : ∀ x ∈ L, RdIns w x.2 x.1.ins
theorem OwnBk.rd {w : World} {B : Nat} {v : Value} {L : List (Bk × Value)} (h : OwnBk w B v L) : RdBks w v (L.map Prod.fst) := by
 have H := own_flat (α := Bk × Value) (f := bkCells) (by decide : 0 < 5) (fun _ => rfl) h.own
 have hl : L.length = (L.map Prod.fst).length := by simp
 unfold RdBks
 rw [← hl]
 obtain ⟨a, c, h1, h2, h3, h4⟩ := H
 refine ⟨a, c, h1, h2, h3, fun i hi => ?_⟩
 obtain ⟨b, o, e1, r⟩ := h4 i hi
 have eg : L.getD i default = L[i] := by simp [List.getD, hi]
 have eg2 : (L.map Prod.fst).getD i default = L[i].1 := by simp [List.getD, hi]
 rw [eg] at r
 refine ⟨b, o, e1, ?_⟩
 dsimp only
 rw [eg2]
 exact ⟨⟨_, r 0 _ rfl, h.ins _ (List.getElem_mem hi)⟩, r 1 _ rfl, r 2 _ rfl, r 3 _ rfl, r 4 _ rfl⟩
theorem OwnBk.below {w w' : World} {B : Nat} {v : Value} {L : List (Bk × Value)} (h : OwnBk w B v L) (hb : Below w.heap.size w w') : OwnBk w' B v L := ⟨own_below h.own hb, fun x hx => (h.ins x hx).ext (Ext.below hb)⟩
theorem bk_one : ∀ (L : List (Bk × Value)), (∀ x ∈ L, ∃ a n c, x.2 = .slice a n c) → ∀ u ∈ L.flatMap bkCells, u.oneCell' = true := fun L h u hu => by
 obtain ⟨x, hx, hu⟩ := List.mem_flatMap.1 hu
 obtain ⟨a, n, c, e⟩ := h x hx
 simp only [bkCells, List.mem_cons, List.not_mem_nil, or_false, e] at hu
 rcases hu with rfl | rfl | rfl | rfl | rfl <;> rfl
theorem in_one : ∀ (L : List (In × Value)), (∀ x ∈ L, ∃ a n c, x.2 = .slice a n c) → ∀ u ∈ L.flatMap inCells, u.oneCell' = true := fun L h u hu => by
 obtain ⟨x, hx, hu⟩ := List.mem_flatMap.1 hu
 obtain ⟨a, n, c, e⟩ := h x hx
 simp only [inCells, List.mem_cons, List.not_mem_nil, or_false, e] at hu
 rcases hu with rfl | rfl | rfl | rfl | rfl | rfl | rfl | rfl | rfl | rfl | rfl <;> rfl
theorem Rows'.sl {w : World} {v : Value} {k n : Nat} {R : Nat → (Nat → Option Value) → Prop} (h : Rows' w v k n R) : ∃ a m c, v = .slice a m c := by
 obtain ⟨a, c, h1, -⟩ := h
 exact ⟨a, n, c, h1⟩
/-- a row of instructions of the call's own -/
structure OwnIn (w : World) (B : Nat) (v : Value) (L : List (In × Value)) : Prop where
 own : w.ownsRow B 48 11 v L.length (L.flatMap inCells)
 args : ∀ x ∈ L, RdI w x.2 x.1.args
theorem OwnIn.rd {w : World} {B : Nat} {v : Value} {L : List (In × Value)} (h : OwnIn w B v L) : RdIns w v (L.map Prod.fst) := by
 have H := own_flat (α := In × Value) (f := inCells) (by decide : 0 < 11) (fun _ => rfl) h.own
 have hl : L.length = (L.map Prod.fst).length := by simp
 unfold RdIns
 rw [← hl]
 obtain ⟨a, c, h1, h2, h3, h4⟩ := H
 refine ⟨a, c, h1, h2, h3, fun i hi => ?_⟩
 obtain ⟨b, o, e1, r⟩ := h4 i hi
 have eg : L.getD i default = L[i] := by simp [List.getD, hi]
 have eg2 : (L.map Prod.fst).getD i default = L[i].1 := by simp [List.getD, hi]
 rw [eg] at r
 refine ⟨b, o, e1, ?_⟩
 dsimp only
 rw [eg2]
 exact ⟨r 0 _ rfl, r 1 _ rfl, r 2 _ rfl, r 3 _ rfl, r 4 _ rfl, r 5 _ rfl, r 6 _ rfl, r 7 _ rfl, r 8 _ rfl, ⟨_, r 9 _ rfl, h.args _ (List.getElem_mem hi)⟩, r 10 _ rfl⟩
theorem OwnIn.below {w w' : World} {B : Nat} {v : Value} {L : List (In × Value)} (h : OwnIn w B v L) (hb : Below w.heap.size w w') : OwnIn w' B v L := ⟨own_below h.own hb, fun x hx => (h.args x hx).ext (Ext.below hb)⟩
end Go.Proofs.YtchoiankeohonaaGreatDoor
