/-
 fold's statements: is a table as the document has it?; Rows of structs: copied, and written to.
-/
import Derived.Test.YtkhfddodmjnecaaZFoldConsts47
import Derived.Test.YtkhfddodmjnecaaZFoldConsts37
import Derived.Test.YtkhfddodmjnecaaZFoldConsts09
import Derived.Test.YtkhfddodmjnecaaZFoldConsts07
import Derived.Lib.SliceRun
import Derived.WalkSpells

set_option linter.all false
namespace Go.Proofs.Ytkhfddodmjnecaa
open Go.ChangeShapes Go.WideShapes Go.ChangeAt Go.RowKit Go.Maps
set_option maxHeartbeats 4000000
set_option maxRecDepth 100000
set_option linter.unusedVariables false

theorem RdVs.cell1 {w : World} {a : Option Addr} {n c : Nat} {xs : List Value} (h : RdVs w (.slice a n c) xs) {i : Nat} (hi : i < n) {u : Value} (e : xs[i]? = some u) : ∃ b o, a = some ⟨b, o, none⟩ ∧ w.cell? ⟨b, o + i, none⟩ = some u := by
 obtain ⟨a', c', e1, -, -, h3⟩ := h
 simp only [Value.slice.injEq] at e1
 obtain ⟨rfl, rfl, rfl⟩ := e1
 obtain ⟨b, o, e2, e3⟩ := h3 i hi
 exact ⟨b, o, e2, e3.trans e⟩
theorem cnt_some {t : Ro} {k : Nat} (h : k < t.length) {z : Int} (e : t.getD k none = some z) : cntC t (k + 1) = cntC t k + 1 := (mpC_some h e).2.1
theorem cnt_none {t : Ro} {k : Nat} (h : k < t.length) (e : t.getD k none = none) : cntC t (k + 1) = cntC t k := (mpC_none h e).2
theorem cAt_in {t : Ro} {k : Nat} (h : k < t.length) : cAt t (k : Int) = t.getD k none := by
 unfold cAt; rw [if_pos (by omega)]; rfl
theorem rowM_c (b R : Nat) (v : Value) (t : Ro) (w : World) (hM : MapU w b (cntC t R) (cAt t)) (hv : RwV w v (some t)) (hl : t.length = R) (hR : R ≤ 1000) :
  Calls Try.prog 39 #[.map (some b), v] w fun e w' => e = .returned (.bool true) ∧ Below w.heap.size w w' := by
 obtain ⟨vh, vn, rfl, hh, hn⟩ := hv
 rw [Option.getD_some] at hh hn
 have hh' := hh
 have hn' := hn
 obtain ⟨ah, ch, rfl, h1, h2, -⟩ := hh
 obtain ⟨an, cn, rfl, n1, n2, -⟩ := hn
 have el : (hasV t).length = R := by simp [hasV, hl]
 have en : (numV t).length = R := by simp [numV, hl]
 rw [el] at hh' h1 ⊢
 rw [en] at hn' n1 ⊢
 unfold maxLen at h2 n2
 have HM := Lib.hid hM
 have HL := Lib.hid hl
 have HH := Lib.hid hh'
 have HN := Lib.hid hn'
 have hsome : (some t).isSome = true := rfl
 rw [hsome]
 clear hM hl hh' hn' el en hsome
 obtain ⟨W1, hW1⟩ : ∃ W1, W1 = w.alloc (.cells #[.bool true, .slice ah R ch, .slice an R cn] 83) := ⟨_, rfl⟩
 have H0 := Lib.hid (heap_of_alloc w _ _ hW1)
 have B1 : Hid (Below w.heap.size w W1) := by
  show Below _ _ _
  rw [hW1]; exact below_alloc w _
 have HW1 := Lib.hid hW1.symm
 clear hW1
 have HM := Lib.hid (HM.out.grow B1.out)
 have HH := Lib.hid (HH.out.ext (Ext.below B1.out))
 have HN := Lib.hid (HN.out.ext (Ext.below B1.out))
 obtain ⟨p0, p1, p2, lp⟩ := cl3 H0.out
 have HLEN := Lib.hid (HM.out.len 3)
 have HLK := Lib.hid (fun (k : Nat) (hk : k < R) => HM.out.look (k : Int) (WalkArith.wf_i64 (by omega)))
 go_enter Try.func39, Try.ntmps39
 go_wp2_with fail
 rw [HW1.out]
 clear HW1
 go_wp2_with fail
 go_loopw [5, 6] (fun n i wr => ∃ (k : Nat), k ≤ R ∧ i = .int .i64 (k : Int) ∧ n = .int .i64 (cntC t k) ∧ wr = W1) (fun _ i _ => R - (intOf i).toNat)
 case atStart => exact ⟨0, Nat.zero_le _, rfl, rfl, rfl⟩
 case round =>
  obtain ⟨k, hk, rfl, rfl, rfl⟩ := hrel
  by_cases hlt : k < R
  ·have g1 : decide (k < R) = true := decide_eq_true hlt
   have g2 : decide ((k : Int) < (R : Int)) = true := decide_eq_true (by omega)
   have hkt : k < t.length := by rw [HL.out]; exact hlt
   have hlk := HLK.out k hlt
   rw [cAt_in hkt] at hlk
   obtain ⟨bh, oh, rfl, c0⟩ := HH.out.cell1 hlt (u := .bool (t.getD k none).isSome) (by simp [hasV, List.getD, hkt])
   obtain ⟨bn, on, rfl, c1⟩ := HN.out.cell1 hlt (u := .int .u32 ((t.getD k none).getD 0)) (by simp [numV, List.getD, hkt])
   have hcn : cntC t k ≤ k := Nat.le_trans List.countP_le_length (by simp; omega)
   cases ho : t.getD k none with
   | none =>
    rw [ho] at hlk c0 c1
    simp only [Option.isSome_none, Option.getD_none] at hlk c0 c1
    have HC := Lib.hid (cnt_none hkt ho)
    clear ho hkt
    go_wp2_with fail
    exact ⟨⟨k + 1, hlt, by go_num, by rw [HC.out], trivial⟩, by simp [intOf]; omega⟩
   | some z =>
    rw [ho] at hlk c0 c1
    simp only [Option.isSome_some, Option.getD_some] at hlk c0 c1
    have HC := Lib.hid (cnt_some hkt ho)
    clear ho hkt
    go_wp2_with fail
    exact ⟨⟨k + 1, hlt, by go_num, by rw [HC.out]; rfl, trivial⟩, by simp [intOf]; omega⟩
  ·obtain rfl : k = R := by omega
   have hlen := HLEN.out
   go_wp2_with fail
   go_ret
   exact ⟨rfl, B1.out⟩
end Go.Proofs.Ytkhfddodmjnecaa

set_option linter.all false
namespace Go.Proofs.Ytkhfddodmjnecaa
open Go.ChangeShapes Go.WideShapes Go.ChangeAt Go.RowKit
set_option maxHeartbeats 2000000
set_option linter.unusedVariables false
set_option maxRecDepth 20000

/-- a slice whose cells are known -/
def Src (w : World) (v : Value) (n : Nat) (xs : List Value) : Prop := ((∃ c, v = .slice none 0 c) ∧ n = 0 ∧ xs = []) ∨ ∃ (ad : Addr) (c : Nat), v = .slice (some ad) n c ∧ n ≤ c ∧ c ≤ maxLen ∧ ∀ j u, xs[j]? = some u → ∃ b o, ad = ⟨b, o, none⟩ ∧ w.cell? ⟨b, o + j, none⟩ = some u
theorem Src.keep {w w' : World} {v : Value} {n : Nat} {xs : List Value} (h : Src w v n xs) (hb : Ext w w') : Src w' v n xs := by
 rcases h with h | ⟨ad, c, e, h1, h2, hc⟩
 ·exact .inl h
 ·exact .inr ⟨ad, c, e, h1, h2, fun j u hj => by
   obtain ⟨b, o, ea, this⟩ := hc j u hj
   exact ⟨b, o, ea, hb _ _ this⟩⟩
/-- what stands in a row of structs, one behind the other -/
theorem src_rows {α : Type} {k : Nat} {w : World} {v : Value} {n : Nat} {R : Nat → (Nat → Option Value) → Prop} {P : Nat → α → Prop} (f : α → List Value) (hf : ∀ a, (f a).length = k) (h : Rows' w v k n R)
  (hR : ∀ i c, i < n → R i c → ∃ x : α, P i x ∧ ∀ j u, (f x)[j]? = some u → c j = some u) : ∃ L : List α, L.length = n ∧ (∀ i (hi : i < L.length), P i L[i]) ∧ Src w v n (L.flatMap f) := by
 obtain ⟨a, c, rfl, h1, h2, h3⟩ := h
 have key : ∀ m, m ≤ n → ∃ L : List α, L.length = m ∧ (∀ i (hi : i < L.length), P i L[i]) ∧ ∀ j u, (L.flatMap f)[j]? = some u → ∃ b o, a = some ⟨b, o, none⟩ ∧ w.cell? ⟨b, o + j, none⟩ = some u := by
  intro m
  induction m with
  | zero => exact fun _ => ⟨[], rfl, fun i hi => absurd hi (Nat.not_lt_zero i), fun j u hj => by simp at hj⟩
  | succ m ih =>
   intro hm
   obtain ⟨L, hl, hP, hc⟩ := ih (by omega)
   obtain ⟨b, o, ea, r⟩ := h3 m (by omega)
   obtain ⟨x, hx, hxc⟩ := hR m _ (by omega) r
   refine ⟨L ++ [x], by simp [hl], fun i hi => ?_, fun j u hj => ?_⟩
   ·by_cases e : i < L.length
    ·rw [List.getElem_append_left e]; exact hP i e
    ·obtain rfl : i = L.length := by simp at hi; omega
     rw [List.getElem_concat_length rfl, hl]; exact hx
   ·have hfl := flat_len f k hf L
    rw [flat_snoc, List.getElem?_append] at hj
    split at hj
    ·exact hc j u hj
    ·rename_i hge
     refine ⟨b, o, ea, ?_⟩
     have := hxc _ _ hj
     rw [hfl, hl] at this hge
     rw [show o + j = o + m * k + (j - m * k) by omega]
     exact this
 obtain ⟨L, hl, hP, hc⟩ := key n (Nat.le_refl _)
 refine ⟨L, hl, hP, ?_⟩
 cases a with
 | none =>
  have hn : n = 0 := by
   rcases Nat.eq_zero_or_pos n with e | e
   ·exact e
   ·obtain ⟨b, o, ea, -⟩ := h3 0 e
    cases ea
  subst hn
  exact .inl ⟨⟨c, rfl⟩, rfl, by rw [List.eq_nil_of_length_eq_zero hl]; rfl⟩
 | some ad =>
  exact .inr ⟨ad, c, rfl, h1, h2, fun j u hj => by
   obtain ⟨b, o, ea, hx⟩ := hc j u hj
   exact ⟨b, o, Option.some.inj ea, hx⟩⟩
/-- a row of instructions as cells -/
theorem RdIns.src {w : World} {v : Value} {l : List In} (h : RdIns w v l) : ∃ L : List (In × Value), L.map Prod.fst = l ∧ (∀ x ∈ L, RdI w x.2 x.1.args) ∧ Src w v l.length (L.flatMap inCells) := by
 obtain ⟨L, hl, hP, hs⟩ := src_rows (P := fun i x => x.1 = l.getD i default ∧ RdI w x.2 x.1.args) inCells (fun _ => rfl) h (fun i c hi hc => by
  obtain ⟨h0, h1, h2, h3, h4, h5, h6, h7, h8, ⟨va, h9, hva⟩, h10⟩ := hc
  refine ⟨(l.getD i default, va), ⟨rfl, hva⟩, fun j u hj => ?_⟩
  match j, hj with
  | 0, hj => simp [inCells] at hj; subst hj; exact h0
  | 1, hj => simp [inCells] at hj; subst hj; exact h1
  | 2, hj => simp [inCells] at hj; subst hj; exact h2
  | 3, hj => simp [inCells] at hj; subst hj; exact h3
  | 4, hj => simp [inCells] at hj; subst hj; exact h4
  | 5, hj => simp [inCells] at hj; subst hj; exact h5
  | 6, hj => simp [inCells] at hj; subst hj; exact h6
  | 7, hj => simp [inCells] at hj; subst hj; exact h7
  | 8, hj => simp [inCells] at hj; subst hj; exact h8
  | 9, hj => simp [inCells] at hj; subst hj; exact h9
  | 10, hj => simp [inCells] at hj; subst hj; exact h10
  | j + 11, hj => simp [inCells] at hj)
 refine ⟨L, ?_, fun x hx => ?_, hs⟩
 ·apply List.ext_getElem (by simpa using hl)
  intro i h1 h2
  have := (hP i (by simpa using h1)).1
  simp [List.getD, h2] at this
  simpa using this
 ·obtain ⟨i, hi, rfl⟩ := List.getElem_of_mem hx
  exact (hP i hi).2
/-- a row of blocks as cells -/
theorem RdBks.src {w : World} {v : Value} {l : List Bk} (h : RdBks w v l) : ∃ L : List (Bk × Value), L.map Prod.fst = l ∧ (∀ x ∈ L, RdIns w x.2 x.1.ins) ∧ Src w v l.length (L.flatMap bkCells) := by
 obtain ⟨L, hl, hP, hs⟩ := src_rows (P := fun i x => x.1 = l.getD i default ∧ RdIns w x.2 x.1.ins) bkCells (fun _ => rfl) h (fun i c hi hc => by
  obtain ⟨⟨va, h0, hva⟩, h1, h2, h3, h4⟩ := hc
  refine ⟨(l.getD i default, va), ⟨rfl, hva⟩, fun j u hj => ?_⟩
  match j, hj with
  | 0, hj => simp [bkCells] at hj; subst hj; exact h0
  | 1, hj => simp [bkCells] at hj; subst hj; exact h1
  | 2, hj => simp [bkCells] at hj; subst hj; exact h2
  | 3, hj => simp [bkCells] at hj; subst hj; exact h3
  | 4, hj => simp [bkCells] at hj; subst hj; exact h4
  | j + 5, hj => simp [bkCells] at hj)
 refine ⟨L, ?_, fun x hx => ?_, hs⟩
 ·apply List.ext_getElem (by simpa using hl)
  intro i h1 h2
  have := (hP i (by simpa using h1)).1
  simp [List.getD, h2] at this
  simpa using this
 ·obtain ⟨i, hi, rfl⟩ := List.getElem_of_mem hx
  exact (hP i hi).2
/-- one cell of a row of structs set -/
theorem flat_setS {α β : Type} [Inhabited α] (f : α → List β) (s : Nat) (hf : ∀ a, (f a).length = s) : ∀ (L : List α) (i j : Nat) (x : β) (a : α), i < L.length → j < s → f a = (f (L.getD i default)).set j x → (L.flatMap f).set (i * s + j) x = (L.set i a).flatMap f
 | [], i, _, _, _, h, _, _ => absurd h (Nat.not_lt_zero i)
 | y :: L, 0, j, x, a, _, hj, e => by
  rw [List.flatMap_cons, Nat.zero_mul, Nat.zero_add, List.set_append_left _ _ (by rw [hf]; exact hj), List.set_cons_zero, List.flatMap_cons, e]
  rfl
 | y :: L, i + 1, j, x, a, h, hj, e => by
  have ih := flat_setS f s hf L i j x a (by simpa using h) hj e
  rw [List.flatMap_cons, List.set_append_right _ _ (by rw [hf, Nat.succ_mul]; omega), hf, show (i + 1) * s + j - s = i * s + j by rw [Nat.succ_mul]; omega, ih, List.set_cons_succ, List.flatMap_cons]
theorem vadd_plain (g o j : Nat) : (⟨g, o, none⟩ : Addr).add j = ⟨g, o + j, none⟩ := by unfold Addr.add; split <;> simp_all
theorem vbelow1 (w : World) (o : Obj) : Below w.heap.size w (w.alloc o) := (Below.refl _ _).alloc (Nat.le_refl _) o
theorem info_bk : (Try.prog.info? 35).map (fun i => (i.zero, i.size, i.bytes)) = some (some (.agg #[.slice none 0 0, .int .i64 0, .int .i64 0, .int .i64 0, .int .i64 0]), 5, 56) := by kernel_rfl
theorem info_in : (Try.prog.info? 39).map (fun i => (i.zero, i.size, i.bytes)) = some (some (.agg #[.int .i64 0, .int .i64 0, .int .i64 0, .int .i64 0, .int .i64 0, .int .i64 0, .int .i64 0, .int .i64 0, .int .u32 0, .slice none 0 0, .bool false]), 11, 104) := by kernel_rfl
theorem cloneBk (v : Value) (n : Nat) (xs : List Value) (w : World) (h : Src w v n xs) (hl : xs.length = n * 5) (hn : n ≤ 1000000) (h1 : ∀ u ∈ xs, u.oneCell' = true) :
  Calls Try.prog 85 #[v] w fun e w' => ∃ v', e = .returned v' ∧ w'.ownsRow w.heap.size 35 5 v' n xs ∧ Below w.heap.size w w' := by
 rcases h with ⟨⟨c0, rfl⟩, rfl, rfl⟩ | ⟨ad, c, rfl, -, -, hc⟩
 ·have hnil := fun w => Lib.run_eql_slice_nil (P := Try.prog) w 30 35 none 0 c0 0 0 Try.underlying30
  go_enter Try.func85, Try.ntmps85
  go_wp2_with fail
  go_ret
  exact ⟨_, rfl, World.ownsRow_nil _ _ _ _, Below.refl _ _⟩
 ·have hnil := fun w => Lib.run_eql_slice_nil (P := Try.prog) w 30 35 (some ad) n c 0 0 Try.underlying30
  obtain ⟨i0, hi, hz0, hz1, hz2⟩ := info_parts info_bk
  have HC : Hid (∀ j u, xs[j]? = some u → (w.alloc (.cells #[] 35)).cell? (ad.add j) = some u) := fun j u hj => by
   obtain ⟨b, o, rfl, hx⟩ := hc j u hj
   rw [vadd_plain]
   exact ((vbelow1 w _).cell (p := ⟨b, o + j, none⟩) (World.block_lt_of_cell? w _ hx)).trans hx
  clear hc
  go_enter Try.func85, Try.ntmps85
  go_wp2_with (at_builtin; refine wpList_append_own _ rfl _ _ 30 rfl w.heap.size 35 i0 (.agg #[.slice none 0 0, .int .i64 0, .int .i64 0, .int .i64 0, .int .i64 0]) 5 56 Try.underlying30 hi hz0 hz1 hz2 rfl (by decide) (.slice (some ⟨w.heap.size, 0, none⟩) 0 0) 0 [] rfl (World.ownsRow_made w #[] 0 (Nat.le_refl _) (by simp [maxLen]) (by simp)) ad n c xs rfl hl HC.out h1 (by unfold maxLen; omega) (by omega) (by simp) ?_; intro v' w1 hown hgrow hnn)
  go_ret
  simp only [Nat.zero_add, List.nil_append] at hown
  exact ⟨v', rfl, hown, (vbelow1 w _).grown hgrow (by simp) fun k hk => by simp [Value.ownBlock] at hk; omega⟩
theorem cloneIn (v : Value) (n : Nat) (xs : List Value) (w : World) (h : Src w v n xs) (hl : xs.length = n * 11) (hn : n ≤ 1000000) (h1 : ∀ u ∈ xs, u.oneCell' = true) :
  Calls Try.prog 104 #[v] w fun e w' => ∃ v', e = .returned v' ∧ w'.ownsRow w.heap.size 39 11 v' n xs ∧ Below w.heap.size w w' := by
 rcases h with ⟨⟨c0, rfl⟩, rfl, rfl⟩ | ⟨ad, c, rfl, -, -, hc⟩
 ·have hnil := fun w => Lib.run_eql_slice_nil (P := Try.prog) w 33 39 none 0 c0 0 0 Try.underlying33
  go_enter Try.func104, Try.ntmps104
  go_wp2_with fail
  go_ret
  exact ⟨_, rfl, World.ownsRow_nil _ _ _ _, Below.refl _ _⟩
 ·have hnil := fun w => Lib.run_eql_slice_nil (P := Try.prog) w 33 39 (some ad) n c 0 0 Try.underlying33
  obtain ⟨i0, hi, hz0, hz1, hz2⟩ := info_parts info_in
  have HC : Hid (∀ j u, xs[j]? = some u → (w.alloc (.cells #[] 39)).cell? (ad.add j) = some u) := fun j u hj => by
   obtain ⟨b, o, rfl, hx⟩ := hc j u hj
   rw [vadd_plain]
   exact ((vbelow1 w _).cell (p := ⟨b, o + j, none⟩) (World.block_lt_of_cell? w _ hx)).trans hx
  clear hc
  go_enter Try.func104, Try.ntmps104
  go_wp2_with (at_builtin; refine wpList_append_own _ rfl _ _ 33 rfl w.heap.size 39 i0 (.agg #[.int .i64 0, .int .i64 0, .int .i64 0, .int .i64 0, .int .i64 0, .int .i64 0, .int .i64 0, .int .i64 0, .int .u32 0, .slice none 0 0, .bool false]) 11 104 Try.underlying33 hi hz0 hz1 hz2 rfl (by decide) (.slice (some ⟨w.heap.size, 0, none⟩) 0 0) 0 [] rfl (World.ownsRow_made w #[] 0 (Nat.le_refl _) (by simp [maxLen]) (by simp)) ad n c xs rfl hl HC.out h1 (by unfold maxLen; omega) (by omega) (by simp) ?_; intro v' w1 hown hgrow hnn)
  go_ret
  simp only [Nat.zero_add, List.nil_append] at hown
  exact ⟨v', rfl, hown, (vbelow1 w _).grown hgrow (by simp) fun k hk => by simp [Value.ownBlock] at hk; omega⟩
/-- a row of blocks of the call's own -/
structure OwnBk (w : World) (B : Nat) (v : Value) (L : List (Bk × Value)) : Prop where
 own : w.ownsRow B 35 5 v L.length (L.flatMap bkCells)
 ins : ∀ x ∈ L, RdIns w x.2 x.1.ins
theorem OwnBk.rd {w : World} {B : Nat} {v : Value} {L : List (Bk × Value)} (h : OwnBk w B v L) : RdBks w v (L.map Prod.fst) := by
 have H := own_flat (α := Bk × Value) (f := bkCells) (by decide : 0 < 5) (fun _ => rfl) h.own
 have hl : L.length = (L.map Prod.fst).length := by simp
 unfold RdBks
 rw [← hl]
 obtain ⟨a, c, h1, h2, h3, h4⟩ := H
 refine ⟨a, c, h1, h2, h3, fun i hi => ?_⟩
 obtain ⟨b, o, e1, r⟩ := h4 i hi
 have eg : L.getD i default = L[i] := by simp [List.getD, hi]
 have eg2 : (L.map Prod.fst).getD i default = L[i].1 := by simp [List.getD, hi]
 rw [eg] at r
 refine ⟨b, o, e1, ?_⟩
 dsimp only
 rw [eg2]
 exact ⟨⟨_, r 0 _ rfl, h.ins _ (List.getElem_mem hi)⟩, r 1 _ rfl, r 2 _ rfl, r 3 _ rfl, r 4 _ rfl⟩
theorem OwnBk.below {w w' : World} {B : Nat} {v : Value} {L : List (Bk × Value)} (h : OwnBk w B v L) (hb : Below w.heap.size w w') : OwnBk w' B v L := ⟨own_below h.own hb, fun x hx => (h.ins x hx).ext (Ext.below hb)⟩
theorem bk_one : ∀ (L : List (Bk × Value)), (∀ x ∈ L, ∃ a n c, x.2 = .slice a n c) → ∀ u ∈ L.flatMap bkCells, u.oneCell' = true := fun L h u hu => by
 obtain ⟨x, hx, hu⟩ := List.mem_flatMap.1 hu
 obtain ⟨a, n, c, e⟩ := h x hx
 simp only [bkCells, List.mem_cons, List.not_mem_nil, or_false, e] at hu
 rcases hu with rfl | rfl | rfl | rfl | rfl <;> rfl
theorem in_one : ∀ (L : List (In × Value)), (∀ x ∈ L, ∃ a n c, x.2 = .slice a n c) → ∀ u ∈ L.flatMap inCells, u.oneCell' = true := fun L h u hu => by
 obtain ⟨x, hx, hu⟩ := List.mem_flatMap.1 hu
 obtain ⟨a, n, c, e⟩ := h x hx
 simp only [inCells, List.mem_cons, List.not_mem_nil, or_false, e] at hu
 rcases hu with rfl | rfl | rfl | rfl | rfl | rfl | rfl | rfl | rfl | rfl | rfl <;> rfl
theorem Rows'.sl {w : World} {v : Value} {k n : Nat} {R : Nat → (Nat → Option Value) → Prop} (h : Rows' w v k n R) : ∃ a m c, v = .slice a m c := by
 obtain ⟨a, c, h1, -⟩ := h
 exact ⟨a, n, c, h1⟩
/-- a row of instructions of the call's own -/
structure OwnIn (w : World) (B : Nat) (v : Value) (L : List (In × Value)) : Prop where
 own : w.ownsRow B 39 11 v L.length (L.flatMap inCells)
 args : ∀ x ∈ L, RdI w x.2 x.1.args
theorem OwnIn.rd {w : World} {B : Nat} {v : Value} {L : List (In × Value)} (h : OwnIn w B v L) : RdIns w v (L.map Prod.fst) := by
 have H := own_flat (α := In × Value) (f := inCells) (by decide : 0 < 11) (fun _ => rfl) h.own
 have hl : L.length = (L.map Prod.fst).length := by simp
 unfold RdIns
 rw [← hl]
 obtain ⟨a, c, h1, h2, h3, h4⟩ := H
 refine ⟨a, c, h1, h2, h3, fun i hi => ?_⟩
 obtain ⟨b, o, e1, r⟩ := h4 i hi
 have eg : L.getD i default = L[i] := by simp [List.getD, hi]
 have eg2 : (L.map Prod.fst).getD i default = L[i].1 := by simp [List.getD, hi]
 rw [eg] at r
 refine ⟨b, o, e1, ?_⟩
 dsimp only
 rw [eg2]
 exact ⟨r 0 _ rfl, r 1 _ rfl, r 2 _ rfl, r 3 _ rfl, r 4 _ rfl, r 5 _ rfl, r 6 _ rfl, r 7 _ rfl, r 8 _ rfl, ⟨_, r 9 _ rfl, h.args _ (List.getElem_mem hi)⟩, r 10 _ rfl⟩
theorem OwnIn.below {w w' : World} {B : Nat} {v : Value} {L : List (In × Value)} (h : OwnIn w B v L) (hb : Below w.heap.size w w') : OwnIn w' B v L := ⟨own_below h.own hb, fun x hx => (h.args x hx).ext (Ext.below hb)⟩
end Go.Proofs.Ytkhfddodmjnecaa
