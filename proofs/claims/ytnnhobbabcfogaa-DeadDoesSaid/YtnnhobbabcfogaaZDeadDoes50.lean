/-
 A module with a procedure without what is idle: it is right, and does the same. Plain.; dead's page example answers yes.
-/
import Derived.Test.YtnnhobbabcfogaaZDeadDoes49
import Derived.Test.YtnnhobbabcfogaaZDeadDoes48
import Derived.Test.YtnnhobbabcfogaaZDeadDoes11

set_option linter.all false
namespace Go.Proofs.Ytnnhobbabcfogaa
set_option linter.unusedVariables false

/-- what others ask of a procedure -/
structure Like (p q : Pr) : Prop where
 params : q.params = p.params
 void : q.void = p.void
theorem getD_with {m : Md} {n : Nat} {q : Pr} (hn : n < m.procs.length) (k : Nat) : (withM m n q).procs.getD k default = if k = n then q else m.procs.getD k default := by
 by_cases e : k = n
 ·subst e; rw [if_pos rfl]; exact pk_with m k q hn
 ·rw [if_neg e]; exact pk_other m n q e
theorem like_at {m : Md} {n : Nat} {q : Pr} (hn : n < m.procs.length) (h : Like (pk m n) q) (k : Nat) : ((withM m n q).procs.getD k default).params = (m.procs.getD k default).params ∧ ((withM m n q).procs.getD k default).void = (m.procs.getD k default).void := by
 rw [getD_with hn]
 by_cases e : k = n
 ·subst e; rw [if_pos rfl]; exact ⟨h.params, h.void⟩
 ·rw [if_neg e]; exact ⟨rfl, rfl⟩
theorem okI_with {m : Md} {n : Nat} {q : Pr} (hn : n < m.procs.length) (h : Like (pk m n) q) (p : Pr) (i : In) : okI (withM m n q) p i = okI m p i := by
 unfold okI callF moreF
 rw [(like_at hn h i.obj.toNat).1, (like_at hn h i.obj.toNat).2, withM_len]
 rfl
theorem okB_with {m : Md} {n : Nat} {q : Pr} (hn : n < m.procs.length) (h : Like (pk m n) q) (p : Pr) (b : Bk) : okB (withM m n q) p b = okB m p b := by
 unfold okB
 congr 1
 rw [Bool.eq_iff_iff, List.all_eq_true, List.all_eq_true]
 exact forall_congr' fun x => forall_congr' fun _ => by rw [okI_with hn h]
theorem okP_with {m : Md} {n : Nat} {q : Pr} (hn : n < m.procs.length) (h : Like (pk m n) q) (p : Pr) : okP (withM m n q) p = okP m p := by
 unfold okP
 congr 1
 rw [Bool.eq_iff_iff, List.all_eq_true, List.all_eq_true]
 exact forall_congr' fun x => forall_congr' fun _ => by rw [okB_with hn h]
theorem okM_with {m : Md} {n : Nat} {q : Pr} (hn : n < m.procs.length) (h : Like (pk m n) q) (hok : okM m = true) (hq : okP m q = true) : okM (withM m n q) = true := by
 unfold okM at hok ⊢
 simp only [Bool.and_eq_true] at hok ⊢
 obtain ⟨h1, h2, h3, h4⟩ := hok
 refine ⟨?_, h2, ?_, ?_⟩
 ·unfold okHeadM at h1 ⊢
  rw [withM_len]
  exact h1
 ·have := like_at hn h m.main.toNat
  show ((((withM m n q).procs.getD m.main.toNat default).params == 0) = true) ∧ (!((withM m n q).procs.getD m.main.toNat default).void) = true
  rw [this.1, this.2]; exact h3
 ·rw [List.all_eq_true] at h4 ⊢
  intro x hx
  rw [okP_with hn h]
  unfold withM at hx
  dsimp only at hx
  rcases List.mem_or_eq_of_mem_set hx with hx | rfl
  ·exact h4 x hx
  ·exact hq
theorem okI_same {p q : Pr} (h1 : q.regs = p.regs) (h2 : q.objs = p.objs) (m : Md) (i : In) : okI m q i = okI m p i := by
 unfold okI callF moreF regF
 rw [h1, h2]
theorem endF_same {p q : Pr} (h1 : q.regs = p.regs) (h2 : q.void = p.void) (h3 : q.blks.length = p.blks.length) (b : Bk) : endF q b = endF p b := by
 unfold endF blockF regF
 rw [h1, h2, h3]
theorem withoutX_mem {l : List In} {P : List Int} {i : In} (h : i ∈ withoutL l P) : i ∈ l := by
 unfold withoutL at h
 obtain ⟨t, ht, rfl⟩ := List.mem_map.1 h
 have := List.mem_range.1 (List.mem_filter.1 ht).1
 simp [List.getD, this]
theorem dropX_mem {p : Pr} {b : Bk} (h : b ∈ (dropP p).blks) : ∃ c P, c ∈ p.blks ∧ b = { c with ins := withoutL c.ins P } := by
 obtain ⟨n, hn, rfl⟩ := List.mem_map.1 (show b ∈ (List.range p.blks.length).map fun n => { p.blks.getD n default with ins := withoutL (p.blks.getD n default).ins (placesL p n) } from h)
 have hn := List.mem_range.1 hn
 exact ⟨p.blks.getD n default, placesL p n, by simp [List.getD, hn], rfl⟩
theorem dropX_ok {p : Pr} (h : PrOk p) : PrOk (dropP p) := by
 refine ⟨h.params, h.regs, h.objs, fun b hb => ?_⟩
 obtain ⟨c, P, hc, rfl⟩ := dropX_mem hb
 have := h.blks c hc
 exact ⟨fun i hi => this.ins i (withoutX_mem hi), this.fin, this.a, this.to, this.els⟩
theorem drop_insN (p : Pr) : insN (dropP p) ≤ insN p := by
 have h1 := sizeL_range p.blks
 have h2 := sizeL_range (dropP p).blks
 unfold sizeL at h1 h2
 unfold insN
 rw [h1, h2, dropP_len]
 exact sum_le _ _ _ fun n hn => by
  rw [dropP_at p (List.mem_range.1 hn)]; exact withoutL_len _ _
theorem drop_okP {m : Md} {p : Pr} (h : okP m p = true) : okP m (dropP p) = true := by
 unfold okP okHead at h ⊢
 simp only [Bool.and_eq_true, decide_eq_true_eq, List.all_eq_true] at h ⊢
 obtain ⟨⟨h1, h2, h3, h4, h5, h6, h7, h8, h9⟩, hb⟩ := h
 refine ⟨⟨h1, h2, h3, h4, h5, by rw [dropP_len]; exact h6, by rw [dropP_len]; exact h7, h8, Nat.le_trans (drop_insN p) h9⟩, fun b hbm => ?_⟩
 obtain ⟨c, P, hc, rfl⟩ := dropX_mem hbm
 have := hb c hc
 unfold okB at this ⊢
 simp only [Bool.and_eq_true, List.all_eq_true] at this ⊢
 refine ⟨fun i hi => ?_, ?_⟩
 ·rw [okI_same (q := dropP p) (p := p) rfl rfl]
  exact this.1 i (withoutX_mem hi)
 ·rw [endF_same (q := dropP p) (p := p) rfl rfl (dropP_len p)]
  exact this.2
/-- a procedure in the place of another one does the same -/
structure Good (m : Md) (inp : List Int) (n : Nat) (q : Pr) : Prop where
 like : Like (pk m n) q
 objs : q.objs = (pk m n).objs
 ok : okP m q = true
 pr : PrOk q
 sz : SzP q
 same : ∀ f F, f ≤ F → (playM m inp f).e = 0 → SameO (playM m inp f) (playM (withM m n q) inp F)
theorem withM_with (m : Md) (n : Nat) (q q' : Pr) : withM (withM m n q) n q' = withM m n q' := by
 unfold withM; simp
theorem MdOk.with {m : Md} {n : Nat} {q : Pr} (h : MdOk m) (hq : PrOk q) : MdOk (withM m n q) := by
 obtain ⟨h1, h2, h3, h4⟩ := h
 refine ⟨h1, h2, fun p hp => ?_, h4⟩
 unfold withM at hp
 rcases List.mem_or_eq_of_mem_set hp with hp | rfl
 ·exact h3 p hp
 ·exact hq
theorem SzM.with {m : Md} {n : Nat} {q : Pr} (h : SzM m) (hq : SzP q) : SzM (withM m n q) := ⟨fun p hp => by
 unfold withM at hp
 rcases List.mem_or_eq_of_mem_set hp with hp | rfl
 ·exact h.procs p hp
 ·exact hq⟩
theorem Good.drop {m : Md} {inp : List Int} {n : Nat} {q : Pr} (hok : okM m = true) (hmd : MdOk m) (hiw : ∀ x ∈ inp, 0 ≤ x ∧ x < 4294967296) (hn : n < m.procs.length) (h : Good m inp n q) : Good m inp n (dropP q) := by
 have hL : Like q (dropP q) := ⟨rfl, rfl⟩
 refine ⟨⟨h.like.params, h.like.void⟩, h.objs, drop_okP h.ok, dropX_ok h.pr, ?_, fun f F hF he => ?_⟩
 ·refine ⟨by rw [dropP_len]; exact h.sz.blks, fun b hb => ?_⟩
  obtain ⟨c, P, hc, rfl⟩ := dropX_mem hb
  exact Nat.le_trans (withoutL_len _ _) (h.sz.ins c hc)
 ·have s1 := h.same f f (Nat.le_refl _) he
  have hok1 := okM_with hn h.like hok h.ok
  have hpk : pk (withM m n q) n = q := pk_with m n q hn
  have hn1 : n < (withM m n q).procs.length := by rw [withM_len]; exact hn
  have hr := dead_rep (inp := inp) hok1 hn1
  rw [hpk] at hr
  have hok2 : okM (withM (withM m n q) n (dropP q)) = true := by
   rw [withM_with]
   exact okM_with hn ⟨h.like.params, h.like.void⟩ hok (drop_okP h.ok)
  have s2 := hr.play hok1 hok2 (hmd.with h.pr) hiw hn1 (by rw [hpk]; rfl) (f := f) (F := F) (by omega) (by rw [← s1.e]; exact he)
  rw [withM_with] at s2
  exact s1.trans s2
theorem Good.refl {m : Md} {inp : List Int} {n : Nat} (hok : okM m = true) (hmd : MdOk m) (hs : SzM m) (hn : n < m.procs.length) : Good m inp n (pk m n) := by
 have hm : pk m n ∈ m.procs := by unfold pk; simp [List.getD, hn]
 have e : withM m n (pk m n) = m := by
  unfold withM pk
  have : m.procs.set n (m.procs.getD n default) = m.procs := by
   apply List.ext_getElem
   ·simp
   ·intro i h1 h2
    rw [List.getElem_set]
    split
    ·rename_i h; subst h; simp [List.getD, hn]
    ·rfl
  rw [this]
 refine ⟨⟨rfl, rfl⟩, rfl, okM_proc hok hn, hmd.procs _ hm, hs.procs _ hm, fun f F hF he => ?_⟩
 rw [e]
 unfold playM at he ⊢
 have n1 : ¬ okM m = false := by rw [hok]; decide
 rw [if_neg n1] at he ⊢
 rw [if_neg n1]
 by_cases hen : 65536 < enM m
 ·rw [if_pos hen] at he; cases he
 ·rw [if_neg hen] at he ⊢
  rw [if_neg hen]
  generalize enterM m [] m.main.toNat [] 65536 ⟨mem0 m m.globs.length, [], 0, 0, 0⟩ = M at *
  rw [runM_it] at he ⊢
  rw [runM_it]
  unfold ocE at he ⊢
  cases hf : (itM m inp f M).fin
  ·rw [hf, if_neg (by decide)] at he; cases he
  ·obtain ⟨d, rfl⟩ := Nat.le.dest hF
   rw [if_pos rfl, itM_add, itM_fin _ hf, if_pos hf]
   exact SameO.refl _
theorem deadX_void : ∀ (f : Nat) (p : Pr), (deadF f p).void = p.void ∧ (deadF f p).params = p.params ∧ (deadF f p).regs = p.regs ∧ (deadF f p).objs = p.objs
 | 0, p => ⟨rfl, rfl, rfl, rfl⟩
 | f + 1, p => by
  unfold deadF
  split
  ·exact ⟨rfl, rfl, rfl, rfl⟩
  ·exact deadX_void f (dropP p)
theorem Good.dead {m : Md} {inp : List Int} {n : Nat} (hok : okM m = true) (hmd : MdOk m) (hiw : ∀ x ∈ inp, 0 ≤ x ∧ x < 4294967296) (hn : n < m.procs.length) : ∀ (f : Nat) (q : Pr), Good m inp n q → Good m inp n (deadF f q)
 | 0, q, h => h
 | f + 1, q, h => by
  unfold deadF
  split
  ·exact h.drop hok hmd hiw hn
  ·exact Good.dead hok hmd hiw hn f _ (h.drop hok hmd hiw hn)
end Go.Proofs.Ytnnhobbabcfogaa

set_option linter.all false
namespace Go.Proofs.Ytnnhobbabcfogaa
open Go.ChangeShapes Go.WideShapes Go.ChangeAt Go.RowKit Go.Maps
set_option maxHeartbeats 4000000
set_option linter.unusedVariables false
set_option maxRecDepth 100000

def aI0 : In := ⟨1, 1, -1, -1, 0, 0, 0, 0, 2, [], false⟩
def aI1 : In := ⟨1, 1, -1, -1, 0, 0, 0, 0, 3, [], false⟩
def aI2 : In := ⟨10, -1, 1, -1, 0, 0, 0, 0, 0, [], false⟩
def aP : Pr := ⟨false, 0, 2, [], [⟨[aI0, aI1, aI2], 3, 0, 0, 0⟩]⟩
theorem aP_idle : (List.range aP.blks.length).map (idleL aP) = [[0]] := by rfl
theorem aP_dead : (deadP aP).blks = [⟨[aI1, aI2], 3, 0, 0, 0⟩] := by rfl
theorem aP_ok : DeadOk aP := by
 refine ⟨⟨by decide, by decide⟩, ⟨by unfold I64; decide, by decide⟩, fun n hn => ?_, fun n hn => ?_⟩
 ·obtain rfl : n = 0 := by have : n < 1 := hn; omega
  refine ⟨by decide, fun k hk => ?_⟩
  have h3 : k < 3 := hk
  have : k = 0 ∨ k = 1 ∨ k = 2 := by omega
  rcases this with rfl | rfl | rfl <;> decide
 ·obtain rfl : n = 0 := by have : n < 1 := hn; omega
  intro k hk
  have h3 : k < 3 := hk
  have : k = 0 ∨ k = 1 ∨ k = 2 := by omega
  rcases this with rfl | rfl | rfl <;> decide
def aIns (w : World) : Obj := .cells #[.int .i64 1, .int .i64 1, .int .i64 (-1), .int .i64 (-1), .int .i64 0, .int .i64 0, .int .i64 0, .int .i64 0, .int .u32 2, .slice none 0 0, .bool false, .int .i64 1, .int .i64 1, .int .i64 (-1), .int .i64 (-1), .int .i64 0, .int .i64 0, .int .i64 0, .int .i64 0, .int .u32 3, .slice none 0 0, .bool false, .int .i64 10, .int .i64 (-1), .int .i64 1, .int .i64 (-1), .int .i64 0, .int .i64 0, .int .i64 0, .int .i64 0, .int .u32 0, .slice none 0 0, .bool false] 56
def aBks (w : World) : Obj := .cells #[.slice (some ⟨w.heap.size, 0, none⟩) 3 3, .int .i64 3, .int .i64 0, .int .i64 0, .int .i64 0] 48
def aBox (w : World) : Obj := .cells #[.string ⟨#[]⟩, .bool false, .int .i64 0, .int .i64 2, .slice none 0 0, .slice (some ⟨w.heap.size + 1, 0, none⟩) 1 1] 32
theorem field_blks (a b c d e f : Value) (w : World) : (Instr.field 32 (.agg #[a, b, c, d, e, f]) 5).run Try.prog w = .ok f w := by kernel_rfl
attribute [local go_sem] field_blks
theorem awake18_c (w : World) : Calls Try.prog 21 #[] w fun e w' => e = .returned (.bool true) ∧ Below w.heap.size w w' := by
 obtain ⟨W1, hW1⟩ : ∃ W1, W1 = ((w.alloc (aIns w)).alloc (aBks w)).alloc (aBox w) := ⟨_, rfl⟩
 have hW1' : W1 = allocs w [aIns w, aBks w, aBox w] := hW1
 have B1 : Hid (Below w.heap.size w W1) := by rw [hW1']; exact allocs_below _ _
 have H0 : W1.heap[w.heap.size]? = some (aIns w) := by rw [hW1']; exact allocs_heap _ w 0 (by simp)
 have H1 : W1.heap[w.heap.size + 1]? = some (aBks w) := by rw [hW1']; exact allocs_heap _ w 1 (by simp)
 have H2 : Hid (W1.heap[w.heap.size + 2]? = some (aBox w)) := by rw [hW1']; exact allocs_heap _ w 2 (by simp)
 unfold aIns aBks aBox at hW1
 unfold aIns at H0
 unfold aBks at H1
 unfold aBox at H2
 have k0 : ∀ j u, (#[Value.int .i64 1, .int .i64 1, .int .i64 (-1), .int .i64 (-1), .int .i64 0, .int .i64 0, .int .i64 0, .int .i64 0, .int .u32 2, .slice none 0 0, .bool false, .int .i64 1, .int .i64 1, .int .i64 (-1), .int .i64 (-1), .int .i64 0, .int .i64 0, .int .i64 0, .int .i64 0, .int .u32 3, .slice none 0 0, .bool false, .int .i64 10, .int .i64 (-1), .int .i64 1, .int .i64 (-1), .int .i64 0, .int .i64 0, .int .i64 0, .int .i64 0, .int .u32 0, .slice none 0 0, .bool false])[j]? = some u → W1.cell? ⟨w.heap.size, j, none⟩ = some u := fun j u h => (cell_of_heap H0 j).trans h
 have k1 : ∀ j u, (#[Value.slice (some ⟨w.heap.size, 0, none⟩) 3 3, .int .i64 3, .int .i64 0, .int .i64 0, .int .i64 0])[j]? = some u → W1.cell? ⟨w.heap.size + 1, j, none⟩ = some u := fun j u h => (cell_of_heap H1 j).trans h
 have hnil : ∀ W : World, RdI W (.slice none 0 0) [] := fun W => ⟨none, 0, rfl, Nat.le_refl _, Nat.zero_le _, fun i hi => absurd hi (Nat.not_lt_zero i)⟩
 have hins : RdIns W1 (.slice (some ⟨w.heap.size, 0, none⟩) 3 3) [aI0, aI1, aI2] := by
  refine ⟨_, _, rfl, Nat.le_refl _, by unfold maxLen; omega, fun i hi => ⟨_, _, rfl, ?_⟩⟩
  have h3 : i = 0 ∨ i = 1 ∨ i = 2 := by simp at hi; omega
  rcases h3 with rfl | rfl | rfl
  ·exact ⟨k0 0 _ rfl, k0 1 _ rfl, k0 2 _ rfl, k0 3 _ rfl, k0 4 _ rfl, k0 5 _ rfl, k0 6 _ rfl, k0 7 _ rfl, k0 8 _ rfl, ⟨_, k0 9 _ rfl, hnil _⟩, k0 10 _ rfl⟩
  ·exact ⟨k0 11 _ rfl, k0 12 _ rfl, k0 13 _ rfl, k0 14 _ rfl, k0 15 _ rfl, k0 16 _ rfl, k0 17 _ rfl, k0 18 _ rfl, k0 19 _ rfl, ⟨_, k0 20 _ rfl, hnil _⟩, k0 21 _ rfl⟩
  ·exact ⟨k0 22 _ rfl, k0 23 _ rfl, k0 24 _ rfl, k0 25 _ rfl, k0 26 _ rfl, k0 27 _ rfl, k0 28 _ rfl, k0 29 _ rfl, k0 30 _ rfl, ⟨_, k0 31 _ rfl, hnil _⟩, k0 32 _ rfl⟩
 have hbks : RdBks W1 (.slice (some ⟨w.heap.size + 1, 0, none⟩) 1 1) aP.blks := by
  refine ⟨_, _, rfl, Nat.le_refl _, by unfold maxLen; omega, fun i hi => ⟨_, _, rfl, ?_⟩⟩
  obtain rfl : i = 0 := by simp [aP] at hi; omega
  exact ⟨⟨_, k1 0 _ rfl, hins⟩, k1 1 _ rfl, k1 2 _ rfl, k1 3 _ rfl, k1 4 _ rfl⟩
 have hobj : RdSls W1 (.slice none 0 0) [] := ⟨none, 0, rfl, Nat.le_refl _, Nat.zero_le _, fun i hi => absurd hi (Nat.not_lt_zero i)⟩
 have HI := Lib.hid (idle_c aP (.agg #[.string ⟨#[]⟩, .bool false, .int .i64 0, .int .i64 2, .slice none 0 0, .slice (some ⟨w.heap.size + 1, 0, none⟩) 1 1]) W1 ⟨⟨#[]⟩, _, _, rfl, hobj, hbks⟩ aP_ok.blks.1 aP_ok.regs.1 aP_ok.regs.2 aP_ok.blks.2 aP_ok.ins aP_ok.pure)
 have HD : Hid (∀ w', Ext W1 w' → Calls Try.prog 28 #[.agg #[.string ⟨#[]⟩, .bool false, .int .i64 0, .int .i64 2, .slice none 0 0, .slice (some ⟨w.heap.size + 1, 0, none⟩) 1 1]] w' fun e w'' =>
   ∃ vb', e = .returned (.agg #[.string ⟨#[]⟩, .bool false, .int .i64 0, .int .i64 2, .slice none 0 0, vb']) ∧ OutB w' w'' w'.heap.size vb' (deadP aP).blks ∧ Below w'.heap.size w' w'') :=
  fun w' he => dead_c aP ⟨#[]⟩ (.slice none 0 0) _ w' w' (Ext.refl _) (hobj.ext he) (hbks.ext he) (InsAt.of (hbks.ext he)) aP_ok
 clear hbks hins hobj hnil k0 k1 H0 H1 hW1'
 go_enter Try.func21, Try.ntmps21
 go_wp2_with fail
 rw [← hW1]
 clear hW1
 refine HI.out.mono ?_
 rintro e w2 ⟨gP, B, vs, rfl, hpt⟩
 rw [aP_idle] at hpt
 have hpl : aP.blks.length = 1 := rfl
 rw [hpl] at hpt ⊢
 have c0 := hpt.cell (j := 0) (by decide)
 have hrow := hpt.row 0 (by decide)
 have hb2 := hpt.below
 obtain ⟨va, vc, hvs, hv1, hv2, hv3⟩ := hrow.rd
 rw [hvs] at c0
 obtain ⟨vb, vo, hva, hv4⟩ := hv3 0 (by decide)
 subst hva
 have c1 : w2.cell? ⟨vb, vo, none⟩ = some (.int .i64 0) := hv4
 have c0 : w2.cell? ⟨gP, 0, none⟩ = some (.slice (some ⟨vb, vo, none⟩) 1 vc) := c0
 have l2 : w.heap.size + 2 < W1.heap.size := (Array.getElem?_eq_some_iff.1 H2.out).1
 have HB2 := Lib.hid hb2
 have BB := Lib.hid (B1.out.trans (hb2.mono B1.out.size))
 have h2 := (hb2.block _ l2).trans H2.out
 have H2 := Lib.hid h2
 obtain ⟨x0, x1, x2, x3, x4, x5, l0⟩ := cl6 h2
 clear hpt hrow hb2 hvs hv1 hv2 hv3 hv4 h2 hpl
 go_wp2_with fail
 refine (HD.out w2 (Ext.below HB2.out)).mono ?_
 rintro e w3 ⟨vb1, rfl, ho1, hb3⟩
 rw [aP_dead] at ho1
 obtain ⟨a1, q1, hq1, -, -, -⟩ := ho1.rd (Ext.below hb3)
 have hq1 : vb1 = .slice a1 1 q1 := hq1
 subst hq1
 have BB := Lib.hid (BB.out.trans (hb3.mono BB.out.size))
 have E3 := Lib.hid ((Ext.below HB2.out).trans (Ext.below hb3))
 have h3 := (hb3.block _ l0).trans H2.out
 have H3 := Lib.hid h3
 clear x0 x1 x2 x3 x4 x5
 obtain ⟨x0, x1, x2, x3, x4, x5, l03⟩ := cl6 h3
 have c0' := Ext.below hb3 _ _ c0
 have c1' := Ext.below hb3 _ _ c1
 clear c0 c1 ho1 hb3 h3 H2 HB2 B1 HI
 go_wp2_with fail
 refine (HD.out w3 E3.out).mono ?_
 rintro e w4 ⟨vb2, rfl, ho2, hb4⟩
 rw [aP_dead] at ho2
 obtain ⟨a2, q2, hq2, -, -, h4⟩ := ho2.rd (Ext.below hb4)
 obtain ⟨bb, oo, rfl, ⟨⟨va, y0, hva⟩, -, -, -, -⟩⟩ := h4 0 (by decide)
 have hq2 : vb2 = .slice (some ⟨bb, oo, none⟩) 1 q2 := hq2
 subst hq2
 obtain ⟨ai, ci, rfl, -⟩ := hva
 have y0 : w4.cell? ⟨bb, oo, none⟩ = some (.slice ai 2 ci) := y0
 have BB := Lib.hid (BB.out.trans (hb4.mono BB.out.size))
 clear ho2 hb4 h4
 go_wp2_with fail
 go_ret
 exact ⟨rfl, BB.out⟩
end Go.Proofs.Ytnnhobbabcfogaa
