/-
 Contracts: slices.DeleteFunc over the blocks that there are, and the blocks to which a block leads.; Contracts of the reference's functions of flow that look at blocks: Outs, leads, Preds, has, within.; Contracts of the reference's functions of flow: has, within, leads, Preds.
-/
import Derived.Test.YtkhfddodmjnecaaZFoldConsts17
import Derived.Test.YtkhfddodmjnecaaZFoldConsts04
import Derived.Lib.SliceRun

set_option linter.all false
namespace Go.Proofs.Ytkhfddodmjnecaa
open Go.ChangeShapes Go.WideShapes Go.ChangeAt Go.RowKit
set_option maxHeartbeats 1000000
set_option maxRecDepth 20000

/-- a list that can be read, in memory from block B on -/
def RdF (w : World) (B : Nat) (v : Value) (l : List Int) : Prop := RdI w v l ∧ ∀ a n c, v = .slice (some a) n c → B ≤ a.block
theorem OwnI.rf {w : World} {B : Nat} {v : Value} {l : List Int} (h : OwnI w B v l) : RdF w B v l := ⟨h.rd, fun a n c e => by
 obtain ⟨-, ⟨h5, -⟩ | ⟨g', cap, cur, h5, hb, -⟩⟩ := h
 ·rw [h5] at e; simp at e
 ·rw [h5] at e; simp only [Value.slice.injEq, Option.some.injEq] at e; rw [← e.1]; exact hb⟩
theorem OwnI.set {w : World} {B g n c : Nat} {l : List Int} (h : OwnI w B (.slice (some ⟨g, 0, none⟩) n c) l) (i : Nat) (x : Int) : OwnI (w.setCell ⟨g, i, none⟩ (.int .i64 x)) B (.slice (some ⟨g, 0, none⟩) n c) (l.set i x) := by
 obtain ⟨rfl, _⟩ := h.cellAt
 have := (World.ownsRow.stored h i (.int .i64 x)).1
 unfold OwnI
 rw [List.length_set, List.map_set]
 exact this
theorem idx_filter {p : Int → Bool} {l : List Int} (h : ∀ j, j < l.length → p (l.getD j 0) = false) : l.filter (fun x => !p x) = l := by
 rw [List.filter_eq_self]
 intro x hx
 obtain ⟨j, hj, rfl⟩ := List.getElem_of_mem hx
 have := h j hj
 simp [List.getD, hj] at this
 simp [this]
theorem take_filter {p : Int → Bool} {l : List Int} {k : Nat} (hk : k ≤ l.length) (h : ∀ j, j < k → p (l.getD j 0) = false) : (l.take k).filter (fun x => !p x) = l.take k := by
 apply idx_filter
 intro j hj
 have hj' : j < k := by simp at hj; omega
 have := h j hj'
 simpa [List.getD, hj', List.getElem?_take] using this
theorem set_take (l : List Int) (i : Nat) (x : Int) (h : i < l.length) : (l.set i x).take (i + 1) = l.take i ++ [x] := by
 rw [List.take_succ_eq_append_getElem (by simpa using h)]
 simp [List.take_set_of_le]
/-- how far the deletion has come -/
structure DelR (p : Int → Bool) (l cur : List Int) (i j : Nat) : Prop where
 lt : i < j
 le : j ≤ l.length
 len : cur.length = l.length
 front : cur.take i = (l.take j).filter fun x => !p x
 back : ∀ t, j ≤ t → cur.getD t 0 = l.getD t 0
theorem DelR.start {p : Int → Bool} {l : List Int} {k : Nat} (hk : k < l.length) (hp : p (l.getD k 0) = true) (h : ∀ j, j < k → p (l.getD j 0) = false) : DelR p l l k (k + 1) := by
 refine ⟨by omega, hk, rfl, ?_, fun _ _ => rfl⟩
 rw [take_snoc l k hk, List.filter_append, take_filter (by omega) h, List.filter_cons, hp]
 simp
theorem DelR.drop {p : Int → Bool} {l cur : List Int} {i j : Nat} (h : DelR p l cur i j) (hj : j < l.length) (hp : p (l.getD j 0) = true) : DelR p l cur i (j + 1) := by
 refine ⟨by have := h.lt; omega, hj, h.len, ?_, fun t ht => h.back t (by omega)⟩
 rw [take_snoc l j hj, List.filter_append, ← h.front, List.filter_cons, hp]
 simp
theorem DelR.keep {p : Int → Bool} {l cur : List Int} {i j : Nat} (h : DelR p l cur i j) (hj : j < l.length) (hp : p (l.getD j 0) = false) : DelR p l (cur.set i (l.getD j 0)) (i + 1) (j + 1) := by
 have h1 := h.lt
 have h2 := h.len
 refine ⟨by omega, hj, by simpa using h.len, ?_, fun t ht => ?_⟩
 ·rw [take_snoc l j hj, List.filter_append, ← h.front, List.filter_cons, hp, set_take _ _ _ (by omega)]
  simp
 ·rw [← h.back t (by omega)]
  simp [List.getD, List.getElem?_set, show i ≠ t by omega]
theorem Below.setCells {B : Nat} {a : World} {g : Nat} (hg : B ≤ g) : ∀ (vs : List Value) (o : Nat) (w : World), Below B a w → Below B a (w.setCells g o vs)
 | [], _, _, h => h
 | v :: vs, o, w, h => Below.setCells hg vs (o + 1) _ (h.setCell (p := ⟨g, o, none⟩) hg v)
theorem zero_int (w : World) : (zeroValue 3).run Try.prog w = .ok (.int .i64 0) w := by kernel_rfl
set_option maxHeartbeats 2000000 in
theorem delete_c (l : List Int) (v : Value) (w : World) (B : Nat) (hv : OwnI w B v l) (pb : Nat) (hpb : pb < B) (hBw : B ≤ w.heap.size) (a : Option Addr) (n c : Nat) (hc : w.cell? ⟨pb, 5, none⟩ = some (.slice a n c)) (hn : l.length ≤ 1000000) :
  Calls Try.prog 193 #[v, .func (.func 194) #[] #[.pointer (some ⟨pb, 0, none⟩)]] w fun e w' => ∃ v', e = .returned v' ∧ RdF w' B v' (l.filter fun x => !offB n x) ∧ Below B w w' := by
 have ix := index_c l v w hv.rd pb a n c hc hn
 have ix' : Calls Try.prog 211 #[v, .func (.func 194) #[] #[.pointer (some ⟨pb, 0, none⟩)]] w (fun e w' => (∃ r, e = .returned (.int .i64 r) ∧ IdxR (offB n) l r ∧ w = w')) := ix
 go_enter Try.func193, Try.ntmps193
 go_wp2_with fail
 refine ix'.mono ?_
 rintro e w' ⟨r, rfl, hr, rfl⟩
 rcases hr with ⟨rfl, hno⟩ | ⟨k, hk, rfl, hp, hno⟩
 ·have H := Lib.hid (idx_filter hno)
  have HV := Lib.hid hv
  clear hno ix ix' hv
  go_wp2
  go_ret
  exact ⟨_, rfl, by rw [H.out]; exact HV.out.rf, Below.refl _ _⟩
 ·have H := Lib.hid (DelR.start hk hp hno)
  clear hp hno ix ix'
  obtain ⟨g, cp, rfl⟩ : ∃ g cp, v = .slice (some ⟨g, 0, none⟩) l.length cp := by
   obtain ⟨_, ⟨rfl, h2⟩ | ⟨g, cap, cur, h3, _⟩⟩ := hv
   ·omega
   ·exact ⟨g, cap, h3⟩
  obtain ⟨-, hcap, hcm, hBg, -, -⟩ := hv.cellAt
  unfold maxLen at hcm
  have HV := Lib.hid hv
  clear hv
  have hk1 : ((k : Int) == -1) = false := beq_eq_false_iff_ne.2 (by omega)
  go_wp2_with fail
  go_loopw [5, 6] (fun i j wr => ∃ (ii jj : Nat) (cur : List Int), i = .int .i64 ii ∧ j = .int .i64 jj ∧ Hid (DelR (offB n) l cur ii jj) ∧ Hid (OwnI wr B (.slice (some ⟨g, 0, none⟩) l.length cp) cur) ∧ Below B w wr)
   (fun _ j _ => l.length - (intOf j).toNat)
  case atStart => exact ⟨k, k + 1, l, rfl, by go_num, H, HV, Below.refl _ _⟩
  case round =>
   obtain ⟨ii, jj, cur, rfl, rfl, D, O, hb⟩ := hrel
   obtain ⟨-, -, -, -, hcells, hfr⟩ := O.out.cellAt
   have hlt1 := D.out.lt
   have hle1 := D.out.le
   have hcr : wr.cell? ⟨pb, 5, none⟩ = some (.slice a n c) := (hb.cell (p := ⟨pb, 5, none⟩) hpb).trans hc
   by_cases hlt : jj < l.length
   ·obtain ⟨x, hx⟩ : ∃ x, l.getD jj 0 = x := ⟨_, rfl⟩
    have hcx := hcells jj hlt
    rw [D.out.back jj (Nat.le_refl _), hx] at hcx
    have hci := hcells ii (by omega)
    generalize cur.getD ii 0 = y at hci
    have hfi := hfr ii
    clear hcells hfr
    have hkeep := D.out.keep hlt
    have hdrop := D.out.drop hlt
    rw [hx] at hkeep hdrop
    clear hx
    cases hpx : offB n x
    ·have HK := Lib.hid (hkeep hpx)
     have E : Hid (∀ w : World, w.cell? ⟨pb, 5, none⟩ = some (.slice a n c) → Calls Try.prog 194 #[.int .i64 x, .pointer (some ⟨pb, 0, none⟩)] w fun e w' => e = .returned (.bool false) ∧ w = w') := fun w hw => (outs1_c w x pb a n c hw).mono fun _ _ h => ⟨h.1.trans (ret_b hpx), h.2⟩
     clear hkeep hdrop hpx
     go_wp2_with (go_at_call 194; refine (E.out _ hcr).mono ?_; rintro e w' ⟨rfl, rfl⟩)
     go_roundw
     case rel => exact ⟨ii + 1, jj + 1, cur.set ii x, by go_num, by go_num, HK, OwnI.set O.out ii x, hb.setCell (by omega) _⟩
     case measure => simp [intOf]; omega
    ·have HK := Lib.hid (hdrop hpx)
     have E : Hid (∀ w : World, w.cell? ⟨pb, 5, none⟩ = some (.slice a n c) → Calls Try.prog 194 #[.int .i64 x, .pointer (some ⟨pb, 0, none⟩)] w fun e w' => e = .returned (.bool true) ∧ w = w') := fun w hw => (outs1_c w x pb a n c hw).mono fun _ _ h => ⟨h.1.trans (ret_b hpx), h.2⟩
     clear hkeep hdrop hpx
     go_wp2_with (go_at_call 194; refine (E.out _ hcr).mono ?_; rintro e w' ⟨rfl, rfl⟩)
     go_roundw
     case rel => exact ⟨ii, jj + 1, cur, rfl, by go_num, HK, O, hb⟩
     case measure => simp [intOf]; omega
   ·have hne : ¬ cp = ii := by omega
    have hne' : (cp == ii) = false := beq_eq_false_iff_ne.2 hne
    have hcl : ∀ ty, (Builtin.clear_ #[37] ty #[.slice (some ⟨g, ii, none⟩) (l.length - ii) (cp - ii)]).run Try.prog wr = .ok (.tuple #[]) (wr.setCells g ii (List.replicate (l.length - ii) (.int .i64 0))) := fun ty =>
     Lib.run_clear_slice wr 37 3 ty (.int .i64 0) Try.underlying37 zero_int rfl rfl g ii (l.length - ii) (cp - ii) (by omega) (fun j hj => by rw [hcells (ii + j) (by omega)]; rfl) (fun j _ => hfr _)
    have HL := Lib.hid hcells
    clear hcells hfr
    go_wp2
    go_ret
    refine ⟨_, rfl, ?_, Below.setCells hBg _ _ _ hb⟩
    have hfl := D.out.front
    rw [List.take_of_length_le (by omega : l.length ≤ jj)] at hfl
    rw [← hfl]
    have hln : (cur.take ii).length = ii := by rw [List.length_take]; have := D.out.len; omega
    refine ⟨?_, fun a n c e => by have e' : Value.slice (some ⟨g, 0, none⟩) ii cp = .slice (some a) n c := e; simp only [Value.slice.injEq, Option.some.injEq] at e'; rw [← e'.1]; exact hBg⟩
    refine ⟨some ⟨g, 0, none⟩, cp, by rw [hln]; rfl, by omega, by unfold maxLen; omega, fun i hi => ⟨g, 0, rfl, ?_⟩⟩
    rw [hln] at hi
    simp only [Nat.zero_add, Nat.mul_one, Nat.add_zero]
    rw [World.cell?_setCells_out g _ _ _ _ (fun _ _ => .inl hi), HL.out i (by omega)]
    simp [List.getD, List.getElem?_take, hi]

/-- what a call hands back that makes a list to be read -/
def RetR (w : World) (l : List Int) (e : Ending) (w' : World) : Prop := ∃ v, e = .returned v ∧ RdF w' w.heap.size v l ∧ Below w.heap.size w w'
theorem RetI.r {w : World} {l : List Int} {e : Ending} {w' : World} (h : RetI w l e w') : RetR w l e w' := let ⟨v, h1, h2, h3⟩ := h; ⟨v, h1, h2.rf, h3⟩
theorem offB_filter (p : Pr) (n : Nat) : (outsB (p.blks.getD n default)).filter (fun x => !offB p.blks.length x) = outsP p n := by
 unfold outsP
 congr 1
 funext t
 unfold offB
 rw [Bool.eq_iff_iff]
 simp
theorem outsB_len (b : Bk) : (outsB b).length ≤ 2 := by unfold outsB; split <;> (try split) <;> simp
theorem fouts_c (p : Pr) (V : Value) (n : Nat) (w : World) (hv : PrV w V p) (hn : n < p.blks.length) (hlen : p.blks.length ≤ 1000000) :
  Calls Try.prog 162 #[V, .int .i64 (n : Int)] w (RetR w (outsP p n)) := by
 obtain ⟨nm, vo, vb, rfl, hvo, a, c, rfl, hc1, hc2, hcell⟩ := hv
 obtain ⟨b, o, rfl, ⟨vi, c0, hvi⟩, c1, c2, c3, c4⟩ := hcell n hn
 simp only [Nat.add_zero] at c0
 have hbw : b < w.heap.size := World.block_lt_of_cell? w _ c0
 clear hcell
 have H := Lib.hid (offB_filter p n)
 have HB : Hid (∀ w', Ext w w' → Calls Try.prog 109 #[.agg #[vi, .int .i64 (p.blks.getD n default).fin, .int .i64 (p.blks.getD n default).a, .int .i64 (p.blks.getD n default).to, .int .i64 (p.blks.getD n default).els]] w' (RetI w' (outsB (p.blks.getD n default)))) :=
  fun w' he => outs_c _ _ _ ⟨vi, rfl, hvi.ext he⟩
 have HL := Lib.hid (outsB_len (p.blks.getD n default))
 generalize p.blks.getD n default = B at *
 go_enter Try.func162, Try.ntmps162
 go_wp2_with fail
 refine (HB.out _ (Ext.alloc w _)).mono ?_
 rintro e w1 ⟨v1, rfl, ho, hb⟩
 have hbc : w1.cell? ⟨w.heap.size, 5, none⟩ = some (.slice (some ⟨b, o, none⟩) p.blks.length c) := by
  rw [hb.cell (by simp)]; simp [go_sem]
 have hz := hb.size
 simp at hz ho
 have D := delete_c (outsB B) v1 w1 (w.heap.size + 1) ho w.heap.size (by omega) (by omega) _ _ _ hbc (by have := HL.out; omega)
 rw [H.out] at D
 have D' := Lib.hid D
 clear D
 go_wp2_with fail
 refine D'.out.mono ?_
 rintro e w2 ⟨v2, rfl, hr, hb2⟩
 have HR := Lib.hid hr
 clear hr hbc
 go_wp2_with fail
 go_ret
 simp at hb
 exact ⟨_, rfl, ⟨HR.out.1, fun a n c e => Nat.le_trans (by omega) (HR.out.2 a n c e)⟩, ((below_alloc w _).trans (hb.mono (by omega))).trans (hb2.mono (by omega))⟩
end Go.Proofs.Ytkhfddodmjnecaa

set_option linter.all false
namespace Go.Proofs.Ytkhfddodmjnecaa
open Go.ChangeShapes Go.WideShapes Go.ChangeAt Go.RowKit
set_option maxHeartbeats 1000000
set_option maxRecDepth 20000

theorem Own.drewN {w0 w : World} {B : Nat} {v : Value} {l : List Int} (h : Own w0 B w v l) (n : Nat) : Own w0 B (w.drewN n) v l :=
 ⟨h.own, ⟨h.below.os, h.below.tape, h.below.output, h.below.size, h.below.block⟩, h.le⟩
def inP (p : Pr) (t : Int) : Bool := decide (0 ≤ t) && decide (t < p.blks.length)
theorem outsP_eq (p : Pr) (n : Nat) : outsP p n = (outsB (p.blks.getD n default)).filter (inP p) := rfl
theorem routsP_c (p : Pr) (V : Value) (n : Nat) (w : World) (hv : PrV w V p) (hn : n < p.blks.length) (hlen : p.blks.length ≤ 1000000) :
  Calls Try.prog 117 #[V, .int .i64 (n : Int)] w (RetI w (outsP p n)) := by
 obtain ⟨nm, vo, vb, rfl, hvo, a, c, rfl, hc1, hc2, hcell⟩ := hv
 obtain ⟨b, o, rfl, ⟨vi, c0, hvi⟩, c1, c2, c3, c4⟩ := hcell n hn
 simp only [Nat.add_zero] at c0
 have hbw : b < w.heap.size := World.block_lt_of_cell? w _ c0
 clear hcell
 have H := Lib.hid (outsP_eq p n)
 have HB : Hid (∀ w', Ext w w' → Calls Try.prog 142 #[.agg #[vi, .int .i64 (p.blks.getD n default).fin, .int .i64 (p.blks.getD n default).a, .int .i64 (p.blks.getD n default).to, .int .i64 (p.blks.getD n default).els]] w' (RetI w' (outsB (p.blks.getD n default)))) :=
  fun w' he => routs_c _ _ _ ⟨vi, rfl, hvi.ext he⟩
 have HL := outsB_len (p.blks.getD n default)
 generalize p.blks.getD n default = B at *
 go_enter Try.func117, Try.ntmps117
 go_wp2_with fail
 refine (HB.out _ (Ext.alloc w _)).mono ?_
 rintro e w1 ⟨v1, rfl, ho, hb⟩
 have hbc : w1.cell? ⟨w.heap.size, 5, none⟩ = some (.slice (some ⟨b, o, none⟩) p.blks.length c) := by
  rw [hb.cell (by simp)]; simp [go_sem]
 have hz := hb.size
 simp at hz
 have hz' : w.heap.size < w1.heap.size := by omega
 obtain ⟨ad, cp, rfl, hl1, hl2, hcell⟩ := ho.rd
 clear ho
 clear c0 c1 c2 c3 c4
 have HC := Lib.hid hcell
 clear hcell
 have HE : Hid (Ext w1 w1) := Ext.refl _
 generalize outsB B = L at *
 go_wp2_with fail
 go_loopw [5, 7] (fun v k wr => ∃ i : Nat, i ≤ L.length ∧ k = .int .i64 i ∧ Own w1 w1.heap.size wr v ((L.take i).filter (inP p))) (fun _ k _ => L.length - (intOf k).toNat)
 case atStart => exact ⟨0, Nat.zero_le _, rfl, Own.nil (Nat.le_refl _)⟩
 case round =>
  obtain ⟨i, hk, rfl, O⟩ := hrel
  have hl := filter_take_le (inP p) L i
  have hcr := O.bcell
  by_cases hlt : i < L.length
  ·obtain ⟨b2, o2, rfl, hcx⟩ := HC.out i hlt
   have hc' := O.old HE.out (Nat.le_refl _) _ _ hcx
   simp only [Nat.mul_one, Nat.add_zero] at hc'
   clear hcx
   have hF1 := filter_snoc_yes (inP p) L i hlt
   have hF2 := filter_snoc_no (inP p) L i hlt
   generalize L.getD i 0 = x at hc' hF1 hF2
   by_cases h0 : 0 ≤ x
   ·by_cases h1 : x < (p.blks.length : Int)
    ·have HF := Lib.hid (hF1 (by unfold inP; simp [h0, h1]))
     clear hF1 hF2
     go_wp2_with fail
     go_quiet (fail)
     obtain ⟨wq, hq⟩ : ∃ wq, wq = wr.drewN nq := ⟨_, rfl⟩
     rw [← hq]
     have Oq : Own w1 w1.heap.size wq u5 ((L.take i).filter (inP p)) := hq ▸ O.drewN nq
     have hcq : wq.cell? ⟨b2, o2 + i, none⟩ = some (.int .i64 x) := hq ▸ hc'
     clear hq O hcr hc'
     go_wp2_with (at_builtin; refine app1 Oq rfl rfl rfl rfl (by first | rfl | simp) (by omega) ?_; intro v1 w2 O1)
     go_roundw
     case rel => exact ⟨i + 1, by omega, by go_num, by rw [HF.out]; exact O1⟩
     case measure => simp [intOf]; omega
    ·have h1' : decide (x < (p.blks.length : Int)) = false := by simpa using h1
     have HF := Lib.hid (hF2 (by unfold inP; simp [h1]))
     clear hF1 hF2
     go_wp2_with fail
     go_quiet (fail)
     have Oq := O.drewN nq
     go_wp2
     go_roundw
     case rel => exact ⟨i + 1, by omega, by go_num, by rw [HF.out]; exact Oq⟩
     case measure => simp [intOf]; omega
   ·have h0' : decide (0 ≤ x) = false := by simpa using h0
    have HF := Lib.hid (hF2 (by unfold inP; simp [h0]))
    clear hF1 hF2
    go_wp2_with fail
    go_quiet (fail)
    have Oq := O.drewN nq
    go_wp2
    go_roundw
    case rel => exact ⟨i + 1, by omega, by go_num, by rw [HF.out]; exact Oq⟩
    case measure => simp [intOf]; omega
  ·have HF : Hid ((L.take i).filter (inP p) = L.filter (inP p)) := by show _ = _; rw [List.take_of_length_le (by omega)]
   go_wp2
   go_ret
   rw [H.out, ← HF.out]
   exact O.ret ((below_alloc _ _).trans (hb.mono (by simp))) (by omega)
end Go.Proofs.Ytkhfddodmjnecaa

set_option linter.all false
namespace Go.Proofs.Ytkhfddodmjnecaa
open Go.ChangeShapes Go.WideShapes Go.ChangeAt Go.RowKit
set_option maxHeartbeats 1000000
set_option maxRecDepth 20000

/-- is a number in a list? -/
def hasL (l : List Int) (r : Int) : Bool := l.contains r
theorem any_take_succ (l : List Int) (r : Int) (i : Nat) (h : i < l.length) (h0 : ∀ j, j < i → (l.getD j 0 == r) = false) (h1 : (l.getD i 0 == r) = false) : ∀ j, j < i + 1 → (l.getD j 0 == r) = false := by
 intro j hj
 by_cases e : j = i
 ·subst e; exact h1
 ·exact h0 j (by omega)
theorem contains_no (l : List Int) (r : Int) (h : ∀ j, j < l.length → (l.getD j 0 == r) = false) : hasL l r = false := by
 unfold hasL
 rw [Bool.eq_false_iff]
 intro hc
 rw [List.contains_iff_mem] at hc
 obtain ⟨j, hj, rfl⟩ := List.getElem_of_mem hc
 have := h j hj
 simp [List.getD, hj] at this
theorem contains_yes (l : List Int) (r : Int) (i : Nat) (h : i < l.length) (h1 : (l.getD i 0 == r) = true) : hasL l r = true := by
 unfold hasL
 rw [List.contains_iff_mem]
 have : l.getD i 0 = r := eq_of_beq h1
 rw [← this]
 simp [List.getD, h]
theorem rleads_c (p : Pr) (V : Value) (n : Nat) (r : Int) (w : World) (hv : PrV w V p) (hn : n < p.blks.length) (hlen : p.blks.length ≤ 1000000) :
  Calls Try.prog 123 #[V, .int .i64 (n : Int), .int .i64 r] w fun e w' => e = .returned (.bool (hasL (outsP p n) r)) ∧ Below w.heap.size w w' := by
 have HO : Hid (∀ w', Ext w w' → Calls Try.prog 117 #[V, .int .i64 (n : Int)] w' (RetI w' (outsP p n))) := fun w' he => routsP_c p V n w' (hv.ext he) hn hlen
 have HL : (outsP p n).length ≤ 2 := Nat.le_trans (List.length_filter_le _ _) (outsB_len _)
 obtain ⟨nm, vo, vb, rfl, _⟩ := hv
 generalize outsP p n = l at *
 go_enter Try.func123, Try.ntmps123
 go_wp2_with fail
 refine (HO.out _ (Ext.alloc w _)).mono ?_
 rintro e w1 ⟨v1, rfl, ho, hb⟩
 obtain ⟨a, c, rfl, hl1, hl2, hcell⟩ := ho.rd
 have HC := Lib.hid hcell
 clear hcell ho
 go_wp2_with fail
 go_loop [8] (fun i => ∃ k : Nat, k ≤ l.length ∧ i = .int .i64 k ∧ Hid (∀ j, j < k → (l.getD j 0 == r) = false)) (fun i => l.length - (intOf i).toNat)
 case atStart => exact ⟨0, Nat.zero_le _, rfl, fun j hj => absurd hj (by omega)⟩
 case round =>
  obtain ⟨k, hk, rfl, hno⟩ := hrel
  by_cases hlt : k < l.length
  ·obtain ⟨b, o, rfl, hcx⟩ := HC.out k hlt
   simp only [Nat.mul_one, Nat.add_zero] at hcx
   obtain ⟨x, hx⟩ : ∃ x, l.getD k 0 = x := ⟨_, rfl⟩
   rw [hx] at hcx
   have HX := Lib.hid hx
   clear hx
   by_cases hp : (x == r) = true
   ·have HP := Lib.hid hp
    go_wp2
    go_ret
    exact ⟨ret_b (contains_yes l r k hlt (by rw [HX.out]; exact HP.out)).symm, (below_alloc _ _).trans (hb.mono (by simp))⟩
   ·have hp := eq_false_of_ne_true hp
    have HP := Lib.hid hp
    go_wp2
    go_round
    case rel => exact ⟨k + 1, by omega, by go_num, any_take_succ l r k hlt hno.out (by rw [HX.out]; exact HP.out)⟩
    case measure => simp [intOf]; omega
  ·have H := Lib.hid (contains_no l r fun j hj => hno.out j (by omega))
   go_wp2
   go_ret
   exact ⟨ret_b H.out.symm, (below_alloc _ _).trans (hb.mono (by simp))⟩
theorem OwnI.below {w w' : World} {B : Nat} {v : Value} {l : List Int} (h : OwnI w B v l) (hb : Below w.heap.size w w') : OwnI w' B v l := by
 obtain ⟨h1, h2 | ⟨g, cap, cur, h3, h4, h5, r⟩⟩ := h
 ·exact ⟨h1, .inl h2⟩
 ·exact ⟨h1, .inr ⟨g, cap, cur, h3, h4, (hb.block g (Array.getElem?_eq_some_iff.1 h5).1).trans h5, r⟩⟩
/-- the blocks that lead to a block -/
def predsP (p : Pr) (r : Int) : List Int := ((List.range p.blks.length).filter fun i => hasL (outsP p i) r).map fun i : Nat => (i : Int)
def predsU (p : Pr) (r : Int) (k : Nat) : List Int := ((List.range k).filter fun i => hasL (outsP p i) r).map fun i : Nat => (i : Int)
theorem predsU_yes (p : Pr) (r : Int) (k : Nat) (h : hasL (outsP p k) r = true) : predsU p r (k + 1) = predsU p r k ++ [(k : Int)] := by
 unfold predsU; rw [List.range_succ, List.filter_append, List.map_append, List.filter_cons, h]; rfl
theorem predsU_no (p : Pr) (r : Int) (k : Nat) (h : hasL (outsP p k) r = false) : predsU p r (k + 1) = predsU p r k := by
 unfold predsU; rw [List.range_succ, List.filter_append, List.map_append, List.filter_cons, h]; simp
theorem predsU_le (p : Pr) (r : Int) (k : Nat) : (predsU p r k).length ≤ k := by
 unfold predsU; rw [List.length_map]; exact Nat.le_trans (List.length_filter_le _ _) (by simp)
theorem rpreds_c (p : Pr) (V : Value) (r : Int) (w : World) (hv : PrV w V p) (hlen : p.blks.length ≤ 1000000) :
  Calls Try.prog 81 #[V, .int .i64 r] w (RetI w (predsP p r)) := by
 have HO : Hid (∀ k w', k < p.blks.length → Ext w w' → Calls Try.prog 123 #[V, .int .i64 (k : Int), .int .i64 r] w' fun e w'' => e = .returned (.bool (hasL (outsP p k) r)) ∧ Below w'.heap.size w' w'') := fun k w' hk he => rleads_c p V k r w' (hv.ext he) hk hlen
 obtain ⟨nm, vo, vb, rfl, _, ad, c, rfl, _⟩ := hv
 go_enter Try.func81, Try.ntmps81
 go_wp2_with fail
 obtain ⟨W0, hW0⟩ : ∃ W0, W0 = w.alloc (.cells #[.string nm, .bool p.void, .int .i64 p.params, .int .i64 p.regs, vo, .slice ad p.blks.length c] 32) := ⟨_, rfl⟩
 have hbc : ∀ j : Nat, j < 6 → W0.cell? ⟨w.heap.size, j, none⟩ = #[Value.string nm, .bool p.void, .int .i64 p.params, .int .i64 p.regs, vo, .slice ad p.blks.length c][j]? := fun j _ => by rw [hW0, cell_of_heap (heap_alloc_new w _)]
 have k0 := hbc 0 (by decide)
 have k1 := hbc 1 (by decide)
 have k2 := hbc 2 (by decide)
 have k3 := hbc 3 (by decide)
 have k4 := hbc 4 (by decide)
 have k5 := hbc 5 (by decide)
 simp at k0 k1 k2 k3 k4 k5
 have hz : w.heap.size < W0.heap.size := by rw [hW0]; simp
 have HX : Hid (Ext w W0) := by rw [hW0]; exact Ext.alloc w _
 have HB : Hid (Below w.heap.size w W0) := by rw [hW0]; exact below_alloc w _
 rw [← hW0]
 clear hW0 hbc
 go_loopw [5, 6] (fun v i wr => ∃ k : Nat, k ≤ p.blks.length ∧ i = .int .i64 k ∧ Own W0 W0.heap.size wr v (predsU p r k)) (fun _ i _ => p.blks.length - (intOf i).toNat)
 case atStart => exact ⟨0, Nat.zero_le _, rfl, (show predsU p r 0 = [] from rfl) ▸ Own.nil (Nat.le_refl _)⟩
 case round =>
  obtain ⟨k, hk, rfl, O⟩ := hrel
  have hcr := O.bcell
  have hl := predsU_le p r k
  by_cases hlt : k < p.blks.length
  ·have E := HO.out k wr hlt (O.old HX.out (by omega))
   cases hp : hasL (outsP p k) r
   ·have HF := Lib.hid (predsU_no p r k hp)
    rw [hp] at E
    have E := Lib.hid E
    clear hp
    go_wp2_with (go_at_call 123; refine E.out.mono ?_; rintro e w2 ⟨rfl, hb2⟩)
    go_roundw
    case rel => exact ⟨k + 1, by omega, by go_num, by rw [HF.out]; exact ⟨(O.own).below hb2, O.below.trans (hb2.mono O.below.size), O.le⟩⟩
    case measure => simp [intOf]; omega
   ·have HF := Lib.hid (predsU_yes p r k hp)
    rw [hp] at E
    have E := Lib.hid E
    clear hp
    go_wp2_with (first | (go_at_call 123; refine E.out.mono ?_; rintro e w2 ⟨rfl, hb2⟩; have O2 : Own W0 W0.heap.size w2 u5 (predsU p r k) := ⟨(O.own).below hb2, O.below.trans (hb2.mono O.below.size), O.le⟩) | (at_builtin; refine app1 O2 rfl rfl rfl rfl (by first | rfl | simp) (by omega) ?_; intro v1 w3 O1))
    go_roundw
    case rel => exact ⟨k + 1, by omega, by go_num, by rw [HF.out]; exact O1⟩
    case measure => simp [intOf]; omega
  ·obtain rfl : k = p.blks.length := by omega
   go_wp2
   go_ret
   exact O.ret HB.out (by omega)
end Go.Proofs.Ytkhfddodmjnecaa
