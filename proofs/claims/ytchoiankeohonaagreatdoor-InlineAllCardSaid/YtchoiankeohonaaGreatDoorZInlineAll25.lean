/-
 A module with another procedure in the place of one: if that follows the old one, runs that end have the same outcome. Plain.; Contracts: the reference's list of registers that are read; a predicate over blocks; slices.IndexFunc and slices.DeleteFunc.; Contracts: slices.DeleteFunc over the blocks that there are, and the blocks to which a block leads.
-/
import Derived.Test.YtchoiankeohonaaGreatDoorZInlineAll24
import Derived.Test.YtchoiankeohonaaGreatDoorZInlineAll03
import Derived.BigQuiet
import Derived.Test.YtchoiankeohonaaGreatDoorZInlineAll04
import Derived.Lib.SliceRun

set_option linter.all false
namespace Go.Proofs.YtchoiankeohonaaGreatDoor
set_option linter.unusedVariables false

def withM (m : Md) (n : Nat) (q : Pr) : Md := { m with procs := m.procs.set n q }
theorem withM_len (m : Md) (n : Nat) (q : Pr) : (withM m n q).procs.length = m.procs.length := by simp [withM]
theorem pk_with (m : Md) (n : Nat) (q : Pr) (h : n < m.procs.length) : pk (withM m n q) n = q := by
 unfold pk withM; simp [List.getD, h]
theorem pk_other (m : Md) (n : Nat) (q : Pr) {k : Nat} (h : k ≠ n) : pk (withM m n q) k = pk m k := by
 unfold pk withM; simp [List.getD, List.getElem?_set, Ne.symm h]
def rowsR (R : Fr → Fr → Prop) : List Fr → List Fr → Prop
 | [], [] => True
 | a :: l, b :: k => R a b ∧ rowsR R l k
 | _, _ => False
theorem rowsR_len {R : Fr → Fr → Prop} : ∀ {a b : List Fr}, rowsR R a b → a.length = b.length
 | [], [], _ => rfl
 | _ :: _, _ :: _, h => by
  have := rowsR_len (R := R) h.2
  simp [this]
 | [], _ :: _, h => h.elim
 | _ :: _, [], h => h.elim
section
variable {m : Md} {inp : List Int} {n0 : Nat} {q : Pr} {S : Fr → Fr → Prop} {T : Fr → Fr → Oc → Oc → Prop} {c : Nat}
theorem it_one {m' : Md} {A : Ms} (hA : A.fin = false) : itM m' inp 1 A = stepM m' inp A := by rw [itM_succ _ hA]; rfl
end
end Go.Proofs.YtchoiankeohonaaGreatDoor

set_option linter.all false
namespace Go.Proofs.YtchoiankeohonaaGreatDoor
open Go.ChangeShapes Go.WideShapes Go.ChangeAt Go.RowKit
set_option maxHeartbeats 1000000
set_option maxRecDepth 20000

/-- is it no block of so many? -/
def offB (n : Nat) (x : Int) : Bool := decide (x < 0) || decide ((n : Int) ≤ x)
theorem outs1_c (w : World) (x : Int) (pb : Nat) (a : Option Addr) (n c : Nat) (hc : w.cell? ⟨pb, 5, none⟩ = some (.slice a n c)) :
  Calls Tryz.prog 93 #[.int .i64 x, .pointer (some ⟨pb, 0, none⟩)] w fun e w' => e = .returned (.bool (offB n x)) ∧ w = w' := by
 by_cases h : x < 0
 ·have H : Hid (offB n x = true) := by show _ = _; unfold offB; simp [h]
  go_enter Tryz.func93, Tryz.ntmps93
  go_wp2
  go_ret
  exact ⟨ret_b H.out.symm, rfl⟩
 ·have H : Hid (offB n x = decide ((n : Int) ≤ x)) := by show _ = _; unfold offB; simp [h]
  have h' : decide (x < 0) = false := by simpa using h
  go_enter Tryz.func93, Tryz.ntmps93
  go_wp2
  go_ret
  exact ⟨ret_b H.out.symm, rfl⟩
def IdxR (p : Int → Bool) (l : List Int) (r : Int) : Prop := (r = -1 ∧ ∀ j, j < l.length → p (l.getD j 0) = false) ∨ ∃ k : Nat, k < l.length ∧ r = k ∧ p (l.getD k 0) = true ∧ ∀ j, j < k → p (l.getD j 0) = false
theorem index_c (l : List Int) (v : Value) (w : World) (hv : RdI w v l) (pb : Nat) (a : Option Addr) (n c : Nat) (hc : w.cell? ⟨pb, 5, none⟩ = some (.slice a n c)) (hn : l.length ≤ 1000000) :
  Calls Tryz.prog 105 #[v, .func (.func 93) #[] #[.pointer (some ⟨pb, 0, none⟩)]] w fun e w' => ∃ r, e = .returned (.int .i64 r) ∧ IdxR (offB n) l r ∧ w = w' := by
 obtain ⟨ad, cp, rfl, hl1, hl2, hcell⟩ := hv
 have HC := Lib.hid hcell
 clear hcell
 go_enter Tryz.func105, Tryz.ntmps105
 go_wp2
 go_loop [8] (fun i => ∃ k : Nat, k ≤ l.length ∧ i = .int .i64 k ∧ Hid (∀ j, j < k → offB n (l.getD j 0) = false)) (fun i => l.length - (intOf i).toNat)
 case atStart => exact ⟨0, Nat.zero_le _, rfl, fun j hj => absurd hj (by omega)⟩
 case round =>
  obtain ⟨k, hk, rfl, hno⟩ := hrel
  by_cases hlt : k < l.length
  ·obtain ⟨b, o, rfl, hcx⟩ := HC.out k hlt
   simp only [Nat.mul_one, Nat.add_zero] at hcx
   obtain ⟨x, hx⟩ : ∃ x, l.getD k 0 = x := ⟨_, rfl⟩
   rw [hx] at hcx
   have HX := Lib.hid hx
   clear hx
   cases hp : offB n x
   ·have HP := Lib.hid hp
    have E : Hid (∀ w : World, w.cell? ⟨pb, 5, none⟩ = some (.slice a n c) → Calls Tryz.prog 93 #[.int .i64 x, .pointer (some ⟨pb, 0, none⟩)] w fun e w' => e = .returned (.bool false) ∧ w = w') := fun w hw => (outs1_c w x pb a n c hw).mono fun _ _ h => ⟨h.1.trans (ret_b hp), h.2⟩
    clear hp
    go_wp2_with (go_at_call 93; refine (E.out _ hc).mono ?_; rintro e w' ⟨rfl, rfl⟩)
    go_round
    case rel =>
     refine ⟨k + 1, by omega, by go_num, fun j hj => ?_⟩
     by_cases hjk : j = k
     ·subst hjk; rw [HX.out]; exact HP.out
     ·exact hno.out j (by omega)
    case measure => simp [intOf]; omega
   ·have HP := Lib.hid hp
    have E : Hid (∀ w : World, w.cell? ⟨pb, 5, none⟩ = some (.slice a n c) → Calls Tryz.prog 93 #[.int .i64 x, .pointer (some ⟨pb, 0, none⟩)] w fun e w' => e = .returned (.bool true) ∧ w = w') := fun w hw => (outs1_c w x pb a n c hw).mono fun _ _ h => ⟨h.1.trans (ret_b hp), h.2⟩
    clear hp
    go_wp2_with (go_at_call 93; refine (E.out _ hc).mono ?_; rintro e w' ⟨rfl, rfl⟩)
    go_ret
    exact ⟨_, rfl, .inr ⟨k, hlt, rfl, by rw [HX.out]; exact HP.out, hno.out⟩, rfl⟩
  ·go_wp2
   go_ret
   exact ⟨_, rfl, .inl ⟨rfl, fun j hj => hno.out j (by omega)⟩, rfl⟩
end Go.Proofs.YtchoiankeohonaaGreatDoor

set_option linter.all false
namespace Go.Proofs.YtchoiankeohonaaGreatDoor
open Go.ChangeShapes Go.WideShapes Go.ChangeAt Go.RowKit
set_option maxHeartbeats 1000000
set_option maxRecDepth 20000

/-- a list that can be read, in memory from block B on -/
def RdF (w : World) (B : Nat) (v : Value) (l : List Int) : Prop := RdI w v l ∧ ∀ a n c, v = .slice (some a) n c → B ≤ a.block
theorem OwnI.rf {w : World} {B : Nat} {v : Value} {l : List Int} (h : OwnI w B v l) : RdF w B v l := ⟨h.rd, fun a n c e => by
 obtain ⟨-, ⟨h5, -⟩ | ⟨g', cap, cur, h5, hb, -⟩⟩ := h
 ·rw [h5] at e; simp at e
 ·rw [h5] at e; simp only [Value.slice.injEq, Option.some.injEq] at e; rw [← e.1]; exact hb⟩
theorem OwnI.set {w : World} {B g n c : Nat} {l : List Int} (h : OwnI w B (.slice (some ⟨g, 0, none⟩) n c) l) (i : Nat) (x : Int) : OwnI (w.setCell ⟨g, i, none⟩ (.int .i64 x)) B (.slice (some ⟨g, 0, none⟩) n c) (l.set i x) := by
 obtain ⟨rfl, _⟩ := h.cellAt
 have := (World.ownsRow.stored h i (.int .i64 x)).1
 unfold OwnI
 rw [List.length_set, List.map_set]
 exact this
theorem idx_filter {p : Int → Bool} {l : List Int} (h : ∀ j, j < l.length → p (l.getD j 0) = false) : l.filter (fun x => !p x) = l := by
 rw [List.filter_eq_self]
 intro x hx
 obtain ⟨j, hj, rfl⟩ := List.getElem_of_mem hx
 have := h j hj
 simp [List.getD, hj] at this
 simp [this]
theorem take_filter {p : Int → Bool} {l : List Int} {k : Nat} (hk : k ≤ l.length) (h : ∀ j, j < k → p (l.getD j 0) = false) : (l.take k).filter (fun x => !p x) = l.take k := by
 apply idx_filter
 intro j hj
 have hj' : j < k := by simp at hj; omega
 have := h j hj'
 simpa [List.getD, hj', List.getElem?_take] using this
theorem set_take (l : List Int) (i : Nat) (x : Int) (h : i < l.length) : (l.set i x).take (i + 1) = l.take i ++ [x] := by
 rw [List.take_succ_eq_append_getElem (by simpa using h)]
 simp [List.take_set_of_le]
/-- how far the deletion has come -/
structure DelR (p : Int → Bool) (l cur : List Int) (i j : Nat) : Prop where
 lt : i < j
 le : j ≤ l.length
 len : cur.length = l.length
 front : cur.take i = (l.take j).filter fun x => !p x
 back : ∀ t, j ≤ t → cur.getD t 0 = l.getD t 0
theorem DelR.start {p : Int → Bool} {l : List Int} {k : Nat} (hk : k < l.length) (hp : p (l.getD k 0) = true) (h : ∀ j, j < k → p (l.getD j 0) = false) : DelR p l l k (k + 1) := by
 refine ⟨by omega, hk, rfl, ?_, fun _ _ => rfl⟩
 rw [take_snoc l k hk, List.filter_append, take_filter (by omega) h, List.filter_cons, hp]
 simp
theorem DelR.drop {p : Int → Bool} {l cur : List Int} {i j : Nat} (h : DelR p l cur i j) (hj : j < l.length) (hp : p (l.getD j 0) = true) : DelR p l cur i (j + 1) := by
 refine ⟨by have := h.lt; omega, hj, h.len, ?_, fun t ht => h.back t (by omega)⟩
 rw [take_snoc l j hj, List.filter_append, ← h.front, List.filter_cons, hp]
 simp
theorem DelR.keep {p : Int → Bool} {l cur : List Int} {i j : Nat} (h : DelR p l cur i j) (hj : j < l.length) (hp : p (l.getD j 0) = false) : DelR p l (cur.set i (l.getD j 0)) (i + 1) (j + 1) := by
 have h1 := h.lt
 have h2 := h.len
 refine ⟨by omega, hj, by simpa using h.len, ?_, fun t ht => ?_⟩
 ·rw [take_snoc l j hj, List.filter_append, ← h.front, List.filter_cons, hp, set_take _ _ _ (by omega)]
  simp
 ·rw [← h.back t (by omega)]
  simp [List.getD, List.getElem?_set, show i ≠ t by omega]
theorem Below.setCells {B : Nat} {a : World} {g : Nat} (hg : B ≤ g) : ∀ (vs : List Value) (o : Nat) (w : World), Below B a w → Below B a (w.setCells g o vs)
 | [], _, _, h => h
 | v :: vs, o, w, h => Below.setCells hg vs (o + 1) _ (h.setCell (p := ⟨g, o, none⟩) hg v)
theorem zero_int (w : World) : (zeroValue 3).run Tryz.prog w = .ok (.int .i64 0) w := by kernel_rfl
set_option maxHeartbeats 2000000 in
theorem delete_c (l : List Int) (v : Value) (w : World) (B : Nat) (hv : OwnI w B v l) (pb : Nat) (hpb : pb < B) (hBw : B ≤ w.heap.size) (a : Option Addr) (n c : Nat) (hc : w.cell? ⟨pb, 5, none⟩ = some (.slice a n c)) (hn : l.length ≤ 1000000) :
  Calls Tryz.prog 91 #[v, .func (.func 93) #[] #[.pointer (some ⟨pb, 0, none⟩)]] w fun e w' => ∃ v', e = .returned v' ∧ RdF w' B v' (l.filter fun x => !offB n x) ∧ Below B w w' := by
 have ix := index_c l v w hv.rd pb a n c hc hn
 have ix' : Calls Tryz.prog 105 #[v, .func (.func 93) #[] #[.pointer (some ⟨pb, 0, none⟩)]] w (fun e w' => (∃ r, e = .returned (.int .i64 r) ∧ IdxR (offB n) l r ∧ w = w')) := ix
 go_enter Tryz.func91, Tryz.ntmps91
 go_wp2_with fail
 refine ix'.mono ?_
 rintro e w' ⟨r, rfl, hr, rfl⟩
 rcases hr with ⟨rfl, hno⟩ | ⟨k, hk, rfl, hp, hno⟩
 ·have H := Lib.hid (idx_filter hno)
  have HV := Lib.hid hv
  clear hno ix ix' hv
  go_wp2
  go_ret
  exact ⟨_, rfl, by rw [H.out]; exact HV.out.rf, Below.refl _ _⟩
 ·have H := Lib.hid (DelR.start hk hp hno)
  clear hp hno ix ix'
  obtain ⟨g, cp, rfl⟩ : ∃ g cp, v = .slice (some ⟨g, 0, none⟩) l.length cp := by
   obtain ⟨_, ⟨rfl, h2⟩ | ⟨g, cap, cur, h3, _⟩⟩ := hv
   ·omega
   ·exact ⟨g, cap, h3⟩
  obtain ⟨-, hcap, hcm, hBg, -, -⟩ := hv.cellAt
  unfold maxLen at hcm
  have HV := Lib.hid hv
  clear hv
  have hk1 : ((k : Int) == -1) = false := beq_eq_false_iff_ne.2 (by omega)
  go_wp2_with fail
  go_loopw [5, 6] (fun i j wr => ∃ (ii jj : Nat) (cur : List Int), i = .int .i64 ii ∧ j = .int .i64 jj ∧ Hid (DelR (offB n) l cur ii jj) ∧ Hid (OwnI wr B (.slice (some ⟨g, 0, none⟩) l.length cp) cur) ∧ Below B w wr)
   (fun _ j _ => l.length - (intOf j).toNat)
  case atStart => exact ⟨k, k + 1, l, rfl, by go_num, H, HV, Below.refl _ _⟩
  case round =>
   obtain ⟨ii, jj, cur, rfl, rfl, D, O, hb⟩ := hrel
   obtain ⟨-, -, -, -, hcells, hfr⟩ := O.out.cellAt
   have hlt1 := D.out.lt
   have hle1 := D.out.le
   have hcr : wr.cell? ⟨pb, 5, none⟩ = some (.slice a n c) := (hb.cell (p := ⟨pb, 5, none⟩) hpb).trans hc
   by_cases hlt : jj < l.length
   ·obtain ⟨x, hx⟩ : ∃ x, l.getD jj 0 = x := ⟨_, rfl⟩
    have hcx := hcells jj hlt
    rw [D.out.back jj (Nat.le_refl _), hx] at hcx
    have hci := hcells ii (by omega)
    generalize cur.getD ii 0 = y at hci
    have hfi := hfr ii
    clear hcells hfr
    have hkeep := D.out.keep hlt
    have hdrop := D.out.drop hlt
    rw [hx] at hkeep hdrop
    clear hx
    cases hpx : offB n x
    ·have HK := Lib.hid (hkeep hpx)
     have E : Hid (∀ w : World, w.cell? ⟨pb, 5, none⟩ = some (.slice a n c) → Calls Tryz.prog 93 #[.int .i64 x, .pointer (some ⟨pb, 0, none⟩)] w fun e w' => e = .returned (.bool false) ∧ w = w') := fun w hw => (outs1_c w x pb a n c hw).mono fun _ _ h => ⟨h.1.trans (ret_b hpx), h.2⟩
     clear hkeep hdrop hpx
     go_wp2_with (go_at_call 93; refine (E.out _ hcr).mono ?_; rintro e w' ⟨rfl, rfl⟩)
     go_roundw
     case rel => exact ⟨ii + 1, jj + 1, cur.set ii x, by go_num, by go_num, HK, OwnI.set O.out ii x, hb.setCell (by omega) _⟩
     case measure => simp [intOf]; omega
    ·have HK := Lib.hid (hdrop hpx)
     have E : Hid (∀ w : World, w.cell? ⟨pb, 5, none⟩ = some (.slice a n c) → Calls Tryz.prog 93 #[.int .i64 x, .pointer (some ⟨pb, 0, none⟩)] w fun e w' => e = .returned (.bool true) ∧ w = w') := fun w hw => (outs1_c w x pb a n c hw).mono fun _ _ h => ⟨h.1.trans (ret_b hpx), h.2⟩
     clear hkeep hdrop hpx
     go_wp2_with (go_at_call 93; refine (E.out _ hcr).mono ?_; rintro e w' ⟨rfl, rfl⟩)
     go_roundw
     case rel => exact ⟨ii, jj + 1, cur, rfl, by go_num, HK, O, hb⟩
     case measure => simp [intOf]; omega
   ·have hne : ¬ cp = ii := by omega
    have hne' : (cp == ii) = false := beq_eq_false_iff_ne.2 hne
    have hcl : ∀ ty, (Builtin.clear_ #[46] ty #[.slice (some ⟨g, ii, none⟩) (l.length - ii) (cp - ii)]).run Tryz.prog wr = .ok (.tuple #[]) (wr.setCells g ii (List.replicate (l.length - ii) (.int .i64 0))) := fun ty =>
     Lib.run_clear_slice wr 46 3 ty (.int .i64 0) Tryz.underlying46 zero_int rfl rfl g ii (l.length - ii) (cp - ii) (by omega) (fun j hj => by rw [hcells (ii + j) (by omega)]; rfl) (fun j _ => hfr _)
    have HL := Lib.hid hcells
    clear hcells hfr
    go_wp2
    go_ret
    refine ⟨_, rfl, ?_, Below.setCells hBg _ _ _ hb⟩
    have hfl := D.out.front
    rw [List.take_of_length_le (by omega : l.length ≤ jj)] at hfl
    rw [← hfl]
    have hln : (cur.take ii).length = ii := by rw [List.length_take]; have := D.out.len; omega
    refine ⟨?_, fun a n c e => by have e' : Value.slice (some ⟨g, 0, none⟩) ii cp = .slice (some a) n c := e; simp only [Value.slice.injEq, Option.some.injEq] at e'; rw [← e'.1]; exact hBg⟩
    refine ⟨some ⟨g, 0, none⟩, cp, by rw [hln]; rfl, by omega, by unfold maxLen; omega, fun i hi => ⟨g, 0, rfl, ?_⟩⟩
    rw [hln] at hi
    simp only [Nat.zero_add, Nat.mul_one, Nat.add_zero]
    rw [World.cell?_setCells_out g _ _ _ _ (fun _ _ => .inl hi), HL.out i (by omega)]
    simp [List.getD, List.getElem?_take, hi]

/-- what a call hands back that makes a list to be read -/
def RetR (w : World) (l : List Int) (e : Ending) (w' : World) : Prop := ∃ v, e = .returned v ∧ RdF w' w.heap.size v l ∧ Below w.heap.size w w'
theorem RetI.r {w : World} {l : List Int} {e : Ending} {w' : World} (h : RetI w l e w') : RetR w l e w' := let ⟨v, h1, h2, h3⟩ := h; ⟨v, h1, h2.rf, h3⟩
theorem offB_filter (p : Pr) (n : Nat) : (outsB (p.blks.getD n default)).filter (fun x => !offB p.blks.length x) = outsP p n := by
 unfold outsP
 congr 1
 funext t
 unfold offB
 rw [Bool.eq_iff_iff]
 simp
theorem outsB_len (b : Bk) : (outsB b).length ≤ 2 := by unfold outsB; split <;> (try split) <;> simp
theorem fouts_c (p : Pr) (V : Value) (n : Nat) (w : World) (hv : PrV w V p) (hn : n < p.blks.length) (hlen : p.blks.length ≤ 1000000) :
  Calls Tryz.prog 71 #[V, .int .i64 (n : Int)] w (RetR w (outsP p n)) := by
 obtain ⟨nm, vo, vb, rfl, hvo, a, c, rfl, hc1, hc2, hcell⟩ := hv
 obtain ⟨b, o, rfl, ⟨vi, c0, hvi⟩, c1, c2, c3, c4⟩ := hcell n hn
 simp only [Nat.add_zero] at c0
 have hbw : b < w.heap.size := World.block_lt_of_cell? w _ c0
 clear hcell
 have H := Lib.hid (offB_filter p n)
 have HB : Hid (∀ w', Ext w w' → Calls Tryz.prog 92 #[.agg #[vi, .int .i64 (p.blks.getD n default).fin, .int .i64 (p.blks.getD n default).a, .int .i64 (p.blks.getD n default).to, .int .i64 (p.blks.getD n default).els]] w' (RetI w' (outsB (p.blks.getD n default)))) :=
  fun w' he => outs_c _ _ _ ⟨vi, rfl, hvi.ext he⟩
 have HL := Lib.hid (outsB_len (p.blks.getD n default))
 generalize p.blks.getD n default = B at *
 go_enter Tryz.func71, Tryz.ntmps71
 go_wp2_with fail
 refine (HB.out _ (Ext.alloc w _)).mono ?_
 rintro e w1 ⟨v1, rfl, ho, hb⟩
 have hbc : w1.cell? ⟨w.heap.size, 5, none⟩ = some (.slice (some ⟨b, o, none⟩) p.blks.length c) := by
  rw [hb.cell (by simp)]; simp [go_sem]
 have hz := hb.size
 simp at hz ho
 have D := delete_c (outsB B) v1 w1 (w.heap.size + 1) ho w.heap.size (by omega) (by omega) _ _ _ hbc (by have := HL.out; omega)
 rw [H.out] at D
 have D' := Lib.hid D
 clear D
 go_wp2_with fail
 refine D'.out.mono ?_
 rintro e w2 ⟨v2, rfl, hr, hb2⟩
 have HR := Lib.hid hr
 clear hr hbc
 go_wp2_with fail
 go_ret
 simp at hb
 exact ⟨_, rfl, ⟨HR.out.1, fun a n c e => Nat.le_trans (by omega) (HR.out.2 a n c e)⟩, ((below_alloc w _).trans (hb.mono (by omega))).trans (hb2.mono (by omega))⟩
end Go.Proofs.YtchoiankeohonaaGreatDoor
