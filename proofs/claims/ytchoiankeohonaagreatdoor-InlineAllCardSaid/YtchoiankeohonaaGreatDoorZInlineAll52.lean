/-
 From a walk to a statement: what was read before a call that only makes new memory reads as before behind it.; Arguments opened: what lies at a parameter of the middle language reads as plain data with numbers of 64 bits.; Arguments opened: words in a row, two numbers.
-/
import Derived.Test.YtchoiankeohonaaGreatDoorRows
import Derived.WalkKit
import Derived.ProofKit
import Derived.OpenShut
import Derived.Lib.SmallJoins
import Derived.Deep.Slices
import Derived.Deep.Fields
import Derived.ChangeSame
import Derived.Test.YtchoiankeohonaaGreatDoorZInlineAll02
import Derived.Laws.IdiomArrays

set_option linter.all false
namespace Go.Proofs.YtchoiankeohonaaGreatDoor
open Go.ChangeShapes Go.WideShapes Go.ChangeAt Go.RowKit

theorem ownKnob_none : ownKnob Tryz.prog.godebug = none := by kernel_rfl
theorem laidOut_prog : laidOutB Tryz.prog = true := by kernel_rfl

section
variable {H : Type} {enc : TypeId × Value → H} {P : Program}
theorem trodAll_stays (hl : laidOutB P = true) {W W' : World} (hb : Below W.heap.size W W') : ∀ (ts : List TypeId) (vs : List Value) (ds : List (DataW H)) (ps : List MemPlace),
  ts.all (fun t => P.readableRec t && decide (t < P.types.size)) = true → (∀ p ∈ ps, p.block < W.heap.size) → DataW.TrodAll enc P W 0 (fun _ => true) true ts vs ds ps →
  DataW.TrodAll enc P W' 0 (fun b => decide (b < W.heap.size)) true ts vs ds ps := by
 intro ts
 induction ts with
 | nil =>
  intro vs ds ps _ _ h
  obtain ⟨rfl, rfl, rfl⟩ := trodAll_nil h
  exact trodAll_mk0
 | cons t ts ih =>
  intro vs ds ps hr hlt h
  obtain ⟨v, vs', d, ds', p, q, rfl, rfl, rfl, h0, r0⟩ := trodAll_cons h
  simp only [List.all_cons, Bool.and_eq_true, decide_eq_true_eq] at hr
  refine trodAll_cons_mk ?_ (ih _ _ _ hr.2 (fun x hx => hlt x (List.mem_append_right _ hx)) r0)
  exact Below.trod hl hr.1.1 hr.1.2 h0 hb (fun x hx => hlt x (List.mem_append_left _ hx))
end
end Go.Proofs.YtchoiankeohonaaGreatDoor

set_option linter.all false
namespace Go.Proofs.YtchoiankeohonaaGreatDoor
open Go Go.RowKit Go.ChangeShapes Go.WideShapes Go.Deep
set_option maxRecDepth 100000

theorem rows_of {α : Type} [Inhabited α] {Q : Nat → α → Prop} : ∀ (n : Nat), (∀ i, i < n → ∃ x, Q i x) → ∃ l : List α, l.length = n ∧ ∀ i, i < n → Q i (l.getD i default)
 | 0, _ => ⟨[], rfl, fun i hi => absurd hi (Nat.not_lt_zero i)⟩
 | n + 1, h => by
  obtain ⟨l, hl, hq⟩ := rows_of n fun i hi => h i (by omega)
  obtain ⟨x, hx⟩ := h n (Nat.lt_succ_self n)
  refine ⟨l ++ [x], by simp [hl], fun i hi => ?_⟩
  by_cases e : i < n
  ·have := hq i e
   simpa [List.getD, List.getElem?_append, hl, e] using this
  ·obtain rfl : i = n := by omega
   simpa [List.getD, List.getElem?_append, hl] using hx
theorem addr_add (b o n : Nat) : (⟨b, o, none⟩ : Addr).add n = ⟨b, o + n, none⟩ := by unfold Addr.add; split <;> simp_all
section
variable {H : Type} {enc : TypeId × Value → H} {w : World} {base : Nat} {spare : Nat → Bool} {held : Bool}
theorem open_rows {α : Type} [Inhabited α] {t e : TypeId} {k fuel : Nat} {v : Value} {y : DataW H × List MemPlace} (Ok : α → Prop) (R : α → (Nat → Option Value) → Prop) (ht : Tryz.prog.underlying t = some (.slice e)) (hk : Tryz.prog.cellsOf e = k + 1)
  (h : DataW.trod enc Tryz.prog w base spare held fuel t [v] = some y)
  (hR : ∀ n cs z, DataW.trod enc Tryz.prog w base spare held n e cs = some z → ∃ a, Ok a ∧ R a fun j => cs[j]?) (hs : ∀ a c c', Sub c c' → R a c → R a c') :
  ∃ l : List α, (∀ i, i < l.length → Ok (l.getD i default)) ∧ Rows' w v (k + 1) l.length fun i c => R (l.getD i default) c := by
 rcases open_slice ht h with ⟨h0, -⟩ | ⟨a, len, cap, m, n, D, Pl, hcs, hb, hl, hm, hmm, hx, hi⟩
 ·obtain rfl : v = .slice none 0 0 := by simpa using h0
  exact ⟨[], fun i hi => absurd hi (Nat.not_lt_zero i), none, 0, rfl, Nat.le_refl _, by simp [maxLen], fun i hi => absurd hi (Nat.not_lt_zero i)⟩
 ·obtain rfl : v = .slice (some a) len cap := by simpa using hcs
  have hlm : len ≤ m := by rw [hmm]; split <;> omega
  obtain ⟨b, o, sp⟩ := a
  have hsp : 0 < len → sp = none := fun h0 => by
   obtain ⟨cs, hc, -⟩ := hi 0 (by omega)
   rw [hk] at hc
   obtain ⟨-, hlen, hcell⟩ := World.cells?_some hc
   have h1 := hcell 0 (Nat.succ_pos k)
   cases sp with
   | none => rfl
   | some s =>
    rw [List.getElem?_eq_getElem (by omega)] at h1
    simp only [World.cell?, Addr.add, Nat.zero_mul, if_true] at h1
    split at h1 <;> simp at h1
  have key : ∀ i, i < len → ∃ x : α, Ok x ∧ ∃ b' o', some (⟨b, o, sp⟩ : Addr) = some ⟨b', o', none⟩ ∧ R x fun j => w.cell? ⟨b', o' + i * (k + 1) + j, none⟩ := fun i hil => by
   obtain rfl := hsp (by omega)
   obtain ⟨cs, hc, htr⟩ := hi i (by omega)
   rw [hk] at hc
   obtain ⟨x, hok, hr⟩ := hR n cs _ htr
   obtain ⟨-, hlen, hcell⟩ := World.cells?_some hc
   refine ⟨x, hok, b, o, rfl, hs x _ _ (fun j u hu => ?_) hr⟩
   have hj : j < k + 1 := by
    have := (List.getElem?_eq_some_iff.1 hu).1
    omega
   have h1 := hcell j hj
   rw [hu, addr_add, addr_add] at h1
   exact h1
  obtain ⟨l, hll, hq⟩ := rows_of len key
  subst hll
  exact ⟨l, fun i hi => (hq i hi).1, some ⟨b, o, sp⟩, cap, rfl, hl, hm, fun i hi => (hq i hi).2⟩
theorem flds {t : TypeId} {fs : Array Field} {fuel : Nat} {cs : List Value} {x : DataW H × List MemPlace} (hs : Tryz.prog.underlying t = some (.struct fs)) (hone : oneCellFields Tryz.prog fs = true) (hC : Tryz.prog.cellsOf t = fs.size)
  (h : DataW.trod enc Tryz.prog w base spare held fuel t cs = some x) : ∃ n, ∀ (j : Nat) (f : Field), fs[j]? = some f → ∃ v y, cs[j]? = some v ∧ DataW.trod enc Tryz.prog w base spare held n f.type [v] = some y := by
 obtain ⟨ys, n, -, -, hlen, hyl, hf⟩ := DataW.trod_struct hs h
 refine ⟨n, fun j f hj => ?_⟩
 obtain ⟨ho, hk⟩ := hone_of hone j f hj
 have hjl : j < fs.size := (Array.getElem?_eq_some_iff.1 hj).1
 have h1 := hf j f hj
 rw [ho, hk] at h1
 have hone' : (cs.drop j).take 1 = [cs[j]'(by omega)] := by
  rw [List.drop_eq_getElem_cons (by omega)]
  rfl
 rw [hone'] at h1
 have hys : ys[j]? = some (ys[j]'(by omega)) := List.getElem?_eq_getElem (by omega)
 exact ⟨_, _, List.getElem?_eq_getElem (by omega), h1.trans hys⟩
variable {n : Nat} {v : Value} {cs : List Value} {y : DataW H × List MemPlace}
theorem open_i (h : DataW.trod enc Tryz.prog w base spare held n 3 [v] = some y) : ∃ a : Int, v = .int .i64 a ∧ I64 a := by
 obtain ⟨a, e0, _, wa⟩ := DataW.trod_int Tryz.underlying3 h
 simp at e0
 have := Go.bounds_i64 wa
 exact ⟨a, e0, by unfold I64; omega⟩
theorem open_u (h : DataW.trod enc Tryz.prog w base spare held n 39 [v] = some y) : ∃ a : Int, v = .int .u32 a ∧ 0 ≤ a ∧ a < 4294967296 := by
 obtain ⟨a, e0, _, wa⟩ := DataW.trod_int Tryz.underlying39 h
 simp at e0
 have := Go.bounds_u32 wa
 exact ⟨a, e0, by omega, by omega⟩
theorem open_b (h : DataW.trod enc Tryz.prog w base spare held n 4 [v] = some y) : ∃ a : Bool, v = .bool a := by
 obtain ⟨a, e0, _⟩ := DataW.trod_bool Tryz.underlying4 h
 simp at e0
 exact ⟨a, e0⟩
theorem open_s (h : DataW.trod enc Tryz.prog w base spare held n 9 [v] = some y) : ∃ a : ByteArray, v = .string a := by
 obtain ⟨a, e0, _⟩ := DataW.trod_string Tryz.underlying9 h
 simp at e0
 exact ⟨a, e0⟩
theorem open_I (h : DataW.trod enc Tryz.prog w base spare held n 46 [v] = some y) : ∃ l : List Int, (∀ x ∈ l, I64 x) ∧ RdI w v l := by
 obtain ⟨l, h1, h2⟩ := open_rows (k := 0) (fun x => I64 x) (fun x c => c 0 = some (.int .i64 x)) Tryz.underlying46 (by kernel_rfl) h (fun n cs z hz => by
  obtain ⟨a, rfl, _, wa⟩ := DataW.trod_int Tryz.underlying3 hz
  have := Go.bounds_i64 wa
  exact ⟨a, by unfold I64; omega, rfl⟩) (fun a c c' hs h => hs _ _ h)
 refine ⟨l, fun x hx => ?_, h2⟩
 obtain ⟨i, hi, rfl⟩ := List.mem_iff_getElem.1 hx
 have := h1 i hi
 simpa [List.getD, hi] using this
theorem open_Y (h : DataW.trod enc Tryz.prog w base spare held n 55 [v] = some y) : ∃ l : List Int, (∀ x ∈ l, 0 ≤ x ∧ x < 256) ∧ RdY w v l := by
 obtain ⟨l, h1, h2⟩ := open_rows (k := 0) (fun x => 0 ≤ x ∧ x < 256) (fun x c => c 0 = some (.int .u8 x)) Tryz.underlying55 (by kernel_rfl) h (fun n cs z hz => by
  obtain ⟨a, rfl, _, wa⟩ := DataW.trod_int Tryz.underlying5 hz
  have := Go.bounds_u8 wa
  exact ⟨a, by omega, rfl⟩) (fun a c c' hs h => hs _ _ h)
 refine ⟨l, fun x hx => ?_, h2⟩
 obtain ⟨i, hi, rfl⟩ := List.mem_iff_getElem.1 hx
 have := h1 i hi
 simpa [List.getD, hi] using this
theorem open_W (h : DataW.trod enc Tryz.prog w base spare held n 27 [v] = some y) : ∃ l : List Int, (∀ x ∈ l, 0 ≤ x ∧ x < 4294967296) ∧ RdW w v l := by
 obtain ⟨l, h1, h2⟩ := open_rows (k := 0) (fun x => 0 ≤ x ∧ x < 4294967296) (fun x c => c 0 = some (.int .u32 x)) Tryz.underlying27 (by kernel_rfl) h (fun n cs z hz => by
  obtain ⟨a, rfl, _, wa⟩ := DataW.trod_int Tryz.underlying39 hz
  have := Go.bounds_u32 wa
  exact ⟨a, by omega, rfl⟩) (fun a c c' hs h => hs _ _ h)
 refine ⟨l, fun x hx => ?_, h2⟩
 obtain ⟨i, hi, rfl⟩ := List.mem_iff_getElem.1 hx
 have := h1 i hi
 simpa [List.getD, hi] using this
theorem open_In (h : DataW.trod enc Tryz.prog w base spare held n 48 cs = some y) : ∃ i : In, InOk i ∧ InC w (fun j => cs[j]?) i := by
 obtain ⟨m, F⟩ := flds Tryz.underlying48 (by kernel_rfl) (by kernel_rfl) h
 obtain ⟨v0, y0, e0, k0⟩ := F 0 _ rfl
 obtain ⟨v1, y1, e1, k1⟩ := F 1 _ rfl
 obtain ⟨v2, y2, e2, k2⟩ := F 2 _ rfl
 obtain ⟨v3, y3, e3, k3⟩ := F 3 _ rfl
 obtain ⟨v4, y4, e4, k4⟩ := F 4 _ rfl
 obtain ⟨v5, y5, e5, k5⟩ := F 5 _ rfl
 obtain ⟨v6, y6, e6, k6⟩ := F 6 _ rfl
 obtain ⟨v7, y7, e7, k7⟩ := F 7 _ rfl
 obtain ⟨v8, y8, e8, k8⟩ := F 8 _ rfl
 obtain ⟨v9, y9, e9, k9⟩ := F 9 _ rfl
 obtain ⟨v10, y10, e10, k10⟩ := F 10 _ rfl
 obtain ⟨a0, rfl, b0⟩ := open_i k0
 obtain ⟨a1, rfl, b1⟩ := open_i k1
 obtain ⟨a2, rfl, b2⟩ := open_i k2
 obtain ⟨a3, rfl, b3⟩ := open_i k3
 obtain ⟨a4, rfl, b4⟩ := open_i k4
 obtain ⟨a5, rfl, b5⟩ := open_i k5
 obtain ⟨a6, rfl, b6⟩ := open_i k6
 obtain ⟨a7, rfl, b7⟩ := open_i k7
 obtain ⟨a8, rfl, b8⟩ := open_u k8
 obtain ⟨l, hl, hr⟩ := open_I k9
 obtain ⟨a10, rfl⟩ := open_b k10
 exact ⟨⟨a0, a1, a2, a3, a4, a5, a6, a7, a8, l, a10⟩, ⟨b0, b1, b2, b3, b4, b5, b6, b7, b8, hl⟩, ⟨e0, e1, e2, e3, e4, e5, e6, e7, e8, ⟨v9, e9, hr⟩, e10⟩⟩
theorem open_Ins (h : DataW.trod enc Tryz.prog w base spare held n 49 [v] = some y) : ∃ l : List In, (∀ x ∈ l, InOk x) ∧ RdIns w v l := by
 obtain ⟨l, h1, h2⟩ := open_rows (k := 10) InOk (fun x c => InC w c x) Tryz.underlying49 (by kernel_rfl) h (fun n cs z hz => open_In hz) (fun a c c' hs h => h.ext (Ext.refl w) hs)
 refine ⟨l, fun x hx => ?_, h2⟩
 obtain ⟨i, hi, rfl⟩ := List.mem_iff_getElem.1 hx
 have := h1 i hi
 simpa [List.getD, hi] using this
theorem open_Bk (h : DataW.trod enc Tryz.prog w base spare held n 51 cs = some y) : ∃ i : Bk, BkOk i ∧ BkC w (fun j => cs[j]?) i := by
 obtain ⟨m, F⟩ := flds Tryz.underlying51 (by kernel_rfl) (by kernel_rfl) h
 obtain ⟨v0, y0, e0, k0⟩ := F 0 _ rfl
 obtain ⟨v1, y1, e1, k1⟩ := F 1 _ rfl
 obtain ⟨v2, y2, e2, k2⟩ := F 2 _ rfl
 obtain ⟨v3, y3, e3, k3⟩ := F 3 _ rfl
 obtain ⟨v4, y4, e4, k4⟩ := F 4 _ rfl
 obtain ⟨l, hl, hr⟩ := open_Ins k0
 obtain ⟨a1, rfl, b1⟩ := open_i k1
 obtain ⟨a2, rfl, b2⟩ := open_i k2
 obtain ⟨a3, rfl, b3⟩ := open_i k3
 obtain ⟨a4, rfl, b4⟩ := open_i k4
 exact ⟨⟨l, a1, a2, a3, a4⟩, ⟨hl, b1, b2, b3, b4⟩, ⟨⟨v0, e0, hr⟩, e1, e2, e3, e4⟩⟩
theorem open_Bks (h : DataW.trod enc Tryz.prog w base spare held n 33 [v] = some y) : ∃ l : List Bk, (∀ x ∈ l, BkOk x) ∧ RdBks w v l := by
 obtain ⟨l, h1, h2⟩ := open_rows (k := 4) BkOk (fun x c => BkC w c x) Tryz.underlying33 (by kernel_rfl) h (fun n cs z hz => open_Bk hz) (fun a c c' hs h => h.ext (Ext.refl w) hs)
 refine ⟨l, fun x hx => ?_, h2⟩
 obtain ⟨i, hi, rfl⟩ := List.mem_iff_getElem.1 hx
 have := h1 i hi
 simpa [List.getD, hi] using this
theorem open_Sl (h : DataW.trod enc Tryz.prog w base spare held n 57 cs = some y) : ∃ i : Sl, SlOk i ∧ SlC (fun j => cs[j]?) i := by
 obtain ⟨m, F⟩ := flds Tryz.underlying57 (by kernel_rfl) (by kernel_rfl) h
 obtain ⟨v0, y0, e0, k0⟩ := F 0 _ rfl
 obtain ⟨v1, y1, e1, k1⟩ := F 1 _ rfl
 obtain ⟨v2, y2, e2, k2⟩ := F 2 _ rfl
 obtain ⟨v3, y3, e3, k3⟩ := F 3 _ rfl
 obtain ⟨s, rfl⟩ := open_s k0
 obtain ⟨a1, rfl, b1⟩ := open_i k1
 obtain ⟨a2, rfl, b2⟩ := open_i k2
 obtain ⟨a3, rfl, b3⟩ := open_i k3
 exact ⟨⟨a1, a2, a3⟩, ⟨b1, b2, b3⟩, ⟨⟨s, e0⟩, e1, e2, e3⟩⟩
theorem open_Sls (h : DataW.trod enc Tryz.prog w base spare held n 22 [v] = some y) : ∃ l : List Sl, (∀ x ∈ l, SlOk x) ∧ RdSls w v l := by
 obtain ⟨l, h1, h2⟩ := open_rows (k := 3) SlOk (fun x c => SlC c x) Tryz.underlying22 (by kernel_rfl) h (fun n cs z hz => open_Sl hz) (fun a c c' hs h => h.ext hs)
 refine ⟨l, fun x hx => ?_, h2⟩
 obtain ⟨i, hi, rfl⟩ := List.mem_iff_getElem.1 hx
 have := h1 i hi
 simpa [List.getD, hi] using this
theorem open_Pr (h : DataW.trod enc Tryz.prog w base spare held n 35 cs = some y) : ∃ i : Pr, PrOk i ∧ PrC w (fun j => cs[j]?) i := by
 obtain ⟨m, F⟩ := flds Tryz.underlying35 (by kernel_rfl) (by kernel_rfl) h
 obtain ⟨v0, y0, e0, k0⟩ := F 0 _ rfl
 obtain ⟨v1, y1, e1, k1⟩ := F 1 _ rfl
 obtain ⟨v2, y2, e2, k2⟩ := F 2 _ rfl
 obtain ⟨v3, y3, e3, k3⟩ := F 3 _ rfl
 obtain ⟨v4, y4, e4, k4⟩ := F 4 _ rfl
 obtain ⟨v5, y5, e5, k5⟩ := F 5 _ rfl
 obtain ⟨s, rfl⟩ := open_s k0
 obtain ⟨a1, rfl⟩ := open_b k1
 obtain ⟨a2, rfl, b2⟩ := open_i k2
 obtain ⟨a3, rfl, b3⟩ := open_i k3
 obtain ⟨l4, h4, r4⟩ := open_Sls k4
 obtain ⟨l5, h5, r5⟩ := open_Bks k5
 exact ⟨⟨a1, a2, a3, l4, l5⟩, ⟨b2, b3, h4, h5⟩, ⟨⟨s, e0⟩, e1, e2, e3, ⟨v4, e4, r4⟩, ⟨v5, e5, r5⟩⟩⟩
theorem open_Prs (h : DataW.trod enc Tryz.prog w base spare held n 24 [v] = some y) : ∃ l : List Pr, (∀ x ∈ l, PrOk x) ∧ RdPrs w v l := by
 obtain ⟨l, h1, h2⟩ := open_rows (k := 5) PrOk (fun x c => PrC w c x) Tryz.underlying24 (by kernel_rfl) h (fun n cs z hz => open_Pr hz) (fun a c c' hs h => h.ext (Ext.refl w) hs)
 refine ⟨l, fun x hx => ?_, h2⟩
 obtain ⟨i, hi, rfl⟩ := List.mem_iff_getElem.1 hx
 have := h1 i hi
 simpa [List.getD, hi] using this
theorem open_Ys (h : DataW.trod enc Tryz.prog w base spare held n 23 [v] = some y) : ∃ l : List (List Int), (∀ d ∈ l, ∀ x ∈ d, 0 ≤ x ∧ x < 256) ∧ RdYs w v l := by
 obtain ⟨l, h1, h2⟩ := open_rows (k := 0) (fun (d : List Int) => ∀ x ∈ d, 0 ≤ x ∧ x < 256) (fun d c => ∃ u, c 0 = some u ∧ RdY w u d) Tryz.underlying23 (by kernel_rfl) h (fun n cs z hz => by
  have hcs : ∃ u, cs = [u] := by
   rcases DataW.trod_slice Tryz.underlying55 hz with ⟨h, -⟩ | ⟨a, len, cap, _, _, _, _, h, -⟩
   ·exact ⟨_, h⟩
   ·exact ⟨_, h⟩
  obtain ⟨u, rfl⟩ := hcs
  obtain ⟨d, hd, hr⟩ := open_Y hz
  exact ⟨d, hd, u, rfl, hr⟩) (fun a c c' hs ⟨u, h, k⟩ => ⟨u, hs _ _ h, k⟩)
 refine ⟨l, fun x hx => ?_, h2⟩
 obtain ⟨i, hi, rfl⟩ := List.mem_iff_getElem.1 hx
 have := h1 i hi
 simpa [List.getD, hi] using this
theorem open_Md (h : DataW.trod enc Tryz.prog w base spare held n 26 cs = some y) : ∃ m : Md, MdOk m ∧ ∃ vg vd vp, cs[0]? = some vg ∧ cs[1]? = some vd ∧ cs[2]? = some vp ∧ cs[3]? = some (.int .i64 m.main) ∧ RdSls w vg m.globs ∧ RdYs w vd m.data ∧ RdPrs w vp m.procs := by
 obtain ⟨m, F⟩ := flds Tryz.underlying26 (by kernel_rfl) (by kernel_rfl) h
 obtain ⟨v0, y0, e0, k0⟩ := F 0 _ rfl
 obtain ⟨v1, y1, e1, k1⟩ := F 1 _ rfl
 obtain ⟨v2, y2, e2, k2⟩ := F 2 _ rfl
 obtain ⟨v3, y3, e3, k3⟩ := F 3 _ rfl
 obtain ⟨l0, h0, r0⟩ := open_Sls k0
 obtain ⟨l1, h1, r1⟩ := open_Ys k1
 obtain ⟨l2, h2, r2⟩ := open_Prs k2
 obtain ⟨a3, rfl, b3⟩ := open_i k3
 exact ⟨⟨l0, l1, l2, a3⟩, ⟨h0, h1, h2, b3⟩, v0, v1, v2, e0, e1, e2, e3, r0, r1, r2⟩
variable {r : Reach} {b0 : Nat} {d : DataW H} {ps : List MemPlace}
/-- a struct by value is its cells, where no field has more than one -/
theorem agg_cells {t : TypeId} {fs : Array Field} (hs : Tryz.prog.underlying t = some (.struct fs)) (hone : oneCellFields Tryz.prog fs = true) (hC : Tryz.prog.cellsOf t = fs.size) (hv : Value.okWide Tryz.prog w r b0 t v) (h : DataW.Trod enc Tryz.prog w base spare held t v d ps) :
  ∃ l : List Value, l.length = fs.size ∧ v = .agg l.toArray ∧ ∃ n, DataW.trod enc Tryz.prog w base spare held n t l = some (d, ps) := by
 obtain ⟨cs, rfl, hsz⟩ := okWide_struct hs hv
 obtain ⟨l⟩ := cs
 obtain ⟨n, h⟩ := h
 exact ⟨l, by simpa [hC] using hsz, rfl, n, by simpa [Value.cells] using h⟩
theorem len4 {l : List Value} (h : l.length = 4) {x0 x1 x2 x3 : Value} (e0 : l[0]? = some x0) (e1 : l[1]? = some x1) (e2 : l[2]? = some x2) (e3 : l[3]? = some x3) : l = [x0, x1, x2, x3] := by
 match l, h with
 | [a0, a1, a2, a3], _ => simp at e0 e1 e2 e3; subst e0 e1 e2 e3; rfl
theorem open_MdV (hv : Value.okWide Tryz.prog w r b0 26 v) (h : DataW.Trod enc Tryz.prog w base spare held 26 v d ps) : ∃ m : Md, MdOk m ∧ MdV w v m := by
 obtain ⟨l, hl, rfl, n, h⟩ := agg_cells Tryz.underlying26 (by kernel_rfl) (by kernel_rfl) hv h
 obtain ⟨m, hm, vg, vd, vp, e0, e1, e2, e3, r0, r1, r2⟩ := open_Md h
 rw [len4 hl e0 e1 e2 e3]
 exact ⟨m, hm, vg, vd, vp, rfl, r0, r1, r2⟩
end
end Go.Proofs.YtchoiankeohonaaGreatDoor

set_option linter.all false
namespace Go.Proofs.YtchoiankeohonaaGreatDoor
open Go Go.RowKit Go.ChangeShapes Go.WideShapes Go.Deep
set_option maxRecDepth 100000

section
variable {H : Type} {enc : TypeId × Value → H} {w : World} {base : Nat} {spare : Nat → Bool} {held : Bool}
variable {v : Value} {r : Reach} {b0 : Nat} {d : DataW H} {ps : List MemPlace}
theorem open_WV (hv : Value.okWide Tryz.prog w r b0 27 v) (h : DataW.Trod enc Tryz.prog w base spare held 27 v d ps) : ∃ l : List Int, (∀ x ∈ l, 0 ≤ x ∧ x < 4294967296) ∧ RdW w v l := by
 obtain ⟨n, h⟩ := h
 obtain ⟨a, len, cap, rfl⟩ := okWide_slice Tryz.underlying27 hv
 exact open_W h
end
end Go.Proofs.YtchoiankeohonaaGreatDoor
