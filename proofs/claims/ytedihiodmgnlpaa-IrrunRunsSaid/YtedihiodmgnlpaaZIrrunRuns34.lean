/-
 The document's run: loads and stores.
-/
import Derived.Test.YtedihiodmgnlpaaZIrrunRuns33
import Derived.Test.YtedihiodmgnlpaaZIrrunRuns20
import Derived.Test.YtedihiodmgnlpaaZIrrunRuns12
set_option linter.all false
namespace Go.Proofs.Ytedihiodmgnlpaa
open Go.ChangeShapes Go.WideShapes Go.ChangeAt Go.RowKit
set_option maxHeartbeats 4000000
set_option linter.unusedVariables false
set_option maxRecDepth 20000

section
variable {k : PK} {w0 w : World} {vt vo : Value} {s : Oc} {dn : Bool} {fs : List Kf} {f : Kf}
/-- what an instruction makes of a call and the run -/
def InsP (k : PK) (w0 w : World) (vt : Value) (fs : List Kf) (f : Kf) (vo : Value) (s : Oc) (res : Option (List Int × Oc)) (e : Ending) (w' : World) : Prop :=
 e = .returned (.tuple #[]) ∧ Since w0 w w' ∧ match res with
  | none => Pm k w' vt vo { s with e := 12 } true (fs ++ [f])
  | some (regs, s') => ∃ vo', Pm k w' vt vo' s' false (fs ++ [{ f with regs := regs }])
def mB (bc bi bg : Nat) (b : Nat) : Prop := b = bc ∨ b = bi ∨ b = bg
theorem mB1 (bc bi bg : Nat) : mB bc bi bg bc := .inl rfl
theorem mB2 (bc bi bg : Nat) : mB bc bi bg bi := .inr (.inl rfl)
theorem mB3 (bc bi bg : Nat) : mB bc bi bg bg := .inr (.inr rfl)
theorem Pm.fr (h : Pm k w vt vo s dn (fs ++ [f])) : FrR k w vo f := h.rr f (List.mem_append_right _ List.mem_cons_self)
theorem FrR.word (h : FrR k w vo f) (n : Nat) : 0 ≤ f.regs.getD n 0 ∧ f.regs.getD n 0 < 4294967296 := by
 by_cases hn : n < f.regs.length
 ·have : f.regs.getD n 0 ∈ f.regs := by simp [List.getD, hn]
  exact h.wd _ this
 ·have : f.regs.getD n 0 = 0 := by simp [List.getD, Nat.le_of_not_lt hn]
  omega
/-- what has been read of a load, from the top down -/
theorem load_step (mem : List Int) (hM : MemOk mem) (n z j : Nat) (v : Int) (hj : j + 1 ≤ z) (h : loadP mem n z = loadP mem n (j + 1) + 256 ^ (j + 1) * v) : loadP mem n z = loadP mem n j + 256 ^ j * (256 * v + mem.getD (n + j) 0) := by
 rw [h]
 show loadP mem n j + mem.getD (n + j) 0 * 256 ^ j + 256 ^ (j + 1) * v = _
 rw [Int.pow_succ, Int.mul_add, Int.mul_assoc, Int.mul_comm (mem.getD (n + j) 0), Int.add_assoc, Int.add_comm (256 ^ j * _)]
theorem load_bound (mem : List Int) (hM : MemOk mem) (n z j : Nat) (v : Int) (hz : z ≤ 4) (h0 : 0 ≤ v) (h : loadP mem n z = loadP mem n j + 256 ^ j * v) : v < 4294967296 := by
 have h1 := loadP_bd mem hM n z
 have h2 := loadP_bd mem hM n j
 have hp : (1 : Int) ≤ 256 ^ j := by have : (0 : Int) < 256 ^ j := Int.pow_pos (by decide); omega
 have h3 : 1 * v ≤ 256 ^ j * v := Int.mul_le_mul_of_nonneg_right hp h0
 have h4 : (256 : Int) ^ z ≤ 4294967296 := by
  have : z = 0 ∨ z = 1 ∨ z = 2 ∨ z = 3 ∨ z = 4 := by omega
  rcases this with rfl | rfl | rfl | rfl | rfl <;> decide
 omega
theorem mem_no (op : Int) (h : Pm k w vt vo s false (fs ++ [f])) (ho : Old k w0 w vt vo (fs ++ [f])) (i : In) (va vn v2 v3 v4 : Value) (hop : i.op = op) (ha : 0 ≤ i.a) (ha2 : i.a < (f.regs.length : Int)) (hs : i.size = 1 ∨ i.size = 4) (hf0 : -32768 ≤ i.off) (hf1 : i.off ≤ 32768) (hp : placeF (addrM f.regs i) i.size = false) :
  Calls Try.prog 108 #[.pointer (some ⟨k.br, 0, none⟩), .agg #[vn, .slice (some ⟨f.bg, 0, none⟩) f.regs.length f.regs.length, v2, v3, v4], iV i va] w (InsP k w0 w vt fs f vo s none) := by
 obtain ⟨op, d_, a_, b_, fn, obj, off, size, num, args, log⟩ := i
 unfold iV
 dsimp only at *
 subst hop
 obtain ⟨na, rfl⟩ := Int.eq_ofNat_of_zero_le ha
 have hf := h.fr
 have hA := hf.word na
 have cA := hf.cX na (by omega)
 obtain ⟨z, rfl⟩ : ∃ z : Nat, size = (z : Int) := ⟨size.toNat, by omega⟩
 have hz4 : z = 1 ∨ z = 4 := by omega
 have hAD : 0 ≤ (f.regs.getD na 0 + off) % 4294967296 ∧ (f.regs.getD na 0 + off) % 4294967296 < 4294967296 := ⟨Int.emod_nonneg _ (by decide), Int.emod_lt_of_pos _ (by decide)⟩
 unfold addrM rg at hp
 dsimp only at hp
 rw [Int.toNat_natCast] at hp
 have HC := Lib.hid (fun w => rcut_c off w (by omega) (by omega))
 obtain ⟨W1, hW1⟩ : ∃ W1, W1 = w.alloc (.cells #[vn, .slice (some ⟨f.bg, 0, none⟩) f.regs.length f.regs.length, v2, v3, v4] 160) := ⟨_, rfl⟩
 have HB1 := Lib.hid (heap_of_alloc w _ _ hW1)
 have B1 : Below w.heap.size w W1 := by rw [hW1]; exact below_alloc w _
 have e1 : W1.heap.size = w.heap.size + 1 := by rw [hW1]; simp
 obtain ⟨W2, hW2⟩ : ∃ W2, W2 = W1.alloc (.cells #[.int .i64 op, .int .i64 d_, .int .i64 na, .int .i64 b_, .int .i64 fn, .int .i64 obj, .int .i64 off, .int .i64 z, .int .u32 num, va, .bool log] 119) := ⟨_, rfl⟩
 have HB2 := Lib.hid (heap_of_alloc W1 _ _ hW2)
 have B2 : Below W1.heap.size W1 W2 := by rw [hW2]; exact below_alloc W1 _
 have hb0 := ho.sz
 have HB3 : Hid (W2.heap[w.heap.size]? = some (.cells #[vn, .slice (some ⟨f.bg, 0, none⟩) f.regs.length f.regs.length, v2, v3, v4] 160 (0, 0))) := (B2.block _ (by omega)).trans HB1.out
 have hj2 : Below w.heap.size w W2 := B1.trans (B2.mono (by omega))
 have HP2 := Lib.hid (h.grow hj2)
 have HS2 : Hid (Since w0 w W2) := Since.of_below (B1.trans (B2.mono (by omega)))
 have lbg : k.wp.heap.size ≤ f.bg ∧ f.bg < w0.heap.size := ⟨hf.lt.1, ho.fr f (List.mem_append_right _ List.mem_cons_self)⟩
 have cp := hf.cap
 rw [e1] at HB2
 have lb1 : w.heap.size < W2.heap.size := (Array.getElem?_eq_some_iff.1 HB3.out).1
 have lb2 : w.heap.size + 1 < W2.heap.size := (Array.getElem?_eq_some_iff.1 HB2.out).1
 have lb3 : f.bg < W2.heap.size := by omega
 have lbr := ho.br
 replace cA := Ext.below hj2 _ _ cA
 have hE1 := Lib.hid e1
 have HJ2 := Lib.hid hj2
 clear hj2 B1 B2 HB1 e1
 have nbr3 := (FrR.neX hf h).1
 have nbr1 : w.heap.size ≠ k.br := by omega
 have nbr2 : w.heap.size + 1 ≠ k.br := by omega
 have HBY := Lib.hid (fun wj (hq : Below W2.heap.size W2 wj) => bytes_no (w0 := w0) _ (z : Int) (HP2.out.grow hq) lbr hAD.1 hAD.2 hs hp)
 generalize f.regs.getD na 0 = XA at *
 generalize eAD : (XA + off) % 4294967296 = AD at *
 have y := fun j => cell_of_heap HB3.out j
 have y1 := y 1
 have q := fun j => cell_of_heap HB2.out j
 have q0 := q 0
 have q1 := q 1
 have q2 := q 2
 have q3 := q 3
 have q6 := q 6
 have q7 := q 7
 simp only [List.getElem?_toArray, List.getElem?_cons_zero, List.getElem?_cons_succ] at y1 q0 q1 q2 q3 q6 q7
 clear y q
 go_enter Try.func108, Try.ntmps108
 go_upto_region 1 with (fail)
 rw [← hW1, ← hW2]
 clear hW1 hW2
 have s1 := mB1 w.heap.size (w.heap.size + 1) f.bg
 have s2 := mB2 w.heap.size (w.heap.size + 1) f.bg
 have s3 := mB3 w.heap.size (w.heap.size + 1) f.bg
 refine wp_region_junk (mB w.heap.size (w.heap.size + 1) f.bg) (by kernel_rfl) ?_
 refine J_mobs [0, 1, 2, 3, 4, 5, 6, 7, 8, 11, 12] _ _ _ _ (by kernel_rfl) ?_
 simp only [List.map_cons, List.map_nil, List.getElem?_toArray, List.getElem?_cons_succ, List.getElem?_cons_zero, Option.getD_some, List.size_toArray, List.length_cons, List.length_nil, Nat.reduceAdd, Nat.reduceSub]
 repeat (go_big_quiet_step (fail))
 refine wpQuiet_nil ?_
 refine J_loud1 9 _ rfl (by kernel_rfl) ?_
 simp only [List.getElem_toArray, List.getElem_cons_succ, List.getElem_cons_zero]
 intro wj hj
 go_wp2_with fail
 refine (HC.out wj).mono ?_
 rintro e w1 ⟨rfl, rfl⟩
 go_wp2_with fail
 refine ⟨KeepX.refl _ _, ?_⟩
 refine J_mobs [10] _ _ _ _ (by kernel_rfl) ?_
 simp only [List.map_cons, List.map_nil, List.getElem?_toArray, List.getElem?_cons_succ, List.getElem?_cons_zero, Option.getD_some, List.size_toArray, List.length_cons, List.length_nil, Nat.reduceAdd, Nat.reduceSub]
 repeat (go_big_quiet_step (fail))
 refine wpQuiet_nil ?_
 have hj3 := hj
 clear hj
 refine J_loud1 13 _ rfl (by kernel_rfl) ?_
 simp only [List.getElem_toArray, List.getElem_cons_succ, List.getElem_cons_zero]
 intro wj hj
 go_wp2_with fail
 refine (HBY.out wj (hj3.trans (hj.mono hj3.size))).mono ?_
 rintro e w1 ⟨rfl, hr1, hs1, hx1⟩
 have hr1 := Lib.hid hr1
 have hs2 : Hid (Since w0 w w1) := (HS2.out.trans (Since.of_below (hj3.trans (hj.mono hj3.size)))).trans hs1
 go_wp2_with fail
 refine ⟨fun b o v hb hv => (World.cell?_of_block (a := ⟨b, o, none⟩) (hx1 b (by rcases hb with rfl | rfl | rfl; exact nbr1; exact nbr2; exact nbr3))).trans hv, ?_⟩
 refine J_mobs [14] _ _ _ _ (by kernel_rfl) ?_
 simp only [List.map_cons, List.map_nil, List.getElem?_toArray, List.getElem?_cons_succ, List.getElem?_cons_zero, Option.getD_some, List.size_toArray, List.length_cons, List.length_nil, Nat.reduceAdd, Nat.reduceSub]
 repeat (go_big_quiet_step (fail))
 refine wpQuiet_nil ?_
 refine J_done (by kernel_rfl) (fun wk hk => ?_) _
 have hr3 := Lib.hid (hr1.out.grow hk)
 have hs3 := Lib.hid (hs2.out.trans (Since.of_below hk))
 go_wp2_with fail
 go_end0
 exact ⟨rfl, hs3.out, hr3.out⟩
theorem mem_load (h : Pm k w vt vo s false (fs ++ [f])) (ho : Old k w0 w vt vo (fs ++ [f])) (hM : MemOk s.mem) (i : In) (va vn v2 v3 v4 : Value) (hop : i.op = 5) (ha : 0 ≤ i.a) (ha2 : i.a < (f.regs.length : Int)) (hs : i.size = 1 ∨ i.size = 4) (hf0 : -32768 ≤ i.off) (hf1 : i.off ≤ 32768) (hd : 0 ≤ i.d) (hd2 : i.d < (f.regs.length : Int)) (hp : placeF (addrM f.regs i) i.size = true) :
  Calls Try.prog 108 #[.pointer (some ⟨k.br, 0, none⟩), .agg #[vn, .slice (some ⟨f.bg, 0, none⟩) f.regs.length f.regs.length, v2, v3, v4], iV i va] w (InsP k w0 w vt fs f vo s (some (f.regs.set i.d.toNat (loadP s.mem (addrM f.regs i - 268435456).toNat i.size.toNat), s))) := by
 have hpp := hp
 unfold placeF at hpp
 simp only [Bool.and_eq_true, decide_eq_true_eq] at hpp
 obtain ⟨hq0, hq1, -⟩ := hpp
 unfold addrM rg at hq0 hq1 ⊢
 obtain ⟨op, d_, a_, b_, fn, obj, off, size, num, args, log⟩ := i
 unfold iV
 dsimp only at *
 subst hop
 obtain ⟨na, rfl⟩ := Int.eq_ofNat_of_zero_le ha
 have hf := h.fr
 have hA := hf.word na
 have cA := hf.cX na (by omega)
 obtain ⟨z, rfl⟩ : ∃ z : Nat, size = (z : Int) := ⟨size.toNat, by omega⟩
 have hz4 : z = 1 ∨ z = 4 := by omega
 have hAD : 0 ≤ (f.regs.getD na 0 + off) % 4294967296 ∧ (f.regs.getD na 0 + off) % 4294967296 < 4294967296 := ⟨Int.emod_nonneg _ (by decide), Int.emod_lt_of_pos _ (by decide)⟩
 unfold addrM rg at hp
 dsimp only at hp
 rw [Int.toNat_natCast] at hp
 have HC := Lib.hid (fun w => rcut_c off w (by omega) (by omega))
 obtain ⟨W1, hW1⟩ : ∃ W1, W1 = w.alloc (.cells #[vn, .slice (some ⟨f.bg, 0, none⟩) f.regs.length f.regs.length, v2, v3, v4] 160) := ⟨_, rfl⟩
 have HB1 := Lib.hid (heap_of_alloc w _ _ hW1)
 have B1 : Below w.heap.size w W1 := by rw [hW1]; exact below_alloc w _
 have e1 : W1.heap.size = w.heap.size + 1 := by rw [hW1]; simp
 obtain ⟨W2, hW2⟩ : ∃ W2, W2 = W1.alloc (.cells #[.int .i64 5, .int .i64 d_, .int .i64 na, .int .i64 b_, .int .i64 fn, .int .i64 obj, .int .i64 off, .int .i64 z, .int .u32 num, va, .bool log] 119) := ⟨_, rfl⟩
 have HB2 := Lib.hid (heap_of_alloc W1 _ _ hW2)
 have B2 : Below W1.heap.size W1 W2 := by rw [hW2]; exact below_alloc W1 _
 have hb0 := ho.sz
 have HB3 : Hid (W2.heap[w.heap.size]? = some (.cells #[vn, .slice (some ⟨f.bg, 0, none⟩) f.regs.length f.regs.length, v2, v3, v4] 160 (0, 0))) := (B2.block _ (by omega)).trans HB1.out
 have hj2 : Below w.heap.size w W2 := B1.trans (B2.mono (by omega))
 have HP2 := Lib.hid (h.grow hj2)
 have HS2 : Hid (Since w0 w W2) := Since.of_below (B1.trans (B2.mono (by omega)))
 have lbg : k.wp.heap.size ≤ f.bg ∧ f.bg < w0.heap.size := ⟨hf.lt.1, ho.fr f (List.mem_append_right _ List.mem_cons_self)⟩
 have cp := hf.cap
 rw [e1] at HB2
 have lb1 : w.heap.size < W2.heap.size := (Array.getElem?_eq_some_iff.1 HB3.out).1
 have lb2 : w.heap.size + 1 < W2.heap.size := (Array.getElem?_eq_some_iff.1 HB2.out).1
 have lb3 : f.bg < W2.heap.size := by omega
 have lbr := ho.br
 replace cA := Ext.below hj2 _ _ cA
 have hE1 := Lib.hid e1
 have HJ2 := Lib.hid hj2
 clear hj2 B1 B2 HB1 e1
 obtain ⟨nd, rfl⟩ := Int.eq_ofNat_of_zero_le hd
 have HBY := Lib.hid (fun w => bytes_yes _ (z : Int) k.br w hAD.1 hAD.2 hs hp)
 simp only [Int.toNat_natCast] at hq0 hq1 ⊢
 generalize f.regs.getD na 0 = XA at *
 generalize eAD : (XA + off) % 4294967296 = AD at *
 obtain ⟨N, hN⟩ := Int.eq_ofNat_of_zero_le hq0
 rw [hN] at HBY hq1 ⊢
 simp only [Int.toNat_natCast]
 have HN := Lib.hid hN
 have gN : decide ((N : Int) < 0) = false := decide_eq_false (by omega)
 clear hN hp hs hq0
 have hNz : N + z ≤ 65536 := by omega
 have y := fun j => cell_of_heap HB3.out j
 have y1 := y 1
 have q := fun j => cell_of_heap HB2.out j
 have q0 := q 0
 have q1 := q 1
 have q2 := q 2
 have q3 := q 3
 have q6 := q 6
 have q7 := q 7
 simp only [List.getElem?_toArray, List.getElem?_cons_zero, List.getElem?_cons_succ] at y1 q0 q1 q2 q3 q6 q7
 clear y q
 go_enter Try.func108, Try.ntmps108
 go_upto_region 1 with (fail)
 rw [← hW1, ← hW2]
 clear hW1 hW2
 have s1 := mB1 w.heap.size (w.heap.size + 1) f.bg
 have s2 := mB2 w.heap.size (w.heap.size + 1) f.bg
 have s3 := mB3 w.heap.size (w.heap.size + 1) f.bg
 refine wp_region_junk (mB w.heap.size (w.heap.size + 1) f.bg) (by kernel_rfl) ?_
 refine J_mobs [0, 1, 2, 3, 4, 5, 6, 7, 8, 11, 12] _ _ _ _ (by kernel_rfl) ?_
 simp only [List.map_cons, List.map_nil, List.getElem?_toArray, List.getElem?_cons_succ, List.getElem?_cons_zero, Option.getD_some, List.size_toArray, List.length_cons, List.length_nil, Nat.reduceAdd, Nat.reduceSub]
 repeat (go_big_quiet_step (fail))
 refine wpQuiet_nil ?_
 refine J_loud1 9 _ rfl (by kernel_rfl) ?_
 simp only [List.getElem_toArray, List.getElem_cons_succ, List.getElem_cons_zero]
 intro wj hj
 go_wp2_with fail
 refine (HC.out wj).mono ?_
 rintro e w1 ⟨rfl, rfl⟩
 go_wp2_with fail
 refine ⟨KeepX.refl _ _, ?_⟩
 refine J_mobs [10] _ _ _ _ (by kernel_rfl) ?_
 simp only [List.map_cons, List.map_nil, List.getElem?_toArray, List.getElem?_cons_succ, List.getElem?_cons_zero, Option.getD_some, List.size_toArray, List.length_cons, List.length_nil, Nat.reduceAdd, Nat.reduceSub]
 repeat (go_big_quiet_step (fail))
 refine wpQuiet_nil ?_
 have hj3 := hj
 clear hj
 refine J_loud1 13 _ rfl (by kernel_rfl) ?_
 simp only [List.getElem_toArray, List.getElem_cons_succ, List.getElem_cons_zero]
 intro wj hj
 go_wp2_with fail
 refine (HBY.out wj).mono ?_
 rintro e w1 ⟨rfl, rfl⟩
 go_wp2_with fail
 refine ⟨KeepX.refl _ _, ?_⟩
 refine J_mobs [14] _ _ _ _ (by kernel_rfl) ?_
 simp only [List.map_cons, List.map_nil, List.getElem?_toArray, List.getElem?_cons_succ, List.getElem?_cons_zero, Option.getD_some, List.size_toArray, List.length_cons, List.length_nil, Nat.reduceAdd, Nat.reduceSub]
 repeat (go_big_quiet_step (fail))
 refine wpQuiet_nil ?_
 refine J_done (by kernel_rfl) (fun wk hk => ?_) _
 have hB2k : Below W2.heap.size W2 wk := hj3.trans ((hj.trans (hk.mono hj.size)).mono hj3.size)
 have HPk := Lib.hid (HP2.out.grow hB2k)
 have HSk := Lib.hid (HS2.out.trans (Since.of_below hB2k))
 have HB3 := Lib.hid ((hB2k.block _ lb1).trans HB3.out)
 have HB2 := Lib.hid ((hB2k.block _ lb2).trans HB2.out)
 have lk1 : w.heap.size < wk.heap.size := (Array.getElem?_eq_some_iff.1 HB3.out).1
 have lk2 : w.heap.size + 1 < wk.heap.size := (Array.getElem?_eq_some_iff.1 HB2.out).1
 clear y1 q0 q1 q2 q3 q6 q7 cA hj hj3 hk hB2k s1 s2 s3
 have y := fun j => cell_of_heap HB3.out j
 have y1 := y 1
 have q := fun j => cell_of_heap HB2.out j
 have q0 := q 0
 have q1 := q 1
 have q2 := q 2
 have q3 := q 3
 have q6 := q 6
 have q7 := q 7
 simp only [List.getElem?_toArray, List.getElem?_cons_zero, List.getElem?_cons_succ] at y1 q0 q1 q2 q3 q6 q7
 clear y q
 go_wp2_with fail
 go_loop [7, 8] (fun v i => ∃ (j : Nat) (x : Int), j ≤ z ∧ v = .int .i64 x ∧ i = .int .i64 ((j : Int) - 1) ∧ 0 ≤ x ∧ Hid (loadP s.mem N z = loadP s.mem N j + 256 ^ j * x)) (fun _ i => (intOf i + 1).toNat)
 case atStart => exact ⟨z, 0, Nat.le_refl _, rfl, rfl, by decide, by show _ = _; rw [Int.mul_zero, Int.add_zero]⟩
 case round =>
  obtain ⟨j, x, hjz, rfl, rfl, hx0, HX⟩ := hrel
  have hx1 := load_bound s.mem hM N z j x (by omega) hx0 HX.out
  have lbrk := HPk.out.brLt.2
  have lbmk := HPk.out.bmLt.2
  have c4 := HPk.out.c4
  cases j with
  | zero =>
   have HXX : Hid (loadP s.mem N z = x) := by
    show _ = _
    have := HX.out
    rw [this]
    simp [loadP]
   have hf2 := HPk.out.fr
   have fz := hf2.fz nd
   have ck := hf2.cX nd (by omega)
   have lbgk := hf2.lt.2
   have ew : IntKind.u32.wrap x = x := by rw [IntKind.wrap_u32]; omega
   have HPF := Lib.hid (HPk.out.setR nd x hx0 hx1)
   clear HX
   go_wp2_with fail
   go_end0
   exact ⟨rfl, HSk.out.trans (Since.set _ _ lbg.2), ⟨vo, by rw [HXX.out]; exact HPF.out⟩⟩
  | succ j =>
   have HX2 := Lib.hid (load_step s.mem hM N z j x hjz HX.out)
   have cm := HPk.out.cM (N + j) (by omega)
   have hb := hM (N + j)
   generalize s.mem.getD (N + j) 0 = y at *
   have ej : ((j + 1 : Nat) : Int) - 1 = (j : Int) := by omega
   have gj : decide ((0 : Int) ≤ (j : Int)) = true := decide_eq_true (by omega)
   have hx2 := load_bound s.mem hM N z j _ (by omega) (by omega) HX2.out
   clear HX
   rw [ej]
   go_wp2_with fail
   go_round
   case rel => exact ⟨j, 256 * x + y, Nat.le_of_succ_le hjz, rfl, rfl, Int.add_nonneg (Int.mul_nonneg (by decide) hx0) hb.1, HX2⟩
   case measure => first | (simp [intOf]; done) | (simp [intOf]; omega)
theorem mem_store (h : Pm k w vt vo s false (fs ++ [f])) (ho : Old k w0 w vt vo (fs ++ [f])) (i : In) (va vn v2 v3 v4 : Value) (hop : i.op = 6) (ha : 0 ≤ i.a) (ha2 : i.a < (f.regs.length : Int)) (hs : i.size = 1 ∨ i.size = 4) (hf0 : -32768 ≤ i.off) (hf1 : i.off ≤ 32768) (hd : 0 ≤ i.b) (hd2 : i.b < (f.regs.length : Int)) (hp : placeF (addrM f.regs i) i.size = true) :
  Calls Try.prog 108 #[.pointer (some ⟨k.br, 0, none⟩), .agg #[vn, .slice (some ⟨f.bg, 0, none⟩) f.regs.length f.regs.length, v2, v3, v4], iV i va] w (InsP k w0 w vt fs f vo s (some (f.regs, { s with mem := storeP s.mem (addrM f.regs i - 268435456).toNat (rg f.regs i.b) i.size.toNat }))) := by
 have hpp := hp
 unfold placeF at hpp
 simp only [Bool.and_eq_true, decide_eq_true_eq] at hpp
 obtain ⟨hq0, hq1, -⟩ := hpp
 unfold addrM rg at hq0 hq1 ⊢
 obtain ⟨op, d_, a_, b_, fn, obj, off, size, num, args, log⟩ := i
 unfold iV
 dsimp only at *
 subst hop
 obtain ⟨na, rfl⟩ := Int.eq_ofNat_of_zero_le ha
 have hf := h.fr
 have hA := hf.word na
 have cA := hf.cX na (by omega)
 obtain ⟨z, rfl⟩ : ∃ z : Nat, size = (z : Int) := ⟨size.toNat, by omega⟩
 have hz4 : z = 1 ∨ z = 4 := by omega
 have hAD : 0 ≤ (f.regs.getD na 0 + off) % 4294967296 ∧ (f.regs.getD na 0 + off) % 4294967296 < 4294967296 := ⟨Int.emod_nonneg _ (by decide), Int.emod_lt_of_pos _ (by decide)⟩
 unfold addrM rg at hp
 dsimp only at hp
 rw [Int.toNat_natCast] at hp
 have HC := Lib.hid (fun w => rcut_c off w (by omega) (by omega))
 obtain ⟨W1, hW1⟩ : ∃ W1, W1 = w.alloc (.cells #[vn, .slice (some ⟨f.bg, 0, none⟩) f.regs.length f.regs.length, v2, v3, v4] 160) := ⟨_, rfl⟩
 have HB1 := Lib.hid (heap_of_alloc w _ _ hW1)
 have B1 : Below w.heap.size w W1 := by rw [hW1]; exact below_alloc w _
 have e1 : W1.heap.size = w.heap.size + 1 := by rw [hW1]; simp
 obtain ⟨W2, hW2⟩ : ∃ W2, W2 = W1.alloc (.cells #[.int .i64 6, .int .i64 d_, .int .i64 na, .int .i64 b_, .int .i64 fn, .int .i64 obj, .int .i64 off, .int .i64 z, .int .u32 num, va, .bool log] 119) := ⟨_, rfl⟩
 have HB2 := Lib.hid (heap_of_alloc W1 _ _ hW2)
 have B2 : Below W1.heap.size W1 W2 := by rw [hW2]; exact below_alloc W1 _
 have hb0 := ho.sz
 have HB3 : Hid (W2.heap[w.heap.size]? = some (.cells #[vn, .slice (some ⟨f.bg, 0, none⟩) f.regs.length f.regs.length, v2, v3, v4] 160 (0, 0))) := (B2.block _ (by omega)).trans HB1.out
 have hj2 : Below w.heap.size w W2 := B1.trans (B2.mono (by omega))
 have HP2 := Lib.hid (h.grow hj2)
 have HS2 : Hid (Since w0 w W2) := Since.of_below (B1.trans (B2.mono (by omega)))
 have lbg : k.wp.heap.size ≤ f.bg ∧ f.bg < w0.heap.size := ⟨hf.lt.1, ho.fr f (List.mem_append_right _ List.mem_cons_self)⟩
 have cp := hf.cap
 rw [e1] at HB2
 have lb1 : w.heap.size < W2.heap.size := (Array.getElem?_eq_some_iff.1 HB3.out).1
 have lb2 : w.heap.size + 1 < W2.heap.size := (Array.getElem?_eq_some_iff.1 HB2.out).1
 have lb3 : f.bg < W2.heap.size := by omega
 have lbr := ho.br
 replace cA := Ext.below hj2 _ _ cA
 have hE1 := Lib.hid e1
 have HJ2 := Lib.hid hj2
 clear hj2 B1 B2 HB1 e1
 obtain ⟨nd, rfl⟩ := Int.eq_ofNat_of_zero_le hd
 have HBY := Lib.hid (fun w => bytes_yes _ (z : Int) k.br w hAD.1 hAD.2 hs hp)
 simp only [Int.toNat_natCast] at hq0 hq1 ⊢
 have hV := hf.word nd
 have cB := hf.cX nd (by omega)
 generalize f.regs.getD na 0 = XA at *
 generalize f.regs.getD nd 0 = XB at *
 generalize eAD : (XA + off) % 4294967296 = AD at *
 obtain ⟨N, hN⟩ := Int.eq_ofNat_of_zero_le hq0
 rw [hN] at HBY hq1 ⊢
 simp only [Int.toNat_natCast]
 have HN := Lib.hid hN
 have gN : decide ((N : Int) < 0) = false := decide_eq_false (by omega)
 clear hN hp hs hq0
 have hNz : N + z ≤ 65536 := by omega
 have y := fun j => cell_of_heap HB3.out j
 have y1 := y 1
 have q := fun j => cell_of_heap HB2.out j
 have q0 := q 0
 have q1 := q 1
 have q2 := q 2
 have q3 := q 3
 have q6 := q 6
 have q7 := q 7
 simp only [List.getElem?_toArray, List.getElem?_cons_zero, List.getElem?_cons_succ] at y1 q0 q1 q2 q3 q6 q7
 clear y q
 go_enter Try.func108, Try.ntmps108
 go_upto_region 1 with (fail)
 rw [← hW1, ← hW2]
 clear hW1 hW2
 have s1 := mB1 w.heap.size (w.heap.size + 1) f.bg
 have s2 := mB2 w.heap.size (w.heap.size + 1) f.bg
 have s3 := mB3 w.heap.size (w.heap.size + 1) f.bg
 refine wp_region_junk (mB w.heap.size (w.heap.size + 1) f.bg) (by kernel_rfl) ?_
 refine J_mobs [0, 1, 2, 3, 4, 5, 6, 7, 8, 11, 12] _ _ _ _ (by kernel_rfl) ?_
 simp only [List.map_cons, List.map_nil, List.getElem?_toArray, List.getElem?_cons_succ, List.getElem?_cons_zero, Option.getD_some, List.size_toArray, List.length_cons, List.length_nil, Nat.reduceAdd, Nat.reduceSub]
 repeat (go_big_quiet_step (fail))
 refine wpQuiet_nil ?_
 refine J_loud1 9 _ rfl (by kernel_rfl) ?_
 simp only [List.getElem_toArray, List.getElem_cons_succ, List.getElem_cons_zero]
 intro wj hj
 go_wp2_with fail
 refine (HC.out wj).mono ?_
 rintro e w1 ⟨rfl, rfl⟩
 go_wp2_with fail
 refine ⟨KeepX.refl _ _, ?_⟩
 refine J_mobs [10] _ _ _ _ (by kernel_rfl) ?_
 simp only [List.map_cons, List.map_nil, List.getElem?_toArray, List.getElem?_cons_succ, List.getElem?_cons_zero, Option.getD_some, List.size_toArray, List.length_cons, List.length_nil, Nat.reduceAdd, Nat.reduceSub]
 repeat (go_big_quiet_step (fail))
 refine wpQuiet_nil ?_
 have hj3 := hj
 clear hj
 refine J_loud1 13 _ rfl (by kernel_rfl) ?_
 simp only [List.getElem_toArray, List.getElem_cons_succ, List.getElem_cons_zero]
 intro wj hj
 go_wp2_with fail
 refine (HBY.out wj).mono ?_
 rintro e w1 ⟨rfl, rfl⟩
 go_wp2_with fail
 refine ⟨KeepX.refl _ _, ?_⟩
 refine J_mobs [14] _ _ _ _ (by kernel_rfl) ?_
 simp only [List.map_cons, List.map_nil, List.getElem?_toArray, List.getElem?_cons_succ, List.getElem?_cons_zero, Option.getD_some, List.size_toArray, List.length_cons, List.length_nil, Nat.reduceAdd, Nat.reduceSub]
 repeat (go_big_quiet_step (fail))
 refine wpQuiet_nil ?_
 refine J_done (by kernel_rfl) (fun wk hk => ?_) _
 have hB2k : Below W2.heap.size W2 wk := hj3.trans ((hj.trans (hk.mono hj.size)).mono hj3.size)
 have HPk := Lib.hid (HP2.out.grow hB2k)
 have HSk := Lib.hid (HS2.out.trans (Since.of_below hB2k))
 have HB3 := Lib.hid ((hB2k.block _ lb1).trans HB3.out)
 have HB2 := Lib.hid ((hB2k.block _ lb2).trans HB2.out)
 have lk1 : w.heap.size < wk.heap.size := (Array.getElem?_eq_some_iff.1 HB3.out).1
 have lk2 : w.heap.size + 1 < wk.heap.size := (Array.getElem?_eq_some_iff.1 HB2.out).1
 clear y1 q0 q1 q2 q3 q6 q7 cA hj hj3 hk s1 s2 s3
 replace cB := Ext.below (HJ2.out.trans (hB2k.mono HJ2.out.size)) _ _ cB
 clear hB2k
 have lk3 : f.bg < wk.heap.size := (HPk.out.fr).lt.2
 have y := fun j => cell_of_heap HB3.out j
 have y1 := y 1
 have q := fun j => cell_of_heap HB2.out j
 have q0 := q 0
 have q1 := q 1
 have q2 := q 2
 have q3 := q 3
 have q6 := q 6
 have q7 := q 7
 simp only [List.getElem?_toArray, List.getElem?_cons_zero, List.getElem?_cons_succ] at y1 q0 q1 q2 q3 q6 q7
 clear y q
 have hbm := HPk.out.bmLt.1
 have hbm2 : k.bm < w0.heap.size := ho.bm
 go_wp2_with fail
 clear y1 q0 q1 q2 q3 q6 q7
 clear cB
 go_loopw [9, 10] (fun v i wr => ∃ (j : Nat), j ≤ z ∧ v = .int .i64 (XB / 256 ^ j) ∧ i = .int .i64 (j : Int) ∧ Hid (Pm k wr vt vo { s with mem := storeP s.mem N XB j } false (fs ++ [f])) ∧ Hid (Since w0 w wr) ∧ Hid (wr.heap[w.heap.size + 1]? = some (.cells #[.int .i64 6, .int .i64 d_, .int .i64 na, .int .i64 nd, .int .i64 fn, .int .i64 obj, .int .i64 off, .int .i64 z, .int .u32 num, va, .bool log] 119 (0, 0)))) (fun _ i _ => z - (intOf i).toNat)
 case atStart => exact ⟨0, Nat.zero_le _, by rw [Int.pow_zero, Int.ediv_one], rfl, HPk, HSk, HB2⟩
 case round =>
  obtain ⟨j, hjz, rfl, rfl, M, HS, HB⟩ := hrel
  have lw2 : w.heap.size + 1 < wr.heap.size := (Array.getElem?_eq_some_iff.1 HB.out).1
  have q := fun j => cell_of_heap HB.out j
  have q7 := q 7
  simp only [List.getElem?_toArray, List.getElem?_cons_zero, List.getElem?_cons_succ] at q7
  clear q
  have lbrk := M.out.brLt.2
  have lbmk := M.out.bmLt.2
  have c4 := M.out.c4
  by_cases hlt : j < z
  ·have cm := M.out.cM (N + j) (by omega)
   have fz := M.out.fzm (N + j)
   have hp0 : (0 : Int) < 256 ^ j := Int.pow_pos (by decide)
   have hL0 : 0 ≤ XB / 256 ^ j := Int.ediv_nonneg hV.1 (by omega)
   have hL1 : XB / 256 ^ j < 4294967296 := by
    have : XB / 256 ^ j ≤ XB := Int.ediv_le_self _ hV.1
    omega
   have ME := Lib.hid (M.out.setM (N + j) (XB / 256 ^ j % 256))
   have HSE := Lib.hid (HS.out.trans (Since.set wr (j := N + j) (.int .u8 (XB / 256 ^ j % 256)) hbm2))
   have HBE : Hid ((wr.setCell ⟨k.bm, N + j, none⟩ (.int .u8 (XB / 256 ^ j % 256))).heap[w.heap.size + 1]? = _) := (heap_setCell_other wr ⟨k.bm, N + j, none⟩ (w.heap.size + 1) _ (by simp only; omega)).trans HB.out
   have HST : Hid (storeP s.mem N XB (j + 1) = (storeP s.mem N XB j).set (N + j) (XB / 256 ^ j % 256)) := rfl
   have HDV : Hid (XB / 256 ^ (j + 1) = XB / 256 ^ j / 256) := by
    show _ = _
    rw [Int.pow_succ, Int.ediv_ediv_of_nonneg (by omega)]
   generalize XB / 256 ^ j = Lf at *
   have t1 : Lf.tmod 256 = Lf % 256 := Int.tmod_eq_emod_of_nonneg hL0
   have t2 : Lf.tdiv 256 = Lf / 256 := Int.tdiv_eq_ediv_of_nonneg hL0
   clear M HS hp0
   go_wp2_with fail
   go_roundw
   case rel => exact ⟨j + 1, by omega, by rw [HDV.out], by go_num, by have := ME.out; rw [← HST.out] at this; exact this, HSE, HBE⟩
   case measure => simp [intOf]; omega
  ·obtain rfl : j = z := by omega
   go_wp2_with fail
   go_end0
   exact ⟨rfl, HS.out, ⟨vo, M.out⟩⟩
end
end Go.Proofs.Ytedihiodmgnlpaa
