/-
 The contract of irrun.Run.
-/
import Derived.Test.YtchoiankeohonaaGreatDoorZInlineAll19
import Derived.Test.YtchoiankeohonaaGreatDoorZInlineAll22
import Derived.Test.YtchoiankeohonaaGreatDoorZInlineAll07
set_option linter.all false
namespace Go.Proofs.YtchoiankeohonaaGreatDoor
open Go.ChangeShapes Go.WideShapes Go.ChangeAt Go.RowKit
set_option maxHeartbeats 8000000
set_option linter.unusedVariables false
set_option maxRecDepth 100000

theorem callOK_all {k : RK} (E : Env k) (F : Nat) : CallOK k F := by
 induction F using Nat.strongRecOn with
 | _ F ih => exact call_step E fun F' h => ih F' h
def clampF (fuel : Int) : Int := min (max fuel 0) 10000000
/-- an outcome in memory -/
def OutV (B : Nat) (w : World) (v : Value) (o : Oc) : Prop := ∃ vo, v = .agg #[vo, .int .i64 o.ins, .int .u32 o.exit, .int .i64 o.e] ∧ w.ownsRow B 39 1 vo o.out.length (o.out.map (Value.int .u32))
def RunPost (m : Md) (inp : List Int) (fuel : Int) (w : World) (e : Ending) (w' : World) : Prop :=
 ∃ v, e = .returned v ∧ OutV w.heap.size w' v (playM m inp (clampF fuel).toNat) ∧ Below w.heap.size w w'
/-- the runner before it runs: ja places of globals are noted, jm globals' data are put -/
structure RI (m : Md) (w W6 : World) (br bm : Nat) (vg vd vp vi : Value) (en fuel : Int) (ja jm : Nat) (vat : Value) (wr : World) : Prop where
 bx : wr.ownsRow w.heap.size 80 14 (rowOf br 1) 1 [vg, vd, vp, .int .i64 m.main, rowOf bm 65536, vat, .int .i64 en, vi, .slice none 0 0, .int .i64 0, .int .u32 0, .int .i64 0, .int .i64 fuel, .int .i64 0]
 mm : wr.ownsRow w.heap.size 5 1 (rowOf bm 65536) 65536 ((mem0 m jm).map (Value.int .u8))
 aa : wr.ownsRow w.heap.size 3 1 vat ja (((slL m.globs ja).map (4096 + ·)).map (Value.int .i64))
 be : Below w.heap.size w wr
 kp : ∀ b, b < W6.heap.size → b ≠ br → b ≠ bm → wr.heap[b]? = W6.heap[b]?
 vb : ∀ g, vat.ownBlock = some g → W6.heap.size ≤ g
 sz : W6.heap.size ≤ wr.heap.size
section
variable {m : Md} {w W6 wr w1 w3 : World} {br bm : Nat} {vg vd vp vi vat v' : Value} {en fuel : Int} {ja jm : Nat}
theorem RI.grow (h : RI m w W6 br bm vg vd vp vi en fuel ja jm vat wr) (hb : Below wr.heap.size wr w1) : RI m w W6 br bm vg vd vp vi en fuel ja jm vat w1 :=
 ⟨own_below h.bx hb, own_below h.mm hb, own_below h.aa hb, h.be.trans (hb.mono h.be.size), fun b hl h1 h2 => (hb.block b (Nat.lt_of_lt_of_le hl h.sz)).trans (h.kp b hl h1 h2), h.vb, Nat.le_trans h.sz hb.size⟩
theorem RI.brLt (h : RI m w W6 br bm vg vd vp vi en fuel ja jm vat wr) : w.heap.size ≤ br ∧ br < wr.heap.size := own_lt h.bx rfl
theorem RI.bmLt (h : RI m w W6 br bm vg vd vp vi en fuel ja jm vat wr) : w.heap.size ≤ bm ∧ bm < wr.heap.size := own_lt h.mm rfl
theorem RI.nA (h : RI m w W6 br bm vg vd vp vi en fuel ja jm vat wr) : vat.ownBlock ≠ some br := by
 rcases rows_neR h.aa h.bx (by decide) with e | e
 ·rw [e]; simp
 ·exact e
theorem RI.app0 (h : RI m w W6 br bm vg vd vp vi en fuel ja jm vat wr) (G : wr.grownBy w1 vat.ownBlock) : w1.cell? ⟨br, 5, none⟩ = some vat ∧ w1.frozen? ⟨br, 5, none⟩ = false ∧ br < w1.heap.size := by
 have hx := h.bx.kept G (.inr (by simpa [rowOf, Value.ownBlock] using Ne.symm h.nA))
 exact ⟨hx.cellAt 5 (by decide), hx.frozenAt 5, (own_lt hx rfl).2⟩
theorem RI.app (h : RI m w W6 br bm vg vd vp vi en fuel ja jm vat wr) (O : w1.ownsRow w.heap.size 3 1 v' (ja + 1) (((slL m.globs ja).map (4096 + ·)).map (Value.int .i64) ++ [.int .i64 (4096 + slE m.globs ja)])) (G : wr.grownBy w1 vat.ownBlock) (D : v'.ownBlock = vat.ownBlock ∨ v'.ownBlock = some wr.heap.size) :
  RI m w W6 br bm vg vd vp vi en fuel (ja + 1) jm v' (w1.setCell ⟨br, 5, none⟩ v') := by
 have hbr := h.brLt
 have nA := h.nA
 have hx := h.bx.kept G (.inr (by simpa [rowOf, Value.ownBlock] using Ne.symm nA))
 have hm := h.mm.kept G (rows_neR h.mm h.aa (by decide))
 obtain ⟨a, b⟩ := hx.stored 5 v'
 have hb : v'.ownBlock ≠ some br := by
  rcases D with e | e
  ·rw [e]; exact nA
  ·rw [e]; intro e2; simp only [Option.some.injEq] at e2; omega
 refine ⟨a, hm.kept b (rows_neR hm hx (by decide)), ?_, (below_grown h.be G h.be.size (fun g hg => (own_lt h.aa hg).1)).setCell (p := ⟨br, 5, none⟩) hbr.1 _, fun c hl h1 h2 => ?_, fun g hg => ?_, Nat.le_trans h.sz (Nat.le_trans G.size (by simp))⟩
 ·have := O.kept b (.inr hb)
  rw [slL_snoc, List.map_append, List.map_append]
  exact this
 ·rw [heap_setCell_other w1 ⟨br, 5, none⟩ c v' h1, G.block c (Nat.lt_of_lt_of_le hl h.sz) (fun e => by have := h.vb c e.symm; omega), h.kp c hl h1 h2]
 ·rcases D with e | e
  ·rw [e] at hg; exact h.vb g hg
  ·rw [e] at hg; simp only [Option.some.injEq] at hg; have := h.sz; omega
theorem RI.bmHeap (h : RI m w W6 br bm vg vd vp vi en fuel ja jm vat wr) (hl : (mem0 m jm).length = 65536) : wr.heap[bm]? = some (.cells ((mem0 m jm).map (Value.int .u8)).toArray 5 (0, 0)) := by
 obtain ⟨q0, ⟨e, -⟩ | ⟨g, cap, cur, e, -, hg, -, -, hsz, ht⟩⟩ := h.mm
 ·cases e
 ·simp only [rowOf, Value.slice.injEq, Option.some.injEq, Addr.mk.injEq, and_true, true_and] at e
  obtain ⟨rfl, rfl⟩ := e
  rw [hg]
  rw [Nat.mul_one] at ht
  rw [List.take_of_length_le (by rw [Array.length_toList, hsz]; omega)] at ht
  rw [← ht, Array.toArray_toList]
theorem RI.put (h : RI m w W6 br bm vg vd vp vi en fuel ja jm vat wr) (hq : w1.heap[bm]? = some (.cells ((mem0 m (jm + 1)).map (Value.int .u8)).toArray 5 (0, 0))) (hl : (mem0 m (jm + 1)).length = 65536) (G : wr.grownBy w1 (some bm)) :
  RI m w W6 br bm vg vd vp vi en fuel ja (jm + 1) vat w1 := by
 have hbm := h.bmLt
 refine ⟨h.bx.kept G (rows_neR h.bx h.mm (by decide)), ⟨by simp [hl], .inr ⟨bm, 65536, _, rfl, hbm.1, hq, Nat.le_refl _, by decide, by simp [hl], ?_⟩⟩, h.aa.kept G (rows_neR h.aa h.mm (by decide)), below_grown h.be G h.be.size (fun g hg => by cases hg; exact hbm.1),
  fun c hc h1 h2 => (G.block c (Nat.lt_of_lt_of_le hc h.sz) (by simpa using h2)).trans (h.kp c hc h1 h2), h.vb, Nat.le_trans h.sz G.size⟩
 rw [Nat.mul_one, List.toList_toArray]; exact List.take_of_length_le (by simp [hl])
end
/-- copy into a place of a row that is known whole -/
theorem copyO {P : Program} {w : World} {ops : Array Oper} {rest : List Oper} {o : Oper} {a : Act} {Q : Exit → Act → World → Prop} (hgd : o.guard = none) (d s : Operand) (dT sT : TypeId)
  (ho : o.op = .call { callee := .builtin .copy, args := #[d, s], argTypes := #[dT, sT] }) (elem : TypeId) (hu : P.underlying dT = some (.slice elem)) (hsz : (P.info? elem).map (·.size) = some 1)
  (sp : Option Addr) (dLen dCap sLen sCap : Nat) (g off : Nat) (hd : a.eval d = .slice (some ⟨g, off, none⟩) dLen dCap) (hs : a.eval s = .slice sp sLen sCap)
  (cur : List Value) (t : TypeId) (hg : w.heap[g]? = some (.cells cur.toArray t (0, 0))) (cs : List Value) (hn : cs.length = Nat.min sLen dLen)
  (hpos : 0 < cs.length → ∃ ad, sp = some ad ∧ ∀ j v, cs[j]? = some v → w.cell? (ad.add j) = some v)
  (hfit : off + cs.length ≤ cur.length) (h1 : ∀ v ∈ cs, v.oneCell' = true)
  (h : ∀ w', w'.heap[g]? = some (.cells (cur.take off ++ (cs ++ cur.drop (off + cs.length))).toArray t (0, 0)) → w.grownBy w' (some g) → wpList P ops Q rest (a.put o.dst (goInt cs.length)) w') :
  wpList P ops Q (o :: rest) a w := by
 by_cases h0 : cs.length = 0
 ·obtain rfl : cs = [] := List.eq_nil_of_length_eq_zero h0
  refine wpList_copy_nothing hgd d s dT sT ho elem hu hsz _ sp dLen dCap sLen sCap hd hs (by simpa using hn.symm) ?_
  exact h w (by simpa using hg) ⟨rfl, rfl, rfl, Nat.le_refl _, fun _ _ _ => rfl⟩
 ·obtain ⟨ad, rfl, hsrc⟩ := hpos (by omega)
  refine wpList_copy_own hgd d s dT sT ho elem hu hsz g off dLen dCap ad sLen sCap hd hs cur.toArray t hg cs hn hsrc (by simpa using hfit) h1 ?_
  refine h _ ?_ ⟨rfl, rfl, rfl, by simp [World.setRow], fun k _ hk => setRow_other w g k _ (fun e => hk (by rw [e]))⟩
  simpa using setRow_heap w g _ _ t _ hg
theorem putL_len (mem : List Int) (a : Nat) (d : List Int) (h : a + d.length ≤ mem.length) : (putL mem a d).length = mem.length := by
 unfold putL; simp; omega
theorem putL_map (mem : List Int) (a : Nat) (d : List Int) (f : Int → Value) : (putL mem a d).map f = (mem.map f).take a ++ (d.map f ++ (mem.map f).drop (a + (d.map f).length)) := by
 unfold putL; simp
theorem slE_step {l : List Sl} (h : l.all slotF = true) (j : Nat) (hj : j < l.length) : 1 ≤ (l.getD j default).size ∧ slE l j + (l.getD j default).size ≤ slE l (j + 1) := by
 rw [List.all_eq_true] at h
 have := h (l.getD j default) (by simp [List.getD, hj])
 unfold slotF at this
 simp only [Bool.and_eq_true, decide_eq_true_eq] at this
 refine ⟨this.1, ?_⟩
 show _ ≤ up4 _
 unfold up4
 omega
theorem slE_mono {l : List Sl} (h : l.all slotF = true) (n : Nat) (hn : n ≤ l.length) : ∀ d j, j + d = n → slE l j ≤ slE l n
 | 0, j, e => by rw [← e]; exact Int.le_refl _
 | d + 1, j, e => by
  have h1 := slE_step h j (by omega)
  have h2 := slE_mono h n hn d (j + 1) (by omega)
  omega
theorem okM_data {m : Md} (h : okM m = true) (j : Nat) (hj : j < m.globs.length) : ((m.data.getD j []).length : Int) = (m.globs.getD j default).size := by
 have hg := okM_globs h
 unfold okM dataF at h
 simp only [Bool.and_eq_true, List.all_eq_true, decide_eq_true_eq] at h
 exact h.2.1 j (List.mem_range.2 (by omega))
theorem data_fits {m : Md} (h : okM m = true) (hl : slE m.globs m.globs.length ≤ 61440) (j : Nat) (hj : j < m.globs.length) : 0 ≤ slE m.globs j ∧ 1 ≤ ((m.data.getD j []).length : Int) ∧ 4096 + slE m.globs j + ((m.data.getD j []).length : Int) ≤ 65536 := by
 obtain ⟨h1, h2, h3⟩ := okM_globs h
 have a := slE_small h1 (by omega) j (by omega)
 have b := slE_step h1 j hj
 have c := slE_mono h1 m.globs.length (Nat.le_refl _) (m.globs.length - (j + 1)) (j + 1) (by omega)
 rw [okM_data h j hj]
 omega
theorem mem0_len {m : Md} (h : okM m = true) (hl : slE m.globs m.globs.length ≤ 61440) : ∀ j, j ≤ m.globs.length → (mem0 m j).length = 65536
 | 0, _ => by unfold mem0; exact List.length_replicate
 | j + 1, hj => by
  have ih := mem0_len h hl j (by omega)
  have := data_fits h hl j hj
  unfold mem0
  rw [putL_len _ _ _ (by rw [ih]; omega), ih]
theorem putL_bytes {mem d : List Int} {a : Nat} (hm : ∀ x ∈ mem, 0 ≤ x ∧ x < 256) (hd : ∀ x ∈ d, 0 ≤ x ∧ x < 256) : ∀ x ∈ putL mem a d, 0 ≤ x ∧ x < 256 := by
 intro x hx
 unfold putL at hx
 rcases List.mem_append.1 hx with h | h
 ·exact hm x (List.mem_of_mem_take h)
 ·rcases List.mem_append.1 h with h | h
  ·exact hd x h
  ·exact hm x (List.mem_of_mem_drop h)
theorem mem0_bytes {m : Md} (hn : MdOk m) : ∀ j, ∀ x ∈ mem0 m j, 0 ≤ x ∧ x < 256
 | 0 => fun x hx => by unfold mem0 at hx; rw [List.eq_of_mem_replicate hx]; exact ⟨by decide, by decide⟩
 | j + 1 => by
  unfold mem0
  refine putL_bytes (mem0_bytes hn j) ?_
  by_cases hj : j < m.data.length
  ·exact hn.data _ (by simp [List.getD, hj])
  ·intro x hx; simp [List.getD, Nat.le_of_not_lt hj] at hx
theorem memOk_of {mem : List Int} (h : ∀ x ∈ mem, 0 ≤ x ∧ x < 256) : MemOk mem := fun j => by
 by_cases hj : j < mem.length
 ·have : mem.getD j 0 ∈ mem := by simp [List.getD, hj]
  exact h _ this
 ·have : mem.getD j 0 = 0 := by simp [List.getD, Nat.le_of_not_lt hj]
  omega
theorem RdY.cells {w : World} {a : Option Addr} {n c : Nat} {l : List Int} (h : RdY w (.slice a n c) l) : n = l.length ∧ (0 < l.length → ∃ ad, a = some ad ∧ ∀ j v, (l.map (Value.int .u8))[j]? = some v → w.cell? (ad.add j) = some v) := by
 obtain ⟨a', c', e, h1, h2, hc⟩ := h
 simp only [Value.slice.injEq] at e
 obtain ⟨rfl, rfl, rfl⟩ := e
 refine ⟨rfl, fun h0 => ?_⟩
 obtain ⟨b, o, rfl, -⟩ := hc 0 h0
 refine ⟨_, rfl, fun j v hj => ?_⟩
 have hl : j < l.length := by
  have := (List.getElem?_eq_some_iff.1 hj).1; simpa using this
 obtain ⟨b2, o2, e2, hq⟩ := hc j hl
 simp only [Option.some.injEq, Addr.mk.injEq, and_true] at e2
 obtain ⟨rfl, rfl⟩ := e2
 have e3 : ({ block := b, off := o } : Addr).add j = ⟨b, o + j, none⟩ := by by_cases hj0 : j = 0 <;> simp [Addr.add, hj0]
 rw [e3]
 rw [List.getElem?_map] at hj
 simp only [Nat.mul_one, Nat.add_zero] at hq
 rw [hq]
 simp [List.getD, hl] at hj ⊢
 exact hj
theorem infoU8 : (Tryz.prog.info? 5).map (fun i => (i.zero, i.size, i.bytes)) = some (some (.int .u8 0), 1, 1) := by kernel_rfl
theorem infoU8s : (Tryz.prog.info? 5).map (·.size) = some 1 := by kernel_rfl
theorem own_put4 {w : World} {B s n : Nat} {e : TypeId} {v : Value} {xs : List Value} (h : w.ownsRow B e s v n xs) (g : Nat) (hne : v.ownBlock = none ∨ v.ownBlock ≠ some g) (a b c d : Value) :
  ((((w.setCell ⟨g, 0, none⟩ a).setCell ⟨g, 1, none⟩ b).setCell ⟨g, 2, none⟩ c).setCell ⟨g, 3, none⟩ d).ownsRow B e s v n xs := by
 have G : ∀ (w : World) (j : Nat) (x : Value), w.grownBy (w.setCell ⟨g, j, none⟩ x) (some g) := fun w j x => ⟨rfl, rfl, rfl, by simp, fun k _ hk => heap_setCell_other w ⟨g, j, none⟩ k x (fun e => hk (by rw [e]))⟩
 exact (((h.kept (G _ _ _) hne).kept (G _ _ _) hne).kept (G _ _ _) hne).kept (G _ _ _) hne
theorem run_c (m : Md) (v vi : Value) (inp : List Int) (fuel : Int) (w : World) (hm : MdV w v m) (hi : RdW w vi inp) (hs : SzM m) (hn : MdOk m) (hil : inp.length ≤ 1000000) (hiw : ∀ x ∈ inp, 0 ≤ x ∧ x < 4294967296) :
  Calls Tryz.prog 11 #[v, vi, .int .i64 fuel] w (RunPost m inp fuel w) := by
 have EC : Hid (∀ w', Ext w w' → Calls Tryz.prog 7 #[v] w' fun e w'' => e = .returned (.int .i64 (okE m)) ∧ Below w'.heap.size w' w'') := fun w' he => check_c m v w' (hm.ext he) hs
 obtain ⟨vg, vd, vp, rfl, hvg, hvd, hvp⟩ := hm
 have HVG := Lib.hid hvg
 have HVD := Lib.hid hvd
 have HVP := Lib.hid hvp
 have HVI := Lib.hid hi
 have HGS := Lib.hid hvg
 obtain ⟨ag, cg, rfl, hg1, hg2, -⟩ := id hvg
 obtain ⟨ad, cd, rfl, hd1, hd2, -⟩ := id hvd
 obtain ⟨ap, cp, rfl, -⟩ := id hvp
 obtain ⟨ai, ci, rfl, -⟩ := id hi
 unfold maxLen at hg2 hd2
 clear hvg hvd hvp hi
 obtain ⟨W1, hW1⟩ : ∃ W1, W1 = (w.alloc (.cells #[.slice ag m.globs.length cg, .slice ad m.data.length cd, .slice ap m.procs.length cp, .int .i64 m.main] 26)).alloc (.cells #[.slice none 0 0, .int .i64 0, .int .u32 0, .int .i64 0] 41) := ⟨_, rfl⟩
 have B1 : Hid (Below w.heap.size w W1) := by rw [hW1]; exact (below_alloc w _).trans ((below_alloc _ _).mono (by simp))
 have H0 : Hid (W1.heap[w.heap.size]? = some (.cells #[.slice ag m.globs.length cg, .slice ad m.data.length cd, .slice ap m.procs.length cp, .int .i64 m.main] 26 (0, 0))) := by
  rw [hW1]
  exact ((below_alloc (w.alloc (.cells #[.slice ag m.globs.length cg, .slice ad m.data.length cd, .slice ap m.procs.length cp, .int .i64 m.main] 26)) _).block w.heap.size (by simp)).trans (heap_alloc_new w _)
 have H1 : Hid (W1.heap[w.heap.size + 1]? = some (.cells #[.slice none 0 0, .int .i64 0, .int .u32 0, .int .i64 0] 41 (0, 0))) := by
  rw [hW1]
  have := heap_alloc_new (w.alloc (.cells #[.slice ag m.globs.length cg, .slice ad m.data.length cd, .slice ap m.procs.length cp, .int .i64 m.main] 26)) (.cells #[.slice none 0 0, .int .i64 0, .int .u32 0, .int .i64 0] 41)
  show _ = _
  simpa using this
 have hz1 : W1.heap.size = w.heap.size + 2 := by rw [hW1]; simp
 have hcl : 0 ≤ clampF fuel ∧ clampF fuel ≤ 10000000 := by unfold clampF; omega
 have HCL : Hid ((fuel < 0 → clampF fuel = 0) ∧ (¬ fuel < 0 → 10000000 < fuel → clampF fuel = 10000000) ∧ (¬ fuel < 0 → ¬ 10000000 < fuel → clampF fuel = fuel)) := by
  refine ⟨fun h => ?_, fun h h2 => ?_, fun h h2 => ?_⟩ <;> unfold clampF <;> omega
 have HW1 := Lib.hid hW1
 clear hW1
 go_enter Tryz.func11, Tryz.ntmps11
 go_upto_region 1 with (fail)
 rw [← HW1.out]
 have y := fun j => cell_of_heap H0.out j
 have y0 := y 0
 have y1 := y 1
 have y2 := y 2
 have y3 := y 3
 simp only [List.getElem?_toArray, List.getElem?_cons_zero, List.getElem?_cons_succ] at y0 y1 y2 y3
 clear y
 have lbx : w.heap.size < W1.heap.size := by omega
 go_cut [7] from 15 to 21 (fun r wx => r = .pointer (some ⟨w.heap.size + 2, 0, none⟩) ∧ W1.alloc (.cells #[.slice ag m.globs.length cg, .slice ad m.data.length cd, .slice ap m.procs.length cp, .int .i64 m.main, .slice none 0 0, .slice none 0 0, .int .i64 0, .slice ai inp.length ci, .slice none 0 0, .int .i64 0, .int .u32 0, .int .i64 0, .int .i64 (clampF fuel), .int .i64 0] 80) = wx)
 case first =>
  by_cases h0 : fuel < 0
  ·have e := Lib.hid (HCL.out.1 h0)
   go_wp2_with fail
   go_meet
   case rel => exact ⟨rfl, by rw [e.out]⟩
  ·by_cases h2 : 10000000 < fuel
   ·have e := Lib.hid (HCL.out.2.1 h0 h2)
    go_wp2_with fail
    go_meet
    case rel => exact ⟨rfl, by rw [e.out]⟩
   ·have e := Lib.hid (HCL.out.2.2 h0 h2)
    go_wp2_with fail
    go_meet
    case rel => exact ⟨rfl, by rw [e.out]⟩
 case rest =>
  obtain ⟨rfl, rfl⟩ := hcut
  obtain ⟨wx, hWX⟩ : ∃ wx, wx = W1.alloc (.cells #[.slice ag m.globs.length cg, .slice ad m.data.length cd, .slice ap m.procs.length cp, .int .i64 m.main, .slice none 0 0, .slice none 0 0, .int .i64 0, .slice ai inp.length ci, .slice none 0 0, .int .i64 0, .int .u32 0, .int .i64 0, .int .i64 (clampF fuel), .int .i64 0] 80) := ⟨_, rfl⟩
  rw [← hWX]
  have HWX := Lib.hid hWX.symm
  clear hWX
  generalize hCF : clampF fuel = cf at *
  have HCF := Lib.hid hCF
  clear hCF HCL y0 y1 y2 y3
  have BX : Hid (Below W1.heap.size W1 wx) := by rw [← HWX.out]; exact below_alloc W1 _
  have H2 := Lib.hid (heap_of_alloc W1 _ _ HWX.out.symm)
  have hzx : wx.heap.size = w.heap.size + 3 := by rw [← HWX.out]; simp; omega
  rw [show W1.heap.size = w.heap.size + 2 from hz1] at H2
  have HW : Hid (Below w.heap.size w wx) := B1.out.trans (BX.out.mono B1.out.size)
  have H0 := Lib.hid ((BX.out.block w.heap.size lbx).trans H0.out)
  have H1 := Lib.hid ((BX.out.block (w.heap.size + 1) (by omega)).trans H1.out)
  have y := fun j => cell_of_heap H0.out j
  have y0 := y 0
  have y1 := y 1
  have y2 := y 2
  have y3 := y 3
  simp only [List.getElem?_toArray, List.getElem?_cons_zero, List.getElem?_cons_succ] at y0 y1 y2 y3
  clear y
  have lbx2 : w.heap.size < wx.heap.size := by omega
  clear HWX HW1 BX B1
  go_wp2_with fail
  refine (EC.out _ (Ext.below HW.out)).mono ?_
  rintro e w3 ⟨rfl, hb3⟩
  have hs3 := hb3.size
  have H0 := Lib.hid ((hb3.block w.heap.size (by omega)).trans H0.out)
  have H1 := Lib.hid ((hb3.block (w.heap.size + 1) (by omega)).trans H1.out)
  have H2 := Lib.hid ((hb3.block (w.heap.size + 2) (by omega)).trans H2.out)
  have HW := Lib.hid (HW.out.trans (hb3.mono HW.out.size))
  have HRU : Hid (w3.ownsRow w.heap.size 80 14 (rowOf (w.heap.size + 2) 1) 1 [.slice ag m.globs.length cg, .slice ad m.data.length cd, .slice ap m.procs.length cp, .int .i64 m.main, .slice none 0 0, .slice none 0 0, .int .i64 0, .slice ai inp.length ci, .slice none 0 0, .int .i64 0, .int .u32 0, .int .i64 0, .int .i64 cf, .int .i64 0]) := own_box H2.out (by omega) rfl
  clear y0 y1 y2 y3 lbx2 hb3
  have y := fun j => cell_of_heap H0.out j
  have y0 := y 0
  have y1 := y 1
  have y2 := y 2
  have y3 := y 3
  simp only [List.getElem?_toArray, List.getElem?_cons_zero, List.getElem?_cons_succ] at y0 y1 y2 y3
  clear y
  have lbx2 : w.heap.size < w3.heap.size := by omega
  cases hok : okM m
  ·have HPM : Hid (playM m inp cf.toNat = ⟨[], [], 0, 0, 3⟩) := by show _ = _; unfold playM; rw [if_pos hok]
   have hE3 : okE m = 3 := by unfold okE; rw [hok]; rfl
   rw [hE3]
   clear hok hE3
   have u8 := HRU.out.cellAt 8 (by decide)
   have u9 := HRU.out.cellAt 9 (by decide)
   have u10 := HRU.out.cellAt 10 (by decide)
   have u11 := HRU.out.cellAt 11 (by decide)
   simp only [List.getElem?_cons_zero, List.getElem?_cons_succ] at u8 u9 u10 u11
   have fr11 := HRU.out.frozenAt 11
   have r0 := cell_of_heap H1.out 0
   have r1 := cell_of_heap H1.out 1
   have r2 := cell_of_heap H1.out 2
   have r3 := cell_of_heap H1.out 3
   have s0 := frozen_of_heap H1.out 0
   have s1 := frozen_of_heap H1.out 1
   have s2 := frozen_of_heap H1.out 2
   have s3 := frozen_of_heap H1.out 3
   simp only [List.getElem?_toArray, List.getElem?_cons_zero, List.getElem?_cons_succ] at r0 r1 r2 r3
   have lbr1 : w.heap.size + 1 < w3.heap.size := by omega
   have lbr2 : w.heap.size + 2 < w3.heap.size := by omega
   go_wp2_with fail
   refine bodyPost_ret (v := .agg #[.slice none 0 0, .int .i64 0, .int .u32 0, .int .i64 3]) (by simp [results, Tryz.results11, go_sem, r0, r1, r2, r3]) rfl ?_
   exact ⟨_, rfl, by rw [HCF.out, HPM.out]; exact ⟨_, rfl, own_nil _ _ _ _⟩, ((((HW.out.setCell (p := ⟨_, 11, none⟩) (by simp) _).setCell (p := ⟨_, 0, none⟩) (by simp) _).setCell (p := ⟨_, 1, none⟩) (by simp) _).setCell (p := ⟨_, 2, none⟩) (by simp) _).setCell (p := ⟨_, 3, none⟩) (by simp) _⟩
  ·obtain ⟨hG1, hG2, hG3⟩ := okM_globs hok
   have hE0 : okE m = 0 := by unfold okE; rw [hok]; rfl
   rw [hE0]
   clear hE0
   have hse := slE_small hG1 (by omega) m.globs.length (Nat.le_refl _)
   obtain ⟨hse0, hse1⟩ := hse
   have HSE := Lib.hid (slE_small hG1 (Nat.le_trans hG2 (by decide)))
   have hPL := Lib.hid (place_c m.globs (.slice ag m.globs.length cg) w3 (HVG.out.ext (Ext.below HW.out)) (slot_sizes hG1) (by omega))
   obtain ⟨LO, hLO⟩ : ∃ x, slE m.globs m.globs.length = x := ⟨_, rfl⟩
   rw [hLO] at hPL hse0 hse1
   have HLO := Lib.hid hLO
   have HOK := Lib.hid hok
   have HG1 := Lib.hid hG1
   have HG3 := Lib.hid hG3
   clear hLO hok hG1 hG3
   go_wp2_with fail
   refine hPL.out.mono ?_
   rintro e w4 ⟨u, rfl, ou, hb4⟩
   have OU := Lib.hid ou
   obtain ⟨au, cu, rfl⟩ := row_shape ou
   have hs4 := hb4.size
   have H0 := Lib.hid ((hb4.block w.heap.size (by omega)).trans H0.out)
   have H1 := Lib.hid ((hb4.block (w.heap.size + 1) (by omega)).trans H1.out)
   have H2 := Lib.hid ((hb4.block (w.heap.size + 2) (by omega)).trans H2.out)
   have HW := Lib.hid (HW.out.trans (hb4.mono HW.out.size))
   have HRU := Lib.hid (own_below HRU.out hb4)
   clear hPL ou hb4 y0 y1 y2 y3 lbx2
   have y := fun j => cell_of_heap H0.out j
   have y0 := y 0
   have y1 := y 1
   have y2 := y 2
   have y3 := y 3
   simp only [List.getElem?_toArray, List.getElem?_cons_zero, List.getElem?_cons_succ] at y0 y1 y2 y3
   clear y
   have lbx2 : w.heap.size < w4.heap.size := by omega
   have lbr2 : w.heap.size + 2 < w4.heap.size := by omega
   have u6 := HRU.out.cellAt 6 (by decide)
   simp only [List.getElem?_cons_zero, List.getElem?_cons_succ] at u6
   have fr6 := HRU.out.frozenAt 6
   by_cases hbig : 65536 < 4096 + LO
   ·have g8 : decide (65536 < 4096 + LO) = true := decide_eq_true hbig
    have g9 : decide (61440 < LO) = true := decide_eq_true (by omega)
    have HPM : Hid (playM m inp cf.toNat = ⟨[], [], 0, 0, 8⟩) := by
     show _ = _; unfold playM enM; rw [if_neg (by rw [HOK.out]; decide), HLO.out, if_pos hbig]
    clear hbig
    have u8 := HRU.out.cellAt 8 (by decide)
    have u9 := HRU.out.cellAt 9 (by decide)
    have u10 := HRU.out.cellAt 10 (by decide)
    have u11 := HRU.out.cellAt 11 (by decide)
    simp only [List.getElem?_cons_zero, List.getElem?_cons_succ] at u8 u9 u10 u11
    have fr11 := HRU.out.frozenAt 11
    have r0 := cell_of_heap H1.out 0
    have r1 := cell_of_heap H1.out 1
    have r2 := cell_of_heap H1.out 2
    have r3 := cell_of_heap H1.out 3
    have s0 := frozen_of_heap H1.out 0
    have s1 := frozen_of_heap H1.out 1
    have s2 := frozen_of_heap H1.out 2
    have s3 := frozen_of_heap H1.out 3
    simp only [List.getElem?_toArray, List.getElem?_cons_zero, List.getElem?_cons_succ] at r0 r1 r2 r3
    have lbr1 : w.heap.size + 1 < w4.heap.size := by omega
    go_wp2_with fail
    refine bodyPost_ret (v := .agg #[.slice none 0 0, .int .i64 0, .int .u32 0, .int .i64 8]) (by simp [results, Tryz.results11, go_sem, r0, r1, r2, r3]) rfl ?_
    exact ⟨_, rfl, by rw [HCF.out, HPM.out]; exact ⟨_, rfl, own_nil _ _ _ _⟩, (((((HW.out.setCell (p := ⟨_, 6, none⟩) (by simp) _).setCell (p := ⟨_, 11, none⟩) (by simp) _).setCell (p := ⟨_, 0, none⟩) (by simp) _).setCell (p := ⟨_, 1, none⟩) (by simp) _).setCell (p := ⟨_, 2, none⟩) (by simp) _).setCell (p := ⟨_, 3, none⟩) (by simp) _⟩
   ·have g8 : decide (65536 < 4096 + LO) = false := decide_eq_false hbig
    have g9 : decide (61440 < LO) = false := decide_eq_false (by omega)
    have hlo2 : LO ≤ 61440 := by omega
    clear hbig
    have u4 := HRU.out.cellAt 4 (by decide)
    have u5 := HRU.out.cellAt 5 (by decide)
    simp only [List.getElem?_cons_zero, List.getElem?_cons_succ] at u4 u5
    have fr4 := HRU.out.frozenAt 4
    have hmk : ∀ w : World, (Instr.makeSlice 55 (.int .i64 65536) (.int .i64 65536)).run Tryz.prog w = .ok (.slice (some ⟨w.heap.size, 0, none⟩) 65536 65536) (w.alloc (.cells (madeCells #[.int .u8 0] 65536) 5)) := fun w => by
     have := run_make_row' (P := Tryz.prog) 55 5 (.int .u8 0) 1 Tryz.underlying55 infoU8 rfl .i64 .i64 65536 (by decide) (by decide) w
     exact this
    go_wp2_with fail
    obtain ⟨W6, hW6⟩ : ∃ W6, W6 = ((w4.setCell ⟨w.heap.size + 2, 6, none⟩ (.int .i64 (4096 + LO))).setCell ⟨w.heap.size + 2, 4, none⟩ (.slice (some ⟨w4.heap.size, 0, none⟩) 65536 65536)).alloc (.cells (madeCells #[.int .u8 0] 65536) 5) := ⟨_, rfl⟩
    have hbr : w.heap.size ≤ w.heap.size + 2 := by omega
    have R6 : Hid (RI m w W6 (w.heap.size + 2) w4.heap.size (.slice ag m.globs.length cg) (.slice ad m.data.length cd) (.slice ap m.procs.length cp) (.slice ai inp.length ci) (4096 + LO) cf 0 0 (.slice none 0 0) W6) := by
     obtain ⟨a1, -⟩ := HRU.out.stored 6 (.int .i64 (4096 + LO))
     obtain ⟨a2, -⟩ := World.ownsRow.stored a1 4 (.slice (some ⟨w4.heap.size, 0, none⟩) 65536 65536)
     have a3 := own_below a2 (below_alloc _ (.cells (madeCells #[.int .u8 0] 65536) 5))
     rw [← hW6] at a3
     refine ⟨a3, ?_, own_nil _ _ _ _, ?_, fun _ _ _ _ => rfl, (fun g hg => by cases hg), Nat.le_refl _⟩
     ·have e := heap_alloc_new ((w4.setCell ⟨w.heap.size + 2, 6, none⟩ (.int .i64 (4096 + LO))).setCell ⟨w.heap.size + 2, 4, none⟩ (.slice (some ⟨w4.heap.size, 0, none⟩) 65536 65536)) (.cells (madeCells #[.int .u8 0] 65536) 5)
      rw [← hW6] at e
      have e2 : W6.heap[w4.heap.size]? = some (.cells (madeCells #[.int .u8 0] 65536) 5 (0, 0)) := by simpa using e
      refine ⟨by unfold mem0; rw [List.length_map, List.length_replicate], .inr ⟨_, 65536, _, rfl, HW.out.size, e2, Nat.le_refl _, by decide, by rw [size_madeCells], ?_⟩⟩
      rw [toList_madeCells_one, Nat.mul_one, List.take_of_length_le (by rw [List.length_replicate]; exact Nat.le_refl _)]
      unfold mem0
      rw [List.map_replicate]
     ·rw [hW6]
      exact ((HW.out.setCell (p := ⟨_, 6, none⟩) hbr _).setCell (p := ⟨_, 4, none⟩) hbr _).alloc (by simp; exact HW.out.size) _
    have HU : Hid (∀ j, j < m.globs.length → ∃ b, au = some ⟨b, 0, none⟩ ∧ b ≠ w.heap.size + 2 ∧ b ≠ w4.heap.size ∧ b < W6.heap.size ∧ W6.cell? ⟨b, j, none⟩ = some (.int .i64 (slE m.globs j))) := fun j hj => by
     obtain ⟨b, ca, e, -, -, hc, hb⟩ := own_int_at OU.out j (by rw [slL_len]; exact hj) (by rw [slL_len])
     simp only [Value.slice.injEq] at e
     obtain ⟨rfl, -, -⟩ := e
     have hne : b ≠ w.heap.size + 2 := by
      have OUb := own_baseR OU.out (B' := w.heap.size) (by omega)
      have := rows_neR OUb HRU.out (by decide)
      simpa [rowOf, Value.ownBlock] using this
     rw [show (slL m.globs m.globs.length).getD j 0 = slE m.globs j by unfold slL; simp [List.getD, hj]] at hc
     refine ⟨b, rfl, hne, by omega, by rw [hW6]; simp; omega, ?_⟩
     rw [hW6]
     have hA := ((below_alloc ((w4.setCell ⟨w.heap.size + 2, 6, none⟩ (.int .i64 (4096 + LO))).setCell ⟨w.heap.size + 2, 4, none⟩ (.slice (some ⟨w4.heap.size, 0, none⟩) 65536 65536)) (.cells (madeCells #[.int .u8 0] 65536) 5)).cell (p := ⟨b, j, none⟩) (by simpa using hb))
     rw [hA, World.cell?_setCell_other _ _ _ _ (by simp [hne]), World.cell?_setCell_other _ _ _ _ (by simp [hne])]
     exact hc
    have HDF := Lib.hid (data_fits HOK.out (by rw [HLO.out]; exact hlo2))
    have HML := Lib.hid (mem0_len HOK.out (by rw [HLO.out]; exact hlo2))
    have H0 : Hid (W6.heap[w.heap.size]? = some (.cells #[.slice ag m.globs.length cg, .slice ad m.data.length cd, .slice ap m.procs.length cp, .int .i64 m.main] 26 (0, 0))) := by
     rw [hW6]
     exact ((below_alloc ((w4.setCell ⟨w.heap.size + 2, 6, none⟩ (.int .i64 (4096 + LO))).setCell ⟨w.heap.size + 2, 4, none⟩ (.slice (some ⟨w4.heap.size, 0, none⟩) 65536 65536)) (.cells (madeCells #[.int .u8 0] 65536) 5)).block w.heap.size (by simpa using lbx2)).trans (((heap_setCell_other _ ⟨w.heap.size + 2, 4, none⟩ w.heap.size _ (by simp)).trans (heap_setCell_other _ ⟨w.heap.size + 2, 6, none⟩ w.heap.size _ (by simp))).trans H0.out)
    have H1w : Hid (W6.heap[w.heap.size + 1]? = some (.cells #[.slice none 0 0, .int .i64 0, .int .u32 0, .int .i64 0] 41 (0, 0))) := by
     rw [hW6]
     exact ((below_alloc ((w4.setCell ⟨w.heap.size + 2, 6, none⟩ (.int .i64 (4096 + LO))).setCell ⟨w.heap.size + 2, 4, none⟩ (.slice (some ⟨w4.heap.size, 0, none⟩) 65536 65536)) (.cells (madeCells #[.int .u8 0] 65536) 5)).block (w.heap.size + 1) (by simp; omega)).trans (((heap_setCell_other _ ⟨w.heap.size + 2, 4, none⟩ (w.heap.size + 1) _ (by simp)).trans (heap_setCell_other _ ⟨w.heap.size + 2, 6, none⟩ (w.heap.size + 1) _ (by simp))).trans H1.out)
    have hbm : w.heap.size + 2 < w4.heap.size := lbr2
    have hz6 : w4.heap.size < W6.heap.size := by rw [hW6]; simp
    rw [← hW6]
    clear hW6 u6 fr6 u4 u5 fr4 hmk y0 y1 y2 y3 HRU H2
    obtain ⟨bm, hbme⟩ : ∃ bm : Nat, bm = w4.heap.size := ⟨_, rfl⟩
    rw [← hbme] at R6 HU hbm hz6
    obtain ⟨br, hbre⟩ : ∃ br : Nat, br = w.heap.size + 2 := ⟨_, rfl⟩
    have hbr3 : w.heap.size < br := by omega
    have hrb : w.heap.size + 1 < br := by omega
    have hbrne : br ≠ w.heap.size := by omega
    rw [← hbre] at R6 HU hbm ⊢
    have H1 := Lib.hid H1w.out
    clear hbre hbme
    go_loopw [65] (fun i wr => ∃ (j : Nat) (vat : Value), i = .int .i64 (j : Int) ∧ j ≤ m.globs.length ∧ Hid (RI m w W6 br bm (.slice ag m.globs.length cg) (.slice ad m.data.length cd) (.slice ap m.procs.length cp) (.slice ai inp.length ci) (4096 + LO) cf j j vat wr)) (fun i _ => m.globs.length - (intOf i).toNat)
    case atStart => exact ⟨0, .slice none 0 0, rfl, Nat.zero_le _, R6⟩
    case round =>
     obtain ⟨j, vat, rfl, hj, M⟩ := hrel
     clear R6
     by_cases hlt : j < m.globs.length
     ·obtain ⟨bu, rfl, hu1, hu2, hu3, hc⟩ := HU.out j hlt
      have y := (World.cell?_of_block (a := ⟨bu, j, none⟩) (M.out.kp bu hu3 hu1 hu2)).trans hc
      have lbu : bu < wr.heap.size := World.block_lt_of_cell? wr _ y
      have x5 : wr.cell? ⟨br, 5, none⟩ = some vat := M.out.bx.cellAt 5 (by decide)
      obtain ⟨f1, f2, f3⟩ := HDF.out j hlt
      have hLE := HSE.out j (Nat.le_of_lt hlt)
      obtain ⟨hL0, hL1⟩ := hLE
      have HM1 := Lib.hid (HML.out j hj)
      have HM2 := Lib.hid (HML.out (j + 1) hlt)
      have HMS : Hid (mem0 m (j + 1) = putL (mem0 m j) (4096 + slE m.globs j).toNat (m.data.getD j [])) := rfl
      obtain ⟨bd, od, ad', cd', rfl, hcd, hyd⟩ := (RdYs.at HVD.out).2 j (by rw [HG3.out]; exact hlt)
      obtain ⟨hd5, hd6⟩ := RdY.cells hyd
      have HD6 := Lib.hid hd6
      have lbd : bd < w.heap.size := World.block_lt_of_cell? w _ hcd
      clear hc hd5 hd6 hL0 hL1
      generalize m.data.getD j [] = D at *
      obtain ⟨at', hat⟩ := Int.eq_ofNat_of_zero_le f1
      rw [hat] at y f3 HMS
      have HAT := Lib.hid hat
      have hat2 : (4096 + (at' : Int)).toNat = 4096 + at' := by omega
      rw [hat2] at HMS
      have hfit : 4096 + at' + D.length ≤ 65536 := by omega
      have hD1 : 1 ≤ D.length := by omega
      clear hat f1 f2 f3 hat2
      have lbr : br < wr.heap.size := M.out.brLt.2
      obtain ⟨av, cv, rfl⟩ := row_shape M.out.aa
      go_wp2_with (at_builtin; refine appG 46 3 infoI64 Tryz.underlying46 rfl (by decide) (by decide) [.int .i64 (4096 + (at' : Int))] rfl (by simp [Value.oneCell']) (own_below M.out.aa (below_alloc wr _)) rfl rfl rfl rfl (cell_new1 wr _ _ _ rfl) (by omega) (by have := M.out.be.size; simp; omega) ?_; intro o1 w1 O1 G1 D1; obtain ⟨ao, co, rfl⟩ := row_shape O1; obtain ⟨x5b, fr5, lbr5⟩ := (M.out.grow (below_alloc wr _)).app0 G1; have O1 := Lib.hid O1; have G1 := Lib.hid G1; have D1 := Lib.hid D1)
      have M2 := Lib.hid ((M.out.grow (below_alloc wr _)).app (by rw [HAT.out]; exact O1.out) G1.out D1.out)
      clear x5 x5b fr5 lbr5 y
      generalize w1.setCell ⟨br, 5, none⟩ (.slice ao (j + 1) co) = W7 at M2 ⊢
      have x4 : W7.cell? ⟨br, 4, none⟩ = some (.slice (some ⟨bm, 0, none⟩) 65536 65536) := M2.out.bx.cellAt 4 (by decide)
      have y := fun i => cell_of_heap ((M2.out.kp w.heap.size (by omega) (by omega) (by omega)).trans H0.out) i
      have y1 := y 1
      simp only [List.getElem?_toArray, List.getElem?_cons_zero, List.getElem?_cons_succ] at y1
      clear y
      have xd := Ext.below M2.out.be _ _ hcd
      have lb7 : br < W7.heap.size := M2.out.brLt.2
      have lm7 : bm < W7.heap.size := M2.out.bmLt.2
      have lw7 : w.heap.size < W7.heap.size := by have := M2.out.sz; omega
      have ld7 : bd < W7.heap.size := by omega
      have gN : decide (m.data.length ≤ j) = false := decide_eq_false (by have := HG3.out; omega)
      have hat3 : at' ≤ 61440 := by omega
      refine wp_region_junk (fun _ => True) (by kernel_rfl) ?_
      refine J_mobs [0, 1, 2, 3, 4, 5] _ _ _ _ (by kernel_rfl) ?_
      simp only [List.map_cons, List.map_nil, List.getElem?_toArray, List.getElem?_cons_succ, List.getElem?_cons_zero, Option.getD_some, List.size_toArray, List.length_cons, List.length_nil, Nat.reduceAdd, Nat.reduceSub]
      repeat (go_big_quiet_step (fail))
      refine wpQuiet_nil ?_
      have gN2 : j < m.data.length := by rw [HG3.out]; exact hlt
      refine J_mobs [6, 7, 8, 9] _ _ _ _ (by kernel_rfl) ?_
      simp only [List.map_cons, List.map_nil, List.getElem?_toArray, List.getElem?_cons_succ, List.getElem?_cons_zero, Option.getD_some, List.size_toArray, List.length_cons, List.length_nil, Nat.reduceAdd, Nat.reduceSub]
      repeat (go_big_quiet_step (fail))
      refine wpQuiet_nil ?_
      refine J_mobs [10, 11] _ _ _ _ (by kernel_rfl) ?_
      simp only [List.map_cons, List.map_nil, List.getElem?_toArray, List.getElem?_cons_succ, List.getElem?_cons_zero, Option.getD_some, List.size_toArray, List.length_cons, List.length_nil, Nat.reduceAdd, Nat.reduceSub]
      repeat (go_big_quiet_step (fail))
      refine wpQuiet_nil ?_
      have hj0 : j ≤ m.globs.length := hj
      refine J_last 12 _ rfl (by kernel_rfl) ?_
      simp only [List.getElem_toArray, List.getElem_cons_succ, List.getElem_cons_zero]
      intro wj hj
      have MJ := Lib.hid (M2.out.grow hj)
      have hcur := MJ.out.bmHeap (HML.out j hj0)
      have hcsl : ((D.map (Value.int .u8)).length : Nat) = Nat.min D.length (65536 - (4096 + at')) := by rw [List.length_map]; exact (Nat.min_eq_left (by omega)).symm
      have hpos : 0 < (D.map (Value.int .u8)).length → ∃ ad, ad' = some ad ∧ ∀ i v, (D.map (Value.int .u8))[i]? = some v → wj.cell? (ad.add i) = some v := fun h0 => by
       obtain ⟨ad, e, hq⟩ := HD6.out (by rw [List.length_map] at h0; exact h0)
       exact ⟨ad, e, fun i v hv => Ext.below MJ.out.be _ _ (hq i v hv)⟩
      refine copyO rfl _ _ 55 55 rfl 5 Tryz.underlying55 infoU8s ad' (65536 - (4096 + at')) (65536 - (4096 + at')) D.length cd' bm (4096 + at') ?_ rfl ((mem0 m j).map (Value.int .u8)) 5 hcur (D.map (Value.int .u8)) hcsl hpos (by rw [List.length_map, List.length_map, HM1.out]; omega) (by intro v hv; obtain ⟨x, -, rfl⟩ := List.mem_map.1 hv; rfl) ?_
      ·rfl
      intro w9 hq9 G9
      have M9 := MJ.out.put (jm := j) (w1 := w9) (by rw [HMS.out, putL_map]; exact hq9) HM2.out G9
      have M9 := Lib.hid M9
      simp only [Act.put, List.setIfInBounds_toArray, List.set_cons_succ, List.set_cons_zero]
      refine J_done (by kernel_rfl) (fun wk hk => ?_) _
      have MK := Lib.hid (M9.out.grow hk)
      clear x4 y1 xd
      go_wp2_with fail
      go_round
      case rel => exact ⟨j + 1, _, by go_num, by omega, MK⟩
      case measure => first | (simp [intOf]; done) | (simp [intOf]; omega)
     ·obtain rfl : j = m.globs.length := by omega
      have hmain : 0 ≤ m.main ∧ m.main < (m.procs.length : Int) ∧ (pk m m.main.toNat).params = 0 := by
       have hok := HOK.out
       unfold okM okHeadM at hok
       simp only [Bool.and_eq_true, decide_eq_true_eq] at hok
       exact ⟨hok.1.2.2.2.2.2.1, hok.1.2.2.2.2.2.2, by have := hok.2.2.1.1; simpa [pk] using this⟩
      obtain ⟨hm0, hm1, hm2⟩ := hmain
      obtain ⟨mn, hmn⟩ := Int.eq_ofNat_of_zero_le hm0
      rw [hmn] at hm1 hm2
      have HMN := Lib.hid hmn
      have y := fun i => cell_of_heap ((M.out.kp w.heap.size (by omega) (by omega) (by omega)).trans H0.out) i
      have y3 := y 3
      simp only [List.getElem?_toArray, List.getElem?_cons_zero, List.getElem?_cons_succ] at y3
      rw [hmn] at y3
      have lw7 : w.heap.size < wr.heap.size := by have := M.out.sz; omega
      have lw8 : w.heap.size + 1 < wr.heap.size := by have := M.out.sz; omega
      clear y hm0 hmn
      have hr0 : Rn ⟨w, br, bm, .slice ag m.globs.length cg, .slice ad m.data.length cd, .slice ap m.procs.length cp, vat, .slice ai inp.length ci, m, (slL m.globs m.globs.length).map (4096 + ·), 4096 + LO, inp⟩ wr (.slice none 0 0) ⟨mem0 m m.globs.length, [], 0, 0, 0, cf, 0⟩ :=
       ⟨M.out.bx, M.out.mm, own_nil _ _ _ _, by have := M.out.aa; simpa [slL_len] using this, ⟨_, _, _, rfl, HVG.out, HVD.out, HVP.out⟩, HVI.out, M.out.be⟩
      have hEnv : Env ⟨w, br, bm, .slice ag m.globs.length cg, .slice ad m.data.length cd, .slice ap m.procs.length cp, vat, .slice ai inp.length ci, m, (slL m.globs m.globs.length).map (4096 + ·), 4096 + LO, inp⟩ :=
       ⟨HOK.out, hn, rfl, by show _ = enM m; unfold enM; rw [HLO.out], ⟨by dsimp only; omega, by dsimp only; omega⟩, hil, hiw⟩
      have hg0 : Gd ⟨mem0 m m.globs.length, [], 0, 0, 0, cf, 0⟩ := ⟨memOk_of (mem0_bytes hn _), Int.le_refl _, by dsimp only; omega, by dsimp only [List.length_nil]; omega, by dsimp only; omega, Int.le_refl _, by dsimp only; decide⟩
      have HC := Lib.hid (callOK_all hEnv cf.toNat wr (.slice none 0 0) ⟨mem0 m m.globs.length, [], 0, 0, 0, cf, 0⟩ mn [] (.slice none 0 0) 65536 hr0 hg0 (by dsimp only; omega) (by dsimp only; omega) ⟨_, _, rfl, Nat.le_refl _, by decide, fun i hi => absurd hi (Nat.not_lt_zero i)⟩ (by rw [show pk _ mn = pk m mn from rfl]; have e : (mn : Int).toNat = mn := Int.toNat_natCast mn; rw [e] at hm2; rw [hm2]; rfl) (fun x hx => by cases hx) (by decide) (by decide))
      have HRX : Hid (wr.heap[w.heap.size + 1]? = some (.cells #[.slice none 0 0, .int .i64 0, .int .u32 0, .int .i64 0] 41 (0, 0))) := (M.out.kp (w.heap.size + 1) (by omega) (by omega) (by omega)).trans H1.out
      have HBW : Hid (Below w.heap.size w wr) := M.out.be
      have hpl : playM m inp cf.toNat = runM m inp cf.toNat (enterM m [] mn [] 65536 ⟨mem0 m m.globs.length, [], 0, 0, 0⟩) := by
       unfold playM enM
       rw [if_neg (by rw [HOK.out]; decide), HLO.out, if_neg (by omega), HMN.out, Int.toNat_natCast]
      have HPL := Lib.hid hpl
      clear hpl hr0 hEnv hg0 hm1 hm2
      go_wp2_with fail
      refine HC.out.mono ?_
      intro e w5 hcp
      obtain ⟨vo5, s5, v5, ok5, rfl, hr5, hk5, hv5, -, hM5⟩ := hcp
      have hne1 : w.heap.size + 1 ≠ br := by omega
      have HRX := Lib.hid ((hk5.keep (w.heap.size + 1) lw8 hne1 (by show _ ≠ bm; omega) (by simp [Value.ownBlock])).trans HRX.out)
      obtain ⟨ao5, co5, rfl⟩ := row_shape hr5.oo
      have HM5 : Hid (runM m inp cf.toNat (enterM m [] mn [] 65536 ⟨mem0 m m.globs.length, [], 0, 0, 0⟩) = if ok5 = true then runM m inp s5.fuel.toNat (backM m [] v5 s5.oc) else s5.oc) := hM5 [] rfl
      have HR5 := Lib.hid hr5
      have u8 : w5.cell? ⟨br, 8, none⟩ = some (.slice ao5 s5.out.length co5) := hr5.cOut
      have u9 : w5.cell? ⟨br, 9, none⟩ = some (.int .i64 s5.ins) := hr5.cIns
      have u10 : w5.cell? ⟨br, 10, none⟩ = some (.int .u32 s5.exit) := hr5.cExit
      have u11 : w5.cell? ⟨br, 11, none⟩ = some (.int .i64 s5.e) := hr5.cE
      have lb5 : br < w5.heap.size := hr5.brLt.2
      have fr10 : w5.frozen? ⟨br, 10, none⟩ = false := hr5.frz 10
      have H1 := Lib.hid HRX.out
      have r0 := cell_of_heap H1.out 0
      have r1 := cell_of_heap H1.out 1
      have r2 := cell_of_heap H1.out 2
      have r3 := cell_of_heap H1.out 3
      have s0 := frozen_of_heap H1.out 0
      have s1 := frozen_of_heap H1.out 1
      have s2 := frozen_of_heap H1.out 2
      have s3 := frozen_of_heap H1.out 3
      simp only [List.getElem?_toArray, List.getElem?_cons_zero, List.getElem?_cons_succ] at r0 r1 r2 r3
      have lr5 : w.heap.size + 1 < w5.heap.size := (Array.getElem?_eq_some_iff.1 HRX.out).1
      have hB5 : Hid (Below w.heap.size w w5) := hr5.below
      have OO5 : Hid (w5.ownsRow w.heap.size 39 1 (.slice ao5 s5.out.length co5) s5.out.length (s5.out.map (Value.int .u32))) := hr5.oo
      have NE5 : Hid ((Value.slice ao5 s5.out.length co5).ownBlock = none ∨ (Value.slice ao5 s5.out.length co5).ownBlock ≠ some (w.heap.size + 1)) := rows_neR OO5.out (own_box (B := w.heap.size) HRX.out (by omega) rfl) (by decide)
      clear hr5 hk5 hM5 y3
      cases ok5
      ·have HP : Hid (playM m inp cf.toNat = s5.oc) := HPL.out.trans HM5.out
       go_wp2_with fail
       refine bodyPost_ret (v := .agg #[.slice ao5 s5.out.length co5, .int .i64 s5.ins, .int .u32 s5.exit, .int .i64 s5.e]) (by simp [results, Tryz.results11, go_sem, r0, r1, r2, r3]) rfl ?_
       exact ⟨_, rfl, by rw [HCF.out, HP.out]; exact ⟨_, rfl, own_put4 OO5.out _ NE5.out _ _ _ _⟩, (((hB5.out.setCell (p := ⟨_, 0, none⟩) (by simp) _).setCell (p := ⟨_, 1, none⟩) (by simp) _).setCell (p := ⟨_, 2, none⟩) (by simp) _).setCell (p := ⟨_, 3, none⟩) (by simp) _⟩
      ·have HP : Hid (playM m inp cf.toNat = { s5.oc with exit := v5 % 256 }) := by
        show _ = _
        rw [HPL.out, HM5.out, if_pos rfl, runM_fin _ _ _ _ rfl]; rfl
       obtain ⟨hv50, hv51⟩ := hv5
       have hand := bits_mask .u32 32 (by decide) wraps_u32 8 (by decide) v5 hv50 (by omega)
       rw [show ((2 : Int) ^ 8 - 1) = 255 by decide, show ((2 : Int) ^ 8) = 256 by decide] at hand
       obtain ⟨RA_, -⟩ := HR5.out.setF 10 (.int .u32 (v5 % 256)) { s5 with exit := v5 % 256 } rfl rfl rfl
       have OO6 : Hid ((w5.setCell ⟨br, 10, none⟩ (.int .u32 (v5 % 256))).ownsRow w.heap.size 39 1 (.slice ao5 s5.out.length co5) s5.out.length (s5.out.map (Value.int .u32))) := RA_.oo
       have hB6 : Hid (Below w.heap.size w (w5.setCell ⟨br, 10, none⟩ (.int .u32 (v5 % 256)))) := RA_.below
       have nrb : br ≠ w.heap.size + 1 := by omega
       clear RA_
       go_wp2_with fail
       refine bodyPost_ret (v := .agg #[.slice ao5 s5.out.length co5, .int .i64 s5.ins, .int .u32 (v5 % 256), .int .i64 s5.e]) (by simp [results, Tryz.results11, go_sem, r0, r1, r2, r3, nrb, Ne.symm nrb]) rfl ?_
       exact ⟨_, rfl, by rw [HCF.out, HP.out]; exact ⟨_, rfl, own_put4 OO6.out _ NE5.out _ _ _ _⟩, (((hB6.out.setCell (p := ⟨_, 0, none⟩) (by simp) _).setCell (p := ⟨_, 1, none⟩) (by simp) _).setCell (p := ⟨_, 2, none⟩) (by simp) _).setCell (p := ⟨_, 3, none⟩) (by simp) _⟩
end Go.Proofs.YtchoiankeohonaaGreatDoor
