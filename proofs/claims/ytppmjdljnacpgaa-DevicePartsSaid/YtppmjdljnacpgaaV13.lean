/-
  The device's failure of the power, and its run.
-/
import Derived.Test.YtppmjdljnacpgaaV12
import Derived.Laws.Tables
set_option linter.all false
namespace Go.Proofs.Ytppmjdljnacpgaa
open Go.ChangeShapes Go.WideShapes Go.ChangeAt Go.RowKit
set_option maxHeartbeats 2000000
set_option linter.unusedVariables false
set_option maxRecDepth 20000

/-- cells put in a row, the first at i -/
def putL : List Value → Nat → List Value → List Value
  | l, _, [] => l
  | l, i, v :: vs => putL (l.set i v) (i + 1) vs
theorem putL_eq : ∀ (vs l : List Value) (i : Nat), i + vs.length ≤ l.length → putL l i vs = l.take i ++ (vs ++ l.drop (i + vs.length))
  | [], l, i, _ => by simp [putL]
  | v :: vs, l, i, h => by
    have h1 : i + 1 + vs.length ≤ (l.set i v).length := by simp at h ⊢; omega
    have hi : i < l.length := by simp at h; omega
    unfold putL
    rw [putL_eq vs (l.set i v) (i + 1) h1, List.drop_set_of_lt (by omega), List.take_set, List.take_succ]
    have e : (l.take i ++ l[i]?.toList).set i v = l.take i ++ [v] := by
      rw [List.getElem?_eq_getElem hi, List.set_append_right _ _ (by simp; omega)]
      simp [show min i l.length = i by omega]
    rw [e, List.append_assoc, List.length_cons, show i + 1 + vs.length = i + (vs.length + 1) by omega]
    rfl
theorem run_storeCells_part {P : Program} (g : Nat) (t : TypeId) : ∀ (vs : List Value) (i : Nat) (cur : Array Value) (w : World), w.heap[g]? = some (.cells cur t (0, 0)) → i + vs.length ≤ cur.size → (∀ v ∈ vs, v.oneCell' = true) →
    (storeCells ⟨g, 0, none⟩ vs i).run P w = .ok () (w.setRow g (putL cur.toList i vs).toArray)
  | [], i, cur, w, hg, hl, _ => by
    have := run_storeCells_from (P := P) g t [] cur.size cur w hg (by simp) (by simp)
    have e : List.take cur.size cur.toList = cur.toList := List.take_of_length_le (by simp)
    simp only [storeCells, putL, List.append_nil, e, Array.toArray_toList] at this ⊢
    exact this
  | v :: rest, i, cur, w, hg, hl, h1 => by
    have hi : i < cur.size := by simp at hl; omega
    have hadd : (⟨g, 0, none⟩ : Addr).add i = ⟨g, i, none⟩ := by unfold Addr.add; split <;> simp_all
    have hcell : w.cell? ⟨g, i, none⟩ = some cur[i] := by simp [World.cell?, hg, hi]
    have hfro : w.frozen? ⟨g, i, none⟩ = false := by simp [World.frozen?, hg]
    have hst : (store ((⟨g, 0, none⟩ : Addr).add i) v).run P w = .ok () (w.setRow g (cur.setIfInBounds i v)) := by
      rw [hadd, run_store P w _ v _ (h1 v (by simp)), hcell]
      simp [hfro, setCell_eq_setRow w g i cur t (0, 0) v hg]
    have ih := run_storeCells_part (P := P) g t rest (i + 1) (cur.setIfInBounds i v) (w.setRow g (cur.setIfInBounds i v)) (setRow_heap w g cur _ t _ hg) (by simp at hl ⊢; omega) (fun x hx => h1 x (by simp [hx]))
    simp only [storeCells, Sem.run_bind, hst, Result.andThen_ok, ih, setRow_setRow, putL, Array.toList_setIfInBounds]
theorem run_storeVar_part {P : Program} (w : World) (g : Nat) (t ty : TypeId) (old cells : Array Value) (hg : w.heap[g]? = some (.cells old t (0, 0))) (hi : (P.info? ty).map (·.size) = some cells.size)
    (ho : cells.size ≤ old.size) (h1 : cells.all (·.oneCell') = true) :
    (storeVar ty ⟨g, 0, none⟩ (.agg cells)).run P w = .ok () (w.setRow g (putL old.toList 0 cells.toList).toArray) := by
  have := run_storeCells_part (P := P) g t cells.toList 0 old w hg (by simp; omega) (fun v hv => (Array.all_eq_true_iff_forall_mem.1 h1) v (by simpa using hv))
  cases hq : P.info? ty with
  | none => simp [hq] at hi
  | some i =>
    have hs : cells.size = i.size := by simp [hq] at hi; omega
    simp [storeVar, sizeOf, typeInfo, hq, Value.cells, hs, this]
theorem wpList_store_part {P : Program} {ops : Array Oper} {rest : List Oper} {o : Oper} {a : Act} {w : World} {Q : Exit → Act → World → Prop} (hgd : o.guard = none) (ty : TypeId) (x y : Operand) (ho : o.op = .store ty x y)
    (g : Nat) (cells : Array Value) (hx : a.eval x = .pointer (some ⟨g, 0, none⟩)) (hy : a.eval y = .agg cells)
    (t : TypeId) (old : Array Value) (hg : w.heap[g]? = some (.cells old t (0, 0))) (hi : (P.info? ty).map (·.size) = some cells.size)
    (hold : cells.size ≤ old.size) (h1 : cells.all (·.oneCell') = true)
    (h : wpList P ops Q rest (a.put o.dst undef) (w.setRow g (putL old.toList 0 cells.toList).toArray)) : wpList P ops Q (o :: rest) a w := by
  refine wpList_plain hgd fun K hK => ?_
  unfold Oper.wp execOp
  simp only [ho, hx, hy, Instr.storeAt, Instr.sureAddr, Sem.run_bind, Sem.run_pure, Result.andThen_ok, run_storeVar_part w g t ty old cells hg hi hold h1]
  exact hK _ _ h
section
variable {k : VK} {w : World} {vl : Value} {m : Dv} {ts : List Mt}
/-- the volatile cells set to zero -/
theorem Vm.fail (h : Vm k w vl m ts) {cur : Array Value} (hg : w.heap[k.bm]? = some (.cells cur 79 (0, 0))) : Vm k (w.setRow k.bm (putL cur.toList 0 (List.replicate 35 (.int .u32 0))).toArray) vl { m with regs := List.replicate 32 0, pc := 0, seq := 0, index := 0 } ts ∧
    Chv k vl vl w (w.setRow k.bm (putL cur.toList 0 (List.replicate 35 (.int .u32 0))).toArray) := by
  have hbx := h.bx
  obtain ⟨hl, ⟨e, -⟩ | ⟨g, cap, cur2, e, hb, hgg, hn, hc, hsz, htk⟩⟩ := hbx
  · cases e
  simp only [Value.slice.injEq, Option.some.injEq, Addr.mk.injEq, and_true] at e
  obtain ⟨rfl, -, rfl⟩ := e
  rw [hg] at hgg
  cases hgg
  have hsz : cur.size = 43 := by simpa using hsz
  have htk : cur.toList = k.cells vl m := by rw [← htk]; exact (List.take_of_length_le (by simp [hsz])).symm
  have hp : putL cur.toList 0 (List.replicate 35 (.int .u32 0)) = k.cells vl { m with regs := List.replicate 32 0, pc := 0, seq := 0, index := 0 } := by
    rw [putL_eq _ _ _ (by rw [htk]; simpa using by omega), htk]
    have h32 : (m.regs.map (Value.int .u32)).length = 32 := by rw [List.length_map, h.rl]
    unfold VK.cells
    simp only [List.take_zero, List.nil_append, List.length_replicate, Nat.zero_add]
    rw [List.drop_append, List.drop_of_length_le (by omega), h32]
    rfl
  rw [hp]
  have G : w.grownBy (w.setRow k.bm (k.cells vl { m with regs := List.replicate 32 0, pc := 0, seq := 0, index := 0 }).toArray) (some k.bm) :=
    ⟨rfl, rfl, rfl, by simp, fun b _ hb => by
      have hb : b ≠ k.bm := fun e => hb (by rw [e])
      exact setRow_other w k.bm b _ hb⟩
  refine ⟨⟨?_, h.cc.kept G (vm_ne (a := 0) (b := 0) h.cc h.bx (by decide)), h.mt.kept G (vm_ne (a := 0) (b := 0) h.mt h.bx (by decide)), h.dd.kept G (vm_ne (a := 0) (b := 0) h.dd h.bx (by decide)), h.ii.kept G (vm_ne (a := 0) (b := 0) h.ii h.bx (by decide)), h.ll.kept G (vm_ne (a := 0) (b := 0) h.ll h.bx (by decide)), by simp, h.tl, h.tr, by simpa using h.low⟩, ?_⟩
  · refine ⟨by simp [VK.cells], .inr ⟨k.bm, 1, _, rfl, hb, setRow_heap w k.bm cur _ _ _ hg, Nat.le_refl _, by decide, by simp [VK.cells], by simp [VK.cells]⟩⟩
  · exact ⟨rfl, rfl, rfl, by simp, .inl rfl, fun b _ h1 _ _ _ => setRow_other w k.bm b _ h1⟩
theorem vfail_c (h : Vm k w vl m ts) :
    Calls Try.prog 42 #[.pointer (some ⟨k.bm, 0, none⟩)] w fun e w' => e = .returned (.tuple #[]) ∧ Vm k w' vl (failD m) ts ∧ Chv k vl vl w w' := by
  have c9 := h.c 9 (by decide)
  simp only [List.getElem?_cons_succ, List.getElem?_cons_zero] at c9
  have lb := h.bmLt.2
  have H := Lib.hid h
  clear h
  by_cases hst : m.state = 0
  · have HE : Hid (failD m = { m with regs := List.replicate 32 0, pc := 0, seq := 0, index := 0 }) := by show _ = _; unfold failD; rw [if_pos hst]
    obtain ⟨cur, hg, hsz⟩ : ∃ cur, w.heap[k.bm]? = some (.cells cur 79 (0, 0)) ∧ cur.size = 43 := by
      obtain ⟨hl, ⟨e, -⟩ | ⟨g, cap, cur2, e, hb, hgg, hn, hc, hsz, htk⟩⟩ := H.out.bx
      · cases e
      simp only [Value.slice.injEq, Option.some.injEq, Addr.mk.injEq, and_true] at e
      obtain ⟨rfl, -, rfl⟩ := e
      exact ⟨cur2, hgg, by simpa using hsz⟩
    have HG := Lib.hid hg
    have hinfo : (Try.prog.info? 77).map (·.size) = some 35 := by kernel_rfl
    have hle : (List.replicate 35 (Value.int .u32 0)).toArray.size ≤ cur.size := by rw [hsz]; simp
    have hone : (List.replicate 35 (Value.int .u32 0)).toArray.all (·.oneCell') = true := by kernel_rfl
    rw [hst] at c9
    clear hst hg
    go_enter Try.func42, Try.ntmps42
    go_wp2_with (refine wpList_store_part rfl 77 _ _ rfl k.bm (List.replicate 35 (.int .u32 0)).toArray rfl rfl 79 cur HG.out hinfo hle hone ?_)
    refine bodyPost_end (results_none rfl _ _ _) rfl ?_
    exact ⟨rfl, by rw [HE.out]; exact (H.out.fail HG.out).1, (H.out.fail HG.out).2⟩
  · have HE : Hid (failD m = m) := by show _ = _; unfold failD; rw [if_neg hst]
    have g1 : (m.state == 0) = false := beq_eq_false_iff_ne.2 hst
    clear hst
    go_enter Try.func42, Try.ntmps42
    go_wp2_with fail
    refine bodyPost_end (results_none rfl _ _ _) rfl ?_
    exact ⟨rfl, by rw [HE.out]; exact H.out, Chv.refl _ _ _⟩
end
end Go.Proofs.Ytppmjdljnacpgaa
