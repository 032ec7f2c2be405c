/-
  Contracts of the reference's functions that tell of one instruction and one block.
-/
import Derived.Test.YtnnhobbabcfogaaF3
set_option linter.all false
namespace Go.Proofs.Ytnnhobbabcfogaa
open Go.ChangeShapes Go.WideShapes Go.ChangeAt Go.RowKit
set_option maxHeartbeats 1000000
set_option maxRecDepth 20000

theorem bcell' {B : Nat} {W w1 : World} (hb : Below B W w1) : (∀ b o, b < B → w1.cell? ⟨b, o, none⟩ = W.cell? ⟨b, o, none⟩) ∧ (∀ b o, b < B → w1.frozen? ⟨b, o, none⟩ = W.frozen? ⟨b, o, none⟩) :=
  ⟨fun b o h => hb.cell (p := ⟨b, o, none⟩) h, fun b o h => hb.frozen (p := ⟨b, o, none⟩) h⟩
theorem fld_facts (op : Int) (h1 : 1 ≤ op) (h2 : op ≤ 12) : fld op 0 = decide (op ≠ 6 ∧ op ≠ 10 ∧ op ≠ 12) ∧ fld op 1 = readsA op ∧ fld op 2 = readsB op ∧ fld op 3 = decide (op = 3 ∨ op = 4) ∧
    fld op 4 = decide (op = 7 ∨ op = 8 ∨ op = 9) ∧ fld op 5 = decide (5 ≤ op ∧ op ≤ 8) ∧ fld op 6 = decide (op = 5 ∨ op = 6) ∧ fld op 7 = decide (op = 1) ∧ fld op 8 = decide (op = 9) ∧ fld op 9 = decide (op ≠ 10 ∧ op ≠ 12) := by
  obtain ⟨k, rfl⟩ := Int.eq_ofNat_of_zero_le (show 0 ≤ op by omega)
  obtain ⟨a0, a1, a2, a3, a4, a5, a6, a7, a8, a9⟩ := fld_all ⟨k, by omega⟩
  simp only [] at a0 a1 a2 a3 a4 a5 a6 a7 a8 a9
  refine ⟨(a0 (by omega)).trans ?_, a1, a2, a3.trans ?_, a4.trans ?_, a5.trans ?_, a6.trans ?_, a7.trans ?_, a8.trans ?_, (a9 (by omega)).trans ?_⟩ <;> (congr 1; apply propext; omega)
theorem defI_0 (i : In) (h : i.op < 1 ∨ 12 < i.op) : defI i = -1 := by unfold defI; rw [if_neg (by omega)]
theorem defI_y (i : In) (h1 : 1 ≤ i.op) (h2 : i.op ≤ 12) (h : fld i.op 0 = true) : defI i = i.d := by
  rw [(fld_facts i.op h1 h2).1] at h; simp at h; unfold defI; rw [if_pos (by omega)]
theorem defI_n (i : In) (h1 : 1 ≤ i.op) (h2 : i.op ≤ 12) (h : fld i.op 0 = false) : defI i = -1 := by
  rw [(fld_facts i.op h1 h2).1] at h; simp at h; unfold defI; rw [if_neg (by omega)]
theorem rdef_c (i : In) (v : Value) (w : World) (hv : InV w v i) :
    Calls Try.prog 62 #[v] w fun e w' => e = .returned (.int .i64 (defI i)) ∧ Below w.heap.size w w' := by
  obtain ⟨va, rfl, hva⟩ := hv
  by_cases h : i.op < 1 ∨ 12 < i.op
  · have H := Lib.hid (defI_0 i h)
    go_enter Try.func62, Try.ntmps62
    go_wp2_with (go_at_call 109; refine (fields_0 _ _ h).mono ?_; rintro e w1 ⟨rfl, hb⟩)
    go_ret
    exact ⟨ret_i H.out.symm, (below_alloc _ _).trans (hb.mono (by simp))⟩
  · have h1 : 1 ≤ i.op := by omega
    have h2 : i.op ≤ 12 := by omega
    cases hd : fld i.op 0
    · have H := Lib.hid (defI_n i h1 h2 hd)
      go_enter Try.func62, Try.ntmps62
      go_wp2_with (go_at_call 109; refine (fields_c _ _ h1 h2).mono ?_; rintro e w1 ⟨g, rfl, hg, ha, hb⟩; have c0 := ha.c0)
      go_ret
      exact ⟨ret_i H.out.symm, (below_alloc _ _).trans (hb.mono (by simp))⟩
    · have H := Lib.hid (defI_y i h1 h2 hd)
      go_enter Try.func62, Try.ntmps62
      go_wp2_with (go_at_call 109; refine (fields_c _ _ h1 h2).mono ?_; rintro e w1 ⟨g, rfl, hg, ha, hb⟩; have c0 := ha.c0; obtain ⟨hc1, _⟩ := bcell' hb)
      go_ret
      exact ⟨ret_i H.out.symm, (below_alloc _ _).trans (hb.mono (by simp))⟩
theorem routs_c (b : Bk) (v : Value) (w : World) (hv : BkV w v b) :
    Calls Try.prog 128 #[v] w (RetI w (outsB b)) := by
  obtain ⟨ins, fin, a, to, els⟩ := b
  obtain ⟨vi, rfl, hvi⟩ := hv
  have O0 := Own.nil (w0 := w.alloc (.cells #[vi, .int .i64 fin, .int .i64 a, .int .i64 to, .int .i64 els] 48)) (B := w.heap.size + 1) (by simp)
  have E1 := outsB_1 ⟨ins, fin, a, to, els⟩
  have E2 := outsB_2 ⟨ins, fin, a, to, els⟩
  have E3 := outsB_3 ⟨ins, fin, a, to, els⟩
  by_cases h1 : fin = 1
  · subst h1
    have E := Lib.hid (E1 (.inl rfl))
    clear E1 E2 E3
    go_enter Try.func128, Try.ntmps128
    go_wp2_with (first | (at_builtin; refine app1 O0 rfl rfl rfl rfl (by first | rfl | simp) (by simp) ?_; intro v1 w1 O1; have hc1 := O1.bcell; have hz1 := O1.below.size; simp at hz1))
    go_ret
    rw [E.out]
    exact O1.ret (below_alloc _ _) (by omega)
  by_cases h2 : fin = 2
  · subst h2
    by_cases h3 : to = els
    · subst h3
      have E := Lib.hid (E1 (.inr ⟨rfl, rfl⟩))
      clear E1 E2 E3 h1
      go_enter Try.func128, Try.ntmps128
      go_wp2_with (first | (at_builtin; refine app1 O0 rfl rfl rfl rfl (by first | rfl | simp) (by simp) ?_; intro v1 w1 O1; have hc1 := O1.bcell; have hz1 := O1.below.size; simp at hz1))
      go_ret
      rw [E.out]
      exact O1.ret (below_alloc _ _) (by omega)
    · have E := Lib.hid (E2 (by simp [h3]) rfl)
      have h3' : (els != to) = true := bne_iff_ne.2 (Ne.symm h3)
      clear E1 E2 E3 h1
      go_enter Try.func128, Try.ntmps128
      go_wp2_with (first | (at_builtin; refine app1 O1 rfl rfl rfl rfl (by first | rfl | simp) (by simp) ?_; intro v2 w2 O2) | (at_builtin; refine app1 O0 rfl rfl rfl rfl (by first | rfl | simp) (by simp) ?_; intro v1 w1 O1; have hc1 := O1.bcell; have hz1 := O1.below.size; simp at hz1))
      go_ret
      rw [E.out]
      exact O2.ret (below_alloc _ _) (by omega)
  · have E := Lib.hid (E3 h1 h2)
    have h1' : (fin == 1) = false := by simpa using h1
    have h2' : (fin == 2) = false := by simpa using h2
    clear E1 E2 E3 h1 h2
    go_enter Try.func128, Try.ntmps128
    go_wp2
    go_ret
    rw [E.out]
    exact O0.ret (below_alloc _ _) (by omega)
/-- past an append of one, for a list of arguments -/
theorem ruses_0 (i : In) (v : Value) (w : World) (hv : InV w v i) (h : i.op < 1 ∨ 12 < i.op) :
    Calls Try.prog 127 #[v] w (RetI w (usesI i)) := by
  have H : Hid (usesI i = []) := by
    show _ = _
    unfold usesI readsA readsB
    have e : ∀ k : Int, 1 ≤ k → k ≤ 12 → (i.op == k) = false := fun k _ _ => by simp; omega
    simp [e, show i.op ≠ 9 by omega]
  obtain ⟨va, rfl, hva⟩ := hv
  have O0 := Own.nil (w0 := w.alloc (.cells #[.int .i64 i.op, .int .i64 i.d, .int .i64 i.a, .int .i64 i.b, .int .i64 i.fn, .int .i64 i.obj, .int .i64 i.off, .int .i64 i.size, .int .u32 i.num, va, .bool i.log] 56)) (B := w.heap.size + 1) (by simp)
  go_enter Try.func127, Try.ntmps127
  go_wp2_with (go_at_call 109; refine (fields_0 _ _ h).mono ?_; rintro e w1 ⟨rfl, hb⟩)
  go_loopw [3, 5] (fun v k wr => v = .slice none 0 0 ∧ k = .int .i64 0 ∧ wr = w1) (fun _ _ _ => 0)
  case atStart => exact ⟨rfl, rfl, rfl⟩
  case round =>
    obtain ⟨rfl, rfl, rfl⟩ := hrel
    go_wp2
    go_ret
    rw [H.out]
    exact ⟨_, rfl, OwnI.nil _ _, (below_alloc _ _).trans (hb.mono (by simp))⟩
theorem usesI_in (i : In) (h1 : 1 ≤ i.op) (h2 : i.op ≤ 12) : usesI i = (if fld i.op 1 && i.a != -1 then [i.a] else []) ++ (if fld i.op 2 && i.b != -1 then [i.b] else []) ++ (if fld i.op 8 then i.args.filter (· != -1) else []) := by
  obtain ⟨_, a1, a2, _, _, _, _, _, a8, _⟩ := fld_facts i.op h1 h2
  unfold usesI
  rw [a1, a2, a8]
  simp
theorem ruses_n (i : In) (v : Value) (w : World) (hv : InV w v i) (h1 : 1 ≤ i.op) (h2 : i.op ≤ 12) (h9 : fld i.op 8 = false) :
    Calls Try.prog 127 #[v] w (RetI w (usesI i)) := by
  have H := usesI_in i h1 h2
  rw [h9] at H
  obtain ⟨va, rfl, hva⟩ := hv
  cases e1 : fld i.op 1 <;> cases e2 : fld i.op 2
  all_goals
    rw [e1, e2] at H
    by_cases ha : (i.a != -1) = true <;> by_cases hb : (i.b != -1) = true
  all_goals
    obtain ⟨L, hL⟩ : ∃ L, usesI i = L := ⟨_, rfl⟩
    rw [hL] at H ⊢
    first | (have ha := eq_false_of_ne_true ha) | skip
    first | (have hb := eq_false_of_ne_true hb) | skip
    simp only [ha, hb, Bool.and_true, Bool.and_false, Bool.false_and, Bool.true_and, if_true, if_false, Bool.false_eq_true, List.nil_append, List.append_nil] at H
    have H := Lib.hid H
    clear hL
    go_enter Try.func127, Try.ntmps127
    go_wp2_with (first | (go_at_call 109; refine (fields_c _ _ h1 h2).mono ?_; rintro e w1 ⟨g, rfl, hg, hfl, hbl⟩; have c1 := hfl.c1; have c2 := hfl.c2; have c8 := hfl.c8; obtain ⟨hc, _⟩ := bcell' hbl; have hz := hbl.size; (simp at hz); have hz' : w.heap.size < w1.heap.size := (by omega); have hgl := hfl.lt; have O0 := Own.nil (w0 := w1) (B := w1.heap.size) (Nat.le_refl _)) | (at_builtin; refine app1 O1 rfl rfl rfl rfl (by first | rfl | simp) (by simp) ?_; intro v2 w3 O2; have hc2 := O2.bcell; have hz2 := O2.below.size) | (at_builtin; refine app1 O0 rfl rfl rfl rfl (by first | rfl | simp) (by simp) ?_; intro v1 w2 O1; have hc1 := O1.bcell; have hz1 := O1.below.size))

    go_loopw [3, 5] (fun v k wr => Own w1 w1.heap.size wr v L ∧ k = .int .i64 0) (fun _ _ _ => 0)
    case atStart => exact ⟨by rw [H.out]; assumption, rfl⟩
    case round =>
      obtain ⟨O, rfl⟩ := hrel
      have hcr := O.bcell
      go_wp2
      go_ret
      exact O.ret ((below_alloc _ _).trans (hbl.mono (by simp))) (by omega)
end Go.Proofs.Ytnnhobbabcfogaa
