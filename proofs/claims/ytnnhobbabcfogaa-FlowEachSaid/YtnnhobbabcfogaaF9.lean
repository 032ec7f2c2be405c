/-
  The contract of the reference's within: what comes first in a block from a place on.
-/
import Derived.Test.YtnnhobbabcfogaaF8
import Derived.Test.YtnnhobbabcfogaaM2
set_option linter.all false
namespace Go.Proofs.Ytnnhobbabcfogaa
open Go.ChangeShapes Go.WideShapes Go.ChangeAt Go.RowKit
set_option maxHeartbeats 1000000
set_option maxRecDepth 20000

/-- what comes first among instructions: 1: the register is read; 2: it is set; 0: neither -/
def withinI (r : Int) : List In → Int
  | [] => 0
  | i :: l => if hasL (usesI i) r = true then 1 else if defI i = r then 2 else withinI r l
def endReads (b : Bk) (r : Int) : Bool := (b.fin == 2 || b.fin == 3) && b.a == r
def withinB (b : Bk) (k : Nat) (r : Int) : Int := if withinI r (b.ins.drop k) = 0 then (if endReads b r = true then 1 else 0) else withinI r (b.ins.drop k)
theorem drop_cons (l : List In) (k : Nat) (h : k < l.length) : l.drop k = l.getD k default :: l.drop (k + 1) := by
  rw [List.drop_eq_getElem_cons h]; simp [List.getD, h]
theorem withinI_1 (r : Int) (l : List In) (k : Nat) (h : k < l.length) (h1 : hasL (usesI (l.getD k default)) r = true) : withinI r (l.drop k) = 1 := by
  rw [drop_cons l k h]; unfold withinI; rw [if_pos h1]
theorem withinI_2 (r : Int) (l : List In) (k : Nat) (h : k < l.length) (h1 : hasL (usesI (l.getD k default)) r = false) (h2 : defI (l.getD k default) = r) : withinI r (l.drop k) = 2 := by
  rw [drop_cons l k h]; unfold withinI; rw [if_neg (by rw [h1]; exact Bool.false_ne_true), if_pos h2]
theorem withinI_3 (r : Int) (l : List In) (k : Nat) (h : k < l.length) (h1 : hasL (usesI (l.getD k default)) r = false) (h2 : ¬ defI (l.getD k default) = r) : withinI r (l.drop k) = withinI r (l.drop (k + 1)) := by
  rw [drop_cons l k h]; conv => lhs; unfold withinI
  rw [if_neg (by rw [h1]; exact Bool.false_ne_true), if_neg h2]
/-- what a row's instruction is, by value, in every world that has grown out of this one -/
theorem rwithin_c (B : Bk) (V : Value) (k0 : Nat) (r : Int) (w : World) (hv : BkV w V B) (hk0 : k0 ≤ B.ins.length) (hn : B.ins.length ≤ 1000000) (hargs : ∀ k, k < B.ins.length → (B.ins.getD k default).args.length ≤ 1000) :
    Calls Try.prog 92 #[V, .int .i64 (k0 : Int), .int .i64 r] w fun e w' => e = .returned (.int .i64 (withinB B k0 r)) ∧ Below w.heap.size w w' := by
  obtain ⟨ins, fin, a, to, els⟩ := B
  obtain ⟨vi, rfl, hvi⟩ := hv
  have hvi0 := hvi
  obtain ⟨ad, c, rfl, hl1, hl2, -⟩ := hvi
  simp only [] at hk0 hn hargs hvi0 hl1
  have HA := Lib.hid hargs
  have HI := Lib.hid hvi0
  clear hargs hvi0
  go_enter Try.func92, Try.ntmps92
  go_wp2_with fail
  obtain ⟨W0, hW0⟩ : ∃ W0, W0 = w.alloc (.cells #[.slice ad ins.length c, .int .i64 fin, .int .i64 a, .int .i64 to, .int .i64 els] 48) := ⟨_, rfl⟩
  have hbc : ∀ j : Nat, j < 5 → W0.cell? ⟨w.heap.size, j, none⟩ = #[Value.slice ad ins.length c, .int .i64 fin, .int .i64 a, .int .i64 to, .int .i64 els][j]? := fun j _ => by rw [hW0, cell_of_heap (heap_alloc_new w _)]
  have q0 := hbc 0 (by decide)
  have q1 := hbc 1 (by decide)
  have q2 := hbc 2 (by decide)
  simp at q0 q1 q2
  have hz : w.heap.size < W0.heap.size := by rw [hW0]; simp
  have HX : Hid (Ext w W0) := by rw [hW0]; exact Ext.alloc w _
  have HB : Hid (Below w.heap.size w W0) := by rw [hW0]; exact below_alloc w _
  rw [← hW0]
  clear hW0 hbc
  go_loopw [7] (fun i wr => ∃ k : Nat, k ≤ ins.length ∧ i = .int .i64 k ∧ Below W0.heap.size W0 wr ∧ Hid (withinI r (ins.drop k0) = withinI r (ins.drop k))) (fun i _ => ins.length - (intOf i).toNat)
  case atStart => exact ⟨k0, hk0, rfl, Below.refl _ _, rfl⟩
  case round =>
    obtain ⟨k, hk, rfl, hb, HW⟩ := hrel
    obtain ⟨hcr, -⟩ := bcell' hb
    have hzr := hb.size
    by_cases hlt : k < ins.length
    · have hX := HX.out.trans (Ext.below hb)
      have hI := (HI.out.ext hX).at
      obtain ⟨b, o, va, rfl, hbw, hva, c0, c1, c2, c3, c4, c5, c6, c7, c8, c9, c10⟩ := hI.2 k hlt
      have ha := HA.out k hlt
      have W1 := withinI_1 r ins k hlt
      have W2 := withinI_2 r ins k hlt
      have W3 := withinI_3 r ins k hlt
      generalize ins.getD k default = I at *
      have EU : Hid (∀ w', Below wr.heap.size wr w' → Calls Try.prog 127 #[.agg #[.int .i64 I.op, .int .i64 I.d, .int .i64 I.a, .int .i64 I.b, .int .i64 I.fn, .int .i64 I.obj, .int .i64 I.off, .int .i64 I.size, .int .u32 I.num, va, .bool I.log]] w' (RetI w' (usesI I))) :=
        fun w' h' => ruses_c I _ w' ⟨va, rfl, hva.ext (Ext.below h')⟩ ha
      have ED : Hid (∀ w', Below wr.heap.size wr w' → Calls Try.prog 62 #[.agg #[.int .i64 I.op, .int .i64 I.d, .int .i64 I.a, .int .i64 I.b, .int .i64 I.fn, .int .i64 I.obj, .int .i64 I.off, .int .i64 I.size, .int .u32 I.num, va, .bool I.log]] w' fun e w'' => e = .returned (.int .i64 (defI I)) ∧ Below w'.heap.size w' w'') :=
        fun w' h' => rdef_c I _ w' ⟨va, rfl, hva.ext (Ext.below h')⟩
      have hul : (usesI I).length ≤ 1000000 := by
        unfold usesI
        have := List.length_filter_le (· != -1) I.args
        simp only [List.length_append]
        split <;> split <;> split <;> simp <;> omega
      clear hI hva ha hX
      have hzr' : w.heap.size < wr.heap.size := by omega
      go_wp2_with fail
      refine (EU.out _ (Below.refl _ _)).mono ?_
      rintro e w1 ⟨v1, rfl, ho1, hb1⟩
      obtain ⟨hc1, -⟩ := bcell' hb1
      have EH := fun w' (h' : Below w1.heap.size w1 w') => rhas_c (usesI I) v1 r w' (ho1.rd.ext (Ext.below h')) hul
      have hz1 := hb1.size
      have hz1' : w.heap.size < w1.heap.size := by omega
      cases hh : hasL (usesI I) r
      · have EH' : Hid (Calls Try.prog 126 #[v1, .int .i64 r] w1 fun e w'' => e = .returned (.bool false) ∧ w1 = w'') := (EH _ (Below.refl _ _)).mono fun _ _ h => ⟨h.1.trans (ret_b hh), h.2⟩
        clear EH ho1 hul
        have hW3 := W3 hh
        have hW2 := W2 hh
        clear W1 W2 W3
        obtain ⟨D, hD⟩ : ∃ D, defI I = D := ⟨_, rfl⟩
        rw [hD] at hW2 hW3
        have ED' : Hid (Calls Try.prog 62 #[.agg #[.int .i64 I.op, .int .i64 I.d, .int .i64 I.a, .int .i64 I.b, .int .i64 I.fn, .int .i64 I.obj, .int .i64 I.off, .int .i64 I.size, .int .u32 I.num, va, .bool I.log]] w1 fun e w'' => e = .returned (.int .i64 D) ∧ Below w1.heap.size w1 w'') := by
          rw [← hD]; exact ED.out _ hb1
        clear hD ED EU hh
        by_cases hd : D = r
        · have HR := Lib.hid (hW2 hd)
          have hd' : (D == r) = true := beq_iff_eq.2 hd
          clear hW2 hW3 hd
          go_wp2_with (first | (go_at_call 126; refine EH'.out.mono ?_; rintro e w' ⟨rfl, rfl⟩) | (go_at_call 62; refine ED'.out.mono ?_; rintro e w2 ⟨rfl, hb2⟩))
          go_ret
          refine ⟨ret_i ?_, ((HB.out.trans (hb.mono (by omega))).trans (hb1.mono (by omega))).trans (hb2.mono (by omega))⟩
          unfold withinB
          simp only []
          rw [HW.out, HR.out]
          rfl
        · have HR := Lib.hid (hW3 hd)
          have hd' : (D == r) = false := beq_eq_false_iff_ne.2 hd
          clear hW2 hW3 hd
          go_wp2_with (first | (go_at_call 126; refine EH'.out.mono ?_; rintro e w' ⟨rfl, rfl⟩) | (go_at_call 62; refine ED'.out.mono ?_; rintro e w2 ⟨rfl, hb2⟩))
          go_roundw
          case rel => exact ⟨k + 1, by omega, by go_num, (hb.trans (hb1.mono (by omega))).trans (hb2.mono (by omega)), HW.out.trans HR.out⟩
          case measure => simp [intOf]; omega
      · have EH' : Hid (Calls Try.prog 126 #[v1, .int .i64 r] w1 fun e w'' => e = .returned (.bool true) ∧ w1 = w'') := (EH _ (Below.refl _ _)).mono fun _ _ h => ⟨h.1.trans (ret_b hh), h.2⟩
        have HR := Lib.hid (W1 hh)
        clear EH ho1 hul hh W1 W2 W3 ED EU
        go_wp2_with (first | (go_at_call 126; refine EH'.out.mono ?_; rintro e w' ⟨rfl, rfl⟩))
        go_ret
        refine ⟨ret_i ?_, (HB.out.trans (hb.mono (by omega))).trans (hb1.mono (by omega))⟩
        unfold withinB
        simp only []
        rw [HW.out, HR.out]
        rfl
    · have HR : Hid (withinI r (ins.drop k0) = 0) := HW.out.trans (by rw [List.drop_of_length_le (by omega)]; rfl)
      go_wp2
      all_goals
        go_ret
        refine ⟨ret_i ?_, HB.out.trans (hb.mono (by omega))⟩
        unfold withinB endReads
        simp only []
        rw [HR.out]
        simp [*]
end Go.Proofs.Ytnnhobbabcfogaa
