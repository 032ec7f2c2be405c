/-
  Contracts: the reference's list of registers that are read; a predicate over blocks; slices.IndexFunc and slices.DeleteFunc.
-/
import Derived.Test.YtnnhobbabcfogaaF4
import Derived.BigQuiet
import Derived.Test.YtnnhobbabcfogaaQ
set_option linter.all false
namespace Go.Proofs.Ytnnhobbabcfogaa
open Go.ChangeShapes Go.WideShapes Go.ChangeAt Go.RowKit
set_option maxHeartbeats 1000000
set_option maxRecDepth 20000

theorem fld9_0 : fld 9 1 = false := by decide
theorem fld9_2 : fld 9 2 = false := by decide
theorem fld9_8 : fld 9 8 = true := by decide
theorem ruses_9 (i : In) (v : Value) (w : World) (hv : InV w v i) (h9 : i.op = 9) (hn : i.args.length ≤ 1000) :
    Calls Try.prog 127 #[v] w (RetI w (usesI i)) := by
  obtain ⟨va, rfl, a, c, rfl, hl1, hl2, hcell⟩ := hv
  have H := Lib.hid (usesI_9 i h9)
  have rA := fld9_0
  have rB := fld9_2
  have rC := fld9_8
  have HC := Lib.hid hcell
  clear hcell
  go_enter Try.func127, Try.ntmps127
  go_wp2_with (go_at_call 109; refine (fields_c 9 _ (by decide) (by decide)).mono ?_; rintro e w1 ⟨g, rfl, hg, hfl, hbl⟩; have c1 := hfl.c1; have c2 := hfl.c2; have c8 := hfl.c8; obtain ⟨hc, _⟩ := bcell' hbl; have hz := hbl.size; (simp at hz); have hz' : w.heap.size < w1.heap.size := (by omega); have hgl := hfl.lt; have O0 := Own.nil (w0 := w1) (B := w1.heap.size) (Nat.le_refl _))
  have HX := Lib.hid ((Ext.alloc w (.cells #[.int .i64 9, .int .i64 i.d, .int .i64 i.a, .int .i64 i.b, .int .i64 i.fn, .int .i64 i.obj, .int .i64 i.off, .int .i64 i.size, .int .u32 i.num, .slice a i.args.length c, .bool i.log] 56)).trans (Ext.below hbl))
  go_loopw [3, 5] (fun v k wr => ∃ n : Nat, n ≤ i.args.length ∧ k = .int .i64 n ∧ Own w1 w1.heap.size wr v ((i.args.take n).filter (· != -1))) (fun _ k _ => i.args.length - (intOf k).toNat)
  case atStart => exact ⟨0, Nat.zero_le _, rfl, O0⟩
  case round =>
    obtain ⟨n, hk, rfl, O⟩ := hrel
    have hl := filter_take_le (· != -1) i.args n
    have hcr := O.bcell
    by_cases hlt : n < i.args.length
    · obtain ⟨b, o, rfl, hcx⟩ := HC.out n hlt
      have hc' := O.old HX.out (by omega) _ _ hcx
      simp only [Nat.mul_one, Nat.add_zero] at hc'
      clear hcx
      have hF1 := filter_snoc_yes (· != -1) i.args n hlt
      have hF2 := filter_snoc_no (· != -1) i.args n hlt
      generalize i.args.getD n 0 = x at hc' hF1 hF2
      by_cases hp : (x != -1) = true
      · have HF := Lib.hid (hF1 hp)
        clear hF1 hF2
        go_wp2_with (at_builtin; refine app1 O rfl rfl rfl rfl (by simp) (by omega) ?_; intro v1 w2 O1)
        go_roundw
        case rel => exact ⟨n + 1, by omega, by go_num, by rw [HF.out]; exact O1⟩
        case measure => simp [intOf]; omega
      · have hp : (x != -1) = false := by simpa using hp
        have HF := Lib.hid (hF2 hp)
        clear hF1 hF2
        go_wp2
        go_roundw
        case rel => exact ⟨n + 1, by omega, by go_num, by rw [HF.out]; exact O⟩
        case measure => simp [intOf]; omega
    · have HF : Hid ((i.args.take n).filter (· != -1) = i.args.filter (· != -1)) := by show _ = _; rw [List.take_of_length_le (by omega)]
      go_wp2
      go_ret
      rw [H.out, ← HF.out]
      exact O.ret ((below_alloc _ _).trans (hbl.mono (by simp))) (by omega)
theorem ruses_c (i : In) (v : Value) (w : World) (hv : InV w v i) (hn : i.args.length ≤ 1000) :
    Calls Try.prog 127 #[v] w (RetI w (usesI i)) := by
  by_cases h : i.op < 1 ∨ 12 < i.op
  · exact ruses_0 i v w hv h
  · by_cases h9 : i.op = 9
    · exact ruses_9 i v w hv h9 hn
    · refine ruses_n i v w hv (by omega) (by omega) ?_
      rw [(fld_facts i.op (by omega) (by omega)).2.2.2.2.2.2.2.2.1]
      simp [h9]

/-- is it no block of so many? -/
def offB (n : Nat) (x : Int) : Bool := decide (x < 0) || decide ((n : Int) ≤ x)
theorem outs1_c (w : World) (x : Int) (pb : Nat) (a : Option Addr) (n c : Nat) (hc : w.cell? ⟨pb, 5, none⟩ = some (.slice a n c)) :
    Calls Try.prog 124 #[.int .i64 x, .pointer (some ⟨pb, 0, none⟩)] w fun e w' => e = .returned (.bool (offB n x)) ∧ w = w' := by
  by_cases h : x < 0
  · have H : Hid (offB n x = true) := by show _ = _; unfold offB; simp [h]
    go_enter Try.func124, Try.ntmps124
    go_wp2
    go_ret
    exact ⟨ret_b H.out.symm, rfl⟩
  · have H : Hid (offB n x = decide ((n : Int) ≤ x)) := by show _ = _; unfold offB; simp [h]
    have h' : decide (x < 0) = false := by simpa using h
    go_enter Try.func124, Try.ntmps124
    go_wp2
    go_ret
    exact ⟨ret_b H.out.symm, rfl⟩
def IdxR (p : Int → Bool) (l : List Int) (r : Int) : Prop := (r = -1 ∧ ∀ j, j < l.length → p (l.getD j 0) = false) ∨ ∃ k : Nat, k < l.length ∧ r = k ∧ p (l.getD k 0) = true ∧ ∀ j, j < k → p (l.getD j 0) = false
theorem index_c (l : List Int) (v : Value) (w : World) (hv : RdI w v l) (pb : Nat) (a : Option Addr) (n c : Nat) (hc : w.cell? ⟨pb, 5, none⟩ = some (.slice a n c)) (hn : l.length ≤ 1000000) :
    Calls Try.prog 142 #[v, .func (.func 124) #[] #[.pointer (some ⟨pb, 0, none⟩)]] w fun e w' => ∃ r, e = .returned (.int .i64 r) ∧ IdxR (offB n) l r ∧ w = w' := by
  obtain ⟨ad, cp, rfl, hl1, hl2, hcell⟩ := hv
  have HC := Lib.hid hcell
  clear hcell
  go_enter Try.func142, Try.ntmps142
  go_wp2
  go_loop [8] (fun i => ∃ k : Nat, k ≤ l.length ∧ i = .int .i64 k ∧ Hid (∀ j, j < k → offB n (l.getD j 0) = false)) (fun i => l.length - (intOf i).toNat)
  case atStart => exact ⟨0, Nat.zero_le _, rfl, fun j hj => absurd hj (by omega)⟩
  case round =>
    obtain ⟨k, hk, rfl, hno⟩ := hrel
    by_cases hlt : k < l.length
    · obtain ⟨b, o, rfl, hcx⟩ := HC.out k hlt
      simp only [Nat.mul_one, Nat.add_zero] at hcx
      obtain ⟨x, hx⟩ : ∃ x, l.getD k 0 = x := ⟨_, rfl⟩
      rw [hx] at hcx
      have HX := Lib.hid hx
      clear hx
      cases hp : offB n x
      · have HP := Lib.hid hp
        have E : Hid (∀ w : World, w.cell? ⟨pb, 5, none⟩ = some (.slice a n c) → Calls Try.prog 124 #[.int .i64 x, .pointer (some ⟨pb, 0, none⟩)] w fun e w' => e = .returned (.bool false) ∧ w = w') := fun w hw => (outs1_c w x pb a n c hw).mono fun _ _ h => ⟨h.1.trans (ret_b hp), h.2⟩
        clear hp
        go_wp2_with (go_at_call 124; refine (E.out _ hc).mono ?_; rintro e w' ⟨rfl, rfl⟩)
        go_round
        case rel =>
          refine ⟨k + 1, by omega, by go_num, fun j hj => ?_⟩
          by_cases hjk : j = k
          · subst hjk; rw [HX.out]; exact HP.out
          · exact hno.out j (by omega)
        case measure => simp [intOf]; omega
      · have HP := Lib.hid hp
        have E : Hid (∀ w : World, w.cell? ⟨pb, 5, none⟩ = some (.slice a n c) → Calls Try.prog 124 #[.int .i64 x, .pointer (some ⟨pb, 0, none⟩)] w fun e w' => e = .returned (.bool true) ∧ w = w') := fun w hw => (outs1_c w x pb a n c hw).mono fun _ _ h => ⟨h.1.trans (ret_b hp), h.2⟩
        clear hp
        go_wp2_with (go_at_call 124; refine (E.out _ hc).mono ?_; rintro e w' ⟨rfl, rfl⟩)
        go_ret
        exact ⟨_, rfl, .inr ⟨k, hlt, rfl, by rw [HX.out]; exact HP.out, hno.out⟩, rfl⟩
    · go_wp2
      go_ret
      exact ⟨_, rfl, .inl ⟨rfl, fun j hj => hno.out j (by omega)⟩, rfl⟩
end Go.Proofs.Ytnnhobbabcfogaa
