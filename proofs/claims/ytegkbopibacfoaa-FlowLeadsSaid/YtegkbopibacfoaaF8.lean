/-
  Contracts of the reference's functions of flow: has, within, leads, Preds.
-/
import Derived.Test.YtegkbopibacfoaaF7
set_option linter.all false
namespace Go.Proofs.Ytegkbopibacfoaa
open Go.ChangeShapes Go.WideShapes Go.ChangeAt Go.RowKit
set_option maxHeartbeats 1000000
set_option maxRecDepth 20000

/-- is a number in a list? -/
def hasL (l : List Int) (r : Int) : Bool := l.contains r
theorem any_take_succ (l : List Int) (r : Int) (i : Nat) (h : i < l.length) (h0 : ∀ j, j < i → (l.getD j 0 == r) = false) (h1 : (l.getD i 0 == r) = false) : ∀ j, j < i + 1 → (l.getD j 0 == r) = false := by
  intro j hj
  by_cases e : j = i
  · subst e; exact h1
  · exact h0 j (by omega)
theorem contains_no (l : List Int) (r : Int) (h : ∀ j, j < l.length → (l.getD j 0 == r) = false) : hasL l r = false := by
  unfold hasL
  rw [Bool.eq_false_iff]
  intro hc
  rw [List.contains_iff_mem] at hc
  obtain ⟨j, hj, rfl⟩ := List.getElem_of_mem hc
  have := h j hj
  simp [List.getD, hj] at this
theorem contains_yes (l : List Int) (r : Int) (i : Nat) (h : i < l.length) (h1 : (l.getD i 0 == r) = true) : hasL l r = true := by
  unfold hasL
  rw [List.contains_iff_mem]
  have : l.getD i 0 = r := eq_of_beq h1
  rw [← this]
  simp [List.getD, h]
theorem rhas_c (l : List Int) (v : Value) (r : Int) (w : World) (hv : RdI w v l) (hn : l.length ≤ 1000000) :
    Calls Try.prog 87 #[v, .int .i64 r] w fun e w' => e = .returned (.bool (hasL l r)) ∧ w = w' := by
  obtain ⟨a, c, rfl, hl1, hl2, hcell⟩ := hv
  have HC := Lib.hid hcell
  clear hcell
  go_enter Try.func87, Try.ntmps87
  go_wp2
  go_loop [5] (fun i => ∃ k : Nat, k ≤ l.length ∧ i = .int .i64 k ∧ Hid (∀ j, j < k → (l.getD j 0 == r) = false)) (fun i => l.length - (intOf i).toNat)
  case atStart => exact ⟨0, Nat.zero_le _, rfl, fun j hj => absurd hj (by omega)⟩
  case round =>
    obtain ⟨k, hk, rfl, hno⟩ := hrel
    by_cases hlt : k < l.length
    · obtain ⟨b, o, rfl, hcx⟩ := HC.out k hlt
      simp only [Nat.mul_one, Nat.add_zero] at hcx
      obtain ⟨x, hx⟩ : ∃ x, l.getD k 0 = x := ⟨_, rfl⟩
      rw [hx] at hcx
      have HX := Lib.hid hx
      clear hx
      by_cases hp : (x == r) = true
      · have HP := Lib.hid hp
        go_wp2
        go_ret
        exact ⟨ret_b (contains_yes l r k hlt (by rw [HX.out]; exact HP.out)).symm, rfl⟩
      · have hp := eq_false_of_ne_true hp
        have HP := Lib.hid hp
        go_wp2
        go_round
        case rel => exact ⟨k + 1, by omega, by go_num, any_take_succ l r k hlt hno.out (by rw [HX.out]; exact HP.out)⟩
        case measure => simp [intOf]; omega
    · have H := Lib.hid (contains_no l r fun j hj => hno.out j (by omega))
      go_wp2
      go_ret
      exact ⟨ret_b H.out.symm, rfl⟩
theorem rleads_c (p : Pr) (V : Value) (n : Nat) (r : Int) (w : World) (hv : PrV w V p) (hn : n < p.blks.length) (hlen : p.blks.length ≤ 1000000) :
    Calls Try.prog 56 #[V, .int .i64 (n : Int), .int .i64 r] w fun e w' => e = .returned (.bool (hasL (outsP p n) r)) ∧ Below w.heap.size w w' := by
  have HO : Hid (∀ w', Ext w w' → Calls Try.prog 18 #[V, .int .i64 (n : Int)] w' (RetI w' (outsP p n))) := fun w' he => routsP_c p V n w' (hv.ext he) hn hlen
  have HL : (outsP p n).length ≤ 2 := Nat.le_trans (List.length_filter_le _ _) (outsB_len _)
  obtain ⟨nm, vo, vb, rfl, _⟩ := hv
  generalize outsP p n = l at *
  go_enter Try.func56, Try.ntmps56
  go_wp2_with fail
  refine (HO.out _ (Ext.alloc w _)).mono ?_
  rintro e w1 ⟨v1, rfl, ho, hb⟩
  obtain ⟨a, c, rfl, hl1, hl2, hcell⟩ := ho.rd
  have HC := Lib.hid hcell
  clear hcell ho
  go_wp2_with fail
  go_loop [8] (fun i => ∃ k : Nat, k ≤ l.length ∧ i = .int .i64 k ∧ Hid (∀ j, j < k → (l.getD j 0 == r) = false)) (fun i => l.length - (intOf i).toNat)
  case atStart => exact ⟨0, Nat.zero_le _, rfl, fun j hj => absurd hj (by omega)⟩
  case round =>
    obtain ⟨k, hk, rfl, hno⟩ := hrel
    by_cases hlt : k < l.length
    · obtain ⟨b, o, rfl, hcx⟩ := HC.out k hlt
      simp only [Nat.mul_one, Nat.add_zero] at hcx
      obtain ⟨x, hx⟩ : ∃ x, l.getD k 0 = x := ⟨_, rfl⟩
      rw [hx] at hcx
      have HX := Lib.hid hx
      clear hx
      by_cases hp : (x == r) = true
      · have HP := Lib.hid hp
        go_wp2
        go_ret
        exact ⟨ret_b (contains_yes l r k hlt (by rw [HX.out]; exact HP.out)).symm, (below_alloc _ _).trans (hb.mono (by simp))⟩
      · have hp := eq_false_of_ne_true hp
        have HP := Lib.hid hp
        go_wp2
        go_round
        case rel => exact ⟨k + 1, by omega, by go_num, any_take_succ l r k hlt hno.out (by rw [HX.out]; exact HP.out)⟩
        case measure => simp [intOf]; omega
    · have H := Lib.hid (contains_no l r fun j hj => hno.out j (by omega))
      go_wp2
      go_ret
      exact ⟨ret_b H.out.symm, (below_alloc _ _).trans (hb.mono (by simp))⟩
theorem OwnI.below {w w' : World} {B : Nat} {v : Value} {l : List Int} (h : OwnI w B v l) (hb : Below w.heap.size w w') : OwnI w' B v l := by
  obtain ⟨h1, h2 | ⟨g, cap, cur, h3, h4, h5, r⟩⟩ := h
  · exact ⟨h1, .inl h2⟩
  · exact ⟨h1, .inr ⟨g, cap, cur, h3, h4, (hb.block g (Array.getElem?_eq_some_iff.1 h5).1).trans h5, r⟩⟩
/-- the blocks that lead to a block -/
def predsP (p : Pr) (r : Int) : List Int := ((List.range p.blks.length).filter fun i => hasL (outsP p i) r).map fun i : Nat => (i : Int)
def predsU (p : Pr) (r : Int) (k : Nat) : List Int := ((List.range k).filter fun i => hasL (outsP p i) r).map fun i : Nat => (i : Int)
theorem predsU_yes (p : Pr) (r : Int) (k : Nat) (h : hasL (outsP p k) r = true) : predsU p r (k + 1) = predsU p r k ++ [(k : Int)] := by
  unfold predsU; rw [List.range_succ, List.filter_append, List.map_append, List.filter_cons, h]; rfl
theorem predsU_no (p : Pr) (r : Int) (k : Nat) (h : hasL (outsP p k) r = false) : predsU p r (k + 1) = predsU p r k := by
  unfold predsU; rw [List.range_succ, List.filter_append, List.map_append, List.filter_cons, h]; simp
theorem predsU_le (p : Pr) (r : Int) (k : Nat) : (predsU p r k).length ≤ k := by
  unfold predsU; rw [List.length_map]; exact Nat.le_trans (List.length_filter_le _ _) (by simp)
theorem rpreds_c (p : Pr) (V : Value) (r : Int) (w : World) (hv : PrV w V p) (hlen : p.blks.length ≤ 1000000) :
    Calls Try.prog 25 #[V, .int .i64 r] w (RetI w (predsP p r)) := by
  have HO : Hid (∀ k w', k < p.blks.length → Ext w w' → Calls Try.prog 56 #[V, .int .i64 (k : Int), .int .i64 r] w' fun e w'' => e = .returned (.bool (hasL (outsP p k) r)) ∧ Below w'.heap.size w' w'') := fun k w' hk he => rleads_c p V k r w' (hv.ext he) hk hlen
  obtain ⟨nm, vo, vb, rfl, _, ad, c, rfl, _⟩ := hv
  go_enter Try.func25, Try.ntmps25
  go_wp2_with fail
  obtain ⟨W0, hW0⟩ : ∃ W0, W0 = w.alloc (.cells #[.string nm, .bool p.void, .int .i64 p.params, .int .i64 p.regs, vo, .slice ad p.blks.length c] 25) := ⟨_, rfl⟩
  have hbc : ∀ j : Nat, j < 6 → W0.cell? ⟨w.heap.size, j, none⟩ = #[Value.string nm, .bool p.void, .int .i64 p.params, .int .i64 p.regs, vo, .slice ad p.blks.length c][j]? := fun j _ => by rw [hW0, cell_of_heap (heap_alloc_new w _)]
  have k0 := hbc 0 (by decide)
  have k1 := hbc 1 (by decide)
  have k2 := hbc 2 (by decide)
  have k3 := hbc 3 (by decide)
  have k4 := hbc 4 (by decide)
  have k5 := hbc 5 (by decide)
  simp at k0 k1 k2 k3 k4 k5
  have hz : w.heap.size < W0.heap.size := by rw [hW0]; simp
  have HX : Hid (Ext w W0) := by rw [hW0]; exact Ext.alloc w _
  have HB : Hid (Below w.heap.size w W0) := by rw [hW0]; exact below_alloc w _
  rw [← hW0]
  clear hW0 hbc
  go_loopw [5, 6] (fun v i wr => ∃ k : Nat, k ≤ p.blks.length ∧ i = .int .i64 k ∧ Own W0 W0.heap.size wr v (predsU p r k)) (fun _ i _ => p.blks.length - (intOf i).toNat)
  case atStart => exact ⟨0, Nat.zero_le _, rfl, (show predsU p r 0 = [] from rfl) ▸ Own.nil (Nat.le_refl _)⟩
  case round =>
    obtain ⟨k, hk, rfl, O⟩ := hrel
    have hcr := O.bcell
    have hl := predsU_le p r k
    by_cases hlt : k < p.blks.length
    · have E := HO.out k wr hlt (O.old HX.out (by omega))
      cases hp : hasL (outsP p k) r
      · have HF := Lib.hid (predsU_no p r k hp)
        rw [hp] at E
        have E := Lib.hid E
        clear hp
        go_wp2_with (go_at_call 56; refine E.out.mono ?_; rintro e w2 ⟨rfl, hb2⟩)
        go_roundw
        case rel => exact ⟨k + 1, by omega, by go_num, by rw [HF.out]; exact ⟨(O.own).below hb2, O.below.trans (hb2.mono O.below.size), O.le⟩⟩
        case measure => simp [intOf]; omega
      · have HF := Lib.hid (predsU_yes p r k hp)
        rw [hp] at E
        have E := Lib.hid E
        clear hp
        go_wp2_with (first | (go_at_call 56; refine E.out.mono ?_; rintro e w2 ⟨rfl, hb2⟩; have O2 : Own W0 W0.heap.size w2 u5 (predsU p r k) := ⟨(O.own).below hb2, O.below.trans (hb2.mono O.below.size), O.le⟩) | (at_builtin; refine app1 O2 rfl rfl rfl rfl (by first | rfl | simp) (by omega) ?_; intro v1 w3 O1))
        go_roundw
        case rel => exact ⟨k + 1, by omega, by go_num, by rw [HF.out]; exact O1⟩
        case measure => simp [intOf]; omega
    · obtain rfl : k = p.blks.length := by omega
      go_wp2
      go_ret
      exact O.ret HB.out (by omega)
end Go.Proofs.Ytegkbopibacfoaa
