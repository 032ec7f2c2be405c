/-
  Contracts of the reference's functions of flow that look at blocks: Outs, leads, Preds, has, within.; Contracts of the reference's functions of flow: has, within, leads, Preds.
-/
import Derived.Test.YtnnhobbabcfogaaDoorZShapeThreads15

set_option linter.all false
namespace Go.Proofs.YtnnhobbabcfogaaDoor
open Go.ChangeShapes Go.WideShapes Go.ChangeAt Go.RowKit
set_option maxHeartbeats 1000000
set_option maxRecDepth 20000

theorem Own.drewN {w0 w : World} {B : Nat} {v : Value} {l : List Int} (h : Own w0 B w v l) (n : Nat) : Own w0 B (w.drewN n) v l :=
  ⟨h.own, ⟨h.below.os, h.below.tape, h.below.output, h.below.size, h.below.block⟩, h.le⟩
def inP (p : Pr) (t : Int) : Bool := decide (0 ≤ t) && decide (t < p.blks.length)
theorem outsP_eq (p : Pr) (n : Nat) : outsP p n = (outsB (p.blks.getD n default)).filter (inP p) := rfl
theorem routsP_c (p : Pr) (V : Value) (n : Nat) (w : World) (hv : PrV w V p) (hn : n < p.blks.length) (hlen : p.blks.length ≤ 1000000) :
    Calls Tryd.prog 88 #[V, .int .i64 (n : Int)] w (RetI w (outsP p n)) := by
  obtain ⟨nm, vo, vb, rfl, hvo, a, c, rfl, hc1, hc2, hcell⟩ := hv
  obtain ⟨b, o, rfl, ⟨vi, c0, hvi⟩, c1, c2, c3, c4⟩ := hcell n hn
  simp only [Nat.add_zero] at c0
  have hbw : b < w.heap.size := World.block_lt_of_cell? w _ c0
  clear hcell
  have H := Lib.hid (outsP_eq p n)
  have HB : Hid (∀ w', Ext w w' → Calls Tryd.prog 26 #[.agg #[vi, .int .i64 (p.blks.getD n default).fin, .int .i64 (p.blks.getD n default).a, .int .i64 (p.blks.getD n default).to, .int .i64 (p.blks.getD n default).els]] w' (RetI w' (outsB (p.blks.getD n default)))) :=
    fun w' he => routs_c _ _ _ ⟨vi, rfl, hvi.ext he⟩
  have HL := outsB_len (p.blks.getD n default)
  generalize p.blks.getD n default = B at *
  go_enter Tryd.func88, Tryd.ntmps88
  go_wp2_with fail
  refine (HB.out _ (Ext.alloc w _)).mono ?_
  rintro e w1 ⟨v1, rfl, ho, hb⟩
  have hbc : w1.cell? ⟨w.heap.size, 5, none⟩ = some (.slice (some ⟨b, o, none⟩) p.blks.length c) := by
    rw [hb.cell (by simp)]; simp [go_sem]
  have hz := hb.size
  simp at hz
  have hz' : w.heap.size < w1.heap.size := by omega
  obtain ⟨ad, cp, rfl, hl1, hl2, hcell⟩ := ho.rd
  clear ho
  clear c0 c1 c2 c3 c4
  have HC := Lib.hid hcell
  clear hcell
  have HE : Hid (Ext w1 w1) := Ext.refl _
  generalize outsB B = L at *
  go_wp2_with fail
  go_loopw [5, 7] (fun v k wr => ∃ i : Nat, i ≤ L.length ∧ k = .int .i64 i ∧ Own w1 w1.heap.size wr v ((L.take i).filter (inP p))) (fun _ k _ => L.length - (intOf k).toNat)
  case atStart => exact ⟨0, Nat.zero_le _, rfl, Own.nil (Nat.le_refl _)⟩
  case round =>
    obtain ⟨i, hk, rfl, O⟩ := hrel
    have hl := filter_take_le (inP p) L i
    have hcr := O.bcell
    by_cases hlt : i < L.length
    · obtain ⟨b2, o2, rfl, hcx⟩ := HC.out i hlt
      have hc' := O.old HE.out (Nat.le_refl _) _ _ hcx
      simp only [Nat.mul_one, Nat.add_zero] at hc'
      clear hcx
      have hF1 := filter_snoc_yes (inP p) L i hlt
      have hF2 := filter_snoc_no (inP p) L i hlt
      generalize L.getD i 0 = x at hc' hF1 hF2
      by_cases h0 : 0 ≤ x
      · by_cases h1 : x < (p.blks.length : Int)
        · have HF := Lib.hid (hF1 (by unfold inP; simp [h0, h1]))
          clear hF1 hF2
          go_wp2_with fail
          go_quiet (fail)
          obtain ⟨wq, hq⟩ : ∃ wq, wq = wr.drewN nq := ⟨_, rfl⟩
          rw [← hq]
          have Oq : Own w1 w1.heap.size wq u5 ((L.take i).filter (inP p)) := hq ▸ O.drewN nq
          have hcq : wq.cell? ⟨b2, o2 + i, none⟩ = some (.int .i64 x) := hq ▸ hc'
          clear hq O hcr hc'
          go_wp2_with (at_builtin; refine app1 Oq rfl rfl rfl rfl (by first | rfl | simp) (by omega) ?_; intro v1 w2 O1)
          go_roundw
          case rel => exact ⟨i + 1, by omega, by go_num, by rw [HF.out]; exact O1⟩
          case measure => simp [intOf]; omega
        · have h1' : decide (x < (p.blks.length : Int)) = false := by simpa using h1
          have HF := Lib.hid (hF2 (by unfold inP; simp [h1]))
          clear hF1 hF2
          go_wp2_with fail
          go_quiet (fail)
          have Oq := O.drewN nq
          go_wp2
          go_roundw
          case rel => exact ⟨i + 1, by omega, by go_num, by rw [HF.out]; exact Oq⟩
          case measure => simp [intOf]; omega
      · have h0' : decide (0 ≤ x) = false := by simpa using h0
        have HF := Lib.hid (hF2 (by unfold inP; simp [h0]))
        clear hF1 hF2
        go_wp2_with fail
        go_quiet (fail)
        have Oq := O.drewN nq
        go_wp2
        go_roundw
        case rel => exact ⟨i + 1, by omega, by go_num, by rw [HF.out]; exact Oq⟩
        case measure => simp [intOf]; omega
    · have HF : Hid ((L.take i).filter (inP p) = L.filter (inP p)) := by show _ = _; rw [List.take_of_length_le (by omega)]
      go_wp2
      go_ret
      rw [H.out, ← HF.out]
      exact O.ret ((below_alloc _ _).trans (hb.mono (by simp))) (by omega)
end Go.Proofs.YtnnhobbabcfogaaDoor

set_option linter.all false
namespace Go.Proofs.YtnnhobbabcfogaaDoor
open Go.ChangeShapes Go.WideShapes Go.ChangeAt Go.RowKit
set_option maxHeartbeats 1000000
set_option maxRecDepth 20000

/-- is a number in a list? -/
def hasL (l : List Int) (r : Int) : Bool := l.contains r
theorem any_take_succ (l : List Int) (r : Int) (i : Nat) (h : i < l.length) (h0 : ∀ j, j < i → (l.getD j 0 == r) = false) (h1 : (l.getD i 0 == r) = false) : ∀ j, j < i + 1 → (l.getD j 0 == r) = false := by
  intro j hj
  by_cases e : j = i
  · subst e; exact h1
  · exact h0 j (by omega)
theorem contains_no (l : List Int) (r : Int) (h : ∀ j, j < l.length → (l.getD j 0 == r) = false) : hasL l r = false := by
  unfold hasL
  rw [Bool.eq_false_iff]
  intro hc
  rw [List.contains_iff_mem] at hc
  obtain ⟨j, hj, rfl⟩ := List.getElem_of_mem hc
  have := h j hj
  simp [List.getD, hj] at this
theorem contains_yes (l : List Int) (r : Int) (i : Nat) (h : i < l.length) (h1 : (l.getD i 0 == r) = true) : hasL l r = true := by
  unfold hasL
  rw [List.contains_iff_mem]
  have : l.getD i 0 = r := eq_of_beq h1
  rw [← this]
  simp [List.getD, h]
theorem rhas_c (l : List Int) (v : Value) (r : Int) (w : World) (hv : RdI w v l) (hn : l.length ≤ 1000000) :
    Calls Tryd.prog 115 #[v, .int .i64 r] w fun e w' => e = .returned (.bool (hasL l r)) ∧ w = w' := by
  obtain ⟨a, c, rfl, hl1, hl2, hcell⟩ := hv
  have HC := Lib.hid hcell
  clear hcell
  go_enter Tryd.func115, Tryd.ntmps115
  go_wp2
  go_loop [5] (fun i => ∃ k : Nat, k ≤ l.length ∧ i = .int .i64 k ∧ Hid (∀ j, j < k → (l.getD j 0 == r) = false)) (fun i => l.length - (intOf i).toNat)
  case atStart => exact ⟨0, Nat.zero_le _, rfl, fun j hj => absurd hj (by omega)⟩
  case round =>
    obtain ⟨k, hk, rfl, hno⟩ := hrel
    by_cases hlt : k < l.length
    · obtain ⟨b, o, rfl, hcx⟩ := HC.out k hlt
      simp only [Nat.mul_one, Nat.add_zero] at hcx
      obtain ⟨x, hx⟩ : ∃ x, l.getD k 0 = x := ⟨_, rfl⟩
      rw [hx] at hcx
      have HX := Lib.hid hx
      clear hx
      by_cases hp : (x == r) = true
      · have HP := Lib.hid hp
        go_wp2
        go_ret
        exact ⟨ret_b (contains_yes l r k hlt (by rw [HX.out]; exact HP.out)).symm, rfl⟩
      · have hp := eq_false_of_ne_true hp
        have HP := Lib.hid hp
        go_wp2
        go_round
        case rel => exact ⟨k + 1, by omega, by go_num, any_take_succ l r k hlt hno.out (by rw [HX.out]; exact HP.out)⟩
        case measure => simp [intOf]; omega
    · have H := Lib.hid (contains_no l r fun j hj => hno.out j (by omega))
      go_wp2
      go_ret
      exact ⟨ret_b H.out.symm, rfl⟩
theorem rleads_c (p : Pr) (V : Value) (n : Nat) (r : Int) (w : World) (hv : PrV w V p) (hn : n < p.blks.length) (hlen : p.blks.length ≤ 1000000) :
    Calls Tryd.prog 71 #[V, .int .i64 (n : Int), .int .i64 r] w fun e w' => e = .returned (.bool (hasL (outsP p n) r)) ∧ Below w.heap.size w w' := by
  have HO : Hid (∀ w', Ext w w' → Calls Tryd.prog 88 #[V, .int .i64 (n : Int)] w' (RetI w' (outsP p n))) := fun w' he => routsP_c p V n w' (hv.ext he) hn hlen
  have HL : (outsP p n).length ≤ 2 := Nat.le_trans (List.length_filter_le _ _) (outsB_len _)
  obtain ⟨nm, vo, vb, rfl, _⟩ := hv
  generalize outsP p n = l at *
  go_enter Tryd.func71, Tryd.ntmps71
  go_wp2_with fail
  refine (HO.out _ (Ext.alloc w _)).mono ?_
  rintro e w1 ⟨v1, rfl, ho, hb⟩
  obtain ⟨a, c, rfl, hl1, hl2, hcell⟩ := ho.rd
  have HC := Lib.hid hcell
  clear hcell ho
  go_wp2_with fail
  go_loop [8] (fun i => ∃ k : Nat, k ≤ l.length ∧ i = .int .i64 k ∧ Hid (∀ j, j < k → (l.getD j 0 == r) = false)) (fun i => l.length - (intOf i).toNat)
  case atStart => exact ⟨0, Nat.zero_le _, rfl, fun j hj => absurd hj (by omega)⟩
  case round =>
    obtain ⟨k, hk, rfl, hno⟩ := hrel
    by_cases hlt : k < l.length
    · obtain ⟨b, o, rfl, hcx⟩ := HC.out k hlt
      simp only [Nat.mul_one, Nat.add_zero] at hcx
      obtain ⟨x, hx⟩ : ∃ x, l.getD k 0 = x := ⟨_, rfl⟩
      rw [hx] at hcx
      have HX := Lib.hid hx
      clear hx
      by_cases hp : (x == r) = true
      · have HP := Lib.hid hp
        go_wp2
        go_ret
        exact ⟨ret_b (contains_yes l r k hlt (by rw [HX.out]; exact HP.out)).symm, (below_alloc _ _).trans (hb.mono (by simp))⟩
      · have hp := eq_false_of_ne_true hp
        have HP := Lib.hid hp
        go_wp2
        go_round
        case rel => exact ⟨k + 1, by omega, by go_num, any_take_succ l r k hlt hno.out (by rw [HX.out]; exact HP.out)⟩
        case measure => simp [intOf]; omega
    · have H := Lib.hid (contains_no l r fun j hj => hno.out j (by omega))
      go_wp2
      go_ret
      exact ⟨ret_b H.out.symm, (below_alloc _ _).trans (hb.mono (by simp))⟩
theorem OwnI.below {w w' : World} {B : Nat} {v : Value} {l : List Int} (h : OwnI w B v l) (hb : Below w.heap.size w w') : OwnI w' B v l := by
  obtain ⟨h1, h2 | ⟨g, cap, cur, h3, h4, h5, r⟩⟩ := h
  · exact ⟨h1, .inl h2⟩
  · exact ⟨h1, .inr ⟨g, cap, cur, h3, h4, (hb.block g (Array.getElem?_eq_some_iff.1 h5).1).trans h5, r⟩⟩
/-- the blocks that lead to a block -/
def predsP (p : Pr) (r : Int) : List Int := ((List.range p.blks.length).filter fun i => hasL (outsP p i) r).map fun i : Nat => (i : Int)
def predsU (p : Pr) (r : Int) (k : Nat) : List Int := ((List.range k).filter fun i => hasL (outsP p i) r).map fun i : Nat => (i : Int)
theorem predsU_yes (p : Pr) (r : Int) (k : Nat) (h : hasL (outsP p k) r = true) : predsU p r (k + 1) = predsU p r k ++ [(k : Int)] := by
  unfold predsU; rw [List.range_succ, List.filter_append, List.map_append, List.filter_cons, h]; rfl
theorem predsU_no (p : Pr) (r : Int) (k : Nat) (h : hasL (outsP p k) r = false) : predsU p r (k + 1) = predsU p r k := by
  unfold predsU; rw [List.range_succ, List.filter_append, List.map_append, List.filter_cons, h]; simp
theorem predsU_le (p : Pr) (r : Int) (k : Nat) : (predsU p r k).length ≤ k := by
  unfold predsU; rw [List.length_map]; exact Nat.le_trans (List.length_filter_le _ _) (by simp)
end Go.Proofs.YtnnhobbabcfogaaDoor
