/-
  FlowRound walked: without the ends that lead back no way leads round.
-/
import Derived.Test.YtegkbopibacfoaaH5
set_option linter.all false
namespace Go.Proofs.Ytegkbopibacfoaa
open Go.ChangeShapes Go.WideShapes Go.ChangeAt Go.RowKit
set_option maxHeartbeats 2000000
set_option maxRecDepth 20000

theorem nodup_rev : ∀ {l : List Int}, l.Nodup → l.reverse.Nodup
  | [], _ => by simp
  | x :: l, h => by
    rw [List.nodup_cons] at h
    rw [List.reverse_cons, List.nodup_append]
    refine ⟨nodup_rev h.2, by simp, fun a ha b hb => ?_⟩
    rw [List.mem_singleton] at hb
    subst hb
    rintro rfl
    exact h.1 (List.mem_reverse.1 ha)
theorem fr1 (p : Pr) {A : List Int} {k : Nat} (h : AtR (wkD p).ord.reverse p.blks.length k A) (hk : k < (wkD p).ord.reverse.length) :
    ∃ xk : Nat, (wkD p).ord.reverse.getD k 0 = (xk : Int) ∧ xk < p.blks.length ∧ A.getD xk 0 = 0 ∧ (reachP p).getD xk false = true ∧ (k = 0 → xk = 0) ∧ AtR (wkD p).ord.reverse p.blks.length (k + 1) (A.set xk ((k : Int) + 1)) := by
  have hm : (wkD p).ord.reverse.getD k 0 ∈ (wkD p).ord := List.mem_reverse.1 (getD_mem hk)
  have hr := wkD_ord p _ hm
  have hp : 0 < p.blks.length := by omega
  have nd : (wkD p).ord.reverse.Nodup := nodup_rev (wkD_all p hp).1.nd
  have h0 := h.zero nd hk hr
  have hs := h.step nd hk (fun x hx => wkD_ord p x (List.mem_reverse.1 hx))
  have h00 : k = 0 → (wkD p).ord.reverse.getD k 0 = 0 := fun e => by
    subst e
    obtain ⟨l, hl⟩ := wkD_last p hp
    rw [hl]; simp
  generalize (wkD p).ord.reverse.getD k 0 = x at hm hr h0 hs h00
  obtain ⟨xk, rfl⟩ := Int.eq_ofNat_of_zero_le hr.1
  rw [Int.toNat_natCast] at h0 hs
  exact ⟨xk, rfl, by omega, h0, by rw [reachP_get p xk (by omega), hasL_iff]; exact hm, fun e => by have := h00 e; omega, hs⟩
/-- is a pair among the first j? -/
def isP (l : List (Int × Int)) (n t : Int) (j : Nat) : Bool := (l.take j).any fun e => e.1 == n && e.2 == t
theorem isP_0 (l : List (Int × Int)) (n t : Int) : isP l n t 0 = false := rfl
theorem isP_succ (l : List (Int × Int)) (n t : Int) (j : Nat) (h : j < l.length) : isP l n t (j + 1) = (isP l n t j || ((l.getD j (0, 0)).1 == n && (l.getD j (0, 0)).2 == t)) := by
  unfold isP
  rw [List.take_succ_eq_append_getElem h, List.any_append]
  simp [List.getD, h]
theorem isP_all (l : List (Int × Int)) (n t : Int) : isP l n t l.length = true ↔ (n, t) ∈ l := by
  unfold isP
  rw [List.take_length, List.any_eq_true]
  constructor
  · rintro ⟨⟨a, b⟩, h, e⟩
    simp only [Bool.and_eq_true, beq_iff_eq] at e
    rw [← e.1, ← e.2]; exact h
  · intro h
    exact ⟨_, h, by simp⟩
/-- an end leads back or on -/
theorem fr2 (p : Pr) (hp : 0 < p.blks.length) {A : List Int} (h : AtR (wkD p).ord.reverse p.blks.length (wkD p).ord.reverse.length A) {n k : Nat} (hn : hasL (wkD p).ord n = true) (hk : k < (outsP p n).length) :
    ∃ tk : Nat, (outsP p n).getD k 0 = (tk : Int) ∧ tk < p.blks.length ∧ isP (wkD p).back n tk (wkD p).back.length = !decide (A.getD n 0 < A.getD tk 0) := by
  have hm : (outsP p n).getD k 0 ∈ outsP p n := getD_mem hk
  have hr := outsP_mem hm
  rw [List.length_reverse] at h
  have key := round_ok p hp h ((hasL_iff _ _).1 hn) hm
  generalize (outsP p n).getD k 0 = x at hm hr key
  obtain ⟨tk, rfl⟩ := Int.eq_ofNat_of_zero_le hr.1
  rw [Int.toNat_natCast] at key
  refine ⟨tk, rfl, by omega, ?_⟩
  rw [Bool.eq_iff_iff, isP_all, key]
  simp
theorem fr3 (p : Pr) {A : List Int} (h : AtR (wkD p).ord.reverse p.blks.length (wkD p).ord.reverse.length A) {n : Nat} (hn : n < p.blks.length) : decide (0 < A.getD n 0) = (reachP p).getD n false ∧ (reachP p).getD n false = hasL (wkD p).ord n := by
  have e := reachP_get p n hn
  refine ⟨?_, e⟩
  rw [e, h.pos hn]
  unfold hasL
  rw [Bool.eq_iff_iff, List.contains_iff_mem, List.contains_iff_mem, List.mem_reverse]
theorem fr1' (p : Pr) {o : List Int} (ho : o = (wkD p).ord.reverse) {A : List Int} {k : Nat} (h : AtR o p.blks.length k A) (hk : k < o.length) :
    ∃ xk : Nat, o.getD k 0 = (xk : Int) ∧ xk < p.blks.length ∧ A.getD xk 0 = 0 ∧ (reachP p).getD xk false = true ∧ (k = 0 → xk = 0) ∧ AtR o p.blks.length (k + 1) (A.set xk ((k : Int) + 1)) := by subst ho; exact fr1 p h hk
theorem flowRound_no (p : Pr) (V : Value) (w : World) (hP : PrV w V p) (hf : fewP p = false) :
    Calls Try.prog 4 #[V] w fun e w' => e = .returned (.bool true) ∧ Below w.heap.size w w' := by
  have EF : Hid (∀ o, Calls Try.prog 11 #[V] (w.alloc o) fun e w' => e = .returned (.bool false) ∧ Below (w.alloc o).heap.size (w.alloc o) w') := fun o => by rw [← hf]; exact fewp_c p V _ (hP.ext (Ext.alloc w o))
  obtain ⟨nm, vo, vb, rfl, -, a, c, rfl, -, -, -⟩ := hP
  go_enter Try.func4, Try.ntmps4
  go_wp2_with (first | (go_at_call 11; refine (EF.out _).mono ?_; rintro e w1 ⟨rfl, hb1⟩; have hb1 := Lib.hid hb1) | (go_at_call 12; refine (awake16_c _).mono ?_; rintro e w2 ⟨rfl, hb2⟩; have hb2 := Lib.hid hb2))
  go_ret
  exact ⟨rfl, (below_alloc w _).trans ((hb1.out.trans (hb2.out.mono hb1.out.size)).mono (by simp))⟩
theorem flowRound_yes (p : Pr) (V : Value) (w : World) (hP : PrV w V p) (hf : fewP p = true) :
    Calls Try.prog 4 #[V] w fun e w' => e = .returned (.bool true) ∧ Below w.heap.size w w' := by
  obtain ⟨-, f2, -⟩ := fewP_yes hf
  have EF : Hid (∀ o, Calls Try.prog 11 #[V] (w.alloc o) fun e w' => e = .returned (.bool true) ∧ Below (w.alloc o).heap.size (w.alloc o) w') := fun o => by rw [← hf]; exact fewp_c p V _ (hP.ext (Ext.alloc w o))
  have EO : Hid (∀ w', Ext w w' → Calls Try.prog 15 #[V] w' (RetI w' (wkD p).ord.reverse)) := fun w' he => order_c p V w' (hP.ext he) (by omega)
  have EB : Hid (∀ w', Ext w w' → Calls Try.prog 16 #[V] w' (RetP w' (wkD p).back)) := fun w' he => back_c p V w' (hP.ext he) (by omega)
  have EC : Hid (∀ w', Ext w w' → Calls Try.prog 17 #[V] w' fun e w'' => ∃ g, e = .returned (.slice (some ⟨g, 0, none⟩) p.blks.length p.blks.length) ∧ w'.heap.size ≤ g ∧ RowB w'' g p.blks.length p.blks.length (reachP p) ∧ Below w'.heap.size w' w'') := fun w' he => reach_c p V w' (hP.ext he) (by omega)
  have EU : Hid (∀ (n : Nat) w', Ext w w' → n < p.blks.length → Calls Try.prog 18 #[V, .int .i64 (n : Int)] w' (RetI w' (outsP p n))) := fun n w' he hn => routsP_c p V n w' (hP.ext he) hn (by omega)
  have hWL := wkD_len p (by omega)
  obtain ⟨o, ho⟩ : ∃ o, o = (wkD p).ord.reverse := ⟨_, rfl⟩
  have hrl : o.length ≤ 10000000 := by rw [ho, List.length_reverse]; omega
  have Ho := Lib.hid ho
  rw [← ho] at EO
  clear ho
  clear hf
  obtain ⟨nm, vo, vb, rfl, -, hvb⟩ := hP
  obtain ⟨a, c, rfl, hc1, hc2, -⟩ := hvb
  unfold maxLen at hc2
  go_enter Try.func4, Try.ntmps4
  go_wp2_with fail
  obtain ⟨W0, hW0⟩ : ∃ W0, W0 = w.alloc (.cells #[.string nm, .bool p.void, .int .i64 p.params, .int .i64 p.regs, vo, .slice a p.blks.length c] 25) := ⟨_, rfl⟩
  have HBX : Hid (∀ w', Below (w.heap.size + 1) W0 w' → ∀ j : Nat, j < 6 → w'.cell? ⟨w.heap.size, j, none⟩ = #[Value.string nm, .bool p.void, .int .i64 p.params, .int .i64 p.regs, vo, .slice a p.blks.length c][j]?) := fun w' hb j _ => (hb.cell (p := ⟨w.heap.size, j, none⟩) (Nat.lt_succ_self _)).trans (by rw [hW0]; exact cell_of_heap (heap_alloc_new w _) j)
  have HE : Hid (∀ w', Below (w.heap.size + 1) W0 w' → Ext w w') := fun w' hb => (show Ext w W0 by rw [hW0]; exact Ext.alloc w _).trans (Ext.below (hb.mono (by rw [hW0]; simp)))
  have hz0 : W0.heap.size = w.heap.size + 1 := by rw [hW0]; simp
  have HR : Hid (∀ w', Below (w.heap.size + 1) W0 w' → Below w.heap.size w w') := fun w' hb => (show Below w.heap.size w W0 by rw [hW0]; exact below_alloc w _).trans (hb.mono (by omega))
  refine (EF.out _).mono ?_
  rintro e w1 ⟨rfl, hb1⟩
  rw [← hW0] at hb1
  clear hW0 EF
  have B1 : Hid (Below (w.heap.size + 1) W0 w1) := by rw [← hz0]; exact hb1
  clear hb1
  go_wp2_with fail
  obtain ⟨W1, hW1⟩ : ∃ W1, W1 = w1.drew := ⟨_, rfl⟩
  have D1 : Hid (Below (w.heap.size + 1) W0 W1) := by rw [hW1]; exact B1.out.drew
  refine wp_region_game (fun b => b = w.heap.size) (by kernel_rfl) ?_
  show wpE _ _ _ _ _ _ _ w1.drew
  rw [← hW1]
  clear hW1 B1
  have x0 := HBX.out W1 D1.out 0 (by decide)
  have x1 := HBX.out W1 D1.out 1 (by decide)
  have x2 := HBX.out W1 D1.out 2 (by decide)
  have x3 := HBX.out W1 D1.out 3 (by decide)
  have x4 := HBX.out W1 D1.out 4 (by decide)
  have x5 := HBX.out W1 D1.out 5 (by decide)
  simp at x0 x1 x2 x3 x4 x5
  have hz1 : w.heap.size < W1.heap.size := by have := D1.out.size; omega
  refine E_mob2 0 _ rfl (by kernel_rfl) ?_
  simp only [List.getElem_toArray, List.getElem_cons_succ, List.getElem_cons_zero]
  go_big_quiet_step (fail)
  refine wpQuiet_nil ?_
  refine E_mob2 2 _ rfl (by kernel_rfl) ?_
  simp only [List.getElem_toArray, List.getElem_cons_succ, List.getElem_cons_zero]
  go_big_quiet_step (fail)
  refine wpQuiet_nil ?_
  refine E_mob2 4 _ rfl (by kernel_rfl) ?_
  simp only [List.getElem_toArray, List.getElem_cons_succ, List.getElem_cons_zero]
  go_big_quiet_step (fail)
  refine wpQuiet_nil ?_
  refine E_loud1 1 _ rfl (by kernel_rfl) ?_
  simp only [List.getElem_toArray, List.getElem_cons_succ, List.getElem_cons_zero]
  go_wp2_with fail
  refine (EO.out _ (HE.out W1 D1.out)).mono ?_
  rintro e w2 ⟨v2, rfl, ho2, hb2⟩
  have hb2 := Lib.hid hb2
  have ho2 := Lib.hid ho2.rd
  have D2 : Hid (Below (w.heap.size + 1) W0 w2) := D1.out.trans (hb2.out.mono (by omega))
  clear x0 x1 x2 x3 x4 x5
  have x0 := HBX.out w2 D2.out 0 (by decide)
  have x1 := HBX.out w2 D2.out 1 (by decide)
  have x2 := HBX.out w2 D2.out 2 (by decide)
  have x3 := HBX.out w2 D2.out 3 (by decide)
  have x4 := HBX.out w2 D2.out 4 (by decide)
  have x5 := HBX.out w2 D2.out 5 (by decide)
  simp at x0 x1 x2 x3 x4 x5
  have hz2 : w.heap.size < w2.heap.size := by have := D2.out.size; omega
  go_wp2_with fail
  refine ⟨keep_below hb2.out (fun b hb => by rw [hb]; exact hz1), ?_⟩
  refine E_loud1 3 _ rfl (by kernel_rfl) ?_
  simp only [List.getElem_toArray, List.getElem_cons_succ, List.getElem_cons_zero]
  go_wp2_with fail
  refine (EB.out _ (HE.out w2 D2.out)).mono ?_
  rintro e w3 ⟨v3, rfl, ho3, hb3⟩
  have hb3 := Lib.hid hb3
  have ho3 := Lib.hid (RdP.of ho3)
  have D3 : Hid (Below (w.heap.size + 1) W0 w3) := D2.out.trans (hb3.out.mono (by omega))
  clear x0 x1 x2 x3 x4 x5
  have x0 := HBX.out w3 D3.out 0 (by decide)
  have x1 := HBX.out w3 D3.out 1 (by decide)
  have x2 := HBX.out w3 D3.out 2 (by decide)
  have x3 := HBX.out w3 D3.out 3 (by decide)
  have x4 := HBX.out w3 D3.out 4 (by decide)
  have x5 := HBX.out w3 D3.out 5 (by decide)
  simp at x0 x1 x2 x3 x4 x5
  have hz3 : w.heap.size < w3.heap.size := by have := D3.out.size; omega
  go_wp2_with fail
  refine ⟨keep_below hb3.out (fun b hb => by rw [hb]; exact hz2), ?_⟩
  refine E_loud1 5 _ rfl (by kernel_rfl) ?_
  simp only [List.getElem_toArray, List.getElem_cons_succ, List.getElem_cons_zero]
  go_wp2_with fail
  refine (EC.out _ (HE.out w3 D3.out)).mono ?_
  rintro e w4 ⟨gr, rfl, hgr, hrow, hb4⟩
  have hb4 := Lib.hid hb4
  have hrow := Lib.hid hrow
  have D4 : Hid (Below (w.heap.size + 1) W0 w4) := D3.out.trans (hb4.out.mono (by omega))
  go_wp2_with fail
  refine ⟨keep_below hb4.out (fun b hb => by rw [hb]; exact hz3), ?_⟩
  refine E_mob2 6 _ rfl (by kernel_rfl) ?_
  simp only [List.getElem_toArray, List.getElem_cons_succ, List.getElem_cons_zero]
  go_big_quiet_step (fail)
  refine wpQuiet_nil ?_
  refine E_mob2 7 _ rfl (by kernel_rfl) ?_
  simp only [List.getElem_toArray, List.getElem_cons_succ, List.getElem_cons_zero]
  go_big_quiet_step (fail)
  refine wpQuiet_nil ?_
  refine E_mob2 8 _ rfl (by kernel_rfl) ?_
  simp only [List.getElem_toArray, List.getElem_cons_succ, List.getElem_cons_zero]
  go_big_quiet_step (fail)
  refine wpQuiet_nil ?_
  refine E_done (by kernel_rfl) ?_ _
  clear x0 x1 x2 x3 x4 x5
  have RO : Hid (RdI w4 v2 o) := (ho2.out.ext (Ext.below hb3.out)).ext (Ext.below hb4.out)
  have RB : Hid (RdP w4 v3 (wkD p).back) := ho3.out.ext (Ext.below hb4.out)
  clear ho2 ho3 hb2 hb3 hb4 D1 D2 D3 hz1 hz2 hz3
  have hz4 : w.heap.size < w4.heap.size := by have := D4.out.size; omega
  have x5 := HBX.out w4 D4.out 5 (by decide)
  simp at x5
  obtain ⟨ao, co, rfl, hao1, hao2, hao⟩ := RO.out
  have HAO := Lib.hid hao
  clear hao
  obtain ⟨ab, cb, rfl, hab1, hab2, hab⟩ := RB.out
  have HAB := Lib.hid hab
  clear hab
  unfold maxLen at hao2 hab2
  have hgl : gr < w4.heap.size := hrow.out.cellAt.2.2.2.2.2.2
  have HRR : Hid (∀ i, i < p.blks.length → w4.cell? ⟨gr, i, none⟩ = some (.bool ((reachP p).getD i false))) := hrow.out.cellAt.2.2.2.2.1
  clear hrow hgr
  have hbl : (wkD p).back.length ≤ 10000000 := by omega
  have hmk := run_make_row' (P := Try.prog) 36 3 (.int .i64 0) 8 Try.underlying36 info_int rfl .i64 .i64 p.blks.length (by omega) (by omega)
  go_wp2_with fail
  clear hmk x5
  have HA0 := Lib.hid (show OwnI (w4.alloc (.cells (madeCells #[.int .i64 0] p.blks.length) 3)) 0 (.slice (some ⟨w4.heap.size, 0, none⟩) p.blks.length p.blks.length) (List.replicate p.blks.length 0) by
    have := madeI w4 0 p.blks.length (Nat.zero_le _) (by unfold maxLen; omega)
    unfold OwnI
    simpa using this)
  have HB0 : Hid (Below w4.heap.size w4 (w4.alloc (.cells (madeCells #[.int .i64 0] p.blks.length) 3))) := below_alloc _ _
  generalize w4.alloc (.cells (madeCells #[.int .i64 0] p.blks.length) 3) = W5 at HA0 HB0 ⊢
  go_loopw [7] (fun i wr => ∃ (k : Nat) (A : List Int), k ≤ o.length ∧ i = .int .i64 (k : Int) ∧ Hid (AtR o p.blks.length k A) ∧ Hid (OwnI wr 0 (.slice (some ⟨w4.heap.size, 0, none⟩) p.blks.length p.blks.length) A) ∧ Hid (Below w4.heap.size w4 wr))
    (fun i _ => o.length - (intOf i).toNat)
  case atStart => exact ⟨0, _, Nat.zero_le _, rfl, AtR.start _ _, HA0, HB0⟩
  case round =>
    clear HA0 HB0
    obtain ⟨k, A, hk, rfl, HA, HO, HB⟩ := hrel
    by_cases hlt : k < o.length
    · obtain ⟨xk, ex, hx, z0, rx, k0, HA2⟩ := fr1' p Ho.out HA.out hlt
      have HA2 := Lib.hid HA2
      obtain ⟨bo, oo, rfl, c0⟩ := HAO.out k hlt
      simp only [Nat.mul_one, Nat.add_zero] at c0
      rw [ex] at c0
      clear ex
      replace c0 := Ext.below HB.out _ _ c0
      have c1 := (HB.out.cell (p := ⟨gr, xk, none⟩) hgl).trans (HRR.out xk hx)
      rw [rx] at c1
      have c2 := HO.out.cellAt.2.2.2.2.1 xk hx
      rw [z0] at c2
      clear rx z0
      have c3 := HO.out.cellAt.2.2.2.2.2 xk
      have HO2 := Lib.hid (HO.out.set xk ((k : Int) + 1))
      have HB2 : Hid (Below w4.heap.size w4 (wr.setCell ⟨w4.heap.size, xk, none⟩ (.int .i64 ((k : Int) + 1)))) := HB.out.setCell (Nat.le_refl _) _
      rcases Nat.eq_zero_or_pos k with e0 | e0
      · have ek : ((k : Int) == 0) = true := beq_iff_eq.2 (by omega)
        have ex : ((xk : Int) != 0) = false := by rw [k0 e0]; rfl
        clear k0 e0
        go_wp2_with fail
        go_roundw
        case rel => exact ⟨k + 1, _, by omega, by go_num, HA2, HO2, HB2⟩
        case measure => simp [intOf]; omega
      · have ek : ((k : Int) == 0) = false := beq_eq_false_iff_ne.2 (by omega)
        clear k0
        go_wp2_with fail
        go_roundw
        case rel => exact ⟨k + 1, _, by omega, by go_num, HA2, HO2, HB2⟩
        case measure => simp [intOf]; omega
    · obtain rfl : k = o.length := by omega
      go_wp2_with fail
      generalize wr = W6 at HO HB ⊢
      have D6 : Hid (Below (w.heap.size + 1) W0 W6) := D4.out.trans (HB.out.mono (by omega))
      have hz6 : w4.heap.size ≤ W6.heap.size := HB.out.size
      have HAT : Hid (∀ i, i < p.blks.length → W6.cell? ⟨w4.heap.size, i, none⟩ = some (.int .i64 (A.getD i 0))) := HO.out.cellAt.2.2.2.2.1
      have FR2 : Hid (∀ n k, n < p.blks.length → hasL (wkD p).ord n = true → k < (outsP p n).length → ∃ tk : Nat, (outsP p n).getD k 0 = (tk : Int) ∧ tk < p.blks.length ∧ isP (wkD p).back n tk (wkD p).back.length = !decide (A.getD n 0 < A.getD tk 0)) := fun n k hn hh hk => fr2 p (by omega) (by have := HA.out; rw [Ho.out] at this; exact this) hh hk
      have FR3 : Hid (∀ n, n < p.blks.length → decide (0 < A.getD n 0) = (reachP p).getD n false ∧ (reachP p).getD n false = hasL (wkD p).ord n) := fun n hn => fr3 p (by have := HA.out; rw [Ho.out] at this; exact this) hn
      have hga : p.blks.length ≠ 0 → w4.heap.size < W6.heap.size := fun hne => World.block_lt_of_cell? W6 _ (HAT.out 0 (by omega))
      clear HA
      go_loopw [9] (fun i wr => ∃ n : Nat, n ≤ p.blks.length ∧ i = .int .i64 (n : Int) ∧ Hid (Below W6.heap.size W6 wr)) (fun i _ => p.blks.length - (intOf i).toNat)
      case atStart => exact ⟨0, Nat.zero_le _, rfl, Below.refl _ _⟩
      case round =>
        obtain ⟨n, hn, rfl, hB⟩ := hrel
        have DX : Hid (Below (w.heap.size + 1) W0 wr) := D6.out.trans (hB.out.mono (by omega))
        have x5 := HBX.out wr DX.out 5 (by decide)
        simp at x5
        by_cases hlt : n < p.blks.length
        · go_wp2_with fail
          clear x5
          have hga' := hga (by omega)
          obtain ⟨W7, hW7⟩ : ∃ W7, W7 = wr.drew := ⟨_, rfl⟩
          have B7 : Hid (Below W6.heap.size W6 W7) := by rw [hW7]; exact hB.out.drew
          refine wp_region_game (fun b => b < W6.heap.size) (by kernel_rfl) ?_
          show wpE _ _ _ _ _ _ _ wr.drew
          rw [← hW7]
          clear hW7 hB DX
          have B7' : Hid (Below w4.heap.size w4 W7) := HB.out.trans (B7.out.mono hz6)
          have hgl' : gr < W6.heap.size := by omega
          have r1 := (B7'.out.cell (p := ⟨gr, n, none⟩) hgl).trans (HRR.out n hlt)
          have r2 := (B7.out.cell (p := ⟨w4.heap.size, n, none⟩) hga').trans (HAT.out n hlt)
          obtain ⟨e1, e2⟩ := FR3.out n hlt
          have e3 : decide (p.blks.length ≤ n) = false := decide_eq_false (by omega)
          have e4 : decide ((p.blks.length : Int) ≤ (n : Int)) = false := decide_eq_false (by omega)
          have D7 : Hid (Below (w.heap.size + 1) W0 W7) := D6.out.trans (B7.out.mono (by omega))
          have FR2n := Lib.hid (fun k => FR2.out n k hlt)
          rw [e2] at e1 r1
          clear e2
          generalize A.getD n 0 = z at e1 r2 FR2n
          cases hh : hasL (wkD p).ord n
          · rw [hh] at e1 r1
            refine E_mob2 0 _ rfl (by kernel_rfl) ?_
            simp only [List.getElem_toArray, List.getElem_cons_succ, List.getElem_cons_zero]
            go_big_quiet_step (fail)
            refine wpQuiet_nil ?_
            refine E_mob2 1 _ rfl (by kernel_rfl) ?_
            simp only [List.getElem_toArray, List.getElem_cons_succ, List.getElem_cons_zero]
            go_big_quiet_step (fail)
            refine wpQuiet_nil ?_
            refine E_mob2 2 _ rfl (by kernel_rfl) ?_
            simp only [List.getElem_toArray, List.getElem_cons_succ, List.getElem_cons_zero]
            go_big_quiet_step (fail)
            refine wpQuiet_nil ?_
            refine E_mob2 3 _ rfl (by kernel_rfl) ?_
            simp only [List.getElem_toArray, List.getElem_cons_succ, List.getElem_cons_zero]
            go_big_quiet_step (fail)
            refine wpQuiet_nil ?_
            refine E_mob2 4 _ rfl (by kernel_rfl) ?_
            simp only [List.getElem_toArray, List.getElem_cons_succ, List.getElem_cons_zero]
            go_big_quiet_step (fail)
            refine wpQuiet_nil ?_
            refine E_mob2 5 _ rfl (by kernel_rfl) ?_
            simp only [List.getElem_toArray, List.getElem_cons_succ, List.getElem_cons_zero]
            go_big_quiet_step (fail)
            refine wpQuiet_nil ?_
            refine E_mob2 6 _ rfl (by kernel_rfl) ?_
            simp only [List.getElem_toArray, List.getElem_cons_succ, List.getElem_cons_zero]
            go_big_quiet_step (fail)
            refine wpQuiet_nil ?_
            refine E_mob2 7 _ rfl (by kernel_rfl) ?_
            simp only [List.getElem_toArray, List.getElem_cons_succ, List.getElem_cons_zero]
            go_big_quiet_step (fail)
            refine wpQuiet_nil ?_
            refine E_mob2 8 _ rfl (by kernel_rfl) ?_
            simp only [List.getElem_toArray, List.getElem_cons_succ, List.getElem_cons_zero]
            go_big_quiet_step (fail)
            refine wpQuiet_nil ?_
            refine E_mob2 9 _ rfl (by kernel_rfl) ?_
            simp only [List.getElem_toArray, List.getElem_cons_succ, List.getElem_cons_zero]
            go_big_quiet_step (fail)
            refine wpQuiet_nil ?_
            refine E_mob2 10 _ rfl (by kernel_rfl) ?_
            simp only [List.getElem_toArray, List.getElem_cons_succ, List.getElem_cons_zero]
            go_big_quiet_step (fail)
            refine wpQuiet_nil ?_
            refine E_mob2 11 _ rfl (by kernel_rfl) ?_
            simp only [List.getElem_toArray, List.getElem_cons_succ, List.getElem_cons_zero]
            go_big_quiet_step (fail)
            refine wpQuiet_nil ?_
            refine E_mob2 12 _ rfl (by kernel_rfl) ?_
            simp only [List.getElem_toArray, List.getElem_cons_succ, List.getElem_cons_zero]
            go_big_quiet_step (fail)
            refine wpQuiet_nil ?_
            refine E_mob2 13 _ rfl (by kernel_rfl) ?_
            simp only [List.getElem_toArray, List.getElem_cons_succ, List.getElem_cons_zero]
            go_big_quiet_step (fail)
            refine wpQuiet_nil ?_
            refine E_mob2 14 _ rfl (by kernel_rfl) ?_
            simp only [List.getElem_toArray, List.getElem_cons_succ, List.getElem_cons_zero]
            go_big_quiet_step (fail)
            refine wpQuiet_nil ?_
            refine E_mob2 15 _ rfl (by kernel_rfl) ?_
            simp only [List.getElem_toArray, List.getElem_cons_succ, List.getElem_cons_zero]
            go_big_quiet_step (fail)
            refine wpQuiet_nil ?_
            refine E_done (by kernel_rfl) ?_ _
            have x0 := HBX.out W7 D7.out 0 (by decide)
            have x1 := HBX.out W7 D7.out 1 (by decide)
            have x2 := HBX.out W7 D7.out 2 (by decide)
            have x3 := HBX.out W7 D7.out 3 (by decide)
            have x4 := HBX.out W7 D7.out 4 (by decide)
            have x5 := HBX.out W7 D7.out 5 (by decide)
            simp at x0 x1 x2 x3 x4 x5
            go_wp2_with fail
            refine (EU.out n W7 (HE.out W7 D7.out) hlt).mono ?_
            rintro e w8 ⟨v8, rfl, ho8, hb8⟩
            have hb8 := Lib.hid hb8
            obtain ⟨a8, c8, rfl, h81, h82, -⟩ := ho8.rd
            clear ho8 x0 x1 x2 x3 x4 x5 r2
            have B8 : Hid (Below W6.heap.size W6 w8) := B7.out.trans (hb8.out.mono B7.out.size)
            replace r1 := (hb8.out.cell (p := ⟨gr, n, none⟩) (by have := B7.out.size; simp only; omega)).trans r1
            go_wp2_with fail
            go_loopw [11] (fun i wr => i = .int .i64 0 ∧ wr = w8) (fun _ _ => 0)
            case atStart => exact ⟨rfl, rfl⟩
            case round =>
              obtain ⟨rfl, rfl⟩ := hrel
              go_wp2_with fail
              all_goals
                go_roundw
                case rel => exact ⟨n + 1, by omega, by go_num, B8⟩
                case measure => simp [intOf]; omega
          · rw [hh] at e1 r1
            refine E_mob2 0 _ rfl (by kernel_rfl) ?_
            simp only [List.getElem_toArray, List.getElem_cons_succ, List.getElem_cons_zero]
            go_big_quiet_step (fail)
            refine wpQuiet_nil ?_
            refine E_mob2 1 _ rfl (by kernel_rfl) ?_
            simp only [List.getElem_toArray, List.getElem_cons_succ, List.getElem_cons_zero]
            go_big_quiet_step (fail)
            refine wpQuiet_nil ?_
            refine E_mob2 2 _ rfl (by kernel_rfl) ?_
            simp only [List.getElem_toArray, List.getElem_cons_succ, List.getElem_cons_zero]
            go_big_quiet_step (fail)
            refine wpQuiet_nil ?_
            refine E_mob2 3 _ rfl (by kernel_rfl) ?_
            simp only [List.getElem_toArray, List.getElem_cons_succ, List.getElem_cons_zero]
            go_big_quiet_step (fail)
            refine wpQuiet_nil ?_
            refine E_mob2 4 _ rfl (by kernel_rfl) ?_
            simp only [List.getElem_toArray, List.getElem_cons_succ, List.getElem_cons_zero]
            go_big_quiet_step (fail)
            refine wpQuiet_nil ?_
            refine E_mob2 5 _ rfl (by kernel_rfl) ?_
            simp only [List.getElem_toArray, List.getElem_cons_succ, List.getElem_cons_zero]
            go_big_quiet_step (fail)
            refine wpQuiet_nil ?_
            refine E_mob2 6 _ rfl (by kernel_rfl) ?_
            simp only [List.getElem_toArray, List.getElem_cons_succ, List.getElem_cons_zero]
            go_big_quiet_step (fail)
            refine wpQuiet_nil ?_
            refine E_mob2 7 _ rfl (by kernel_rfl) ?_
            simp only [List.getElem_toArray, List.getElem_cons_succ, List.getElem_cons_zero]
            go_big_quiet_step (fail)
            refine wpQuiet_nil ?_
            refine E_mob2 8 _ rfl (by kernel_rfl) ?_
            simp only [List.getElem_toArray, List.getElem_cons_succ, List.getElem_cons_zero]
            go_big_quiet_step (fail)
            refine wpQuiet_nil ?_
            refine E_mob2 9 _ rfl (by kernel_rfl) ?_
            simp only [List.getElem_toArray, List.getElem_cons_succ, List.getElem_cons_zero]
            go_big_quiet_step (fail)
            refine wpQuiet_nil ?_
            refine E_mob2 10 _ rfl (by kernel_rfl) ?_
            simp only [List.getElem_toArray, List.getElem_cons_succ, List.getElem_cons_zero]
            go_big_quiet_step (fail)
            refine wpQuiet_nil ?_
            refine E_mob2 11 _ rfl (by kernel_rfl) ?_
            simp only [List.getElem_toArray, List.getElem_cons_succ, List.getElem_cons_zero]
            go_big_quiet_step (fail)
            refine wpQuiet_nil ?_
            refine E_mob2 12 _ rfl (by kernel_rfl) ?_
            simp only [List.getElem_toArray, List.getElem_cons_succ, List.getElem_cons_zero]
            go_big_quiet_step (fail)
            refine wpQuiet_nil ?_
            refine E_mob2 13 _ rfl (by kernel_rfl) ?_
            simp only [List.getElem_toArray, List.getElem_cons_succ, List.getElem_cons_zero]
            go_big_quiet_step (fail)
            refine wpQuiet_nil ?_
            refine E_mob2 14 _ rfl (by kernel_rfl) ?_
            simp only [List.getElem_toArray, List.getElem_cons_succ, List.getElem_cons_zero]
            go_big_quiet_step (fail)
            refine wpQuiet_nil ?_
            refine E_mob2 15 _ rfl (by kernel_rfl) ?_
            simp only [List.getElem_toArray, List.getElem_cons_succ, List.getElem_cons_zero]
            go_big_quiet_step (fail)
            refine wpQuiet_nil ?_
            refine E_done (by kernel_rfl) ?_ _
            have x0 := HBX.out W7 D7.out 0 (by decide)
            have x1 := HBX.out W7 D7.out 1 (by decide)
            have x2 := HBX.out W7 D7.out 2 (by decide)
            have x3 := HBX.out W7 D7.out 3 (by decide)
            have x4 := HBX.out W7 D7.out 4 (by decide)
            have x5 := HBX.out W7 D7.out 5 (by decide)
            simp at x0 x1 x2 x3 x4 x5
            go_wp2_with fail
            refine (EU.out n W7 (HE.out W7 D7.out) hlt).mono ?_
            rintro e w8 ⟨v8, rfl, ho8, hb8⟩
            have hb8 := Lib.hid hb8
            obtain ⟨a8, c8, rfl, h81, h82, h8⟩ := ho8.rd
            have H8 := Lib.hid h8
            unfold maxLen at h82
            have hol := outsP_two p n
            have FRk := Lib.hid (fun k => FR2n.out k hh)
            have hz7 : W6.heap.size ≤ W7.heap.size := B7.out.size
            have hz8 : W7.heap.size ≤ w8.heap.size := hb8.out.size
            have B8 : Hid (Below W6.heap.size W6 w8) := B7.out.trans (hb8.out.mono hz7)
            have R1 : Hid (w8.cell? ⟨gr, n, none⟩ = some (.bool true)) := (hb8.out.cell (p := ⟨gr, n, none⟩) (by simp only; omega)).trans r1
            have R2 : Hid (w8.cell? ⟨w4.heap.size, n, none⟩ = some (.int .i64 z)) := (hb8.out.cell (p := ⟨w4.heap.size, n, none⟩) (by simp only; omega)).trans r2
            have HAT8 : Hid (∀ i, i < p.blks.length → w8.cell? ⟨w4.heap.size, i, none⟩ = some (.int .i64 (A.getD i 0))) := fun i hi => (B8.out.cell (p := ⟨w4.heap.size, i, none⟩) hga').trans (HAT.out i hi)
            have HAB8 : Hid (∀ j, j < (wkD p).back.length → ∃ b o, ab = some ⟨b, o, none⟩ ∧ b < w8.heap.size ∧ w8.cell? ⟨b, o + j * 2, none⟩ = some (.int .i64 ((wkD p).back.getD j (0, 0)).1) ∧ w8.cell? ⟨b, o + j * 2 + 1, none⟩ = some (.int .i64 ((wkD p).back.getD j (0, 0)).2)) := fun j hj => by
              obtain ⟨b, o, e, p0, p1⟩ := HAB.out j hj
              have hE : Ext w4 w8 := (Ext.below B7').trans (Ext.below hb8.out)
              exact ⟨b, o, e, by have := World.block_lt_of_cell? w4 _ p0; simp only at this; omega, by have := hE _ _ p0; simpa using this, hE _ _ p1⟩
            have hgr8 : gr < w8.heap.size := by omega
            have hga8 : w4.heap.size < w8.heap.size := by omega
            clear ho8 h8 x0 x1 x2 x3 x4 x5 r1 r2 e1 e3 e4 FR2n hb8 B7' D7
            generalize outsP p n = L at hol H8 FRk h81 ⊢
            go_wp2_with fail
            go_loopw [11] (fun i wr => ∃ k : Nat, k ≤ L.length ∧ i = .int .i64 (k : Int) ∧ Hid (Below w8.heap.size w8 wr)) (fun i _ => L.length - (intOf i).toNat)
            case atStart => exact ⟨0, Nat.zero_le _, rfl, Below.refl _ _⟩
            case round =>
              obtain ⟨k, hk, rfl, hB⟩ := hrel
              have r1 := (hB.out.cell (p := ⟨gr, n, none⟩) hgr8).trans R1.out
              by_cases hlk : k < L.length
              · obtain ⟨tk, et, htk, hp⟩ := FRk.out k hlk
                obtain ⟨b8, o8, rfl, c8'⟩ := H8.out k hlk
                simp only [Nat.mul_one, Nat.add_zero] at c8'
                rw [et] at c8'
                have hb8l : b8 < w8.heap.size := World.block_lt_of_cell? w8 _ c8'
                have C8 := Lib.hid c8'
                have HPP := Lib.hid hp
                clear c8' et hp
                go_wp2_with fail
                clear r1
                go_loopw [12, 13] (fun is j wr => ∃ jj : Nat, jj ≤ (wkD p).back.length ∧ j = .int .i64 (jj : Int) ∧ is = .bool (isP (wkD p).back n tk jj) ∧ Hid (Below w8.heap.size w8 wr)) (fun _ j _ => (wkD p).back.length - (intOf j).toNat)
                case atStart => exact ⟨0, Nat.zero_le _, rfl, rfl, hB⟩
                case round =>
                  clear hB
                  obtain ⟨jj, hjj, rfl, rfl, hB⟩ := hrel
                  by_cases hlj : jj < (wkD p).back.length
                  · have hS := isP_succ (wkD p).back n tk jj hlj
                    obtain ⟨bb, ob, rfl, hbb, p0, p1⟩ := HAB8.out jj hlj
                    generalize (wkD p).back.getD jj (0, 0) = pe at p0 p1 hS
                    obtain ⟨pa, pb⟩ := pe
                    simp only at p0 p1 hS
                    generalize isP (wkD p).back n tk jj = q at hS ⊢
                    have P0 := Lib.hid p0
                    have P1 := Lib.hid p1
                    clear p0 p1
                    have HS := Lib.hid hS
                    clear hS
                    go_wp2_with fail
                    obtain ⟨W9, hW9⟩ : ∃ W9, W9 = wr.drew := ⟨_, rfl⟩
                    have B9 : Hid (Below w8.heap.size w8 W9) := by rw [hW9]; exact hB.out.drew
                    refine wp_region_game (fun b => b < w8.heap.size) (by kernel_rfl) ?_
                    show wpE _ _ _ _ _ _ _ wr.drew
                    rw [← hW9]
                    clear hW9 hB
                    have p0 := (B9.out.cell (p := ⟨bb, ob + jj * 2, none⟩) hbb).trans P0.out
                    have p1 := (B9.out.cell (p := ⟨bb, ob + jj * 2 + 1, none⟩) hbb).trans P1.out
                    have c8' := (B9.out.cell (p := ⟨b8, o8 + k, none⟩) hb8l).trans C8.out
                    have hpe := run_equalIn_pair
                    cases q
                    · refine E_mob2 0 _ rfl (by kernel_rfl) ?_
                      simp only [List.getElem_toArray, List.getElem_cons_succ, List.getElem_cons_zero]
                      go_big_quiet_step (fail)
                      refine wpQuiet_nil ?_
                      refine E_mob2 1 _ rfl (by kernel_rfl) ?_
                      simp only [List.getElem_toArray, List.getElem_cons_succ, List.getElem_cons_zero]
                      go_big_quiet_step (fail)
                      refine wpQuiet_nil ?_
                      refine E_mob2 2 _ rfl (by kernel_rfl) ?_
                      simp only [List.getElem_toArray, List.getElem_cons_succ, List.getElem_cons_zero]
                      go_big_quiet_step (fail)
                      refine wpQuiet_nil ?_
                      refine E_mob2 3 _ rfl (by kernel_rfl) ?_
                      simp only [List.getElem_toArray, List.getElem_cons_succ, List.getElem_cons_zero]
                      go_big_quiet_step (fail)
                      refine wpQuiet_nil ?_
                      refine E_mob2 4 _ rfl (by kernel_rfl) ?_
                      simp only [List.getElem_toArray, List.getElem_cons_succ, List.getElem_cons_zero]
                      go_big_quiet_step (fail)
                      refine wpQuiet_nil ?_
                      refine E_mob2 5 _ rfl (by kernel_rfl) ?_
                      simp only [List.getElem_toArray, List.getElem_cons_succ, List.getElem_cons_zero]
                      go_big_quiet_step (fail)
                      refine wpQuiet_nil ?_
                      refine E_mob2 6 _ rfl (by kernel_rfl) ?_
                      simp only [List.getElem_toArray, List.getElem_cons_succ, List.getElem_cons_zero]
                      go_big_quiet_step (fail)
                      refine wpQuiet_nil ?_
                      refine E_mob2 7 _ rfl (by kernel_rfl) ?_
                      simp only [List.getElem_toArray, List.getElem_cons_succ, List.getElem_cons_zero]
                      go_big_quiet_step (fail)
                      refine wpQuiet_nil ?_
                      refine E_mob2 8 _ rfl (by kernel_rfl) ?_
                      simp only [List.getElem_toArray, List.getElem_cons_succ, List.getElem_cons_zero]
                      go_big_quiet_step (fail)
                      refine wpQuiet_nil ?_
                      refine E_mob2 9 _ rfl (by kernel_rfl) ?_
                      simp only [List.getElem_toArray, List.getElem_cons_succ, List.getElem_cons_zero]
                      go_big_quiet_step (fail)
                      refine wpQuiet_nil ?_
                      refine E_mob2 10 _ rfl (by kernel_rfl) ?_
                      simp only [List.getElem_toArray, List.getElem_cons_succ, List.getElem_cons_zero]
                      go_big_quiet_step (fail)
                      refine wpQuiet_nil ?_
                      refine E_mob2 11 _ rfl (by kernel_rfl) ?_
                      simp only [List.getElem_toArray, List.getElem_cons_succ, List.getElem_cons_zero]
                      go_big_quiet_step (fail)
                      refine wpQuiet_nil ?_
                      refine E_mob2 12 _ rfl (by kernel_rfl) ?_
                      simp only [List.getElem_toArray, List.getElem_cons_succ, List.getElem_cons_zero]
                      go_big_quiet_step (fail)
                      refine wpQuiet_nil ?_
                      refine E_mob2 13 _ rfl (by kernel_rfl) ?_
                      simp only [List.getElem_toArray, List.getElem_cons_succ, List.getElem_cons_zero]
                      go_big_quiet_step (fail)
                      refine wpQuiet_nil ?_
                      refine E_mob2 14 _ rfl (by kernel_rfl) ?_
                      simp only [List.getElem_toArray, List.getElem_cons_succ, List.getElem_cons_zero]
                      go_big_quiet_step (fail)
                      refine wpQuiet_nil ?_
                      refine E_done (by kernel_rfl) ?_ _
                      clear p0 p1 c8' hpe
                      go_wp2_with fail
                      go_roundw
                      case rel => exact ⟨jj + 1, by omega, by go_num, by rw [HS.out, Bool.false_or], B9⟩
                      case measure => simp [intOf]; omega
                    · refine E_mob2 0 _ rfl (by kernel_rfl) ?_
                      simp only [List.getElem_toArray, List.getElem_cons_succ, List.getElem_cons_zero]
                      go_big_quiet_step (fail)
                      refine wpQuiet_nil ?_
                      refine E_mob2 1 _ rfl (by kernel_rfl) ?_
                      simp only [List.getElem_toArray, List.getElem_cons_succ, List.getElem_cons_zero]
                      go_big_quiet_step (fail)
                      refine wpQuiet_nil ?_
                      refine E_mob2 2 _ rfl (by kernel_rfl) ?_
                      simp only [List.getElem_toArray, List.getElem_cons_succ, List.getElem_cons_zero]
                      go_big_quiet_step (fail)
                      refine wpQuiet_nil ?_
                      refine E_mob2 3 _ rfl (by kernel_rfl) ?_
                      simp only [List.getElem_toArray, List.getElem_cons_succ, List.getElem_cons_zero]
                      go_big_quiet_step (fail)
                      refine wpQuiet_nil ?_
                      refine E_mob2 4 _ rfl (by kernel_rfl) ?_
                      simp only [List.getElem_toArray, List.getElem_cons_succ, List.getElem_cons_zero]
                      go_big_quiet_step (fail)
                      refine wpQuiet_nil ?_
                      refine E_mob2 5 _ rfl (by kernel_rfl) ?_
                      simp only [List.getElem_toArray, List.getElem_cons_succ, List.getElem_cons_zero]
                      go_big_quiet_step (fail)
                      refine wpQuiet_nil ?_
                      refine E_mob2 6 _ rfl (by kernel_rfl) ?_
                      simp only [List.getElem_toArray, List.getElem_cons_succ, List.getElem_cons_zero]
                      go_big_quiet_step (fail)
                      refine wpQuiet_nil ?_
                      refine E_mob2 7 _ rfl (by kernel_rfl) ?_
                      simp only [List.getElem_toArray, List.getElem_cons_succ, List.getElem_cons_zero]
                      go_big_quiet_step (fail)
                      refine wpQuiet_nil ?_
                      refine E_mob2 8 _ rfl (by kernel_rfl) ?_
                      simp only [List.getElem_toArray, List.getElem_cons_succ, List.getElem_cons_zero]
                      go_big_quiet_step (fail)
                      refine wpQuiet_nil ?_
                      refine E_mob2 9 _ rfl (by kernel_rfl) ?_
                      simp only [List.getElem_toArray, List.getElem_cons_succ, List.getElem_cons_zero]
                      go_big_quiet_step (fail)
                      refine wpQuiet_nil ?_
                      refine E_mob2 10 _ rfl (by kernel_rfl) ?_
                      simp only [List.getElem_toArray, List.getElem_cons_succ, List.getElem_cons_zero]
                      go_big_quiet_step (fail)
                      refine wpQuiet_nil ?_
                      refine E_mob2 11 _ rfl (by kernel_rfl) ?_
                      simp only [List.getElem_toArray, List.getElem_cons_succ, List.getElem_cons_zero]
                      go_big_quiet_step (fail)
                      refine wpQuiet_nil ?_
                      refine E_mob2 12 _ rfl (by kernel_rfl) ?_
                      simp only [List.getElem_toArray, List.getElem_cons_succ, List.getElem_cons_zero]
                      go_big_quiet_step (fail)
                      refine wpQuiet_nil ?_
                      refine E_mob2 13 _ rfl (by kernel_rfl) ?_
                      simp only [List.getElem_toArray, List.getElem_cons_succ, List.getElem_cons_zero]
                      go_big_quiet_step (fail)
                      refine wpQuiet_nil ?_
                      refine E_mob2 14 _ rfl (by kernel_rfl) ?_
                      simp only [List.getElem_toArray, List.getElem_cons_succ, List.getElem_cons_zero]
                      go_big_quiet_step (fail)
                      refine wpQuiet_nil ?_
                      refine E_done (by kernel_rfl) ?_ _
                      clear p0 p1 c8' hpe
                      go_wp2_with fail
                      go_roundw
                      case rel => exact ⟨jj + 1, by omega, by go_num, by rw [HS.out, Bool.true_or], B9⟩
                      case measure => simp [intOf]; omega
                  · obtain rfl : jj = (wkD p).back.length := by omega
                    have hp := HPP.out
                    generalize isP (wkD p).back n tk (wkD p).back.length = q at hp ⊢
                    go_wp2_with fail
                    obtain ⟨W9, hW9⟩ : ∃ W9, W9 = wr.drew := ⟨_, rfl⟩
                    have B9 : Hid (Below w8.heap.size w8 W9) := by rw [hW9]; exact hB.out.drew
                    refine wp_region_game (fun b => b < w8.heap.size) (by kernel_rfl) ?_
                    show wpE _ _ _ _ _ _ _ wr.drew
                    rw [← hW9]
                    clear hW9 hB
                    have c8' := (B9.out.cell (p := ⟨b8, o8 + k, none⟩) hb8l).trans C8.out
                    have r2 := (B9.out.cell (p := ⟨w4.heap.size, n, none⟩) hga8).trans R2.out
                    have r3 := (B9.out.cell (p := ⟨w4.heap.size, tk, none⟩) hga8).trans (HAT8.out tk htk)
                    generalize A.getD tk 0 = y at r3 hp
                    cases hd : decide (z < y)
                    · rw [hd] at hp
                      obtain rfl : q = true := hp
                      refine E_mob2 0 _ rfl (by kernel_rfl) ?_
                      simp only [List.getElem_toArray, List.getElem_cons_succ, List.getElem_cons_zero]
                      go_big_quiet_step (fail)
                      refine wpQuiet_nil ?_
                      refine E_mob2 1 _ rfl (by kernel_rfl) ?_
                      simp only [List.getElem_toArray, List.getElem_cons_succ, List.getElem_cons_zero]
                      go_big_quiet_step (fail)
                      refine wpQuiet_nil ?_
                      refine E_mob2 2 _ rfl (by kernel_rfl) ?_
                      simp only [List.getElem_toArray, List.getElem_cons_succ, List.getElem_cons_zero]
                      go_big_quiet_step (fail)
                      refine wpQuiet_nil ?_
                      refine E_mob2 3 _ rfl (by kernel_rfl) ?_
                      simp only [List.getElem_toArray, List.getElem_cons_succ, List.getElem_cons_zero]
                      go_big_quiet_step (fail)
                      refine wpQuiet_nil ?_
                      refine E_mob2 4 _ rfl (by kernel_rfl) ?_
                      simp only [List.getElem_toArray, List.getElem_cons_succ, List.getElem_cons_zero]
                      go_big_quiet_step (fail)
                      refine wpQuiet_nil ?_
                      refine E_mob2 5 _ rfl (by kernel_rfl) ?_
                      simp only [List.getElem_toArray, List.getElem_cons_succ, List.getElem_cons_zero]
                      go_big_quiet_step (fail)
                      refine wpQuiet_nil ?_
                      refine E_mob2 6 _ rfl (by kernel_rfl) ?_
                      simp only [List.getElem_toArray, List.getElem_cons_succ, List.getElem_cons_zero]
                      go_big_quiet_step (fail)
                      refine wpQuiet_nil ?_
                      refine E_mob2 7 _ rfl (by kernel_rfl) ?_
                      simp only [List.getElem_toArray, List.getElem_cons_succ, List.getElem_cons_zero]
                      go_big_quiet_step (fail)
                      refine wpQuiet_nil ?_
                      refine E_mob2 8 _ rfl (by kernel_rfl) ?_
                      simp only [List.getElem_toArray, List.getElem_cons_succ, List.getElem_cons_zero]
                      go_big_quiet_step (fail)
                      refine wpQuiet_nil ?_
                      refine E_mob2 9 _ rfl (by kernel_rfl) ?_
                      simp only [List.getElem_toArray, List.getElem_cons_succ, List.getElem_cons_zero]
                      go_big_quiet_step (fail)
                      refine wpQuiet_nil ?_
                      refine E_mob2 10 _ rfl (by kernel_rfl) ?_
                      simp only [List.getElem_toArray, List.getElem_cons_succ, List.getElem_cons_zero]
                      go_big_quiet_step (fail)
                      refine wpQuiet_nil ?_
                      refine E_mob2 11 _ rfl (by kernel_rfl) ?_
                      simp only [List.getElem_toArray, List.getElem_cons_succ, List.getElem_cons_zero]
                      go_big_quiet_step (fail)
                      refine wpQuiet_nil ?_
                      refine E_mob2 12 _ rfl (by kernel_rfl) ?_
                      simp only [List.getElem_toArray, List.getElem_cons_succ, List.getElem_cons_zero]
                      go_big_quiet_step (fail)
                      refine wpQuiet_nil ?_
                      refine E_mob2 13 _ rfl (by kernel_rfl) ?_
                      simp only [List.getElem_toArray, List.getElem_cons_succ, List.getElem_cons_zero]
                      go_big_quiet_step (fail)
                      refine wpQuiet_nil ?_
                      refine E_done (by kernel_rfl) ?_ _
                      clear c8' r2 r3
                      go_wp2_with fail
                      go_roundw
                      case rel => exact ⟨k + 1, by omega, by go_num, B9⟩
                      case measure => simp [intOf]; omega
                    · rw [hd] at hp
                      obtain rfl : q = false := hp
                      refine E_mob2 0 _ rfl (by kernel_rfl) ?_
                      simp only [List.getElem_toArray, List.getElem_cons_succ, List.getElem_cons_zero]
                      go_big_quiet_step (fail)
                      refine wpQuiet_nil ?_
                      refine E_mob2 1 _ rfl (by kernel_rfl) ?_
                      simp only [List.getElem_toArray, List.getElem_cons_succ, List.getElem_cons_zero]
                      go_big_quiet_step (fail)
                      refine wpQuiet_nil ?_
                      refine E_mob2 2 _ rfl (by kernel_rfl) ?_
                      simp only [List.getElem_toArray, List.getElem_cons_succ, List.getElem_cons_zero]
                      go_big_quiet_step (fail)
                      refine wpQuiet_nil ?_
                      refine E_mob2 3 _ rfl (by kernel_rfl) ?_
                      simp only [List.getElem_toArray, List.getElem_cons_succ, List.getElem_cons_zero]
                      go_big_quiet_step (fail)
                      refine wpQuiet_nil ?_
                      refine E_mob2 4 _ rfl (by kernel_rfl) ?_
                      simp only [List.getElem_toArray, List.getElem_cons_succ, List.getElem_cons_zero]
                      go_big_quiet_step (fail)
                      refine wpQuiet_nil ?_
                      refine E_mob2 5 _ rfl (by kernel_rfl) ?_
                      simp only [List.getElem_toArray, List.getElem_cons_succ, List.getElem_cons_zero]
                      go_big_quiet_step (fail)
                      refine wpQuiet_nil ?_
                      refine E_mob2 6 _ rfl (by kernel_rfl) ?_
                      simp only [List.getElem_toArray, List.getElem_cons_succ, List.getElem_cons_zero]
                      go_big_quiet_step (fail)
                      refine wpQuiet_nil ?_
                      refine E_mob2 7 _ rfl (by kernel_rfl) ?_
                      simp only [List.getElem_toArray, List.getElem_cons_succ, List.getElem_cons_zero]
                      go_big_quiet_step (fail)
                      refine wpQuiet_nil ?_
                      refine E_mob2 8 _ rfl (by kernel_rfl) ?_
                      simp only [List.getElem_toArray, List.getElem_cons_succ, List.getElem_cons_zero]
                      go_big_quiet_step (fail)
                      refine wpQuiet_nil ?_
                      refine E_mob2 9 _ rfl (by kernel_rfl) ?_
                      simp only [List.getElem_toArray, List.getElem_cons_succ, List.getElem_cons_zero]
                      go_big_quiet_step (fail)
                      refine wpQuiet_nil ?_
                      refine E_mob2 10 _ rfl (by kernel_rfl) ?_
                      simp only [List.getElem_toArray, List.getElem_cons_succ, List.getElem_cons_zero]
                      go_big_quiet_step (fail)
                      refine wpQuiet_nil ?_
                      refine E_mob2 11 _ rfl (by kernel_rfl) ?_
                      simp only [List.getElem_toArray, List.getElem_cons_succ, List.getElem_cons_zero]
                      go_big_quiet_step (fail)
                      refine wpQuiet_nil ?_
                      refine E_mob2 12 _ rfl (by kernel_rfl) ?_
                      simp only [List.getElem_toArray, List.getElem_cons_succ, List.getElem_cons_zero]
                      go_big_quiet_step (fail)
                      refine wpQuiet_nil ?_
                      refine E_mob2 13 _ rfl (by kernel_rfl) ?_
                      simp only [List.getElem_toArray, List.getElem_cons_succ, List.getElem_cons_zero]
                      go_big_quiet_step (fail)
                      refine wpQuiet_nil ?_
                      refine E_done (by kernel_rfl) ?_ _
                      clear c8' r2 r3
                      go_wp2_with fail
                      go_roundw
                      case rel => exact ⟨k + 1, by omega, by go_num, B9⟩
                      case measure => simp [intOf]; omega
              · go_wp2_with fail
                go_roundw
                case rel => exact ⟨n + 1, by omega, by go_num, B8.out.trans (hB.out.mono (by omega))⟩
                case measure => simp [intOf]; omega
        · go_wp2_with (go_at_call 12; refine (awake16_c _).mono ?_; rintro e w9 ⟨rfl, hb9⟩; have hb9 := Lib.hid hb9)
          go_ret
          exact ⟨rfl, HR.out _ (D6.out.trans ((hB.out.trans (hb9.out.mono hB.out.size)).mono (by omega)))⟩
theorem flowRound_c (p : Pr) (V : Value) (w : World) (hok : PrOk p) (hP : PrV w V p) :
    Calls Try.prog 4 #[V] w fun e w' => e = .returned (.bool true) ∧ Below w.heap.size w w' := by
  cases hf : fewP p
  · exact flowRound_no p V w hP hf
  · exact flowRound_yes p V w hP hf
end Go.Proofs.Ytegkbopibacfoaa
