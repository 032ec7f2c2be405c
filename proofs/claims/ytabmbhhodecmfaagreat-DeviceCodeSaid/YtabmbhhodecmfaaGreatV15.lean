/-
  Copies of slices, and what the device tells of itself.
-/
import Derived.Test.YtabmbhhodecmfaaGreatV14
import Derived.Lib.SliceRun
import Derived.WalkSpells
set_option linter.all false
namespace Go.Proofs.YtabmbhhodecmfaaGreat
open Go.ChangeShapes Go.WideShapes Go.ChangeAt Go.RowKit
set_option maxHeartbeats 2000000
set_option linter.unusedVariables false
set_option maxRecDepth 20000

/-- a slice whose cells are known -/
def Src (w : World) (v : Value) (n : Nat) (xs : List Value) : Prop := ((∃ c, v = .slice none 0 c) ∧ n = 0 ∧ xs = []) ∨ ∃ (ad : Addr) (c : Nat), v = .slice (some ad) n c ∧ ∀ j u, xs[j]? = some u → ∃ b o, ad = ⟨b, o, none⟩ ∧ w.cell? ⟨b, o + j, none⟩ = some u
theorem Src.keep {w w' : World} {v : Value} {n : Nat} {xs : List Value} (h : Src w v n xs) (hb : Below w.heap.size w w') : Src w' v n xs := by
  rcases h with h | ⟨ad, c, e, hc⟩
  · exact .inl h
  · exact .inr ⟨ad, c, e, fun j u hj => by
      obtain ⟨b, o, ea, this⟩ := hc j u hj
      exact ⟨b, o, ea, (hb.cell (p := ⟨b, o + j, none⟩) (World.block_lt_of_cell? w _ this)).trans this⟩⟩
theorem src_own {w : World} {B s n : Nat} {e : TypeId} {v : Value} {xs : List Value} (h : w.ownsRow B e s v n xs) : Src w v n xs := by
  have H := h
  obtain ⟨hl, ⟨rfl, rfl⟩ | ⟨g, cap, cur, rfl, hb, hgg, hn, hc, hsz, htk⟩⟩ := h
  · exact .inl ⟨⟨0, rfl⟩, rfl, by simpa using hl⟩
  · refine .inr ⟨⟨g, 0, none⟩, cap, rfl, fun j u hj => ⟨g, 0, rfl, ?_⟩⟩
    have hlt : j < n * s := by rw [← hl]; exact (List.getElem?_eq_some_iff.1 hj).1
    rw [Nat.zero_add, H.cellAt j hlt]; exact hj
theorem vadd_plain (g o j : Nat) : (⟨g, o, none⟩ : Addr).add j = ⟨g, o + j, none⟩ := by unfold Addr.add; split <;> simp_all
theorem vinfoU32 : (Tryz.prog.info? 40).map (fun i => (i.zero, i.size, i.bytes)) = some (some (.int .u32 0), 1, 4) := by kernel_rfl
theorem vinfoU8 : (Tryz.prog.info? 5).map (fun i => (i.zero, i.size, i.bytes)) = some (some (.int .u8 0), 1, 1) := by kernel_rfl
theorem clone32 (v : Value) (n : Nat) (xs : List Value) (w : World) (h : Src w v n xs) (hl : xs.length = n * 1) (hn : n ≤ 1000000) (h1 : ∀ u ∈ xs, u.oneCell' = true) :
    Calls Tryz.prog 23 #[v] w fun e w' => ∃ v', e = .returned v' ∧ w'.ownsRow w.heap.size 40 1 v' n xs ∧ Below w.heap.size w w' := by
  rcases h with ⟨⟨c0, rfl⟩, rfl, rfl⟩ | ⟨ad, c, rfl, hc⟩
  · have hnil := fun w => Lib.run_eql_slice_nil (P := Tryz.prog) w 22 40 none 0 c0 0 0 Tryz.underlying22
    go_enter Tryz.func23, Tryz.ntmps23
    go_wp2_with fail
    go_ret
    exact ⟨_, rfl, World.ownsRow_nil _ _ _ _, Below.refl _ _⟩
  · have hnil := fun w => Lib.run_eql_slice_nil (P := Tryz.prog) w 22 40 (some ad) n c 0 0 Tryz.underlying22
    obtain ⟨i0, hi, hz0, hz1, hz2⟩ := info_parts vinfoU32
    have HC : Hid (∀ j u, xs[j]? = some u → (w.alloc (.cells #[] 40)).cell? (ad.add j) = some u) := fun j u hj => by
      obtain ⟨b, o, rfl, hx⟩ := hc j u hj
      rw [vadd_plain]
      exact ((vbelow1 w _).cell (p := ⟨b, o + j, none⟩) (World.block_lt_of_cell? w _ hx)).trans hx
    clear hc
    go_enter Tryz.func23, Tryz.ntmps23
    go_wp2_with (at_builtin; refine wpList_append_own _ rfl _ _ 22 rfl w.heap.size 40 i0 (.int .u32 0) 1 4 Tryz.underlying22 hi hz0 hz1 hz2 rfl (by decide) (.slice (some ⟨w.heap.size, 0, none⟩) 0 0) 0 [] rfl (World.ownsRow_made w #[] 0 (Nat.le_refl _) (by simp [maxLen]) (by simp)) ad n c xs rfl hl HC.out h1 (by unfold maxLen; omega) (by omega) (by simp) ?_; intro v' w1 hown hgrow hnn)
    go_ret
    simp only [Nat.zero_add, List.nil_append] at hown
    exact ⟨v', rfl, hown, (vbelow1 w _).grown hgrow (by simp) fun k hk => by simp [Value.ownBlock] at hk; omega⟩
theorem clone8 (v : Value) (n : Nat) (xs : List Value) (w : World) (h : Src w v n xs) (hl : xs.length = n * 1) (hn : n ≤ 1000000) (h1 : ∀ u ∈ xs, u.oneCell' = true) :
    Calls Tryz.prog 24 #[v] w fun e w' => ∃ v', e = .returned v' ∧ w'.ownsRow w.heap.size 5 1 v' n xs ∧ Below w.heap.size w w' := by
  rcases h with ⟨⟨c0, rfl⟩, rfl, rfl⟩ | ⟨ad, c, rfl, hc⟩
  · have hnil := fun w => Lib.run_eql_slice_nil (P := Tryz.prog) w 23 5 none 0 c0 0 0 Tryz.underlying23
    go_enter Tryz.func24, Tryz.ntmps24
    go_wp2_with fail
    go_ret
    exact ⟨_, rfl, World.ownsRow_nil _ _ _ _, Below.refl _ _⟩
  · have hnil := fun w => Lib.run_eql_slice_nil (P := Tryz.prog) w 23 5 (some ad) n c 0 0 Tryz.underlying23
    obtain ⟨i0, hi, hz0, hz1, hz2⟩ := info_parts vinfoU8
    have HC : Hid (∀ j u, xs[j]? = some u → (w.alloc (.cells #[] 5)).cell? (ad.add j) = some u) := fun j u hj => by
      obtain ⟨b, o, rfl, hx⟩ := hc j u hj
      rw [vadd_plain]
      exact ((vbelow1 w _).cell (p := ⟨b, o + j, none⟩) (World.block_lt_of_cell? w _ hx)).trans hx
    clear hc
    go_enter Tryz.func24, Tryz.ntmps24
    go_wp2_with (at_builtin; refine wpList_append_own _ rfl _ _ 23 rfl w.heap.size 5 i0 (.int .u8 0) 1 1 Tryz.underlying23 hi hz0 hz1 hz2 rfl (by decide) (.slice (some ⟨w.heap.size, 0, none⟩) 0 0) 0 [] rfl (World.ownsRow_made w #[] 0 (Nat.le_refl _) (by simp [maxLen]) (by simp)) ad n c xs rfl hl HC.out h1 (by unfold maxLen; omega) (by omega) (by simp) ?_; intro v' w1 hown hgrow hnn)
    go_ret
    simp only [Nat.zero_add, List.nil_append] at hown
    exact ⟨v', rfl, hown, (vbelow1 w _).grown hgrow (by simp) fun k hk => by simp [Value.ownBlock] at hk; omega⟩
theorem cloneR (v : Value) (n : Nat) (xs : List Value) (w : World) (h : Src w v n xs) (hl : xs.length = n * 2) (hn : n ≤ 1000000) (h1 : ∀ u ∈ xs, u.oneCell' = true) :
    Calls Tryz.prog 28 #[v] w fun e w' => ∃ v', e = .returned v' ∧ w'.ownsRow w.heap.size 66 2 v' n xs ∧ Below w.heap.size w w' := by
  rcases h with ⟨⟨c0, rfl⟩, rfl, rfl⟩ | ⟨ad, c, rfl, hc⟩
  · have hnil := fun w => Lib.run_eql_slice_nil (P := Tryz.prog) w 35 66 none 0 c0 0 0 Tryz.underlying35
    go_enter Tryz.func28, Tryz.ntmps28
    go_wp2_with fail
    go_ret
    exact ⟨_, rfl, World.ownsRow_nil _ _ _ _, Below.refl _ _⟩
  · have hnil := fun w => Lib.run_eql_slice_nil (P := Tryz.prog) w 35 66 (some ad) n c 0 0 Tryz.underlying35
    obtain ⟨i0, hi, hz0, hz1, hz2⟩ := info_parts vinfoRec
    have HC : Hid (∀ j u, xs[j]? = some u → (w.alloc (.cells #[] 66)).cell? (ad.add j) = some u) := fun j u hj => by
      obtain ⟨b, o, rfl, hx⟩ := hc j u hj
      rw [vadd_plain]
      exact ((vbelow1 w _).cell (p := ⟨b, o + j, none⟩) (World.block_lt_of_cell? w _ hx)).trans hx
    clear hc
    go_enter Tryz.func28, Tryz.ntmps28
    go_wp2_with (at_builtin; refine wpList_append_own _ rfl _ _ 35 rfl w.heap.size 66 i0 (.agg #[.int .u32 0, .int .u32 0]) 2 8 Tryz.underlying35 hi hz0 hz1 hz2 rfl (by decide) (.slice (some ⟨w.heap.size, 0, none⟩) 0 0) 0 [] rfl (World.ownsRow_made w #[] 0 (Nat.le_refl _) (by simp [maxLen]) (by simp)) ad n c xs rfl hl HC.out h1 (by unfold maxLen; omega) (by omega) (by simp) ?_; intro v' w1 hown hgrow hnn)
    go_ret
    simp only [Nat.zero_add, List.nil_append] at hown
    exact ⟨v', rfl, hown, (vbelow1 w _).grown hgrow (by simp) fun k hk => by simp [Value.ownBlock] at hk; omega⟩
section
variable {k : VK} {w : World} {vl : Value} {m : Dv} {ts : List Mt}
theorem vexitC (h : Vm k w vl m ts) : Calls Tryz.prog 29 #[.pointer (some ⟨k.bm, 0, none⟩)] w fun e w' => e = .returned (.int .u32 m.exit) ∧ w = w' := by
  have c9 := h.c 10 (by decide)
  have lb := h.bmLt.2
  clear h
  generalize k.bm = bm at *
  go_enter Tryz.func29, Tryz.ntmps29
  go_wp2_with fail
  go_ret
  exact ⟨rfl, rfl⟩
theorem vexitCn (w : World) : Calls Tryz.prog 29 #[.pointer none] w fun e w' => e = .returned (.int .u32 0) ∧ w = w' := by
  go_enter Tryz.func29, Tryz.ntmps29
  go_wp2_with fail
  go_ret
  exact ⟨rfl, rfl⟩
theorem vstepsC (h : Vm k w vl m ts) : Calls Tryz.prog 13 #[.pointer (some ⟨k.bm, 0, none⟩)] w fun e w' => e = .returned (.int .i64 m.steps) ∧ w = w' := by
  have c9 := h.c 8 (by decide)
  have lb := h.bmLt.2
  clear h
  generalize k.bm = bm at *
  go_enter Tryz.func13, Tryz.ntmps13
  go_wp2_with fail
  go_ret
  exact ⟨rfl, rfl⟩
theorem vstepsCn (w : World) : Calls Tryz.prog 13 #[.pointer none] w fun e w' => e = .returned (.int .i64 0) ∧ w = w' := by
  go_enter Tryz.func13, Tryz.ntmps13
  go_wp2_with fail
  go_ret
  exact ⟨rfl, rfl⟩
theorem vpcC (h : Vm k w vl m ts) : Calls Tryz.prog 22 #[.pointer (some ⟨k.bm, 0, none⟩)] w fun e w' => e = .returned (.int .u32 m.pc) ∧ w = w' := by
  have c9 := h.c 0 (by decide)
  have lb := h.bmLt.2
  clear h
  generalize k.bm = bm at *
  go_enter Tryz.func22, Tryz.ntmps22
  go_wp2_with fail
  go_ret
  exact ⟨rfl, rfl⟩
theorem vpcCn (w : World) : Calls Tryz.prog 22 #[.pointer none] w fun e w' => e = .returned (.int .u32 0) ∧ w = w' := by
  go_enter Tryz.func22, Tryz.ntmps22
  go_wp2_with fail
  go_ret
  exact ⟨rfl, rfl⟩
def regT (m : Dv) (i : Int) : Int := if 0 ≤ i ∧ i < 32 then m.regs.getD i.toNat 0 else 0
theorem vreg_c (h : Vm k w vl m ts) (i : Int) : Calls Tryz.prog 21 #[.pointer (some ⟨k.bm, 0, none⟩), .int .i64 i] w fun e w' => e = .returned (.int .u32 (regT m i)) ∧ w = w' := by
  have lb := h.bmLt.2
  by_cases h1 : i < 0
  · have e : regT m i = 0 := by unfold regT; rw [if_neg (by omega)]
    have g1 : decide (i < 0) = true := decide_eq_true h1
    rw [e]
    clear h h1 e
    go_enter Tryz.func21, Tryz.ntmps21
    go_wp2_with fail
    go_ret
    exact ⟨rfl, rfl⟩
  · have g1 : decide (i < 0) = false := decide_eq_false h1
    by_cases h2 : i < 32
    · obtain ⟨n, rfl⟩ := Int.eq_ofNat_of_zero_le (by omega : 0 ≤ i)
      have e : regT m (n : Int) = m.regs.getD n 0 := by unfold regT; rw [if_pos (by omega)]; rfl
      have c0 := h.cR n (by omega)
      have g2 : decide ((32 : Int) ≤ (n : Int)) = false := decide_eq_false (by omega)
      have g3 : decide (32 ≤ n) = false := decide_eq_false (by omega)
      have hn : n < 32 := by omega
      rw [e]
      clear h h1 h2 e
      generalize m.regs.getD n 0 = x at *
      go_enter Tryz.func21, Tryz.ntmps21
      go_wp2_with fail
      go_ret
      exact ⟨rfl, rfl⟩
    · have e : regT m i = 0 := by unfold regT; rw [if_neg (by omega)]
      have g2 : decide ((32 : Int) ≤ i) = true := decide_eq_true (by omega)
      rw [e]
      clear h h1 h2 e
      go_enter Tryz.func21, Tryz.ntmps21
      go_wp2_with fail
      go_ret
      exact ⟨rfl, rfl⟩
theorem logV_len (l : List (Int × Int)) : (logV l).length = l.length * 2 := by
  unfold logV; exact flat_len _ 2 (fun _ => rfl) l
theorem logV_one (l : List (Int × Int)) : ∀ u ∈ logV l, u.oneCell' = true := by
  intro u hu
  unfold logV at hu
  obtain ⟨x, -, hx⟩ := List.mem_flatMap.1 hu
  simp at hx
  rcases hx with rfl | rfl <;> rfl
theorem mapV_one {kd : IntKind} (l : List Int) : ∀ u ∈ l.map (Value.int kd), u.oneCell' = true := by
  intro u hu
  obtain ⟨x, -, rfl⟩ := List.mem_map.1 hu
  rfl
theorem vlog_c (h : Vm k w vl m ts) (hl : m.log.length ≤ 1000000) : Calls Tryz.prog 12 #[.pointer (some ⟨k.bm, 0, none⟩)] w fun e w' => ∃ v', e = .returned v' ∧ w'.ownsRow w.heap.size 66 2 v' m.log.length (logV m.log) ∧ Below w.heap.size w w' := by
  have c9 := h.c 7 (by decide)
  simp only [List.getElem?_cons_succ, List.getElem?_cons_zero] at c9
  have lb := h.bmLt.2
  have CC := Lib.hid (cloneR vl m.log.length (logV m.log) w (src_own h.ll) (logV_len _) hl (logV_one _))
  clear h
  generalize k.bm = bm at *
  go_enter Tryz.func12, Tryz.ntmps12
  go_wp2_with (go_at_call 28; (with_reducible refine CC.out.mono ?_); rintro e w1 ⟨v', rfl, ho, hb⟩)
  go_ret
  exact ⟨v', rfl, ho, hb⟩
theorem vdata_c (h : Vm k w vl m ts) (hl : m.data.length ≤ 1000000) : Calls Tryz.prog 20 #[.pointer (some ⟨k.bm, 0, none⟩)] w fun e w' => ∃ v', e = .returned v' ∧ w'.ownsRow w.heap.size 5 1 v' m.data.length (m.data.map (Value.int .u8)) ∧ Below w.heap.size w w' := by
  have c9 := h.c 5 (by decide)
  simp only [List.getElem?_cons_succ, List.getElem?_cons_zero] at c9
  have lb := h.bmLt.2
  have CC := Lib.hid (clone8 k.vd m.data.length (m.data.map (Value.int .u8)) w (src_own h.dd) (by simp) hl (mapV_one _))
  clear h
  generalize k.bm = bm at *
  generalize k.vd = vd at *
  go_enter Tryz.func20, Tryz.ntmps20
  go_wp2_with (go_at_call 24; (with_reducible refine CC.out.mono ?_); rintro e w1 ⟨v', rfl, ho, hb⟩)
  go_ret
  exact ⟨v', rfl, ho, hb⟩
theorem vlog_n (w : World) : Calls Tryz.prog 12 #[.pointer none] w fun e w' => e = .returned (.slice none 0 0) ∧ w = w' := by
  go_enter Tryz.func12, Tryz.ntmps12
  go_wp2_with fail
  go_ret
  exact ⟨rfl, rfl⟩
theorem vstate_n (w : World) : Calls Tryz.prog 25 #[.pointer none] w fun e w' => e = .returned (.int .i64 0) ∧ w = w' := by
  go_enter Tryz.func25, Tryz.ntmps25
  go_wp2_with fail
  go_ret
  exact ⟨rfl, rfl⟩
theorem vstep_n (w : World) : Calls Tryz.prog 10 #[.pointer none] w fun e w' => e = .returned (.int .i64 0) ∧ w = w' := by
  have CS := Lib.hid (vstate_n w)
  go_enter Tryz.func10, Tryz.ntmps10
  go_wp2_with (go_at_call 25; (with_reducible refine CS.out.mono ?_); rintro e w1 ⟨rfl, rfl⟩)
  go_ret
  exact ⟨rfl, rfl⟩
theorem vrun_n (w : World) (n : Int) (v : Value) : Calls Tryz.prog 11 #[.pointer none, .int .i64 n, v] w fun e w' => e = .returned (.int .i64 0) ∧ w = w' := by
  go_enter Tryz.func11, Tryz.ntmps11
  go_wp2_with fail
  go_ret
  exact ⟨rfl, rfl⟩
end
end Go.Proofs.YtabmbhhodecmfaaGreat
