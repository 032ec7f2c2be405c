/-
  Copies of slices, and what the device tells of itself.
-/
import Derived.Test.YtppmjdljnacpgaaV14
import Derived.Lib.SliceRun
import Derived.WalkSpells
set_option linter.all false
namespace Go.Proofs.Ytppmjdljnacpgaa
open Go.ChangeShapes Go.WideShapes Go.ChangeAt Go.RowKit
set_option maxHeartbeats 2000000
set_option linter.unusedVariables false
set_option maxRecDepth 20000

/-- a slice whose cells are known -/
def Src (w : World) (v : Value) (n : Nat) (xs : List Value) : Prop := ((∃ c, v = .slice none 0 c) ∧ n = 0 ∧ xs = []) ∨ ∃ (ad : Addr) (c : Nat), v = .slice (some ad) n c ∧ ∀ j u, xs[j]? = some u → ∃ b o, ad = ⟨b, o, none⟩ ∧ w.cell? ⟨b, o + j, none⟩ = some u
theorem Src.keep {w w' : World} {v : Value} {n : Nat} {xs : List Value} (h : Src w v n xs) (hb : Below w.heap.size w w') : Src w' v n xs := by
  rcases h with h | ⟨ad, c, e, hc⟩
  · exact .inl h
  · exact .inr ⟨ad, c, e, fun j u hj => by
      obtain ⟨b, o, ea, this⟩ := hc j u hj
      exact ⟨b, o, ea, (hb.cell (p := ⟨b, o + j, none⟩) (World.block_lt_of_cell? w _ this)).trans this⟩⟩
theorem src_own {w : World} {B s n : Nat} {e : TypeId} {v : Value} {xs : List Value} (h : w.ownsRow B e s v n xs) : Src w v n xs := by
  have H := h
  obtain ⟨hl, ⟨rfl, rfl⟩ | ⟨g, cap, cur, rfl, hb, hgg, hn, hc, hsz, htk⟩⟩ := h
  · exact .inl ⟨⟨0, rfl⟩, rfl, by simpa using hl⟩
  · refine .inr ⟨⟨g, 0, none⟩, cap, rfl, fun j u hj => ⟨g, 0, rfl, ?_⟩⟩
    have hlt : j < n * s := by rw [← hl]; exact (List.getElem?_eq_some_iff.1 hj).1
    rw [Nat.zero_add, H.cellAt j hlt]; exact hj
theorem vadd_plain (g o j : Nat) : (⟨g, o, none⟩ : Addr).add j = ⟨g, o + j, none⟩ := by unfold Addr.add; split <;> simp_all
theorem vinfoU32 : (Try.prog.info? 24).map (fun i => (i.zero, i.size, i.bytes)) = some (some (.int .u32 0), 1, 4) := by kernel_rfl
theorem vinfoU8 : (Try.prog.info? 5).map (fun i => (i.zero, i.size, i.bytes)) = some (some (.int .u8 0), 1, 1) := by kernel_rfl
theorem clone32 (v : Value) (n : Nat) (xs : List Value) (w : World) (h : Src w v n xs) (hl : xs.length = n * 1) (hn : n ≤ 1000000) (h1 : ∀ u ∈ xs, u.oneCell' = true) :
    Calls Try.prog 43 #[v] w fun e w' => ∃ v', e = .returned v' ∧ w'.ownsRow w.heap.size 24 1 v' n xs ∧ Below w.heap.size w w' := by
  rcases h with ⟨⟨c0, rfl⟩, rfl, rfl⟩ | ⟨ad, c, rfl, hc⟩
  · have hnil := fun w => Lib.run_eql_slice_nil (P := Try.prog) w 39 24 none 0 c0 0 0 Try.underlying39
    go_enter Try.func43, Try.ntmps43
    go_wp2_with fail
    go_ret
    exact ⟨_, rfl, World.ownsRow_nil _ _ _ _, Below.refl _ _⟩
  · have hnil := fun w => Lib.run_eql_slice_nil (P := Try.prog) w 39 24 (some ad) n c 0 0 Try.underlying39
    obtain ⟨i0, hi, hz0, hz1, hz2⟩ := info_parts vinfoU32
    have HC : Hid (∀ j u, xs[j]? = some u → (w.alloc (.cells #[] 24)).cell? (ad.add j) = some u) := fun j u hj => by
      obtain ⟨b, o, rfl, hx⟩ := hc j u hj
      rw [vadd_plain]
      exact ((vbelow1 w _).cell (p := ⟨b, o + j, none⟩) (World.block_lt_of_cell? w _ hx)).trans hx
    clear hc
    go_enter Try.func43, Try.ntmps43
    go_wp2_with (at_builtin; refine wpList_append_own _ rfl _ _ 39 rfl w.heap.size 24 i0 (.int .u32 0) 1 4 Try.underlying39 hi hz0 hz1 hz2 rfl (by decide) (.slice (some ⟨w.heap.size, 0, none⟩) 0 0) 0 [] rfl (World.ownsRow_made w #[] 0 (Nat.le_refl _) (by simp [maxLen]) (by simp)) ad n c xs rfl hl HC.out h1 (by unfold maxLen; omega) (by omega) (by simp) ?_; intro v' w1 hown hgrow hnn)
    go_ret
    simp only [Nat.zero_add, List.nil_append] at hown
    exact ⟨v', rfl, hown, (vbelow1 w _).grown hgrow (by simp) fun k hk => by simp [Value.ownBlock] at hk; omega⟩
theorem clone8 (v : Value) (n : Nat) (xs : List Value) (w : World) (h : Src w v n xs) (hl : xs.length = n * 1) (hn : n ≤ 1000000) (h1 : ∀ u ∈ xs, u.oneCell' = true) :
    Calls Try.prog 44 #[v] w fun e w' => ∃ v', e = .returned v' ∧ w'.ownsRow w.heap.size 5 1 v' n xs ∧ Below w.heap.size w w' := by
  rcases h with ⟨⟨c0, rfl⟩, rfl, rfl⟩ | ⟨ad, c, rfl, hc⟩
  · have hnil := fun w => Lib.run_eql_slice_nil (P := Try.prog) w 40 5 none 0 c0 0 0 Try.underlying40
    go_enter Try.func44, Try.ntmps44
    go_wp2_with fail
    go_ret
    exact ⟨_, rfl, World.ownsRow_nil _ _ _ _, Below.refl _ _⟩
  · have hnil := fun w => Lib.run_eql_slice_nil (P := Try.prog) w 40 5 (some ad) n c 0 0 Try.underlying40
    obtain ⟨i0, hi, hz0, hz1, hz2⟩ := info_parts vinfoU8
    have HC : Hid (∀ j u, xs[j]? = some u → (w.alloc (.cells #[] 5)).cell? (ad.add j) = some u) := fun j u hj => by
      obtain ⟨b, o, rfl, hx⟩ := hc j u hj
      rw [vadd_plain]
      exact ((vbelow1 w _).cell (p := ⟨b, o + j, none⟩) (World.block_lt_of_cell? w _ hx)).trans hx
    clear hc
    go_enter Try.func44, Try.ntmps44
    go_wp2_with (at_builtin; refine wpList_append_own _ rfl _ _ 40 rfl w.heap.size 5 i0 (.int .u8 0) 1 1 Try.underlying40 hi hz0 hz1 hz2 rfl (by decide) (.slice (some ⟨w.heap.size, 0, none⟩) 0 0) 0 [] rfl (World.ownsRow_made w #[] 0 (Nat.le_refl _) (by simp [maxLen]) (by simp)) ad n c xs rfl hl HC.out h1 (by unfold maxLen; omega) (by omega) (by simp) ?_; intro v' w1 hown hgrow hnn)
    go_ret
    simp only [Nat.zero_add, List.nil_append] at hown
    exact ⟨v', rfl, hown, (vbelow1 w _).grown hgrow (by simp) fun k hk => by simp [Value.ownBlock] at hk; omega⟩
theorem cloneR (v : Value) (n : Nat) (xs : List Value) (w : World) (h : Src w v n xs) (hl : xs.length = n * 2) (hn : n ≤ 1000000) (h1 : ∀ u ∈ xs, u.oneCell' = true) :
    Calls Try.prog 46 #[v] w fun e w' => ∃ v', e = .returned v' ∧ w'.ownsRow w.heap.size 82 2 v' n xs ∧ Below w.heap.size w w' := by
  rcases h with ⟨⟨c0, rfl⟩, rfl, rfl⟩ | ⟨ad, c, rfl, hc⟩
  · have hnil := fun w => Lib.run_eql_slice_nil (P := Try.prog) w 50 82 none 0 c0 0 0 Try.underlying50
    go_enter Try.func46, Try.ntmps46
    go_wp2_with fail
    go_ret
    exact ⟨_, rfl, World.ownsRow_nil _ _ _ _, Below.refl _ _⟩
  · have hnil := fun w => Lib.run_eql_slice_nil (P := Try.prog) w 50 82 (some ad) n c 0 0 Try.underlying50
    obtain ⟨i0, hi, hz0, hz1, hz2⟩ := info_parts vinfoRec
    have HC : Hid (∀ j u, xs[j]? = some u → (w.alloc (.cells #[] 82)).cell? (ad.add j) = some u) := fun j u hj => by
      obtain ⟨b, o, rfl, hx⟩ := hc j u hj
      rw [vadd_plain]
      exact ((vbelow1 w _).cell (p := ⟨b, o + j, none⟩) (World.block_lt_of_cell? w _ hx)).trans hx
    clear hc
    go_enter Try.func46, Try.ntmps46
    go_wp2_with (at_builtin; refine wpList_append_own _ rfl _ _ 50 rfl w.heap.size 82 i0 (.agg #[.int .u32 0, .int .u32 0]) 2 8 Try.underlying50 hi hz0 hz1 hz2 rfl (by decide) (.slice (some ⟨w.heap.size, 0, none⟩) 0 0) 0 [] rfl (World.ownsRow_made w #[] 0 (Nat.le_refl _) (by simp [maxLen]) (by simp)) ad n c xs rfl hl HC.out h1 (by unfold maxLen; omega) (by omega) (by simp) ?_; intro v' w1 hown hgrow hnn)
    go_ret
    simp only [Nat.zero_add, List.nil_append] at hown
    exact ⟨v', rfl, hown, (vbelow1 w _).grown hgrow (by simp) fun k hk => by simp [Value.ownBlock] at hk; omega⟩
section
variable {k : VK} {w : World} {vl : Value} {m : Dv} {ts : List Mt}
theorem vexitC (h : Vm k w vl m ts) : Calls Try.prog 24 #[.pointer (some ⟨k.bm, 0, none⟩)] w fun e w' => e = .returned (.int .u32 m.exit) ∧ w = w' := by
  have c9 := h.c 10 (by decide)
  have lb := h.bmLt.2
  clear h
  generalize k.bm = bm at *
  go_enter Try.func24, Try.ntmps24
  go_wp2_with fail
  go_ret
  exact ⟨rfl, rfl⟩
theorem vexitCn (w : World) : Calls Try.prog 24 #[.pointer none] w fun e w' => e = .returned (.int .u32 0) ∧ w = w' := by
  go_enter Try.func24, Try.ntmps24
  go_wp2_with fail
  go_ret
  exact ⟨rfl, rfl⟩
theorem vstepsC (h : Vm k w vl m ts) : Calls Try.prog 20 #[.pointer (some ⟨k.bm, 0, none⟩)] w fun e w' => e = .returned (.int .i64 m.steps) ∧ w = w' := by
  have c9 := h.c 8 (by decide)
  have lb := h.bmLt.2
  clear h
  generalize k.bm = bm at *
  go_enter Try.func20, Try.ntmps20
  go_wp2_with fail
  go_ret
  exact ⟨rfl, rfl⟩
theorem vstepsCn (w : World) : Calls Try.prog 20 #[.pointer none] w fun e w' => e = .returned (.int .i64 0) ∧ w = w' := by
  go_enter Try.func20, Try.ntmps20
  go_wp2_with fail
  go_ret
  exact ⟨rfl, rfl⟩
theorem vpcC (h : Vm k w vl m ts) : Calls Try.prog 21 #[.pointer (some ⟨k.bm, 0, none⟩)] w fun e w' => e = .returned (.int .u32 m.pc) ∧ w = w' := by
  have c9 := h.c 0 (by decide)
  have lb := h.bmLt.2
  clear h
  generalize k.bm = bm at *
  go_enter Try.func21, Try.ntmps21
  go_wp2_with fail
  go_ret
  exact ⟨rfl, rfl⟩
theorem vpcCn (w : World) : Calls Try.prog 21 #[.pointer none] w fun e w' => e = .returned (.int .u32 0) ∧ w = w' := by
  go_enter Try.func21, Try.ntmps21
  go_wp2_with fail
  go_ret
  exact ⟨rfl, rfl⟩
def regT (m : Dv) (i : Int) : Int := if 0 ≤ i ∧ i < 32 then m.regs.getD i.toNat 0 else 0
theorem vreg_c (h : Vm k w vl m ts) (i : Int) : Calls Try.prog 23 #[.pointer (some ⟨k.bm, 0, none⟩), .int .i64 i] w fun e w' => e = .returned (.int .u32 (regT m i)) ∧ w = w' := by
  have lb := h.bmLt.2
  by_cases h1 : i < 0
  · have e : regT m i = 0 := by unfold regT; rw [if_neg (by omega)]
    have g1 : decide (i < 0) = true := decide_eq_true h1
    rw [e]
    clear h h1 e
    go_enter Try.func23, Try.ntmps23
    go_wp2_with fail
    go_ret
    exact ⟨rfl, rfl⟩
  · have g1 : decide (i < 0) = false := decide_eq_false h1
    by_cases h2 : i < 32
    · obtain ⟨n, rfl⟩ := Int.eq_ofNat_of_zero_le (by omega : 0 ≤ i)
      have e : regT m (n : Int) = m.regs.getD n 0 := by unfold regT; rw [if_pos (by omega)]; rfl
      have c0 := h.cR n (by omega)
      have g2 : decide ((32 : Int) ≤ (n : Int)) = false := decide_eq_false (by omega)
      have g3 : decide (32 ≤ n) = false := decide_eq_false (by omega)
      have hn : n < 32 := by omega
      rw [e]
      clear h h1 h2 e
      generalize m.regs.getD n 0 = x at *
      go_enter Try.func23, Try.ntmps23
      go_wp2_with fail
      go_ret
      exact ⟨rfl, rfl⟩
    · have e : regT m i = 0 := by unfold regT; rw [if_neg (by omega)]
      have g2 : decide ((32 : Int) ≤ i) = true := decide_eq_true (by omega)
      rw [e]
      clear h h1 h2 e
      go_enter Try.func23, Try.ntmps23
      go_wp2_with fail
      go_ret
      exact ⟨rfl, rfl⟩
theorem logV_len (l : List (Int × Int)) : (logV l).length = l.length * 2 := by
  unfold logV; exact flat_len _ 2 (fun _ => rfl) l
theorem logV_one (l : List (Int × Int)) : ∀ u ∈ logV l, u.oneCell' = true := by
  intro u hu
  unfold logV at hu
  obtain ⟨x, -, hx⟩ := List.mem_flatMap.1 hu
  simp at hx
  rcases hx with rfl | rfl <;> rfl
theorem mapV_one {kd : IntKind} (l : List Int) : ∀ u ∈ l.map (Value.int kd), u.oneCell' = true := by
  intro u hu
  obtain ⟨x, -, rfl⟩ := List.mem_map.1 hu
  rfl
theorem vlog_c (h : Vm k w vl m ts) (hl : m.log.length ≤ 1000000) : Calls Try.prog 22 #[.pointer (some ⟨k.bm, 0, none⟩)] w fun e w' => ∃ v', e = .returned v' ∧ w'.ownsRow w.heap.size 82 2 v' m.log.length (logV m.log) ∧ Below w.heap.size w w' := by
  have c9 := h.c 7 (by decide)
  simp only [List.getElem?_cons_succ, List.getElem?_cons_zero] at c9
  have lb := h.bmLt.2
  have CC := Lib.hid (cloneR vl m.log.length (logV m.log) w (src_own h.ll) (logV_len _) hl (logV_one _))
  clear h
  generalize k.bm = bm at *
  go_enter Try.func22, Try.ntmps22
  go_wp2_with (go_at_call 46; (with_reducible refine CC.out.mono ?_); rintro e w1 ⟨v', rfl, ho, hb⟩)
  go_ret
  exact ⟨v', rfl, ho, hb⟩
theorem vlog_n (w : World) : Calls Try.prog 22 #[.pointer none] w fun e w' => e = .returned (.slice none 0 0) ∧ w = w' := by
  go_enter Try.func22, Try.ntmps22
  go_wp2_with fail
  go_ret
  exact ⟨rfl, rfl⟩
theorem vstate_n (w : World) : Calls Try.prog 19 #[.pointer none] w fun e w' => e = .returned (.int .i64 0) ∧ w = w' := by
  go_enter Try.func19, Try.ntmps19
  go_wp2_with fail
  go_ret
  exact ⟨rfl, rfl⟩
theorem vstep_n (w : World) : Calls Try.prog 45 #[.pointer none] w fun e w' => e = .returned (.int .i64 0) ∧ w = w' := by
  have CS := Lib.hid (vstate_n w)
  go_enter Try.func45, Try.ntmps45
  go_wp2_with (go_at_call 19; (with_reducible refine CS.out.mono ?_); rintro e w1 ⟨rfl, rfl⟩)
  go_ret
  exact ⟨rfl, rfl⟩
theorem vrun_n (w : World) (n : Int) (v : Value) : Calls Try.prog 18 #[.pointer none, .int .i64 n, v] w fun e w' => e = .returned (.int .i64 0) ∧ w = w' := by
  go_enter Try.func18, Try.ntmps18
  go_wp2_with fail
  go_ret
  exact ⟨rfl, rfl⟩
end
end Go.Proofs.Ytppmjdljnacpgaa
