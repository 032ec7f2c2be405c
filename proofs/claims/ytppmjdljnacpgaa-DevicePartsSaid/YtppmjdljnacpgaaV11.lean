/-
  What holds of a machine stays through a step.
-/
import Derived.Test.YtppmjdljnacpgaaV10
set_option linter.all false
namespace Go.Proofs.Ytppmjdljnacpgaa
open Go.ChangeShapes Go.WideShapes Go.ChangeAt Go.RowKit
set_option maxHeartbeats 1000000
set_option linter.unusedVariables false
set_option maxRecDepth 20000

theorem fitN_bd {w : Int} {k : Nat} : ∀ n : Nat, fitN w n = some k → 1 ≤ k ∧ k < n
  | 0, h => by cases h
  | n + 1, h => by
    unfold fitN at h
    split at h
    · rename_i e; cases h; exact ⟨e.1, by omega⟩
    · have := fitN_bd n h; exact ⟨this.1, by omega⟩
theorem decD_ok {w : Int} {i : Iv} (h0 : 0 ≤ w) (h1 : w < 4294967296) (h : decD w = some i) : IvOk i := by
  unfold decD at h
  cases hf : fitN w 46 with
  | none => rw [hf] at h; cases h
  | some k =>
    rw [hf] at h
    cases h
    have hk := fitN_bd 46 hf
    have hi := immF_bd (fm k) w h0 h1
    exact ⟨by dsimp only; omega, by dsimp only [rdW]; split <;> omega, by dsimp only [rs1W]; split <;> omega, by dsimp only [rs2W]; split <;> omega, by dsimp only; omega⟩
def U32 (x : Int) : Prop := 0 ≤ x ∧ x < 4294967296
theorem wd_bd (x : Int) : U32 (wd x) := by unfold U32 wd; omega
theorem bits_bd (a b : Int) (ha : U32 a) (hb : U32 b) : U32 (bits .xor .u32 a b) ∧ U32 (bits .or .u32 a b) ∧ U32 (bits .and .u32 a b) := by
  obtain ⟨h1, h2⟩ := ha
  obtain ⟨h3, h4⟩ := hb
  obtain ⟨x, rfl⟩ := Int.eq_ofNat_of_zero_le h1
  obtain ⟨y, rfl⟩ := Int.eq_ofNat_of_zero_le h3
  obtain ⟨e1, e2⟩ := bits_nat .u32 32 (by decide) wraps_u32 x y (by omega) (by omega)
  have e3 : bits .xor .u32 (x : Int) (y : Int) = ((x ^^^ y : Nat) : Int) := by
    rw [Go.u32_xor (x : Int) (y : Int) h1 h2 h3 h4]; simp
  have l1 : x ^^^ y < 2 ^ 32 := Nat.xor_lt_two_pow (by omega) (by omega)
  have l2 : x ||| y < 2 ^ 32 := Nat.or_lt_two_pow (by omega) (by omega)
  have l3 : x &&& y < 2 ^ 32 := Nat.and_lt_two_pow _ (by omega)
  have e4 : bits .and .u32 (x : Int) (y : Int) = ((x &&& y : Nat) : Int) := by
    rw [Go.u32_and (x : Int) (y : Int) h1 h2 h3 h4]; simp
  rw [e3, e2, e4]
  refine ⟨⟨by omega, by omega⟩, ⟨by omega, by omega⟩, ⟨by omega, by omega⟩⟩
theorem pow2_pos (n : Nat) : (0 : Int) < 2 ^ n := Int.pow_pos (by decide)
theorem emod_bd (x : Int) : U32 (x % 4294967296) := by unfold U32; omega
theorem less_bd (a b : Int) : U32 (lessS a b) ∧ U32 (lessU a b) := by
  unfold U32 lessS lessU
  constructor <;> split <;> omega
theorem ediv_bd {a b : Int} (ha : U32 a) (hb : 0 < b) : U32 (a / b) := ⟨Int.ediv_nonneg ha.1 (by omega), Int.lt_of_le_of_lt (Int.ediv_le_self _ ha.1) ha.2⟩
theorem ite_bd {c : Prop} [Decidable c] {x y : Int} (hx : U32 x) (hy : U32 y) : U32 (if c then x else y) := by
  split
  · exact hx
  · exact hy
theorem reckP_bd (op a b : Int) (ha : U32 a) (hb : U32 b) : U32 (reckP op a b) := by
  obtain ⟨x1, x2, x3⟩ := bits_bd a b ha hb
  obtain ⟨y1, y2⟩ := less_bd a b
  have d1 : U32 (divS a b) := by
    unfold divS; split
    · unfold U32; omega
    · exact emod_bd _
  have d2 : U32 (divU a b) := by
    unfold divU; split
    · unfold U32; omega
    · exact ediv_bd ha (by have := hb.1; omega)
  have d3 : U32 (remS a b) := by
    unfold remS; split
    · exact ha
    · exact emod_bd _
  have d4 : U32 (remU a b) := by
    unfold remU; split
    · exact ha
    · rename_i h
      have h1 := Int.emod_nonneg a h
      have h2 := Int.emod_lt_of_pos a (show 0 < b by have := hb.1; omega)
      exact ⟨h1, by have := hb.2; omega⟩
  have d5 : U32 (shl32 a b) := emod_bd _
  have d6 : U32 (shr32 a b) := ediv_bd ha (pow2_pos _)
  have d7 : U32 (sar32 a b) := emod_bd _
  have d8 : U32 (highS a b) := emod_bd _
  have d9 : U32 (highSU a b) := emod_bd _
  have d10 : U32 (highU a b) := highu_bd a b ha.1 ha.2 hb.1 hb.2
  unfold reckP
  repeat' first | assumption | exact wd_bd _ | refine ite_bd ?_ ?_
theorem signX_bd (a n : Int) (h : U32 a) : U32 (signX a n) := by
  unfold signX; split
  · exact h
  · exact emod_bd _
theorem loadD_bd {inp : List Int} {m : Dv} {op at' v : Int} (hi : ∀ j, 0 ≤ inp.getD j 0 ∧ inp.getD j 0 < 4294967296) (hm : Dok m) (h : loadD inp m op at' = some v) : U32 v := by
  unfold loadD at h
  split at h
  · cases h; split
    · exact hi _
    · unfold U32; omega
  · split at h
    · cases h
      have hb := bytesP_bd m.data hm.db (at' - 268435456).toNat (sizeP op).toNat
      have hu : U32 (bytesP m.data (at' - 268435456).toNat (sizeP op).toNat) := by
        refine ⟨hb.1, Int.lt_of_lt_of_le hb.2 ?_⟩
        rcases sizeP_or op with e | e | e <;> rw [e] <;> decide
      split
      · exact signX_bd _ _ hu
      · split
        · exact signX_bd _ _ hu
        · exact hu
    · cases h
theorem getD_set0 (l : List Int) (i j : Nat) (v : Int) : (l.set i v).getD j 0 = l.getD j 0 ∨ (l.set i v).getD j 0 = v := by
  by_cases h : i = j
  · subst h
    by_cases hl : i < l.length
    · right; simp [List.getD, hl]
    · left; rw [List.set_eq_of_length_le (by omega)]
  · left; simp [List.getD, List.getElem?_set_ne h]
theorem putP_bd (mem : List Int) (h : ∀ j, 0 ≤ mem.getD j 0 ∧ mem.getD j 0 < 256) (n : Nat) (v : Int) : ∀ i, ∀ j, 0 ≤ (putP mem n v i).getD j 0 ∧ (putP mem n v i).getD j 0 < 256
  | 0 => h
  | i + 1 => fun j => by
    unfold putP
    rcases getD_set0 (putP mem n v i) (n + i) j (v / 256 ^ i % 256) with e | e <;> rw [e]
    · exact putP_bd mem h n v i j
    · exact ⟨Int.emod_nonneg _ (by decide), Int.emod_lt_of_pos _ (by decide)⟩
/-- what a store leaves as it was, and what holds of the rest -/
theorem storeD_ok {m m' : Dv} {op at' v : Int} (hm : Dok m) (hv : U32 v) (h : storeD m op at' v = some m') : m'.regs = m.regs ∧ m'.pc = m.pc ∧ m'.steps = m.steps ∧ U32 m'.seq ∧ U32 m'.index ∧ (∀ j, 0 ≤ m'.data.getD j 0 ∧ m'.data.getD j 0 < 256) ∧ m'.data.length = m.data.length ∧ m'.log.length ≤ m.log.length + 1 := by
  unfold storeD at h
  split at h
  · cases h; exact ⟨rfl, rfl, rfl, hv, hm.ib, hm.db, rfl, by simp⟩
  split at h
  · cases h; exact ⟨rfl, rfl, rfl, hm.sb, hm.ib, hm.db, rfl, by simp⟩
  split at h
  · cases h; exact ⟨rfl, rfl, rfl, hm.sb, hv, hm.db, rfl, by simp⟩
  split at h
  · cases h; exact ⟨rfl, rfl, rfl, hm.sb, hm.ib, hm.db, rfl, by simp⟩
  split at h
  · cases h; exact ⟨rfl, rfl, rfl, hm.sb, hm.ib, putP_bd _ hm.db _ _ _, putP_len _ _ _ _, by simp⟩
  · cases h
theorem set_self0 (l : List Int) (h : l.getD 0 0 = 0) : l.set 0 0 = l := by
  cases l with
  | nil => rfl
  | cons a l => simp [List.getD] at h; simp [h]
theorem regD_bd {m : Dv} (hm : Dok m) (r : Int) : U32 (regD m r) := hm.rb _
/-- the registers after one is set -/
theorem setD_ok {m : Dv} (hm : Dok m) (r v : Int) (hv : U32 v) : (∀ j, 0 ≤ (setD m r v).regs.getD j 0 ∧ (setD m r v).regs.getD j 0 < 4294967296) ∧ (setD m r v).regs.getD 0 0 = 0 ∧ (setD m r v).regs.length = m.regs.length := by
  unfold setD
  split
  · refine ⟨fun j => ?_, ?_, by simp⟩
    · rcases getD_set0 m.regs r.toNat j v with e | e <;> rw [e]
      · exact hm.rb j
      · exact hv
    · rename_i hr
      have : r.toNat ≠ 0 := by omega
      have h0 := hm.r0
      simp only [List.getD, List.getElem?_set_ne this] at h0 ⊢
      exact h0
  · exact ⟨hm.rb, hm.r0, rfl⟩
theorem zero_wr {m : Dv} (hm : Dok m) (r v : Int) (hr : 0 ≤ r) : (wrD m r v).regs.set 0 0 = (setD m r v).regs := by
  unfold wrD setD
  by_cases h : 0 < r
  · rw [if_pos h]
    dsimp only
    refine set_self0 _ ?_
    have : r.toNat ≠ 0 := by omega
    have h0 := hm.r0
    simp only [List.getD, List.getElem?_set_ne this] at h0 ⊢
    exact h0
  · have : r = 0 := by omega
    subst this
    rw [if_neg h]
    dsimp only
    rw [show (0 : Int).toNat = 0 from rfl, List.set_set]
    exact set_self0 _ hm.r0
theorem wr_fields (m : Dv) (r v p : Int) (x : List Int) : ({ ({ wrD m r v with pc := p } : Dv) with regs := x } : Dv) = { m with regs := x, pc := p } := rfl
theorem set_fields (m : Dv) (r v p : Int) : ({ setD m r v with pc := p } : Dv) = { m with regs := (setD m r v).regs, pc := p } := by
  unfold setD; split <;> rfl
/-- the device's doing, register 0 set back, is the document's -/
theorem doW_doD {inp : List Int} {m : Dv} {i : Iv} (hm : Dok m) (hi : IvOk i) : doD inp m i = (doW inp m i).map fun m1 => { m1 with regs := m1.regs.set 0 0 } := by
  have key : ∀ v p, (some ({ setD m i.rd v with pc := p } : Dv)) = (some ({ wrD m i.rd v with pc := p } : Dv)).map fun m1 => { m1 with regs := m1.regs.set 0 0 } := fun v p => by
    rw [set_fields, ← zero_wr hm i.rd v hi.rd.1]; rfl
  unfold doD doW
  dsimp only
  split
  · exact key _ _
  split
  · exact key _ _
  split
  · exact key _ _
  split
  · exact key _ _
  split
  · show _ = some _
    congr 1
    dsimp only
    rw [set_self0 _ hm.r0]
  split
  · cases hl : loadD inp m i.op (wd (regD m i.rs1 + i.imm)) with
    | none => rfl
    | some v => exact key _ _
  split
  · cases hs : storeD m i.op (wd (regD m i.rs1 + i.imm)) (regD m i.rs2) with
    | none => rfl
    | some m' =>
      have := (storeD_ok hm (regD_bd hm _) hs).1
      show some _ = some _
      congr 1
      dsimp only
      rw [this, set_self0 _ hm.r0]
  split
  · exact key _ _
  · exact key _ _
/-- what holds after an instruction -/
theorem doD_ok {inp : List Int} {m m' : Dv} {i : Iv} (hin : ∀ j, 0 ≤ inp.getD j 0 ∧ inp.getD j 0 < 4294967296) (hm : Dok m) (hi : IvOk i) (h : doD inp m i = some m') : Dok { m' with steps := m.steps + 1 } ∧ m'.data.length = m.data.length ∧ m'.regs.length = m.regs.length ∧ m'.steps = m.steps := by
  have ha := regD_bd hm i.rs1
  have hb := regD_bd hm i.rs2
  have key : ∀ v p, U32 v → U32 p → some ({ setD m i.rd v with pc := p } : Dv) = some m' → Dok { m' with steps := m.steps + 1 } ∧ m'.data.length = m.data.length ∧ m'.regs.length = m.regs.length ∧ m'.steps = m.steps := fun v p hv hp h => by
    obtain ⟨q1, q2, q3⟩ := setD_ok hm i.rd v hv
    rw [set_fields] at h
    cases h
    exact ⟨⟨q1, hp, hm.sb, hm.ib, hm.db, hm.dl, q2, by have := hm.tb; dsimp only; omega, by have := hm.lb; dsimp only; omega⟩, rfl, q3, rfl⟩
  unfold doD at h
  dsimp only at h
  split at h
  · exact key _ _ (wd_bd _) (wd_bd _) h
  split at h
  · exact key _ _ (wd_bd _) (wd_bd _) h
  split at h
  · exact key _ _ (wd_bd _) (wd_bd _) h
  split at h
  · refine key _ _ (wd_bd _) ?_ h
    have := wd_bd (regD m i.rs1 + i.imm)
    unfold U32 at *; omega
  split at h
  · cases h
    refine ⟨⟨hm.rb, ?_, hm.sb, hm.ib, hm.db, hm.dl, hm.r0, by have := hm.tb; dsimp only; omega, by have := hm.lb; dsimp only; omega⟩, rfl, rfl, rfl⟩
    dsimp only; split <;> exact wd_bd _
  split at h
  · split at h
    · cases h
    · rename_i v hv
      exact key _ _ (loadD_bd hin hm hv) (wd_bd _) h
  split at h
  · split at h
    · cases h
    · rename_i m1 hs
      cases h
      obtain ⟨e1, e2, e3, e4, e5, e6, e7, e8⟩ := storeD_ok hm hb hs
      refine ⟨⟨by dsimp only; rw [e1]; exact hm.rb, wd_bd _, e4, e5, e6, by dsimp only; rw [e7]; exact hm.dl, by dsimp only; rw [e1]; exact hm.r0, by have := hm.tb; dsimp only; omega, by have := hm.lb; dsimp only; omega⟩, e7, by dsimp only; rw [e1], e3⟩
  split at h
  · exact key _ _ (reckP_bd _ _ _ ha (wd_bd _)) (wd_bd _) h
  · exact key _ _ (reckP_bd _ _ _ ha hb) (wd_bd _) h
theorem Dok.state {m : Dv} (hm : Dok m) (s : Int) : Dok { m with state := s } := ⟨hm.rb, hm.pb, hm.sb, hm.ib, hm.db, hm.dl, hm.r0, hm.tb, hm.lb⟩
theorem stepD_ok {code inp : List Int} {m : Dv} (hc : ∀ j, 0 ≤ code.getD j 0 ∧ code.getD j 0 < 4294967296) (hin : ∀ j, 0 ≤ inp.getD j 0 ∧ inp.getD j 0 < 4294967296) (hm : Dok m) :
    Dok (stepD code inp m) ∧ (stepD code inp m).data.length = m.data.length ∧ (stepD code inp m).regs.length = m.regs.length ∧ m.steps ≤ (stepD code inp m).steps ∧ (stepD code inp m).steps ≤ m.steps + 1 := by
  unfold stepD
  split
  · exact ⟨hm, rfl, rfl, by omega, by omega⟩
  split
  · cases hd : decD (code.getD (m.pc / 4).toNat 0) with
    | none => exact ⟨hm.state 2, rfl, rfl, by dsimp only; omega, by dsimp only; omega⟩
    | some i =>
      have hi := decD_ok (hc _).1 (hc _).2 hd
      dsimp only
      cases ho : doD inp m i with
      | none => exact ⟨hm.state 2, rfl, rfl, by dsimp only; omega, by dsimp only; omega⟩
      | some m' =>
        obtain ⟨q1, q2, q3, q4⟩ := doD_ok hin hm hi ho
        exact ⟨q1, q2, q3, by dsimp only; omega, by dsimp only; omega⟩
  · exact ⟨hm.state 2, rfl, rfl, by dsimp only; omega, by dsimp only; omega⟩
theorem failD_ok {m : Dv} (hm : Dok m) : Dok (failD m) ∧ (failD m).data.length = m.data.length ∧ (failD m).steps = m.steps := by
  unfold failD
  split
  · have hz : ∀ j, (List.replicate 32 (0 : Int)).getD j 0 = 0 := fun j => by
      simp only [List.getD, List.getElem?_replicate]; split <;> rfl
    refine ⟨⟨fun j => ?_, ⟨Int.le_refl _, (by decide : (0 : Int) < 4294967296)⟩, ⟨Int.le_refl _, (by decide : (0 : Int) < 4294967296)⟩, ⟨Int.le_refl _, (by decide : (0 : Int) < 4294967296)⟩, hm.db, hm.dl, hz 0, hm.tb, hm.lb⟩, rfl, rfl⟩
    dsimp only; rw [hz]; decide
  · exact ⟨hm, rfl, rfl⟩
theorem stepD_eq (k : VK) (m : Dv) : stepD k.code k.inp m = if m.state ≠ 0 then m else match fetchD k m with
    | none => { m with state := 2 }
    | some i => match doD k.inp m i with
      | none => { m with state := 2 }
      | some m' => { m' with steps := m.steps + 1 } := by
  unfold stepD fetchD
  split
  · rfl
  · split <;> rfl
end Go.Proofs.Ytppmjdljnacpgaa
