/-
  The instructions of an item are right, if none is too far; which are too far.
-/
import Derived.Test.YtedihiodmgnlpaaA18
set_option linter.all false
namespace Go.Proofs.Ytedihiodmgnlpaa
open Go.ChangeShapes Go.WideShapes Go.ChangeAt Go.RowKit Go.Maps
set_option maxHeartbeats 1000000
set_option linter.unusedVariables false
set_option maxRecDepth 20000

/-- an item's instruction that leads too far -/
def badI (x : It) (i : IN) : Bool := i.op == 3 && x.kind != 1 && (decide (i.imm < -1048576) || decide (1048574 < i.imm))
theorem item_kinds (x : It) (hv : itemF x = true) : x.kind = 1 ∨ x.kind = 2 ∨ x.kind = 3 ∨ x.kind = 4 ∨ x.kind = 5 := by
  unfold itemF at hv
  by_cases h1 : x.kind = 1
  · exact .inl h1
  · by_cases h2 : x.kind = 2
    · exact .inr (.inl h2)
    · by_cases h3 : x.kind = 3
      · exact .inr (.inr (.inl h3))
      · by_cases h4 : x.kind = 4
        · exact .inr (.inr (.inr (.inl h4)))
        · by_cases h5 : x.kind = 5
          · exact .inr (.inr (.inr (.inr h5)))
          · simp [h1, h2, h3, h4, h5] at hv
theorem item_1 (x : It) (hv : itemF x = true) (h : x.kind = 1) : x.i.ok = true := by
  unfold itemF at hv; rw [if_pos h] at hv; simp at hv; exact hv.1
theorem item_3 (x : It) (hv : itemF x = true) (h : x.kind = 3) : x.i.ok = true ∧ 5 ≤ x.i.op ∧ x.i.op ≤ 10 ∧ x.i.imm = 0 := by
  unfold itemF at hv; rw [if_neg (by omega), if_neg (by omega), if_pos h] at hv
  simp at hv
  have := (contrF_ne x.i.op).1 hv.1.1.2
  exact ⟨hv.1.1.1, this.1, this.2, hv.1.2⟩
theorem item_4 (x : It) (hv : itemF x = true) (h : x.kind = 4) : x.i.ok = true ∧ x.i.op = 3 ∧ x.i.imm = 0 := by
  unfold itemF at hv; rw [if_neg (by omega), if_neg (by omega), if_neg (by omega), if_pos h] at hv
  simp at hv
  exact ⟨hv.1.1.1, hv.1.1.2, hv.1.2⟩
theorem item_5 (x : It) (hv : itemF x = true) (h : x.kind = 5) : 0 ≤ x.i.rd ∧ x.i.rd < 32 := by
  unfold itemF at hv; rw [if_neg (by omega), if_neg (by omega), if_neg (by omega), if_neg (by omega), if_pos h] at hv
  simp at hv
  omega
theorem fm_b (op : Int) (h : 5 ≤ op) (h' : op ≤ 10) : fmI op = 66 := (fmI_in op 66 5 10 h h' (by decide) (by decide) (by decide)).symm
theorem ok_branch (i : IN) (op imm : Int) (h : i.ok = true) (h1 : 5 ≤ i.op) (h2 : i.op ≤ 10) (h3 : 5 ≤ op) (h4 : op ≤ 10) (h5 : -4096 ≤ imm) (h6 : imm < 4096) (h7 : imm % 2 = 0) : IN.ok ⟨op, i.rd, i.rs1, i.rs2, imm⟩ = true := by
  have hR : RightP i.op i.rd i.rs1 i.rs2 i.imm := of_decide_eq_true h
  have e1 := fm_b i.op h1 h2
  have e2 := fm_b op h3 h4
  refine decide_eq_true ⟨?_, ?_, ?_, ?_, ?_⟩
  · rw [e2]; decide
  · rw [e2, ← e1]; exact hR.rd
  · rw [e2, ← e1]; exact hR.rs1
  · rw [e2, ← e1]; exact hR.rs2
  · rw [e2]; unfold ReachP
    simp only [show ¬ ((66 : Int) = 85) by decide, show ¬ ((66 : Int) = 74) by decide, show ¬ ((66 : Int) = 73) by decide, show ¬ ((66 : Int) = 72) by decide, show ¬ ((66 : Int) = 83) by decide, if_false, if_true]
    exact ⟨h5, h6, h7⟩
theorem ok_jal (rd imm : Int) (h1 : 0 ≤ rd) (h2 : rd < 32) (h5 : -1048576 ≤ imm) (h6 : imm < 1048576) (h7 : imm % 2 = 0) : IN.ok ⟨3, rd, 0, 0, imm⟩ = true := by
  have e2 : fmI 3 = 74 := by decide
  refine decide_eq_true ⟨?_, ?_, ?_, ?_, ?_⟩
  · rw [e2]; decide
  · rw [e2]; exact ⟨h1, h2⟩
  · rw [e2]; rfl
  · rw [e2]; rfl
  · rw [e2]; unfold ReachP
    simp only [show ¬ ((74 : Int) = 85) by decide, if_false, if_true]
    exact ⟨h5, h6, h7⟩
theorem jal_regs (i : IN) (h : i.ok = true) (h3 : i.op = 3) : 0 ≤ i.rd ∧ i.rd < 32 ∧ i.rs1 = 0 ∧ i.rs2 = 0 := by
  have hR : RightP i.op i.rd i.rs1 i.rs2 i.imm := of_decide_eq_true h
  have e : fmI i.op = 74 := by rw [h3]; decide
  have a := hR.rd
  have b := hR.rs1
  have c := hR.rs2
  rw [e] at a b c
  exact ⟨a.1, a.2, b, c⟩
theorem ok_addi (rd rs1 imm : Int) (h1 : 0 ≤ rd) (h2 : rd < 32) (h3 : 0 ≤ rs1) (h4 : rs1 < 32) (h5 : -2048 ≤ imm) (h6 : imm < 2048) : IN.ok ⟨19, rd, rs1, 0, imm⟩ = true := by
  have e2 : fmI 19 = 73 := by decide
  refine decide_eq_true ⟨?_, ?_, ?_, ?_, ?_⟩
  · rw [e2]; decide
  · rw [e2]; exact ⟨h1, h2⟩
  · rw [e2]; exact ⟨h3, h4⟩
  · rw [e2]; rfl
  · rw [e2]; unfold ReachP
    simp only [show ¬ ((73 : Int) = 85) by decide, show ¬ ((73 : Int) = 74) by decide, if_false, if_true]
    exact ⟨h5, h6⟩
theorem ok_lui (rd imm : Int) (h1 : 0 ≤ rd) (h2 : rd < 32) (h5 : -2147483648 ≤ imm) (h6 : imm < 2147483648) (h7 : imm % 4096 = 0) : IN.ok ⟨1, rd, 0, 0, imm⟩ = true := by
  have e2 : fmI 1 = 85 := by decide
  refine decide_eq_true ⟨?_, ?_, ?_, ?_, ?_⟩
  · rw [e2]; decide
  · rw [e2]; exact ⟨h1, h2⟩
  · rw [e2]; rfl
  · rw [e2]; rfl
  · rw [e2]; unfold ReachP
    simp only [if_true]
    exact ⟨h5, h6, h7⟩
theorem constL_ok (rd n : Int) (h1 : 0 ≤ rd) (h2 : rd < 32) (h : 0 ≤ n) (h' : n < 4294967296) : ∀ i ∈ constL rd n, i.ok = true ∧ i.op ≠ 3 := by
  have hb := sign_bd n 12 h h'
  have e := sg12 n h h'
  have ha : -2048 ≤ sg (signX n 12) ∧ sg (signX n 12) < 2048 := by rw [e]; split <;> omega
  have hm := sg_mod _ hb.1 hb.2
  have hx : (n - signX n 12) % 4294967296 % 4096 = 0 := by
    have : sg (signX n 12) % 4096 = n % 4096 := by rw [e]; split <;> omega
    omega
  have hy : 0 ≤ (n - signX n 12) % 4294967296 ∧ (n - signX n 12) % 4294967296 < 4294967296 := by omega
  have hz := sg_bd _ hy.1 hy.2
  have hz2 : sg ((n - signX n 12) % 4294967296) % 4096 = 0 := by
    unfold sg; split <;> omega
  intro i hi
  unfold constL at hi
  split at hi
  · simp at hi; subst hi
    exact ⟨ok_addi _ _ _ h1 h2 (by decide) (by decide) ha.1 ha.2, by simp⟩
  · split at hi
    · simp at hi; subst hi
      exact ⟨ok_lui _ _ h1 h2 hz.1 hz.2 hz2, by simp⟩
    · simp at hi
      rcases hi with rfl | rfl
      · exact ⟨ok_lui _ _ h1 h2 hz.1 hz.2 hz2, by simp⟩
      · exact ⟨ok_addi _ _ _ h1 h2 h1 h2 ha.1 ha.2, by simp⟩
theorem insL_1 (x : It) (f : Bool) (d : Int) (h : x.kind = 1) : insL x f d = [x.i] := by unfold insL; rw [if_pos h]
theorem insL_2 (x : It) (f : Bool) (d : Int) (h : x.kind = 2) : insL x f d = [] := by unfold insL; rw [if_neg (by omega), if_neg (by omega), if_pos h]
theorem insL_3n (x : It) (d : Int) (h : x.kind = 3) : insL x false d = [{ x.i with imm := d }] := by unfold insL; rw [if_neg (by omega), if_neg (by omega), if_neg (by omega), if_pos ⟨h, rfl⟩]
theorem insL_3f (x : It) (d : Int) (h : x.kind = 3) : insL x true d = [⟨contrF x.i.op, x.i.rd, x.i.rs1, x.i.rs2, 8⟩, ⟨3, 0, 0, 0, d - 4⟩] := by unfold insL; rw [if_neg (by omega), if_neg (by omega), if_neg (by omega), if_neg (fun e => by cases e.2), if_neg (by omega)]
theorem insL_4 (x : It) (f : Bool) (d : Int) (h : x.kind = 4) : insL x f d = [{ x.i with imm := d }] := by unfold insL; rw [if_neg (by omega), if_neg (by omega), if_neg (by omega), if_neg (fun e => by omega), if_pos h]
theorem insL_5 (x : It) (f : Bool) (d : Int) (h : x.kind = 5) : insL x f d = constL x.i.rd (x.i.imm % 4294967296) := by unfold insL; rw [if_neg (by omega), if_pos h]
theorem contrF_in (op : Int) (h : 5 ≤ op) (h' : op ≤ 10) : 5 ≤ contrF op ∧ contrF op ≤ 10 := by
  unfold contrF; split
  · omega
  · split <;> omega
theorem insL_len (x : It) (f : Bool) (d : Int) : (insL x f d).length ≤ 2 := by
  have := constL_len x.i.rd (x.i.imm % 4294967296)
  unfold insL; (repeat' split) <;> simp_all
/-- an item leads too far just if one of its instructions does -/
theorem insB_bad (x : It) (f : Bool) (d : Int) (hv : itemF x = true) (hf : f = true → x.kind = 3) : insB x f d = !((insL x f d).any (badI x)) := by
  rcases item_kinds x hv with h | h | h | h | h
  · rw [insL_1 x f d h]; unfold insB; rw [if_neg (by omega), if_neg (by omega)]
    simp [badI, h]
  · rw [insL_2 x f d h]; unfold insB; rw [if_neg (by omega), if_neg (by omega)]; rfl
  · obtain ⟨-, h1, h2, -⟩ := item_3 x hv h
    cases f
    · rw [insL_3n x d h]; unfold insB; rw [if_neg (by omega), if_neg (fun e => by cases e.2)]
      have : (x.i.op == 3) = false := beq_eq_false_iff_ne.2 (by omega)
      simp [badI, this]
    · have hc := contrF_in x.i.op h1 h2
      rw [insL_3f x d h]; unfold insB; rw [if_neg (by omega), if_pos ⟨h, rfl⟩]
      have e1 : (contrF x.i.op == 3) = false := beq_eq_false_iff_ne.2 (by omega)
      have e2 : (x.kind != 1) = true := bne_iff_ne.2 (by omega)
      simp only [List.any_cons, List.any_nil, badI, e1, Bool.false_and, Bool.false_or, BEq.rfl, e2, Bool.true_and, Bool.or_false]
      rw [Bool.eq_iff_iff]
      simp only [Bool.and_eq_true, decide_eq_true_eq, Bool.not_eq_true', Bool.or_eq_false_iff, decide_eq_false_iff_not]
      omega
  · obtain ⟨-, h1, -⟩ := item_4 x hv h
    rw [insL_4 x f d h]; unfold insB; rw [if_pos h]
    have e2 : (x.kind != 1) = true := bne_iff_ne.2 (by omega)
    simp only [List.any_cons, List.any_nil, badI, h1, BEq.rfl, e2, Bool.true_and, Bool.or_false]
    rw [Bool.eq_iff_iff]
    simp only [Bool.and_eq_true, decide_eq_true_eq, Bool.not_eq_true', Bool.or_eq_false_iff, decide_eq_false_iff_not]
    omega
  · obtain ⟨h1, h2⟩ := item_5 x hv h
    rw [insL_5 x f d h]; unfold insB; rw [if_neg (by omega), if_neg (by omega)]
    have hk := constL_ok x.i.rd (x.i.imm % 4294967296) h1 h2 (by omega) (by omega)
    have : (constL x.i.rd (x.i.imm % 4294967296)).any (badI x) = false := by
      rw [List.any_eq_false]
      intro i hi
      have := (hk i hi).2
      simp [badI, this]
    rw [this]; rfl
theorem insL_ok (x : It) (f : Bool) (d : Int) (hv : itemF x = true) (hf : f = true → x.kind = 3) (hd : d % 4 = 0) (hn : x.kind = 3 → f = false → -4096 ≤ d ∧ d ≤ 4094) : ∀ i ∈ insL x f d, badI x i = false → i.ok = true := by
  intro i hi hb
  rcases item_kinds x hv with h | h | h | h | h
  · rw [insL_1 x f d h] at hi; simp at hi; subst hi; exact item_1 x hv h
  · rw [insL_2 x f d h] at hi; cases hi
  · obtain ⟨h0, h1, h2, -⟩ := item_3 x hv h
    cases f
    · rw [insL_3n x d h] at hi; simp at hi; subst hi
      have := hn h rfl
      exact ok_branch x.i x.i.op d h0 h1 h2 h1 h2 this.1 (by omega) (by omega)
    · have hc := contrF_in x.i.op h1 h2
      rw [insL_3f x d h] at hi; simp at hi
      rcases hi with rfl | rfl
      · exact ok_branch x.i (contrF x.i.op) 8 h0 h1 h2 hc.1 hc.2 (by decide) (by decide) (by decide)
      · have e2 : (x.kind != 1) = true := bne_iff_ne.2 (by omega)
        simp only [badI, BEq.rfl, e2, Bool.true_and, Bool.or_eq_false_iff, decide_eq_false_iff_not] at hb
        exact ok_jal 0 (d - 4) (by decide) (by decide) (by omega) (by omega) (by omega)
  · obtain ⟨h0, h1, -⟩ := item_4 x hv h
    obtain ⟨r1, r2, r3, r4⟩ := jal_regs x.i h0 h1
    rw [insL_4 x f d h] at hi; simp at hi; subst hi
    have e2 : (x.kind != 1) = true := bne_iff_ne.2 (by omega)
    simp only [badI, h1, BEq.rfl, e2, Bool.true_and, Bool.or_eq_false_iff, decide_eq_false_iff_not] at hb
    have := ok_jal x.i.rd d r1 r2 (by omega) (by omega) (by omega)
    show IN.ok ⟨x.i.op, x.i.rd, x.i.rs1, x.i.rs2, d⟩ = true
    rw [h1, r3, r4]; exact this
  · obtain ⟨h1, h2⟩ := item_5 x hv h
    rw [insL_5 x f d h] at hi
    exact (constL_ok x.i.rd (x.i.imm % 4294967296) h1 h2 (by omega) (by omega) i hi).1
theorem szF_4 (x : It) (f : Bool) : szF x f % 4 = 0 := by unfold szF; (repeat' split) <;> omega
theorem posF_4 (L : List It) (F : List Bool) (k : Nat) : posF L F k % 4 = 0 := by
  induction k with
  | zero => rfl
  | succ k ih => have := szF_4 (L.getD k default) (F.getD k false); unfold posF; omega
/-- only branches are far -/
theorem far_3 (L : List It) (lab : List Int) : ∀ m k, (itF L lab (noF L) m).getD k false = true → (L.getD k default).kind = 3
  | 0, k, h => by
    exfalso
    simp only [itF, noF, List.getD, List.getElem?_replicate] at h
    split at h <;> simp at h
  | m + 1, k, h => by
    have e : itF L lab (noF L) (m + 1) = stF L (itF L lab (noF L) m) lab L.length := rfl
    rw [e, stF_at] at h
    split at h
    · rename_i hc
      have := hc.2.1
      unfold trgF at this
      simp only [Bool.and_eq_true, beq_iff_eq] at this
      exact this.1.1
    · exact far_3 L lab m k h
/-- what is not far is near -/
theorem far_no (L : List It) : gF L (farF L) (labs0 L) L.length = false := by
  have hl : (noF L).length = L.length := by simp [noF]
  apply Classical.byContradiction
  intro hg
  have hall : ∀ i, i < L.length + 2 → gF L (itF L (labs0 L) (noF L) i) (labs0 L) L.length = true := by
    intro i hi
    cases h : gF L (itF L (labs0 L) (noF L) i) (labs0 L) L.length
    · exfalso
      have := it_end L (labs0 L) (noF L) hl i h
      apply hg
      show gF L (itF L (labs0 L) (noF L) (L.length + 1)) (labs0 L) L.length = false
      rw [← this]; exact h
    · rfl
  have := it_count L (labs0 L) (noF L) hl (L.length + 1) fun i hi => hall i (by omega)
  omega
theorem near_bd (L : List It) (k : Nat) (hk : k < L.length) (h3 : (L.getD k default).kind = 3) (hf : (farF L).getD k false = false) : -4096 ≤ wyF L k ∧ wyF L k ≤ 4094 := by
  have := gF_no L (farF L) (labs0 L) L.length (far_no L) k hk
  unfold trgF at this
  rw [h3, hf] at this
  simp only [BEq.rfl, Bool.not_false, Bool.true_and, Bool.or_eq_false_iff, decide_eq_false_iff_not] at this
  have e : wyF L k = wayF L (farF L) (labs0 L) k := rfl
  omega
theorem way_4 (L : List It) (F : List Bool) (lab : List Int) (hl : ∀ j, lab.getD j 0 % 4 = 0 ∨ lab.getD j 0 = -1) : ∀ k j, (lbF L F lab k).getD j 0 % 4 = 0 ∨ (lbF L F lab k).getD j 0 = -1
  | 0, j => hl j
  | k + 1, j => by
    have ih := way_4 L F lab hl k j
    have E : lbF L F lab (k + 1) = if (L.getD k default).kind = 2 then (lbF L F lab k).set (L.getD k default).label.toNat (posF L F k) else lbF L F lab k := rfl
    rw [E]
    generalize (L.getD k default).label.toNat = l
    have h4 := posF_4 L F k
    by_cases h2 : (L.getD k default).kind = 2
    · rw [if_pos h2]
      by_cases e : l = j
      · subst e
        by_cases hj : l < (lbF L F lab k).length
        · left
          simp only [List.getD, List.getElem?_set_self hj, Option.getD_some]
          exact h4
        · rw [List.set_eq_of_length_le (by omega)]; exact ih
      · simp only [List.getD, List.getElem?_set_ne e] at ih ⊢; exact ih
    · rw [if_neg h2]; exact ih
theorem wy_std (L : List It) (hV : OkL L) (hd : dupN L L.length = false) (hm : misN L L.length = false) (k : Nat) (hk : k < L.length) (h3 : (L.getD k default).kind = 3 ∨ (L.getD k default).kind = 4) : wyF L k = posF L (farF L) (stdN L (L.getD k default).label L.length).toNat - posF L (farF L) k := by
  have hL : LabOk L (labs0 L).length := by unfold labs0; rw [List.length_replicate]; exact labOk_of L hV hm
  exact way_std L (farF L) (labs0 L) hL hd hm k hk h3
theorem lblF_bd (L : List It) (hn : L.length ≤ 32768) : ∀ j, -1 ≤ (lblF L).getD j 0 ∧ (lblF L).getD j 0 ≤ 262144 := by
  refine lbF_bd L (farF L) (labs0 L) hn (fun j => ?_) L.length (Nat.le_refl _)
  unfold labs0
  simp only [List.getD, List.getElem?_replicate]
  split <;> simp
theorem wy_bd (L : List It) (hn : L.length ≤ 32768) (k : Nat) (hk : k ≤ L.length) : -1000000 ≤ wyF L k ∧ wyF L k ≤ 1000000 := by
  have h1 := lblF_bd L hn (L.getD k default).label.toNat
  have h2 := posF_bd L (farF L) k
  unfold wyF; omega
/-- all instructions of items that may be are right -/
theorem item_ok (L : List It) (hn : L.length ≤ 32768) (hV : OkL L) (hd : dupN L L.length = false) (hm : misN L L.length = false) (k : Nat) (hk : k < L.length) : ∀ i ∈ itemL L k, badI (L.getD k default) i = false → i.ok = true := by
  have hf : (farF L).getD k false = true → (L.getD k default).kind = 3 := far_3 L (labs0 L) (L.length + 1) k
  by_cases h3 : (L.getD k default).kind = 3 ∨ (L.getD k default).kind = 4
  · refine insL_ok _ _ _ (hV k hk) hf ?_ ?_
    · rw [wy_std L hV hd hm k hk h3]
      have := posF_4 L (farF L) (stdN L (L.getD k default).label L.length).toNat
      have := posF_4 L (farF L) k
      omega
    · intro a b
      exact near_bd L k hk a b
  · intro i hi hb
    have e : itemL L k = insL (L.getD k default) ((farF L).getD k false) 0 := by
      unfold itemL
      rcases item_kinds _ (hV k hk) with h | h | h | h | h
      · rw [insL_1 _ _ _ h, insL_1 _ _ _ h]
      · rw [insL_2 _ _ _ h, insL_2 _ _ _ h]
      · exact absurd (.inl h) h3
      · exact absurd (.inr h) h3
      · rw [insL_5 _ _ _ h, insL_5 _ _ _ h]
    rw [e] at hi
    exact insL_ok _ _ _ (hV k hk) hf rfl (fun a => absurd (.inl a) h3) i hi hb
theorem item_bad (L : List It) (hV : OkL L) (k : Nat) (hk : k < L.length) : itemB L k = !((itemL L k).any (badI (L.getD k default))) :=
  insB_bad _ _ _ (hV k hk) (far_3 L (labs0 L) (L.length + 1) k)
end Go.Proofs.Ytedihiodmgnlpaa
