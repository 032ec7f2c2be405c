/-
  What Assemble answers, as plain data; the contract of Encode in one piece; the law of append for words.
-/
import Derived.Test.YtedihiodmgnlpaaA12
set_option linter.all false
namespace Go.Proofs.Ytedihiodmgnlpaa
open Go.ChangeShapes Go.WideShapes Go.ChangeAt Go.RowKit Go.Maps
set_option maxHeartbeats 1000000
set_option linter.unusedVariables false
set_option maxRecDepth 20000

def encW (i : IN) : Int := if i.ok = true then wordP i.op.toNat i.rd i.rs1 i.rs2 i.imm else 0
theorem ok_op (i : IN) (h : i.ok = true) : 1 ≤ i.op ∧ i.op < 46 := by
  have hR : RightP i.op i.rd i.rs1 i.rs2 i.imm := of_decide_eq_true h
  have h0 := hR.form
  by_cases h : 0 ≤ i.op ∧ i.op < 46
  · refine ⟨?_, h.2⟩
    by_cases h1 : i.op = 0
    · rw [h1] at h0; exact absurd rfl h0
    · omega
  · exact absurd (fmI_out i.op (by omega)) h0
theorem encode_c (i : IN) (w : World) : Calls Try.prog 43 #[i.v] w fun e w' => (∃ n, e = .returned (.tuple #[.int .u32 (encW i), .int .i64 n])) ∧ Below w.heap.size w w' := by
  obtain ⟨op, rd, rs1, rs2, imm⟩ := i
  show Calls _ _ #[.agg #[.int .i64 op, .int .i64 rd, .int .i64 rs1, .int .i64 rs2, .int .i64 imm]] _ _
  cases hr : rightB op rd rs1 rs2 imm
  · refine (encode_no op rd rs1 rs2 imm w hr).mono fun e w' ⟨h, hb⟩ => ⟨⟨1, ?_⟩, hb⟩
    rw [h]
    unfold encW
    rw [if_neg (by show ¬ rightB op rd rs1 rs2 imm = true; simp [hr])]
  · obtain ⟨h1, h2⟩ := ok_op ⟨op, rd, rs1, rs2, imm⟩ hr
    dsimp only at h1 h2
    obtain ⟨k, rfl⟩ := Int.eq_ofNat_of_zero_le (show 0 ≤ op by omega)
    refine (encode_yes k (by omega) (by omega) rd rs1 rs2 imm w hr).mono fun e w' ⟨h, hb⟩ => ⟨⟨0, ?_⟩, hb⟩
    rw [h]
    unfold encW
    rw [if_pos (show IN.ok ⟨(k : Int), rd, rs1, rs2, imm⟩ = true from hr)]
    rfl
theorem infoU32 : (Try.prog.info? 35).map (fun i => (i.zero, i.size, i.bytes)) = some (some (.int .u32 0), 1, 4) := by kernel_rfl
/-- the law of append for rows of words: one more, and where it lies -/
theorem appW {ops : Array Oper} {rest : List Oper} {o : Oper} {a : Act} {W : World} {B : Nat} {v : Value} {l : List Int} {n : Int} {g : Nat} {Q : Exit → Act → World → Prop} {s x : Operand} (hown : W.ownsRow B 35 1 v l.length (l.map (Value.int .u32))) (hgd : o.guard = none)
    (ho : o.op = .call { callee := .builtin .append, args := #[s, x], argTypes := #[25, 25] }) (hs : a.eval s = v)
    (hx : a.eval x = .slice (some ⟨g, 0, none⟩) 1 1) (hc : W.cell? ⟨g, 0, none⟩ = some (.int .u32 n)) (hlen : l.length ≤ 1000000000) (hB : B ≤ W.heap.size)
    (h : ∀ v' w', w'.ownsRow B 35 1 v' (l ++ [n]).length ((l ++ [n]).map (Value.int .u32)) → W.grownBy w' v.ownBlock → wpList Try.prog ops Q rest (a.put o.dst v') w') : wpList Try.prog ops Q (o :: rest) a W := by
  obtain ⟨i0, hi, hz0, hz1, hz2⟩ := info_parts infoU32
  refine wpList_append_own_at _ hgd s x 25 ho B 35 i0 (.int .u32 0) 1 4 Try.underlying25 hi hz0 hz1 hz2 rfl (by decide) v l.length _ hs hown ⟨g, 0, none⟩ 1 1 [.int .u32 n] hx rfl ?_ ?_ ?_ ?_ hB ?_
  · intro j u hj
    match j, hj with
    | 0, hj => simp at hj; subst hj; simpa [Addr.add] using hc
  · intro u hu; simp at hu; subst hu; rfl
  · unfold maxLen; omega
  · omega
  · intro v' w' h1 h2 _ h4
    exact h v' w' (by simpa using h1) h2

def noF (L : List It) : List Bool := List.replicate L.length false
def labs0 (L : List It) : List Int := List.replicate (mostF L L.length + 1).toNat (-1)
/-- which are far, at last -/
def farF (L : List It) : List Bool := itF L (labs0 L) (noF L) (L.length + 1)
def lblF (L : List It) : List Int := lbF L (farF L) (labs0 L) L.length
def wyF (L : List It) (k : Nat) : Int := (lblF L).getD (L.getD k default).label.toNat 0 - posF L (farF L) k
def itemL (L : List It) (k : Nat) : List IN := insL (L.getD k default) ((farF L).getD k false) (wyF L k)
def itemB (L : List It) (k : Nat) : Bool := insB (L.getD k default) ((farF L).getD k false) (wyF L k)
/-- the words of the first k items -/
def wordsF (L : List It) : Nat → List Int
  | 0 => []
  | k + 1 => wordsF L k ++ (itemL L k).map encW
def okN (L : List It) : Nat → Bool
  | 0 => true
  | k + 1 => okN L k && itemF (L.getD k default)
def inN (L : List It) : Nat → Bool
  | 0 => true
  | k + 1 => inN L k && itemB L k
def asmE (L : List It) : Int := if 32768 < L.length then 2 else if okN L L.length = false then 1 else if labE L ≠ 0 then labE L else if inN L L.length = false then 7 else 0
def asmW (L : List It) : List Int := if asmE L = 0 then wordsF L L.length else []
def asmL (L : List It) : List Int := if asmE L = 0 then lblF L else []

theorem fix_rnd (L : List It) (lab : List Int) (F : List Bool) (h : gF L F lab L.length = false) : rndF L lab F = F := stF_none L F lab L.length h
theorem it_fix (L : List It) (lab : List Int) (far : List Bool) (m : Nat) (h : gF L (itF L lab far m) lab L.length = false) : ∀ j, itF L lab far (m + j) = itF L lab far m
  | 0 => rfl
  | j + 1 => by
    show rndF L lab (itF L lab far (m + j)) = _
    rw [it_fix L lab far m h j]
    exact fix_rnd L lab _ h
theorem itF_len (L : List It) (lab : List Int) (far : List Bool) : ∀ m, (itF L lab far m).length = far.length
  | 0 => rfl
  | m + 1 => by show (stF L (itF L lab far m) lab L.length).length = _; rw [stF_len]; exact itF_len L lab far m
theorem it_count (L : List It) (lab : List Int) (far : List Bool) (hl : far.length = L.length) : ∀ j, (∀ i, i < j → gF L (itF L lab far i) lab L.length = true) → ((List.range L.length).filter fun k => !((itF L lab far j).getD k false)).length + j ≤ L.length
  | 0, _ => by simpa using List.length_filter_le (fun k => !((itF L lab far 0).getD k false)) (List.range L.length)
  | j + 1, h => by
    have ih := it_count L lab far hl j fun i hi => h i (by omega)
    have := near_lt L (itF L lab far j) lab (by rw [itF_len]; exact hl) (h j (Nat.lt_succ_self _))
    show ((List.range L.length).filter fun k => !((stF L (itF L lab far j) lab L.length).getD k false)).length + (j + 1) ≤ L.length
    omega
theorem it_end (L : List It) (lab : List Int) (far : List Bool) (hl : far.length = L.length) (m : Nat) (h : gF L (itF L lab far m) lab L.length = false) : itF L lab far m = itF L lab far (L.length + 1) := by
  have key : ∃ j, j ≤ L.length ∧ gF L (itF L lab far j) lab L.length = false := by
    apply Classical.byContradiction
    intro hn
    have := it_count L lab far hl (L.length + 1) fun i hi => by
      cases hg : gF L (itF L lab far i) lab L.length
      · exact absurd ⟨i, by omega, hg⟩ hn
      · rfl
    omega
  obtain ⟨j, hj, hg⟩ := key
  have e1 := it_fix L lab far j hg (L.length + 1 - j)
  rw [show j + (L.length + 1 - j) = L.length + 1 by omega] at e1
  rw [e1]
  by_cases hmj : m ≤ j
  · have := it_fix L lab far m h (j - m)
    rw [show m + (j - m) = j by omega] at this
    exact this.symm
  · have := it_fix L lab far j hg (m - j)
    rw [show j + (m - j) = m by omega] at this
    exact this
end Go.Proofs.Ytedihiodmgnlpaa
