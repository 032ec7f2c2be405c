/-
  A set of numbers as a map to bools; labels as plain data: which stand among the first items, which stands twice, which is missing, the greatest.
-/
import Derived.Test.YtedihiodmgnlpaaA9
import Derived.Maps.Own
import Derived.Maps.OwnOps
import Derived.Maps.Views
import Derived.Maps.OwnSet
set_option linter.all false
namespace Go.Proofs.Ytedihiodmgnlpaa
open Go.ChangeShapes Go.WideShapes Go.ChangeAt Go.RowKit Go.Maps
set_option maxHeartbeats 1000000
set_option linter.unusedVariables false
set_option maxRecDepth 20000

def boolR : Value → Option (DataW Unit × List MemPlace)
  | .bool b => some (.lit (.bool b), [])
  | _ => none
/-- block b is a map of at most n entries that says for each number whether it is in the set -/
def SetM (w : World) (b n : Nat) (S : Int → Bool) : Prop :=
  ∃ D, w.ownsMap Try.prog 3 boolR b n D ∧ IsMap D ∧ ∀ x, D.atKey (.int .i64 x) (.lit (.bool false)) = .lit (.bool (S x))
theorem lawInt : Keyed Try.prog 3 := int_keyed Try.underlying3
theorem zeroBool (w : World) : (zeroValue 4).run Try.prog w = .ok (.bool false) w := by kernel_rfl
theorem SetM.made (w : World) : SetM (w.alloc (.map #[] 0)) w.heap.size 0 (fun _ => false) :=
  ⟨.map [], World.ownsMap_made _ _ _ _, isMap_empty, fun _ => rfl⟩
theorem SetM.kept {w w' : World} {b n : Nat} {S : Int → Bool} {row : Option Nat} (h : SetM w b n S) (hg : w.grownBy w' row) (hr : some b ≠ row) : SetM w' b n S := by
  obtain ⟨D, h1, h2, h3⟩ := h
  exact ⟨D, h1.kept hg hr, h2, h3⟩
theorem SetM.grow {w w' : World} {b n : Nat} {S : Int → Bool} (h : SetM w b n S) (hb : Below w.heap.size w w') : SetM w' b n S :=
  h.kept (row := none) ⟨hb.os, hb.tape, hb.output, hb.size, fun k hk _ => hb.block k hk⟩ (by simp)
theorem SetM.mono {w : World} {b n n' : Nat} {S : Int → Bool} (h : SetM w b n S) (hn : n ≤ n') : SetM w b n' S := by
  obtain ⟨D, h1, h2, h3⟩ := h
  exact ⟨D, h1.mono hn, h2, h3⟩
theorem SetM.to {w : World} {b n : Nat} {S S' : Int → Bool} (h : SetM w b n S) (he : ∀ x, S x = S' x) : SetM w b n S' := by
  obtain ⟨D, h1, h2, h3⟩ := h
  exact ⟨D, h1, h2, fun x => by rw [h3, he]⟩
theorem wf_small (x : Int) (h : 0 ≤ x) (h' : x < 4096) : (Lit.int .i64 x).wf = true := WalkArith.wf_i64 (by omega)
theorem SetM.look {w : World} {b n : Nat} {S : Int → Bool} (h : SetM w b n S) (x : Int) (hx : (Lit.int .i64 x).wf = true) : (Instr.lookup 137 (.map (some b)) (.int .i64 x) false).run Try.prog w = .ok (.bool (S x)) w := by
  obtain ⟨D, h1, h2, h3⟩ := h
  obtain ⟨v, ps, hr, hv⟩ := h1.lookup lawInt Try.underlying137 (zeroBool w) (zd := .lit (.bool false)) (zp := []) rfl (keyOf_int_mk Try.underlying3 hx)
  rw [h3 x] at hv
  rw [hr]
  cases v <;> simp [boolR] at hv
  rw [hv.1]
theorem SetM.put {ops : Array Oper} {rest : List Oper} {o : Oper} {a : Act} {Q : Exit → Act → World → Prop} {w : World} {b n : Nat} {S : Int → Bool} (h : SetM w b n S) (x : Int) (hx : (Lit.int .i64 x).wf = true) (hn : n < maxLen)
    (hg : o.guard = none) (m k v : Operand) (hop : o.op = Op.mapUpdate 137 m k v) (hm : a.eval m = .map (some b)) (hk : a.eval k = .int .i64 x) (hv : a.eval v = .bool true)
    (hK : ∀ w', SetM w' b (n + 1) (fun y => y == x || S y) → w.grownBy w' (some b) → wpList Try.prog ops Q rest (a.put o.dst undef) w') : wpList Try.prog ops Q (o :: rest) a w := by
  obtain ⟨D, h1, h2, h3⟩ := h
  refine wpList_mapUpdate_own w hg m k v 137 hop 3 4 lawInt Try.underlying137 boolR b n D hm h1 hn _ _ (.int .i64 x) hk hv (keyOf_int_mk Try.underlying3 hx) (.lit (.bool true)) [] rfl ?_
  intro w' h1' hgr
  refine hK w' ⟨_, h1', h2.put _ _, fun y => ?_⟩ hgr
  by_cases e : y = x
  · subst e
    rw [atKey_put_same h2 (by trivial)]
    simp
  · rw [atKey_put_other (by intro e2; simp only [Lit.int.injEq] at e2; exact e e2.2), h3 y]
    simp [e]

def memL (L : List It) : Nat → Int → Bool
  | 0, _ => false
  | k + 1, x => ((L.getD k default).kind == 2 && x == (L.getD k default).label) || memL L k x
def dupN (L : List It) : Nat → Bool
  | 0 => false
  | k + 1 => dupN L k || ((L.getD k default).kind == 2 && memL L k (L.getD k default).label)
def misN (L : List It) : Nat → Bool
  | 0 => false
  | k + 1 => misN L k || (((L.getD k default).kind == 3 || (L.getD k default).kind == 4) && !(memL L L.length (L.getD k default).label))
def mostF (L : List It) : Nat → Int
  | 0 => -1
  | k + 1 => if (L.getD k default).kind = 2 then max (mostF L k) (L.getD k default).label else mostF L k
def labE (L : List It) : Int := if dupN L L.length = true then 6 else if misN L L.length = true then 4 else 0
/-- all are items -/
def OkL (L : List It) : Prop := ∀ k, k < L.length → itemF (L.getD k default) = true
theorem item_label (x : It) (h : itemF x = true) : 0 ≤ x.label ∧ x.label < 4096 := by
  unfold itemF at h
  split at h
  · simp at h; omega
  · split at h
    · simp [labF] at h; omega
    · split at h
      · simp [labF] at h; omega
      · split at h
        · simp [labF] at h; omega
        · split at h
          · simp at h; omega
          · simp at h
theorem mostF_bd (L : List It) (h : OkL L) : ∀ k, k ≤ L.length → -1 ≤ mostF L k ∧ mostF L k < 4096
  | 0, _ => by simp [mostF]
  | k + 1, hk => by
    have ih := mostF_bd L h k (by omega)
    have hl := item_label _ (h k (by omega))
    unfold mostF
    split <;> omega
theorem mem_most (L : List It) (x : Int) : ∀ k, memL L k x = true → x ≤ mostF L k
  | 0, h => by simp [memL] at h
  | k + 1, h => by
    unfold memL at h
    unfold mostF
    rw [Bool.or_eq_true] at h
    rcases h with h | h
    · simp only [Bool.and_eq_true, beq_iff_eq] at h
      rw [if_pos h.1]
      omega
    · have := mem_most L x k h
      split <;> omega
theorem misN_at (L : List It) : ∀ k, misN L k = false → ∀ j, j < k → (L.getD j default).kind = 3 ∨ (L.getD j default).kind = 4 → memL L L.length (L.getD j default).label = true
  | 0, _, j, h, _ => absurd h (Nat.not_lt_zero j)
  | k + 1, h, j, hj, hk => by
    unfold misN at h
    rw [Bool.or_eq_false_iff] at h
    by_cases e : j = k
    · subst e
      have h2 := h.2
      rw [Bool.and_eq_false_iff] at h2
      rcases h2 with h2 | h2
      · exfalso
        rcases hk with e | e <;> rw [e] at h2 <;> simp at h2
      · simpa using h2
    · exact misN_at L k h.1 j (by omega) hk
theorem most_own (L : List It) : ∀ k j, j < k → (L.getD j default).kind = 2 → (L.getD j default).label ≤ mostF L k
  | 0, j, h, _ => absurd h (Nat.not_lt_zero j)
  | k + 1, j, h, h2 => by
    unfold mostF
    by_cases e : j = k
    · subst e; rw [if_pos h2]; omega
    · have := most_own L k j (by omega) h2
      split <;> omega
theorem labOk_of (L : List It) (h : OkL L) (hm : misN L L.length = false) : LabOk L (mostF L L.length + 1).toNat := by
  intro k hk hkd
  have hl := item_label _ (h k hk)
  have hb := mostF_bd L h L.length (Nat.le_refl _)
  refine ⟨(L.getD k default).label.toNat, by omega, ?_⟩
  have : (L.getD k default).label ≤ mostF L L.length := by
    rcases hkd with e | e
    · exact most_own L _ k hk e
    · exact mem_most L _ _ (misN_at L _ hm k hk e)
  omega
end Go.Proofs.Ytedihiodmgnlpaa
