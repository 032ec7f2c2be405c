/-
  The table of instructions as plain functions of an instruction's number: its name's bytes, its form's letter and its three codes.
-/
import Derived.Test.YtppmjdljnacpgaaW1
import GoSem.Core.Value
set_option linter.all false
namespace Go.Proofs.Ytppmjdljnacpgaa

def nmL : List (List UInt8) := [[], [108, 117, 105], [97, 117, 105, 112, 99], [106, 97, 108], [106, 97, 108, 114], [98, 101, 113], [98, 110, 101], [98, 108, 116], [98, 103, 101], [98, 108, 116, 117], [98, 103, 101, 117], [108, 98], [108, 104], [108, 119], [108, 98, 117], [108, 104, 117], [115, 98], [115, 104], [115, 119], [97, 100, 100, 105], [115, 108, 116, 105], [115, 108, 116, 105, 117], [120, 111, 114, 105], [111, 114, 105], [97, 110, 100, 105], [115, 108, 108, 105], [115, 114, 108, 105], [115, 114, 97, 105], [97, 100, 100], [115, 117, 98], [115, 108, 108], [115, 108, 116], [115, 108, 116, 117], [120, 111, 114], [115, 114, 108], [115, 114, 97], [111, 114], [97, 110, 100], [109, 117, 108], [109, 117, 108, 104], [109, 117, 108, 104, 115, 117], [109, 117, 108, 104, 117], [100, 105, 118], [100, 105, 118, 117], [114, 101, 109], [114, 101, 109, 117]]
def fmL : List Int := [0, 85, 85, 74, 73, 66, 66, 66, 66, 66, 66, 73, 73, 73, 73, 73, 83, 83, 83, 73, 73, 73, 73, 73, 73, 72, 72, 72, 82, 82, 82, 82, 82, 82, 82, 82, 82, 82, 82, 82, 82, 82, 82, 82, 82, 82]
def cdL : List Int := [0, 55, 23, 111, 103, 99, 99, 99, 99, 99, 99, 3, 3, 3, 3, 3, 35, 35, 35, 19, 19, 19, 19, 19, 19, 19, 19, 19, 51, 51, 51, 51, 51, 51, 51, 51, 51, 51, 51, 51, 51, 51, 51, 51, 51, 51]
def thL : List Int := [0, 0, 0, 0, 0, 0, 1, 4, 5, 6, 7, 0, 1, 2, 4, 5, 0, 1, 2, 0, 2, 3, 4, 6, 7, 1, 5, 5, 0, 0, 1, 2, 3, 4, 5, 5, 6, 7, 0, 1, 2, 3, 4, 5, 6, 7]
def svL : List Int := [0, 0, 0, 0, 0, 0, 0, 0, 0, 0, 0, 0, 0, 0, 0, 0, 0, 0, 0, 0, 0, 0, 0, 0, 0, 0, 0, 32, 0, 32, 0, 0, 0, 0, 0, 32, 0, 0, 1, 1, 1, 1, 1, 1, 1, 1]
def nmB (k : Nat) : ByteArray := ⟨(nmL.getD k []).toArray⟩
def fm (k : Nat) : Int := fmL.getD k 0
def cd (k : Nat) : Int := cdL.getD k 0
def th (k : Nat) : Int := thL.getD k 0
def sv (k : Nat) : Int := svL.getD k 0
/-- the five cells of a shape -/
def shapeL (k : Nat) : List Value := [.string (nmB k), .int .u8 (fm k), .int .u32 (cd k), .int .u32 (th k), .int .u32 (sv k)]
def shapeA (k : Nat) : Array Value := (shapeL k).toArray
def tblL : List Value := (List.range 46).flatMap shapeL
def tbl : Array Value := tblL.toArray

theorem flat_size (f : Nat → List Value) (hf : ∀ n, (f n).length = 5) (n : Nat) : ((List.range n).flatMap f).length = 5 * n := by
  induction n with
  | zero => rfl
  | succ n ih => rw [List.range_succ, List.flatMap_append, List.length_append, ih]; simp [hf]; omega
theorem flat5 (f : Nat → List Value) (hf : ∀ n, (f n).length = 5) (n k j : Nat) (hk : k < n) (hj : j < 5) : ((List.range n).flatMap f)[5 * k + j]? = (f k)[j]? := by
  induction n with
  | zero => omega
  | succ n ih =>
    rw [List.range_succ, List.flatMap_append, List.getElem?_append, flat_size f hf]
    by_cases h : k < n
    · rw [if_pos (by omega)]; exact ih h
    · obtain rfl : k = n := by omega
      rw [if_neg (by omega)]
      simp
theorem tbl_size : tbl.size = 230 := by show tblL.length = 230; exact flat_size shapeL (fun _ => rfl) 46
theorem tbl_at (k j : Nat) (hk : k < 46) (hj : j < 5) : tbl[5 * k + j]? = (shapeL k)[j]? := by
  show tblL.toArray[5 * k + j]? = _
  rw [List.getElem?_toArray]
  exact flat5 shapeL (fun _ => rfl) 46 k j hk hj

/-- facts of all rows of the table, by looking -/
theorem fm_all : ∀ k : Fin 46, fm k = 0 ∧ k.val = 0 ∨ k.val ≠ 0 ∧ (fm k = 82 ∨ fm k = 73 ∨ fm k = 72 ∨ fm k = 85 ∨ fm k = 74 ∨ fm k = 83 ∨ fm k = 66) := by decide
theorem cd_all : ∀ k : Fin 46, 0 ≤ cd k ∧ cd k < 128 ∧ 0 ≤ th k ∧ th k < 8 ∧ 0 ≤ sv k ∧ sv k < 128 := by decide
theorem sv_all : ∀ k : Fin 46, fm k = 82 ∨ fm k = 72 ∨ sv k = 0 := by decide
theorem th_all : ∀ k : Fin 46, ¬ (fm k = 85 ∨ fm k = 74) ∨ th k = 0 := by decide
theorem fm_lt (k : Nat) (h : k < 46) : 0 ≤ fm k ∧ fm k ≤ 85 := by
  have := fm_all ⟨k, h⟩
  simp at this; omega
theorem bd_lt (k : Nat) (h : k < 46) : 0 ≤ cd k ∧ cd k < 128 ∧ 0 ≤ th k ∧ th k < 8 ∧ 0 ≤ sv k ∧ sv k < 128 := cd_all ⟨k, h⟩
/-- two rows clash in one of their codes -/
theorem clash_all : ∀ k m : Fin 46, k.val = 0 ∨ m.val = 0 ∨ k = m ∨ cd k ≠ cd m ∨ (¬ (fm k = 85 ∨ fm k = 74) ∧ ¬ (fm m = 85 ∨ fm m = 74) ∧ th k ≠ th m) ∨ ((fm k = 82 ∨ fm k = 72) ∧ (fm m = 82 ∨ fm m = 72) ∧ sv k ≠ sv m) := by decide +kernel

/-- the form of whatever number -/
def fmI (op : Int) : Int := if 0 ≤ op ∧ op < 46 then fm op.toNat else 0
def nmI (op : Int) : ByteArray := if 0 ≤ op ∧ op < 46 then nmB op.toNat else ⟨#[]⟩
theorem fmI_in (op v lo hi : Int) (h : lo ≤ op) (h' : op ≤ hi) (h0 : 0 ≤ lo) (h46 : hi < 46) (hd : ∀ k : Fin 46, lo ≤ (k.val : Int) → (k.val : Int) ≤ hi → fm k = v) : v = fmI op := by
  unfold fmI
  rw [if_pos (by omega)]
  exact (hd ⟨op.toNat, by omega⟩ (by simp; omega) (by simp; omega)).symm
theorem fmI_out (op : Int) (h : op < 0 ∨ 45 < op) : fmI op = 0 := by unfold fmI; rw [if_neg (by omega)]
end Go.Proofs.Ytppmjdljnacpgaa
