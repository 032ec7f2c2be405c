/- Short names for laws of the library. -/
import Derived.Lib.Hide
set_option linter.all false
namespace Go.Proofs.Ytmcddolkpcgddaa
theorem qka {α β : Type _} {f : α → β} {a : α} {l : List α} : List.map f (a :: l) = f a :: List.map f l := List.map_cons
theorem qkb {α β : Type _} {f : α → β} : List.map f [] = [] := List.map_nil
theorem qkc {α : Type _} {xs : List α} {i : Nat} : xs.toArray[i]? = xs[i]? := List.getElem?_toArray
theorem qkd {α : Type _} {a : α} {i : Nat} {l : List α} : (a :: l)[i + 1]? = l[i]? := List.getElem?_cons_succ
theorem qke {α : Type _} {a : α} {l : List α} : (a :: l)[0]? = some a := List.getElem?_cons_zero
theorem qkf {α : Type _} {a b : α} : (some a).getD b = a := Option.getD_some
theorem qkg {α : Type _} {as : List α} : as.toArray.size = as.length := List.size_toArray
theorem qkh {α : Type _} {a : α} {as : List α} : (a :: as).length = as.length + 1 := List.length_cons
theorem qki {α : Type _} : ([] : List α).length = 0 := List.length_nil
theorem qkj {α : Type _} {xs : List α} {i : Nat} (h : i < xs.toArray.size) : xs.toArray[i] = xs[i]'(by simpa using h) := List.getElem_toArray h
theorem qkk {α : Type _} (a : α) (as : List α) (i : Nat) (h : i + 1 < (a :: as).length) : (a :: as)[i + 1] = as[i]'(Nat.lt_of_succ_lt_succ h) := List.getElem_cons_succ ..
theorem qkl {α : Type _} (a : α) (as : List α) (h : 0 < (a :: as).length) : (a :: as)[0] = a := List.getElem_cons_zero ..
theorem qkm {p : Prop} (h : p) : Go.RowKit.Hid p := h
theorem qkn {p : Prop} [Decidable p] (h : p) : decide p = true := decide_eq_true h
theorem qko {p : Prop} [Decidable p] (h : ¬ p) : decide p = false := decide_eq_false h
theorem qkp {α : Type _} {xs : Array α} {i : Nat} {b : α} (h : xs[i]? = some b) : ∃ h : i < xs.size, xs[i] = b := Array.getElem?_eq_some_iff.1 h
end Go.Proofs.Ytmcddolkpcgddaa
