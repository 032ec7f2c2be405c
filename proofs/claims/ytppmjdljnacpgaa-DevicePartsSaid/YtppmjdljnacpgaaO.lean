/-
  Arguments opened: what lies at a parameter of the middle language reads as plain data with numbers of 64 bits.
-/
import Derived.Deep.Slices
import Derived.Deep.Fields
import Derived.ChangeSame
import Derived.Lib.SmallJoins
import Derived.Test.YtppmjdljnacpgaaM
import Derived.Test.YtppmjdljnacpgaaRows
set_option linter.all false
namespace Go.Proofs.Ytppmjdljnacpgaa
open Go Go.RowKit Go.ChangeShapes Go.WideShapes Go.Deep
set_option maxRecDepth 100000

theorem rows_of {α : Type} [Inhabited α] {Q : Nat → α → Prop} : ∀ (n : Nat), (∀ i, i < n → ∃ x, Q i x) → ∃ l : List α, l.length = n ∧ ∀ i, i < n → Q i (l.getD i default)
  | 0, _ => ⟨[], rfl, fun i hi => absurd hi (Nat.not_lt_zero i)⟩
  | n + 1, h => by
    obtain ⟨l, hl, hq⟩ := rows_of n fun i hi => h i (by omega)
    obtain ⟨x, hx⟩ := h n (Nat.lt_succ_self n)
    refine ⟨l ++ [x], by simp [hl], fun i hi => ?_⟩
    by_cases e : i < n
    · have := hq i e
      simpa [List.getD, List.getElem?_append, hl, e] using this
    · obtain rfl : i = n := by omega
      simpa [List.getD, List.getElem?_append, hl] using hx
theorem addr_add (b o n : Nat) : (⟨b, o, none⟩ : Addr).add n = ⟨b, o + n, none⟩ := by unfold Addr.add; split <;> simp_all
section
variable {H : Type} {enc : TypeId × Value → H} {w : World} {base : Nat} {spare : Nat → Bool} {held : Bool}
theorem open_rows {α : Type} [Inhabited α] {t e : TypeId} {k fuel : Nat} {v : Value} {y : DataW H × List MemPlace} (Ok : α → Prop) (R : α → (Nat → Option Value) → Prop) (ht : Try.prog.underlying t = some (.slice e)) (hk : Try.prog.cellsOf e = k + 1)
    (h : DataW.trod enc Try.prog w base spare held fuel t [v] = some y)
    (hR : ∀ n cs z, DataW.trod enc Try.prog w base spare held n e cs = some z → ∃ a, Ok a ∧ R a fun j => cs[j]?) (hs : ∀ a c c', Sub c c' → R a c → R a c') :
    ∃ l : List α, (∀ i, i < l.length → Ok (l.getD i default)) ∧ Rows' w v (k + 1) l.length fun i c => R (l.getD i default) c := by
  rcases open_slice ht h with ⟨h0, -⟩ | ⟨a, len, cap, m, n, D, Pl, hcs, hb, hl, hm, hmm, hx, hi⟩
  · obtain rfl : v = .slice none 0 0 := by simpa using h0
    exact ⟨[], fun i hi => absurd hi (Nat.not_lt_zero i), none, 0, rfl, Nat.le_refl _, by simp [maxLen], fun i hi => absurd hi (Nat.not_lt_zero i)⟩
  · obtain rfl : v = .slice (some a) len cap := by simpa using hcs
    have hlm : len ≤ m := by rw [hmm]; split <;> omega
    obtain ⟨b, o, sp⟩ := a
    have hsp : 0 < len → sp = none := fun h0 => by
      obtain ⟨cs, hc, -⟩ := hi 0 (by omega)
      rw [hk] at hc
      obtain ⟨-, hlen, hcell⟩ := World.cells?_some hc
      have h1 := hcell 0 (Nat.succ_pos k)
      cases sp with
      | none => rfl
      | some s =>
        rw [List.getElem?_eq_getElem (by omega)] at h1
        simp only [World.cell?, Addr.add, Nat.zero_mul, if_true] at h1
        split at h1 <;> simp at h1
    have key : ∀ i, i < len → ∃ x : α, Ok x ∧ ∃ b' o', some (⟨b, o, sp⟩ : Addr) = some ⟨b', o', none⟩ ∧ R x fun j => w.cell? ⟨b', o' + i * (k + 1) + j, none⟩ := fun i hil => by
      obtain rfl := hsp (by omega)
      obtain ⟨cs, hc, htr⟩ := hi i (by omega)
      rw [hk] at hc
      obtain ⟨x, hok, hr⟩ := hR n cs _ htr
      obtain ⟨-, hlen, hcell⟩ := World.cells?_some hc
      refine ⟨x, hok, b, o, rfl, hs x _ _ (fun j u hu => ?_) hr⟩
      have hj : j < k + 1 := by
        have := (List.getElem?_eq_some_iff.1 hu).1
        omega
      have h1 := hcell j hj
      rw [hu, addr_add, addr_add] at h1
      exact h1
    obtain ⟨l, hll, hq⟩ := rows_of len key
    subst hll
    exact ⟨l, fun i hi => (hq i hi).1, some ⟨b, o, sp⟩, cap, rfl, hl, hm, fun i hi => (hq i hi).2⟩
theorem flds {t : TypeId} {fs : Array Field} {fuel : Nat} {cs : List Value} {x : DataW H × List MemPlace} (hs : Try.prog.underlying t = some (.struct fs)) (hone : oneCellFields Try.prog fs = true) (hC : Try.prog.cellsOf t = fs.size)
    (h : DataW.trod enc Try.prog w base spare held fuel t cs = some x) : ∃ n, ∀ (j : Nat) (f : Field), fs[j]? = some f → ∃ v y, cs[j]? = some v ∧ DataW.trod enc Try.prog w base spare held n f.type [v] = some y := by
  obtain ⟨ys, n, -, -, hlen, hyl, hf⟩ := DataW.trod_struct hs h
  refine ⟨n, fun j f hj => ?_⟩
  obtain ⟨ho, hk⟩ := hone_of hone j f hj
  have hjl : j < fs.size := (Array.getElem?_eq_some_iff.1 hj).1
  have h1 := hf j f hj
  rw [ho, hk] at h1
  have hone' : (cs.drop j).take 1 = [cs[j]'(by omega)] := by
    rw [List.drop_eq_getElem_cons (by omega)]
    rfl
  rw [hone'] at h1
  have hys : ys[j]? = some (ys[j]'(by omega)) := List.getElem?_eq_getElem (by omega)
  exact ⟨_, _, List.getElem?_eq_getElem (by omega), h1.trans hys⟩
variable {n : Nat} {v : Value} {cs : List Value} {y : DataW H × List MemPlace}
theorem open_i (h : DataW.trod enc Try.prog w base spare held n 3 [v] = some y) : ∃ a : Int, v = .int .i64 a ∧ I64 a := by
  obtain ⟨a, e0, _, wa⟩ := DataW.trod_int Try.underlying3 h
  simp at e0
  have := Go.bounds_i64 wa
  exact ⟨a, e0, by unfold I64; omega⟩
theorem open_u (h : DataW.trod enc Try.prog w base spare held n 24 [v] = some y) : ∃ a : Int, v = .int .u32 a ∧ 0 ≤ a ∧ a < 4294967296 := by
  obtain ⟨a, e0, _, wa⟩ := DataW.trod_int Try.underlying24 h
  simp at e0
  have := Go.bounds_u32 wa
  exact ⟨a, e0, by omega, by omega⟩
theorem open_y (h : DataW.trod enc Try.prog w base spare held n 5 [v] = some y) : ∃ a : Int, v = .int .u8 a ∧ 0 ≤ a ∧ a < 256 := by
  obtain ⟨a, e0, _, wa⟩ := DataW.trod_int Try.underlying5 h
  simp at e0
  have := Go.bounds_u8 wa
  exact ⟨a, e0, by omega, by omega⟩
theorem open_b (h : DataW.trod enc Try.prog w base spare held n 4 [v] = some y) : ∃ a : Bool, v = .bool a := by
  obtain ⟨a, e0, _⟩ := DataW.trod_bool Try.underlying4 h
  simp at e0
  exact ⟨a, e0⟩
theorem open_s (h : DataW.trod enc Try.prog w base spare held n 9 [v] = some y) : ∃ a : ByteArray, v = .string a := by
  obtain ⟨a, e0, _⟩ := DataW.trod_string Try.underlying9 h
  simp at e0
  exact ⟨a, e0⟩
theorem one_of {P : Value → Prop} (h : cs = [v]) {u : Value} (hu : cs[0]? = some u) (hp : P v) : P u := by subst h; simp at hu; exact hu ▸ hp
theorem open_I (h : DataW.trod enc Try.prog w base spare held n 41 [v] = some y) : ∃ l : List Int, (∀ x ∈ l, I64 x) ∧ RdI w v l := by
  obtain ⟨l, h1, h2⟩ := open_rows (k := 0) (fun x => I64 x) (fun x c => c 0 = some (.int .i64 x)) Try.underlying41 (by kernel_rfl) h (fun n cs z hz => by
    obtain ⟨a, rfl, _, wa⟩ := DataW.trod_int Try.underlying3 hz
    have := Go.bounds_i64 wa
    exact ⟨a, by unfold I64; omega, rfl⟩) (fun a c c' hs h => hs _ _ h)
  refine ⟨l, fun x hx => ?_, h2⟩
  obtain ⟨i, hi, rfl⟩ := List.mem_iff_getElem.1 hx
  have := h1 i hi
  simpa [List.getD, hi] using this
theorem open_Y (h : DataW.trod enc Try.prog w base spare held n 40 [v] = some y) : ∃ l : List Int, (∀ x ∈ l, 0 ≤ x ∧ x < 256) ∧ RdY w v l := by
  obtain ⟨l, h1, h2⟩ := open_rows (k := 0) (fun x => 0 ≤ x ∧ x < 256) (fun x c => c 0 = some (.int .u8 x)) Try.underlying40 (by kernel_rfl) h (fun n cs z hz => by
    obtain ⟨a, rfl, _, wa⟩ := DataW.trod_int Try.underlying5 hz
    have := Go.bounds_u8 wa
    exact ⟨a, by omega, rfl⟩) (fun a c c' hs h => hs _ _ h)
  refine ⟨l, fun x hx => ?_, h2⟩
  obtain ⟨i, hi, rfl⟩ := List.mem_iff_getElem.1 hx
  have := h1 i hi
  simpa [List.getD, hi] using this
theorem open_W (h : DataW.trod enc Try.prog w base spare held n 39 [v] = some y) : ∃ l : List Int, (∀ x ∈ l, 0 ≤ x ∧ x < 4294967296) ∧ RdW w v l := by
  obtain ⟨l, h1, h2⟩ := open_rows (k := 0) (fun x => 0 ≤ x ∧ x < 4294967296) (fun x c => c 0 = some (.int .u32 x)) Try.underlying39 (by kernel_rfl) h (fun n cs z hz => by
    obtain ⟨a, rfl, _, wa⟩ := DataW.trod_int Try.underlying24 hz
    have := Go.bounds_u32 wa
    exact ⟨a, by omega, rfl⟩) (fun a c c' hs h => hs _ _ h)
  refine ⟨l, fun x hx => ?_, h2⟩
  obtain ⟨i, hi, rfl⟩ := List.mem_iff_getElem.1 hx
  have := h1 i hi
  simpa [List.getD, hi] using this
variable {r : Reach} {b0 : Nat} {d : DataW H} {ps : List MemPlace}
/-- a struct by value is its cells, where no field has more than one -/
theorem agg_cells {t : TypeId} {fs : Array Field} (hs : Try.prog.underlying t = some (.struct fs)) (hone : oneCellFields Try.prog fs = true) (hC : Try.prog.cellsOf t = fs.size) (hv : Value.okWide Try.prog w r b0 t v) (h : DataW.Trod enc Try.prog w base spare held t v d ps) :
    ∃ l : List Value, l.length = fs.size ∧ v = .agg l.toArray ∧ ∃ n, DataW.trod enc Try.prog w base spare held n t l = some (d, ps) := by
  obtain ⟨cs, rfl, hsz⟩ := okWide_struct hs hv
  obtain ⟨l⟩ := cs
  obtain ⟨n, h⟩ := h
  exact ⟨l, by simpa [hC] using hsz, rfl, n, by simpa [Value.cells] using h⟩
theorem len6 {l : List Value} (h : l.length = 6) {x0 x1 x2 x3 x4 x5 : Value} (e0 : l[0]? = some x0) (e1 : l[1]? = some x1) (e2 : l[2]? = some x2) (e3 : l[3]? = some x3) (e4 : l[4]? = some x4) (e5 : l[5]? = some x5) : l = [x0, x1, x2, x3, x4, x5] := by
  match l, h with
  | [a0, a1, a2, a3, a4, a5], _ => simp at e0 e1 e2 e3 e4 e5; subst e0 e1 e2 e3 e4 e5; rfl
theorem len4 {l : List Value} (h : l.length = 4) {x0 x1 x2 x3 : Value} (e0 : l[0]? = some x0) (e1 : l[1]? = some x1) (e2 : l[2]? = some x2) (e3 : l[3]? = some x3) : l = [x0, x1, x2, x3] := by
  match l, h with
  | [a0, a1, a2, a3], _ => simp at e0 e1 e2 e3; subst e0 e1 e2 e3; rfl
theorem len5 {l : List Value} (h : l.length = 5) {x0 x1 x2 x3 x4 : Value} (e0 : l[0]? = some x0) (e1 : l[1]? = some x1) (e2 : l[2]? = some x2) (e3 : l[3]? = some x3) (e4 : l[4]? = some x4) : l = [x0, x1, x2, x3, x4] := by
  match l, h with
  | [a0, a1, a2, a3, a4], _ => simp at e0 e1 e2 e3 e4; subst e0 e1 e2 e3 e4; rfl
theorem len11 {l : List Value} (h : l.length = 11) {x0 x1 x2 x3 x4 x5 x6 x7 x8 x9 x10 : Value} (e0 : l[0]? = some x0) (e1 : l[1]? = some x1) (e2 : l[2]? = some x2) (e3 : l[3]? = some x3) (e4 : l[4]? = some x4) (e5 : l[5]? = some x5) (e6 : l[6]? = some x6) (e7 : l[7]? = some x7) (e8 : l[8]? = some x8) (e9 : l[9]? = some x9) (e10 : l[10]? = some x10) :
    l = [x0, x1, x2, x3, x4, x5, x6, x7, x8, x9, x10] := by
  match l, h with
  | [a0, a1, a2, a3, a4, a5, a6, a7, a8, a9, a10], _ => simp at e0 e1 e2 e3 e4 e5 e6 e7 e8 e9 e10; subst e0 e1 e2 e3 e4 e5 e6 e7 e8 e9 e10; rfl
end
end Go.Proofs.Ytppmjdljnacpgaa
