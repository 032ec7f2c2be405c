/-
  The contracts of a call's registers, of bit, up and Place.
-/
import Derived.Test.YtedihiodmgnlpaaR1
import Derived.Test.YtedihiodmgnlpaaE5
import Derived.Test.YtedihiodmgnlpaaC1
import Derived.BigQuiet
import Derived.IntWalk
set_option linter.all false
namespace Go.Proofs.Ytedihiodmgnlpaa
open Go.ChangeShapes Go.WideShapes Go.ChangeAt Go.RowKit
set_option maxHeartbeats 2000000
set_option linter.unusedVariables false
set_option maxRecDepth 20000

theorem below_a1' (w : World) (o : Obj) : Below w.heap.size w (w.alloc o) := Below.alloc (Below.refl _ _) (Nat.le_refl _) o
theorem below_a1'' (w : World) (o p : Obj) : Below w.heap.size (w.alloc o) ((w.alloc o).alloc p) := Below.alloc (Below.refl _ _) (by simp) p
theorem get_c (w : World) (bg R c n : Nat) (x : Int) (hc : w.cell? ⟨bg, n, none⟩ = some (.int .u32 x)) (hn : n < R) (hR : R ≤ c) (hc2 : c ≤ 9223372036854775807) :
    Calls Try.prog 104 #[.agg #[.slice (some ⟨bg, 0, none⟩) R c], .int .i64 (n : Int)] w fun e w' => e = .returned (.int .u32 x) ∧ Below w.heap.size w w' := by
  have lb : bg < w.heap.size := World.block_lt_of_cell? w _ hc
  go_enter Try.func104, Try.ntmps104
  go_wp2
  go_ret
  exact ⟨rfl, Below.alloc (Below.refl _ _) (Nat.le_refl _) _⟩
theorem set_c (w : World) (bg R c n : Nat) (x v : Int) (hc : w.cell? ⟨bg, n, none⟩ = some (.int .u32 x)) (hf : w.frozen? ⟨bg, n, none⟩ = false) (hn : n < R) (hR : R ≤ c) (hc2 : c ≤ 9223372036854775807) :
    Calls Try.prog 124 #[.agg #[.slice (some ⟨bg, 0, none⟩) R c], .int .i64 (n : Int), .int .u32 v] w fun e w' => (∃ u, e = .returned u) ∧ Below w.heap.size (w.setCell ⟨bg, n, none⟩ (.int .u32 v)) w' := by
  have lb : bg < w.heap.size := World.block_lt_of_cell? w _ hc
  have hne : bg ≠ w.heap.size := by omega
  go_enter Try.func124, Try.ntmps124
  go_wp2
  go_end0
  exact ⟨⟨_, rfl⟩, Below.alloc (Below.refl _ _) (by simp) _⟩
theorem bit_c (b : Bool) (w : World) : Calls Try.prog 72 #[.bool b] w fun e w' => e = .returned (.int .u32 (if b = true then 1 else 0)) ∧ w = w' := by
  cases b
  all_goals
    go_enter Try.func72, Try.ntmps72
    go_wp2
    go_ret
    exact ⟨rfl, rfl⟩
/-- the least multiple of 4 that is no less -/
def up4 (n : Int) : Int := (n + 3) / 4 * 4
theorem up_c (n : Int) (w : World) (h0 : 0 ≤ n) (h1 : n ≤ 1000000000000) : Calls Try.prog 77 #[.int .i64 n] w fun e w' => e = .returned (.int .i64 (up4 n)) ∧ w = w' := by
  go_enter Try.func77, Try.ntmps77
  go_wp2
  go_ret
  refine ⟨?_, rfl⟩
  show Ending.returned (Value.int .i64 ((n + 4 - 1) / 4 * 4)) = _
  unfold up4
  rw [show n + 4 - 1 = n + 3 by omega]
/-- where the first k slots end -/
def slE (l : List Sl) : Nat → Int
  | 0 => 0
  | k + 1 => up4 (slE l k + (l.getD k default).size)
def slL (l : List Sl) (k : Nat) : List Int := (List.range k).map (slE l)
theorem slE_bd (l : List Sl) (h : ∀ i, i < l.length → 0 ≤ (l.getD i default).size ∧ (l.getD i default).size ≤ 40000) : ∀ k, k ≤ l.length → 0 ≤ slE l k ∧ slE l k ≤ 50000 * (k : Int)
  | 0, _ => by simp [slE]
  | k + 1, hk => by
    have ih := slE_bd l h k (by omega)
    have hs := h k (by omega)
    unfold slE up4
    omega
theorem slL_snoc (l : List Sl) (k : Nat) : slL l (k + 1) = slL l k ++ [slE l k] := by simp [slL, List.range_succ]
theorem slL_len (l : List Sl) (k : Nat) : (slL l k).length = k := by simp [slL]
theorem infoI64 : (Try.prog.info? 3).map (fun i => (i.zero, i.size, i.bytes)) = some (some (.int .i64 0), 1, 8) := by kernel_rfl
theorem box_1 (wr : World) (nm : ByteArray) (sz al ce p : Int) : ((wr.alloc (.cells #[.string nm, .int .i64 sz, .int .i64 al, .int .i64 ce] 76)).alloc (.cells #[.int .i64 p] 3)).cell? ⟨wr.heap.size, 1, none⟩ = some (.int .i64 sz) :=
  ((below_a1' (wr.alloc (.cells #[.string nm, .int .i64 sz, .int .i64 al, .int .i64 ce] 76)) _).cell (p := ⟨wr.heap.size, 1, none⟩) (by simp)).trans (cell_of_heap (heap_alloc_new wr _) 1)
theorem place_c (l : List Sl) (v : Value) (w : World) (hv : RdSls w v l) (hs : ∀ i, i < l.length → 0 ≤ (l.getD i default).size ∧ (l.getD i default).size ≤ 40000) (hn : l.length ≤ 1000) :
    Calls Try.prog 37 #[v] w fun e w' => ∃ u, e = .returned (.tuple #[u, .int .i64 (slE l l.length)]) ∧ w'.ownsRow w.heap.size 3 1 u l.length ((slL l l.length).map (Value.int .i64)) ∧ Below w.heap.size w w' := by
  have H := Lib.hid hv
  obtain ⟨a, c, rfl, h1, h2, -⟩ := hv
  unfold maxLen at h2
  have HS := Lib.hid hs
  have HB := Lib.hid (slE_bd l hs)
  clear hs
  go_enter Try.func37, Try.ntmps37
  go_wp2_with fail
  go_loopw [4, 5, 10] (fun p o i wr => ∃ k : Nat, k ≤ l.length ∧ i = .int .i64 (k : Int) ∧ p = .int .i64 (slE l k) ∧ Hid (wr.ownsRow w.heap.size 3 1 o k ((slL l k).map (Value.int .i64))) ∧ Hid (Below w.heap.size w wr)) (fun _ _ i _ => l.length - (intOf i).toNat)
  case atStart => exact ⟨0, Nat.zero_le _, rfl, rfl, own_nil _ _ _ _, Below.refl _ _⟩
  case round =>
    obtain ⟨k, hk, rfl, rfl, O, B⟩ := hrel
    have hb := HB.out k hk
    obtain ⟨hb1, hb2⟩ := hb
    by_cases hlk : k < l.length
    · obtain ⟨-, hat⟩ := (H.out.ext (Ext.below B.out)).at
      obtain ⟨b, o, nm, rfl, y0, y1, y2, y3⟩ := hat k hlk
      have hsk := HS.out k hlk
      obtain ⟨hs1, hs2⟩ := hsk
      have HE : Hid (slE l (k + 1) = up4 (slE l k + (l.getD k default).size)) := rfl
      have HL := Lib.hid (slL_snoc l k)
      have hsz := B.out.size
      clear hat
      generalize (l.getD k default).size = sz at *
      generalize (l.getD k default).align = al at *
      generalize (l.getD k default).cell = ce at *
      generalize slE l k = p at *
      have HU := Lib.hid (fun w => up_c (p + sz) w (by omega) (by omega))
      go_wp2_with (first | (go_at_call 77; refine (HU.out _).mono ?_; rintro e w9 ⟨rfl, rfl⟩) | (at_builtin; refine appG 26 3 infoI64 Try.underlying26 rfl (by decide) (by decide) [.int .i64 p] rfl (by simp [Value.oneCell']) (own_below O.out ((below_a1' _ _).trans (below_a1'' _ _ _))) rfl rfl rfl rfl (cell_new1 _ _ _ _ (by simp)) (by omega) (by simp; omega) ?_; intro o1 w1 O1 G1 D1; have hw1 : wr.heap.size < w1.heap.size := (by have := G1.size; simp at this; omega); have q0 : w1.cell? ⟨wr.heap.size, 1, none⟩ = some (.int .i64 sz) := cell_grown G1 (by intro e; have := (own_lt O.out e.symm).2; omega) (box_1 wr nm sz al ce p)))
      have B1 : Hid (Below w.heap.size w w1) := below_grown ((B.out.trans ((below_a1' wr _).mono hsz)).trans ((below_a1'' wr _ _).mono hsz)) G1 (by simp; omega) fun g hg => (own_lt O.out hg).1
      have O1 : Hid (w1.ownsRow w.heap.size 3 1 o1 (k + 1) ((slL l (k + 1)).map (Value.int .i64))) := by
        show World.ownsRow _ _ _ _ _ _ _
        rw [HL.out, List.map_append]; exact O1
      clear G1 D1 O B
      go_round
      case rel => exact ⟨k + 1, by omega, by go_num, by rw [HE.out], O1, B1⟩
      case measure => first | (simp [intOf]; done) | (simp [intOf]; omega)
    · obtain rfl : k = l.length := by omega
      go_wp2_with fail
      go_ret2
      exact ⟨_, rfl, O.out, B.out⟩
end Go.Proofs.Ytedihiodmgnlpaa
