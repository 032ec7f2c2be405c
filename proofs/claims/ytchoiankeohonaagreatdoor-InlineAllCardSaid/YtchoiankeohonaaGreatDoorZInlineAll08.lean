/-
 Contracts of the parts of ir.Check: slots, offsets, registers, blocks, ends, bare instructions.; The contracts of a call's registers, of bit, up and Place.
-/
import Derived.Test.YtchoiankeohonaaGreatDoorZInlineAll05
import Derived.Test.YtchoiankeohonaaGreatDoorZInlineAll02
import Derived.BigQuiet
import Derived.IntWalk

set_option linter.all false
namespace Go.Proofs.YtchoiankeohonaaGreatDoor
open Go.ChangeShapes Go.WideShapes Go.ChangeAt Go.RowKit
set_option maxHeartbeats 2000000
set_option maxRecDepth 20000

/-- a module and a procedure by value, as a procedure is looked at -/
def LkV (w : World) (v : Value) (m : Md) (p : Pr) : Prop :=
 ∃ vg vd vp nm vo vb, v = .agg #[vg, vd, vp, .int .i64 m.main, .string nm, .bool p.void, .int .i64 p.params, .int .i64 p.regs, vo, vb] ∧ RdSls w vg m.globs ∧ RdYs w vd m.data ∧ RdPrs w vp m.procs ∧ RdSls w vo p.objs ∧ RdBks w vb p.blks
theorem LkV.ext {w w' : World} {v : Value} {m : Md} {p : Pr} (h : LkV w v m p) (he : Ext w w') : LkV w' v m p := by
 obtain ⟨vg, vd, vp, nm, vo, vb, e, h1, h2, h3, h4, h5⟩ := h
 exact ⟨vg, vd, vp, nm, vo, vb, e, h1.ext he, h2.ext he, h3.ext he, h4.ext he, h5.ext he⟩
theorem RdSls.at {w : World} {a : Option Addr} {n c : Nat} {l : List Sl} (h : RdSls w (.slice a n c) l) : n = l.length ∧ ∀ k, k < l.length → ∃ b o nm, a = some ⟨b, o, none⟩ ∧ w.cell? ⟨b, o + k * 4, none⟩ = some (.string nm) ∧ w.cell? ⟨b, o + k * 4 + 1, none⟩ = some (.int .i64 (l.getD k default).size) ∧
  w.cell? ⟨b, o + k * 4 + 2, none⟩ = some (.int .i64 (l.getD k default).align) ∧ w.cell? ⟨b, o + k * 4 + 3, none⟩ = some (.int .i64 (l.getD k default).cell) := by
 obtain ⟨a', c', e, h1, h2, hc⟩ := h
 simp only [Value.slice.injEq] at e
 obtain ⟨rfl, rfl, rfl⟩ := e
 refine ⟨rfl, fun k hk => ?_⟩
 obtain ⟨b, o, rfl, ⟨nm, h0⟩, h1, h2, h3⟩ := hc k hk
 exact ⟨b, o, nm, rfl, by simpa using h0, h1, h2, h3⟩
theorem off_c (n : Int) (w : World) : Calls Tryz.prog 68 #[.int .i64 n] w fun e w' => e = .returned (.bool (offF n)) ∧ w = w' := by
 by_cases h1 : -32768 ≤ n
 ·have e1 : decide (-32768 ≤ n) = true := decide_eq_true h1
  have HF : Hid (offF n = decide (n ≤ 32768)) := by show _ = _; unfold offF; rw [e1]; rfl
  go_enter Tryz.func68, Tryz.ntmps68
  go_wp2
  go_ret
  exact ⟨ret_b HF.out.symm, rfl⟩
 ·have e1 : decide (-32768 ≤ n) = false := decide_eq_false h1
  have HF : Hid (offF n = false) := by show _ = _; unfold offF; rw [e1]; rfl
  go_enter Tryz.func68, Tryz.ntmps68
  go_wp2
  go_ret
  exact ⟨ret_b HF.out.symm, rfl⟩
theorem slots_c (l : List Sl) (v : Value) (w : World) (h : RdSls w v l) :
  Calls Tryz.prog 17 #[v] w fun e w' => e = .returned (.bool (l.all slotF)) ∧ Below w.heap.size w w' := by
 have h' := h
 obtain ⟨a, c, rfl, h1, h2, -⟩ := h'
 have HC := Lib.hid (RdSls.at h).2
 clear h
 unfold maxLen at h2
 go_enter Tryz.func17, Tryz.ntmps17
 go_wp2_with fail
 go_loopw [7] (fun i wr => ∃ k : Nat, k ≤ l.length ∧ i = .int .i64 (k : Int) ∧ Hid (Below w.heap.size w wr) ∧ Hid ((l.take k).all slotF = true)) (fun i _ => l.length - (intOf i).toNat)
 case atStart => exact ⟨0, Nat.zero_le _, rfl, Below.refl _ _, rfl⟩
 case round =>
  obtain ⟨k, hk, rfl, hB, HA⟩ := hrel
  by_cases hlt : k < l.length
  ·obtain ⟨b, o, nm, rfl, c0, c1, c2, c3⟩ := HC.out k hlt
   replace c0 := Ext.below hB.out _ _ c0
   replace c1 := Ext.below hB.out _ _ c1
   replace c2 := Ext.below hB.out _ _ c2
   replace c3 := Ext.below hB.out _ _ c3
   have hY := allG_take slotF l k hlt HA.out
   have hZ := allG_no slotF l k hlt
   generalize l.getD k default = s at *
   have hz := hB.out.size
   cases hs : slotF s
   ·have HF : Hid (l.all slotF = false) := hZ hs
    have hs' : ¬ (1 ≤ s.size ∧ s.size ≤ 32768 ∧ (s.align = 1 ∨ s.align = 4)) := by
     unfold slotF at hs
     intro h
     rw [decide_eq_true h.1, decide_eq_true h.2.1] at hs
     rcases h.2.2 with h | h <;> rw [h] at hs <;> simp at hs
    clear hY hZ hs
    have END : Hid (∀ o, (Ending.returned (.bool false) = .returned (.bool (l.all slotF))) ∧ Below w.heap.size w (wr.alloc o)) := fun o => ⟨ret_b HF.out.symm, hB.out.alloc hz o⟩
    by_cases h3 : 1 ≤ s.size
    ·have e1 : decide (s.size < 1) = false := decide_eq_false (by omega)
     by_cases h4 : s.size ≤ 32768
     ·have e2 : decide (32768 < s.size) = false := decide_eq_false (by omega)
      have e3 : (s.align != 1) = true := by rw [bne_iff_ne]; omega
      have e4 : (s.align != 4) = true := by rw [bne_iff_ne]; omega
      clear hs'
      go_wp2_with fail
      go_ret
      exact END.out _
     ·have e2 : decide (32768 < s.size) = true := decide_eq_true (by omega)
      clear hs'
      go_wp2_with fail
      go_ret
      exact END.out _
    ·have e1 : decide (s.size < 1) = true := decide_eq_true (by omega)
     clear hs'
     go_wp2_with fail
     go_ret
     exact END.out _
   ·have HA2 := Lib.hid (hY hs)
    have hs' : 1 ≤ s.size ∧ s.size ≤ 32768 ∧ (s.align = 1 ∨ s.align = 4) := by
     unfold slotF at hs
     simpa using hs
    clear hY hZ hs
    have e1 : decide (s.size < 1) = false := decide_eq_false (by omega)
    have e2 : decide (32768 < s.size) = false := decide_eq_false (by omega)
    obtain ⟨-, -, h5⟩ := hs'
    rcases h5 with h5 | h5
    ·have e3 : (s.align != 1) = false := by rw [h5]; rfl
     clear h5
     go_wp2_with fail
     go_roundw
     case rel => exact ⟨k + 1, by omega, by go_num, hB.out.alloc hz _, HA2⟩
     case measure => simp [intOf]; omega
    ·have e3 : (s.align != 1) = true := by rw [h5]; rfl
     have e4 : (s.align != 4) = false := by rw [h5]; rfl
     clear h5
     go_wp2_with fail
     go_roundw
     case rel => exact ⟨k + 1, by omega, by go_num, hB.out.alloc hz _, HA2⟩
     case measure => simp [intOf]; omega
  ·have HF : Hid (l.all slotF = true) := by have := HA.out; rwa [List.take_of_length_le (by omega)] at this
   go_wp2_with fail
   go_ret
   exact ⟨ret_b HF.out.symm, hB.out⟩
theorem reg_c (m : Md) (p : Pr) (v : Value) (r : Int) (should : Bool) (w : World) (h : LkV w v m p) :
  Calls Tryz.prog 67 #[v, .int .i64 r, .bool should] w fun e w' => e = .returned (.bool (regF p r should)) ∧ Below w.heap.size w w' := by
 obtain ⟨vg, vd, vp, nm, vo, vb, rfl, ⟨ag, cg, rfl, -⟩, ⟨ad, cd, rfl, -⟩, ⟨ap, cp, rfl, -⟩, ⟨ao, co, rfl, -⟩, ⟨ab, cb, rfl, -⟩⟩ := h
 have HF : Hid (regF p r should = if should = true then decide (0 ≤ r) && decide (r < p.regs) else r == -1) := rfl
 cases should
 ·have HF2 : Hid (regF p r false = (r == -1)) := HF.out
  go_enter Tryz.func67, Tryz.ntmps67
  go_wp2
  go_ret
  exact ⟨ret_b HF2.out.symm, below_alloc _ _⟩
 ·by_cases h0 : 0 ≤ r
  ·have e0 : decide (0 ≤ r) = true := decide_eq_true h0
   have HF2 : Hid (regF p r true = decide (r < p.regs)) := by show _ = _; rw [HF.out, if_pos rfl, e0]; rfl
   go_enter Tryz.func67, Tryz.ntmps67
   go_wp2
   go_ret
   exact ⟨ret_b HF2.out.symm, below_alloc _ _⟩
  ·have e0 : decide (0 ≤ r) = false := decide_eq_false h0
   have HF2 : Hid (regF p r true = false) := by show _ = _; rw [HF.out, if_pos rfl, e0]; rfl
   go_enter Tryz.func67, Tryz.ntmps67
   go_wp2
   go_ret
   exact ⟨ret_b HF2.out.symm, below_alloc _ _⟩
theorem block_c (m : Md) (p : Pr) (v : Value) (n : Int) (w : World) (h : LkV w v m p) :
  Calls Tryz.prog 69 #[v, .int .i64 n] w fun e w' => e = .returned (.bool (blockF p n)) ∧ Below w.heap.size w w' := by
 obtain ⟨vg, vd, vp, nm, vo, vb, rfl, ⟨ag, cg, rfl, -⟩, ⟨ad, cd, rfl, -⟩, ⟨ap, cp, rfl, -⟩, ⟨ao, co, rfl, -⟩, ⟨ab, cb, rfl, -⟩⟩ := h
 by_cases h0 : 0 ≤ n
 ·have e0 : decide (0 ≤ n) = true := decide_eq_true h0
  have HF2 : Hid (blockF p n = decide (n < p.blks.length)) := by show _ = _; unfold blockF; rw [e0]; rfl
  go_enter Tryz.func69, Tryz.ntmps69
  go_wp2
  go_ret
  exact ⟨ret_b HF2.out.symm, below_alloc _ _⟩
 ·have e0 : decide (0 ≤ n) = false := decide_eq_false h0
  have HF2 : Hid (blockF p n = false) := by show _ = _; unfold blockF; rw [e0]; rfl
  go_enter Tryz.func69, Tryz.ntmps69
  go_wp2
  go_ret
  exact ⟨ret_b HF2.out.symm, below_alloc _ _⟩
end Go.Proofs.YtchoiankeohonaaGreatDoor

set_option linter.all false
namespace Go.Proofs.YtchoiankeohonaaGreatDoor
open Go.ChangeShapes Go.WideShapes Go.ChangeAt Go.RowKit
set_option maxHeartbeats 2000000
set_option linter.unusedVariables false
set_option maxRecDepth 20000

theorem below_a1' (w : World) (o : Obj) : Below w.heap.size w (w.alloc o) := Below.alloc (Below.refl _ _) (Nat.le_refl _) o
theorem below_a1'' (w : World) (o p : Obj) : Below w.heap.size (w.alloc o) ((w.alloc o).alloc p) := Below.alloc (Below.refl _ _) (by simp) p
theorem get_c (w : World) (bg R c n : Nat) (x : Int) (hc : w.cell? ⟨bg, n, none⟩ = some (.int .u32 x)) (hn : n < R) (hR : R ≤ c) (hc2 : c ≤ 9223372036854775807) :
  Calls Tryz.prog 49 #[.agg #[.slice (some ⟨bg, 0, none⟩) R c], .int .i64 (n : Int)] w fun e w' => e = .returned (.int .u32 x) ∧ Below w.heap.size w w' := by
 have lb : bg < w.heap.size := World.block_lt_of_cell? w _ hc
 go_enter Tryz.func49, Tryz.ntmps49
 go_wp2
 go_ret
 exact ⟨rfl, Below.alloc (Below.refl _ _) (Nat.le_refl _) _⟩
theorem set_c (w : World) (bg R c n : Nat) (x v : Int) (hc : w.cell? ⟨bg, n, none⟩ = some (.int .u32 x)) (hf : w.frozen? ⟨bg, n, none⟩ = false) (hn : n < R) (hR : R ≤ c) (hc2 : c ≤ 9223372036854775807) :
  Calls Tryz.prog 58 #[.agg #[.slice (some ⟨bg, 0, none⟩) R c], .int .i64 (n : Int), .int .u32 v] w fun e w' => (∃ u, e = .returned u) ∧ Below w.heap.size (w.setCell ⟨bg, n, none⟩ (.int .u32 v)) w' := by
 have lb : bg < w.heap.size := World.block_lt_of_cell? w _ hc
 have hne : bg ≠ w.heap.size := by omega
 go_enter Tryz.func58, Tryz.ntmps58
 go_wp2
 go_end0
 exact ⟨⟨_, rfl⟩, Below.alloc (Below.refl _ _) (by simp) _⟩
theorem bit_c (b : Bool) (w : World) : Calls Tryz.prog 86 #[.bool b] w fun e w' => e = .returned (.int .u32 (if b = true then 1 else 0)) ∧ w = w' := by
 cases b
 all_goals
  go_enter Tryz.func86, Tryz.ntmps86
  go_wp2
  go_ret
  exact ⟨rfl, rfl⟩
/-- the least multiple of 4 that is no less -/
def up4 (n : Int) : Int := (n + 3) / 4 * 4
theorem up_c (n : Int) (w : World) (h0 : 0 ≤ n) (h1 : n ≤ 1000000000000) : Calls Tryz.prog 45 #[.int .i64 n] w fun e w' => e = .returned (.int .i64 (up4 n)) ∧ w = w' := by
 go_enter Tryz.func45, Tryz.ntmps45
 go_wp2
 go_ret
 refine ⟨?_, rfl⟩
 show Ending.returned (Value.int .i64 ((n + 4 - 1) / 4 * 4)) = _
 unfold up4
 rw [show n + 4 - 1 = n + 3 by omega]
/-- where the first k slots end -/
def slE (l : List Sl) : Nat → Int
 | 0 => 0
 | k + 1 => up4 (slE l k + (l.getD k default).size)
def slL (l : List Sl) (k : Nat) : List Int := (List.range k).map (slE l)
theorem slE_bd (l : List Sl) (h : ∀ i, i < l.length → 0 ≤ (l.getD i default).size ∧ (l.getD i default).size ≤ 40000) : ∀ k, k ≤ l.length → 0 ≤ slE l k ∧ slE l k ≤ 50000 * (k : Int)
 | 0, _ => by simp [slE]
 | k + 1, hk => by
  have ih := slE_bd l h k (by omega)
  have hs := h k (by omega)
  unfold slE up4
  omega
theorem slL_snoc (l : List Sl) (k : Nat) : slL l (k + 1) = slL l k ++ [slE l k] := by simp [slL, List.range_succ]
theorem slL_len (l : List Sl) (k : Nat) : (slL l k).length = k := by simp [slL]
theorem infoI64 : (Tryz.prog.info? 3).map (fun i => (i.zero, i.size, i.bytes)) = some (some (.int .i64 0), 1, 8) := by kernel_rfl
theorem box_1 (wr : World) (nm : ByteArray) (sz al ce p : Int) : ((wr.alloc (.cells #[.string nm, .int .i64 sz, .int .i64 al, .int .i64 ce] 57)).alloc (.cells #[.int .i64 p] 3)).cell? ⟨wr.heap.size, 1, none⟩ = some (.int .i64 sz) :=
 ((below_a1' (wr.alloc (.cells #[.string nm, .int .i64 sz, .int .i64 al, .int .i64 ce] 57)) _).cell (p := ⟨wr.heap.size, 1, none⟩) (by simp)).trans (cell_of_heap (heap_alloc_new wr _) 1)
theorem place_c (l : List Sl) (v : Value) (w : World) (hv : RdSls w v l) (hs : ∀ i, i < l.length → 0 ≤ (l.getD i default).size ∧ (l.getD i default).size ≤ 40000) (hn : l.length ≤ 1000) :
  Calls Tryz.prog 27 #[v] w fun e w' => ∃ u, e = .returned (.tuple #[u, .int .i64 (slE l l.length)]) ∧ w'.ownsRow w.heap.size 3 1 u l.length ((slL l l.length).map (Value.int .i64)) ∧ Below w.heap.size w w' := by
 have H := Lib.hid hv
 obtain ⟨a, c, rfl, h1, h2, -⟩ := hv
 unfold maxLen at h2
 have HS := Lib.hid hs
 have HB := Lib.hid (slE_bd l hs)
 clear hs
 go_enter Tryz.func27, Tryz.ntmps27
 go_wp2_with fail
 go_loopw [4, 5, 10] (fun p o i wr => ∃ k : Nat, k ≤ l.length ∧ i = .int .i64 (k : Int) ∧ p = .int .i64 (slE l k) ∧ Hid (wr.ownsRow w.heap.size 3 1 o k ((slL l k).map (Value.int .i64))) ∧ Hid (Below w.heap.size w wr)) (fun _ _ i _ => l.length - (intOf i).toNat)
 case atStart => exact ⟨0, Nat.zero_le _, rfl, rfl, own_nil _ _ _ _, Below.refl _ _⟩
 case round =>
  obtain ⟨k, hk, rfl, rfl, O, B⟩ := hrel
  have hb := HB.out k hk
  obtain ⟨hb1, hb2⟩ := hb
  by_cases hlk : k < l.length
  ·obtain ⟨-, hat⟩ := (H.out.ext (Ext.below B.out)).at
   obtain ⟨b, o, nm, rfl, y0, y1, y2, y3⟩ := hat k hlk
   have hsk := HS.out k hlk
   obtain ⟨hs1, hs2⟩ := hsk
   have HE : Hid (slE l (k + 1) = up4 (slE l k + (l.getD k default).size)) := rfl
   have HL := Lib.hid (slL_snoc l k)
   have hsz := B.out.size
   clear hat
   generalize (l.getD k default).size = sz at *
   generalize (l.getD k default).align = al at *
   generalize (l.getD k default).cell = ce at *
   generalize slE l k = p at *
   have HU := Lib.hid (fun w => up_c (p + sz) w (by omega) (by omega))
   go_wp2_with (first | (go_at_call 45; refine (HU.out _).mono ?_; rintro e w9 ⟨rfl, rfl⟩) | (at_builtin; refine appG 46 3 infoI64 Tryz.underlying46 rfl (by decide) (by decide) [.int .i64 p] rfl (by simp [Value.oneCell']) (own_below O.out ((below_a1' _ _).trans (below_a1'' _ _ _))) rfl rfl rfl rfl (cell_new1 _ _ _ _ (by simp)) (by omega) (by simp; omega) ?_; intro o1 w1 O1 G1 D1; have hw1 : wr.heap.size < w1.heap.size := (by have := G1.size; simp at this; omega); have q0 : w1.cell? ⟨wr.heap.size, 1, none⟩ = some (.int .i64 sz) := cell_grown G1 (by intro e; have := (own_lt O.out e.symm).2; omega) (box_1 wr nm sz al ce p)))
   have B1 : Hid (Below w.heap.size w w1) := below_grown ((B.out.trans ((below_a1' wr _).mono hsz)).trans ((below_a1'' wr _ _).mono hsz)) G1 (by simp; omega) fun g hg => (own_lt O.out hg).1
   have O1 : Hid (w1.ownsRow w.heap.size 3 1 o1 (k + 1) ((slL l (k + 1)).map (Value.int .i64))) := by
    show World.ownsRow _ _ _ _ _ _ _
    rw [HL.out, List.map_append]; exact O1
   clear G1 D1 O B
   go_round
   case rel => exact ⟨k + 1, by omega, by go_num, by rw [HE.out], O1, B1⟩
   case measure => first | (simp [intOf]; done) | (simp [intOf]; omega)
  ·obtain rfl : k = l.length := by omega
   go_wp2_with fail
   go_ret2
   exact ⟨_, rfl, O.out, B.out⟩
end Go.Proofs.YtchoiankeohonaaGreatDoor
