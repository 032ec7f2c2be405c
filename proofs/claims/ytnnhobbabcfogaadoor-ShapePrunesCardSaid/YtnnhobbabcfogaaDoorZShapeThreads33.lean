/-
  Rows of instructions put together: slices.Grow and slices.Concat walked.
-/
import Derived.Test.YtnnhobbabcfogaaDoorZShapeThreads32
set_option linter.all false
namespace Go.Proofs.YtnnhobbabcfogaaDoor
open Go.ChangeShapes Go.WideShapes Go.ChangeAt Go.RowKit Go.Maps
set_option maxHeartbeats 4000000
set_option linter.unusedVariables false
set_option maxRecDepth 100000

section
variable {P : Program}
/-- append of so many zeros to no slice -/
theorem run_append_nil_zeros (t u ty e : TypeId) (i : TypeInfo) (z : Value) (ht : P.underlying t = some (.slice e)) (hu : P.underlying u = some (.int .i64)) (hi : P.info? e = some i) (hz : i.zero = some z)
    (n : Nat) (h0 : 0 < n) (h63 : n ≤ 1000000) (h48 : n * i.bytes ≤ 281474976710656) (w : World) :
    (Builtin.append_ #[t, u] ty #[.slice none 0 0, .int .i64 (n : Int)]).run P w =
      .ok (.slice (some ⟨w.heap.size, 0, none⟩) n (grownCap w n 0 e)) (w.drew.alloc (.cells ((if n * i.size = 0 then #[] else Builtin.zeroCells z.cells n) ++ Builtin.zeroCells z.cells (grownCap w n 0 e - n)) e)) := by
  have hn : n ≠ 0 := by omega
  have h63' : ¬ (9223372036854775807 < (n : Int)) := by omega
  have h48' : ¬ (281474976710656 < Builtin.nextslicecap n 0 * i.bytes) := by rw [nextslicecap_zero h0]; omega
  have hw : IntKind.i64.wrap (n : Int) = (n : Int) := IntWalk.i64_in _ (by omega)
  have h1 : ¬ ((n : Int) < 0) := by omega
  have h2 : ¬ (281474976710656 < (n : Int) * (i.bytes : Int)) := by
    have : ((n * i.bytes : Nat) : Int) ≤ 281474976710656 := by omega
    rw [Int.natCast_mul] at this; omega
  by_cases h3 : n * i.size = 0
  · rw [if_pos h3]
    simp [Builtin.append_, run_underlying ht, run_underlying hu, sizeOf, typeInfo, zeroValue, hi, hz, hw, h1, h2, hn, h63', h48', Question.forced, run_firstCells_none, newRow, grownCap, asInt, asIntOf, h3]
  · rw [if_neg h3]
    simp [Builtin.append_, run_underlying ht, run_underlying hu, sizeOf, typeInfo, zeroValue, hi, hz, hw, h1, h2, hn, h63', h48', Question.forced, run_firstCells_none, newRow, grownCap, asInt, asIntOf, h3]
end
theorem wpList_append_zeros {ops : Array Oper} {rest : List Oper} {o : Oper} {a : Act} {w : World} {Q : Exit → Act → World → Prop} {s x : Operand} (k : Nat) (h0 : 0 < k) (hk : k ≤ 1000000) (hgd : o.guard = none)
    (ho : o.op = .call { callee := .builtin .append, args := #[s, x], argTypes := #[38, 3] }) (hs : a.eval s = .slice none 0 0) (hx : a.eval x = .int .i64 (k : Int))
    (h : ∀ c w', k ≤ c → c ≤ maxLen → w'.ownsRow w.heap.size 45 11 (.slice (some ⟨w.heap.size, 0, none⟩) 0 c) 0 [] → Below w.heap.size w w' → wpList Tryd.prog ops Q rest (a.put o.dst (.slice (some ⟨w.heap.size, 0, none⟩) k c)) w') : wpList Tryd.prog ops Q (o :: rest) a w := by
  obtain ⟨i0, hi, hz0, hz1, hz2⟩ := info_parts info_in
  have hr := run_append_nil_zeros (P := Tryd.prog) 38 3 o.type 45 i0 _ Tryd.underlying38 Tryd.underlying3 hi hz0 k h0 hk (by rw [hz2]; omega) w
  rw [if_neg (by rw [hz1]; omega)] at hr
  have hge := grownCap_ge w k 0 45
  have hle := grownCap_le_maxLen w k 0 45 (by unfold maxLen; omega)
  refine wpList_plain hgd fun K hK => ?_
  unfold Oper.wp execOp
  simp only [ho, resolve, invoke, builtin, Sem.run_bind, Sem.run_pure, Result.andThen_ok, List.map_toArray, List.map_cons, List.map_nil, hs, hx, hr]
  refine hK _ _ (h _ _ hge hle ⟨rfl, .inr ⟨w.heap.size, _, _, rfl, Nat.le_refl _, heap_alloc_new w.drew _, Nat.zero_le _, hle, ?_, by simp⟩⟩ ((Below.refl _ w).drew.trans (below_alloc w.drew _)))
  rw [Array.size_append, size_zeroCells, size_zeroCells, ← Nat.add_mul]
  show (k + (grownCap w k 0 45 - k)) * 11 = _
  congr 1; omega
theorem grow_c (k : Nat) (hk : k ≤ 1000000) (w : World) :
    Calls Tryd.prog 107 #[.slice none 0 0, .int .i64 (k : Int)] w fun e w' => ∃ a c, e = .returned (.slice a 0 c) ∧ w'.ownsRow w.heap.size 45 11 (.slice a 0 c) 0 [] ∧ Below w.heap.size w w' := by
  obtain ⟨i0, hi, hz0, hz1, hz2⟩ := info_parts info_in
  have k0 : 0 ≤ (k : Int) := by omega
  have k1 : (k : Int) ≤ 9223372036854775807 := by omega
  have k2 : decide ((k : Int) < 0) = false := decide_eq_false (by omega)
  by_cases h0 : 0 < k
  · have g1 : decide (0 < (k : Int)) = true := decide_eq_true (by omega)
    have g2 : decide (0 < k) = true := decide_eq_true (by omega)
    go_enter Tryd.func107, Tryd.ntmps107
    go_wp2_with (at_builtin; refine wpList_append_zeros k h0 hk rfl rfl rfl rfl ?_; intro c w1 hc1 hc2 ho1 hb1; have hc1 := hc1; have hc3 : 0 ≤ c := Nat.zero_le _)
    go_ret
    exact ⟨_, c, rfl, ho1, hb1⟩
  · obtain rfl : k = 0 := by omega
    have g1 : decide (0 < ((0 : Nat) : Int)) = false := rfl
    go_enter Tryd.func107, Tryd.ntmps107
    go_wp2_with fail
    go_ret
    exact ⟨none, 0, rfl, World.ownsRow_nil _ _ _ _, Below.refl _ _⟩
/-- a row of instructions that lies in memory now; the rows of arguments lie where they lay in the first world -/
def SrcQ (w0 w : World) (v : Value) (l : List In) : Prop := ∃ (ad : Addr) (c : Nat) (L : List (In × Value)), v = .slice (some ad) l.length c ∧ l.length ≤ c ∧ c ≤ maxLen ∧ L.map Prod.fst = l ∧ (∀ x ∈ L, RdI w0 x.2 x.1.args) ∧ ∀ j u, (L.flatMap inCells)[j]? = some u → ∃ b o, ad = ⟨b, o, none⟩ ∧ w.cell? ⟨b, o + j, none⟩ = some u
theorem SrcQ.rd {w0 w : World} {v : Value} {l : List In} (h : RdIns w0 v l) (hne : l ≠ []) (he : Ext w0 w) : SrcQ w0 w v l := by
  obtain ⟨L, hL, hA, hS⟩ := h.src
  rcases hS.keep he with ⟨-, h0, -⟩ | ⟨ad, c, e, h1, h2, hc⟩
  · exact absurd (List.eq_nil_of_length_eq_zero h0) hne
  · exact ⟨ad, c, L, e, h1, h2, hL, hA, hc⟩
theorem SrcQ.own {w0 w : World} {B : Nat} {v : Value} {L : List (In × Value)} {l : List In} (h : w.ownsRow B 45 11 v L.length (L.flatMap inCells)) (hL : L.map Prod.fst = l) (hA : ∀ x ∈ L, RdI w0 x.2 x.1.args) (hne : l ≠ []) : SrcQ w0 w v l := by
  have hlen : L.length = l.length := by rw [← hL]; simp
  rcases src_own h with ⟨-, h0, -⟩ | ⟨ad, c, e, h1, h2, hc⟩
  · exact absurd (List.eq_nil_of_length_eq_zero (hlen ▸ h0)) hne
  · exact ⟨ad, c, L, hlen ▸ e, hlen ▸ h1, h2, hL, hA, hc⟩
theorem own_slice {w : World} {B s n : Nat} {e : TypeId} {v : Value} {xs : List Value} (h : w.ownsRow B e s v n xs) : ∃ a c, v = .slice a n c := by
  obtain ⟨-, ⟨rfl, rfl⟩ | ⟨g, cap, cur, rfl, -⟩⟩ := h
  · exact ⟨_, _, rfl⟩
  · exact ⟨_, _, rfl⟩
theorem addr_cell {w w' : World} {ad : Addr} {j : Nat} {u : Value} (h : ∃ b o, ad = ⟨b, o, none⟩ ∧ w.cell? ⟨b, o + j, none⟩ = some u) (hb : Below w.heap.size w w') : w'.cell? (ad.add j) = some u := by
  obtain ⟨b, o, rfl, hx⟩ := h
  rw [vadd_plain]
  exact (hb.cell (p := ⟨b, o + j, none⟩) (World.block_lt_of_cell? w _ hx)).trans hx
theorem concat_c (v1 v2 : Value) (l1 l2 : List In) (gg : Nat) (w0 w : World) (hb : w.heap[gg]? = some (.cells #[v1, v2] 38 (0, 0))) (h1 : SrcQ w0 w v1 l1) (h2 : SrcQ w0 w v2 l2) (hn : l1.length + l2.length ≤ 1000000) :
    Calls Tryd.prog 86 #[.slice (some ⟨gg, 0, none⟩) 2 2] w fun e w' => ∃ v', ∃ L : List (In × Value), e = .returned v' ∧ L.map Prod.fst = l1 ++ l2 ∧ w'.ownsRow w.heap.size 45 11 v' L.length (L.flatMap inCells) ∧ (∀ x ∈ L, RdI w0 x.2 x.1.args) ∧ Below w.heap.size w w' := by
  obtain ⟨a1, c1, L1, rfl, q1a, q1b, e1, hA1, hC1⟩ := h1
  obtain ⟨a2, c2, L2, rfl, q2a, q2b, e2, hA2, hC2⟩ := h2
  have k1 : L1.length = l1.length := by rw [← e1]; simp
  have k2 : L2.length = l2.length := by rw [← e2]; simp
  unfold maxLen at q1b q2b
  have x0 : w.cell? ⟨gg, 0, none⟩ = some (.slice (some a1) l1.length c1) := cell_of_heap hb 0
  have x1 : w.cell? ⟨gg, 1, none⟩ = some (.slice (some a2) l2.length c2) := cell_of_heap hb 1
  have hgg : gg < w.heap.size := (Array.getElem?_eq_some_iff.1 hb).1
  have HC1 := Lib.hid hC1
  have HC2 := Lib.hid hC2
  have o1 := Lib.hid (in_one L1 fun x hx => Rows'.sl (hA1 x hx))
  have o2 := Lib.hid (in_one L2 fun x hx => Rows'.sl (hA2 x hx))
  have f1 := Lib.hid (flat_len inCells 11 (fun _ => rfl) L1)
  have f2 := Lib.hid (flat_len inCells 11 (fun _ => rfl) L2)
  have HA : Hid (∀ x ∈ L1 ++ L2, RdI w0 x.2 x.1.args) := fun x hx => by
    rcases List.mem_append.1 hx with h | h
    · exact hA1 x h
    · exact hA2 x h
  have HE : Hid ((L1 ++ L2).map Prod.fst = l1 ++ l2) := by show _ = _; rw [List.map_append, e1, e2]
  have K1 := Lib.hid k1
  have K2 := Lib.hid k2
  clear hC1 hC2 hA1 hA2 e1 e2 hb k1 k2
  generalize l1.length = m1 at *
  generalize l2.length = m2 at *
  obtain ⟨i0, hi, hz0, hz1, hz2⟩ := info_parts info_in
  have kk1 : 0 ≤ (m1 : Int) := by omega
  have kk2 : (m1 : Int) ≤ 1000000 := by omega
  have kk3 : 0 ≤ (m2 : Int) := by omega
  have kk4 : (m2 : Int) ≤ 1000000 := by omega
  have kk5 : decide ((m1 : Int) < 0) = false := decide_eq_false (by omega)
  have kk6 : decide ((m1 : Int) + (m2 : Int) < 0) = false := decide_eq_false (by omega)
  go_enter Tryd.func86, Tryd.ntmps86
  go_wp2_with fail
  go_loop [3, 11] (fun sz i => (i = .int .i64 0 ∧ sz = .int .i64 0) ∨ (i = .int .i64 1 ∧ sz = .int .i64 (m1 : Int)) ∨ (i = .int .i64 2 ∧ sz = .int .i64 ((m1 : Int) + (m2 : Int)))) (fun _ i => 2 - (intOf i).toNat)
  case atStart => exact .inl ⟨rfl, rfl⟩
  case round =>
    obtain ⟨rfl, rfl⟩ | ⟨rfl, rfl⟩ | ⟨rfl, rfl⟩ := hrel
    · go_wp2_with fail
      exact ⟨.inr (.inl ⟨rfl, rfl⟩), by simp [intOf]⟩
    · go_wp2_with fail
      exact ⟨.inr (.inr ⟨rfl, rfl⟩), by simp [intOf]⟩
    · go_wp2_with fail
      rw [show (m1 : Int) + (m2 : Int) = ((m1 + m2 : Nat) : Int) from by omega]
      refine (grow_c (m1 + m2) hn w).mono ?_
      rintro e w2 ⟨a0, c0, rfl, ho, hb2⟩
      have HO := Lib.hid ho
      have HB := Lib.hid hb2
      clear ho hb2 kk5 kk6
      go_wp2_with fail
      go_loopw [6, 27] (fun sv i wr => ∃ (a : Option Addr) (m c : Nat), sv = .slice a m c ∧ ((i = .int .i64 0 ∧ m = 0 ∧ Hid (wr.ownsRow w.heap.size 45 11 (.slice a m c) 0 [])) ∨ (i = .int .i64 1 ∧ m = m1 ∧ Hid (wr.ownsRow w.heap.size 45 11 (.slice a m c) m1 (L1.flatMap inCells))) ∨ (i = .int .i64 2 ∧ m = m1 + m2 ∧ Hid (wr.ownsRow w.heap.size 45 11 (.slice a m c) (m1 + m2) ((L1 ++ L2).flatMap inCells)))) ∧ Hid (Below w.heap.size w wr)) (fun _ i _ => 2 - (intOf i).toNat)
      case atStart => exact ⟨a0, 0, c0, rfl, .inl ⟨rfl, rfl, HO⟩, HB⟩
      case round =>
        clear HO HB
        obtain ⟨a, m, c, rfl, ⟨rfl, rfl, HO⟩ | ⟨rfl, rfl, HO⟩ | ⟨rfl, rfl, HO⟩, HB⟩ := hrel
        · have x0 := (HB.out.cell (p := ⟨gg, 0, none⟩) hgg).trans x0
          have hsz := HB.out.size
          go_wp2_with (at_builtin; refine wpList_append_own _ rfl _ _ 38 rfl w.heap.size 45 i0 _ 11 104 Tryd.underlying38 hi hz0 hz1 hz2 rfl (by decide) _ 0 [] rfl HO.out a1 m1 c1 (L1.flatMap inCells) rfl (by rw [f1.out, K1.out]) (fun j u hj => addr_cell (HC1.out j u hj) HB.out) o1.out (by unfold maxLen; omega) (by omega) hsz ?_; intro v3 w3 hown hgrow hnn)
          simp only [Nat.zero_add, List.nil_append] at hown
          obtain ⟨a3, c3, rfl⟩ := own_slice hown
          have hbl := HB.out.grown hgrow hsz (fun k hk => (own_lt HO.out hk).1)
          exact ⟨⟨a3, m1, c3, rfl, .inr (.inl ⟨rfl, rfl, hown⟩), hbl⟩, by simp [intOf]⟩
        · have x1 := (HB.out.cell (p := ⟨gg, 1, none⟩) hgg).trans x1
          have hsz := HB.out.size
          go_wp2_with (at_builtin; refine wpList_append_own _ rfl _ _ 38 rfl w.heap.size 45 i0 _ 11 104 Tryd.underlying38 hi hz0 hz1 hz2 rfl (by decide) _ m (L1.flatMap inCells) rfl HO.out a2 m2 c2 (L2.flatMap inCells) rfl (by rw [f2.out, K2.out]) (fun j u hj => addr_cell (HC2.out j u hj) HB.out) o2.out (by unfold maxLen; omega) (by omega) hsz ?_; intro v3 w3 hown hgrow hnn)
          rw [← List.flatMap_append] at hown
          obtain ⟨a3, c3, rfl⟩ := own_slice hown
          have hbl := HB.out.grown hgrow hsz (fun k hk => (own_lt HO.out hk).1)
          exact ⟨⟨a3, m + m2, c3, rfl, .inr (.inr ⟨rfl, rfl, hown⟩), hbl⟩, by simp [intOf]⟩
        · go_wp2_with fail
          go_ret
          exact ⟨_, L1 ++ L2, rfl, HE.out, by rw [List.length_append, K1.out, K2.out]; exact HO.out, HA.out, HB.out⟩
end Go.Proofs.YtnnhobbabcfogaaDoor
