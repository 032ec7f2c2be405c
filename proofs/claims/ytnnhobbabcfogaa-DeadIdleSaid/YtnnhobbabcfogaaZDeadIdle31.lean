/-
  Contracts of flow's Each: the function that it hands back, for whatever stands in the loop.
-/
import Derived.Test.YtnnhobbabcfogaaZDeadIdle30
import Derived.Test.YtnnhobbabcfogaaZDeadIdle22
import Derived.Test.YtnnhobbabcfogaaZDeadIdle10
import Derived.Test.YtnnhobbabcfogaaZDeadIdle24
set_option linter.all false
namespace Go.Proofs.Ytnnhobbabcfogaa
open Go.ChangeShapes Go.WideShapes Go.ChangeAt Go.RowKit
set_option maxHeartbeats 4000000
set_option maxRecDepth 100000
attribute [local go_sem] Oper.semAt_some

theorem each_c (p : Pr) (nm : ByteArray) (vo vb : Value) (oa : Option Addr) (on oc : Nat) (n : Int) (w : World) :
    Calls Try.prog 46 #[.agg #[.string nm, .bool p.void, .int .i64 p.params, .int .i64 p.regs, vo, vb], .int .i64 n, .slice oa on oc] w fun e w' =>
      e = .returned (.func (.func 91) #[] #[.pointer (some ⟨w.heap.size + 1, 0, none⟩), .pointer (some ⟨w.heap.size, 0, none⟩), .pointer (some ⟨w.heap.size + 2, 0, none⟩)]) ∧
      w' = ((w.alloc (.cells #[.string nm, .bool p.void, .int .i64 p.params, .int .i64 p.regs, vo, vb] 32)).alloc (.cells #[.int .i64 n] 3)).alloc (.cells #[.slice oa on oc] 45) := by
  go_enter Try.func46, Try.ntmps46
  go_wp2_with fail
  go_ret
  exact ⟨rfl, rfl⟩
theorem run_eql_func_nil {P : Program} (w : World) (t : TypeId) (f : Fn) (xs ys : Array Value) {ps rs : Array TypeId} {vd : Bool} (ht : P.underlying t = some (.func ps rs vd)) :
    (binOp .eql t (.func f xs ys) .nilFunc).run P w = .ok (.bool false) w := by
  have h : ∀ d : Nat, (Op.equalIn (d + 1) t (.func f xs ys) .nilFunc).run P w = .ok false w := fun d => by
    simp [Op.equalIn, run_underlying ht]
  simp only [binOp]
  simp [Op.equal, Op.maxDepth, h 9999]
theorem eql_seq (w : World) (f : Fn) (xs ys : Array Value) : (binOp .eql 77 (.func f xs ys) .nilFunc).run Try.prog w = .ok (.bool false) w := run_eql_func_nil w _ f xs ys Try.underlying77
/-- what a round is handed: the place of the instruction, and the row of marks: its block and how many it may hold -/
structure EX where
  i : Nat
  g : Nat
  c : Nat
def encE (R : Nat) (x : EX) : Array Value := #[.int .i64 (x.i : Int), .slice (some ⟨x.g, 0, none⟩) R x.c]
/-- what the iterator turns between two rounds -/
def StE (H : Nat) (s : List EX) (A B : World) : Prop :=
  match s with
  | [] => Below A.heap.size A B
  | x :: _ => H ≤ x.g ∧ But x.g A B
/-- what a round keeps -/
structure KpE (W0 : World) (x : EX) (A B : World) : Prop where
  below : Below W0.heap.size A B
  row : B.heap[x.g]? = A.heap[x.g]?
/-- what a round may build on -/
structure PrE (W0 : World) (H : Nat) (L : List In) (lo : List Bool) (R : Nat) (pre : List EX) (x : EX) (W : World) : Prop where
  len : pre.length < L.length
  i : x.i = L.length - 1 - pre.length
  g : H ≤ x.g
  row : RowB W x.g R x.c (backK lo (L.drop (x.i + 1)))
  same : ∀ y ∈ pre, y.g = x.g
  below : Below W0.heap.size W0 W
theorem RowB.of_block {w w' : World} {g n c : Nat} {l : List Bool} (h : RowB w g n c l) (e : w'.heap[g]? = w.heap[g]?) : RowB w' g n c l := by
  obtain ⟨h1, h2 | ⟨g', cap, cur, h3, h4, h5, r⟩⟩ := h
  · exact ⟨h1, .inl h2⟩
  · have h3' := h3
    simp only [Value.slice.injEq, Option.some.injEq, Addr.mk.injEq] at h3'
    exact ⟨h1, .inr ⟨g', cap, cur, h3, h4, by rw [← h3'.1.1, e, h3'.1.1]; exact h5, r⟩⟩
theorem StE.of {H : Nat} {pre : List EX} {x : EX} {A B : World} (h : ∀ y ∈ pre, y.g = x.g) (hH : H ≤ x.g) (hb : But x.g A B) : StE H (pre ++ [x]) A B := by
  cases pre with
  | nil => exact ⟨hH, hb⟩
  | cons y l => have e := h y (List.mem_cons_self ..); exact ⟨by rw [e]; exact hH, by rw [e]; exact hb⟩
theorem below_put {n : Nat} (W : World) {l : Nat} (o : Obj) (h : n ≤ l) : Below n W (W.putObj l o) :=
  ⟨rfl, rfl, rfl, by simp, fun k hk => World.putObj_heap_other (by omega)⟩
theorem each1_c (p : Pr) (k : Nat) (lo : List Bool) (R c0 go bp bn bo n l : Nat) (vb : Value) (W0 W1 : World) (hvb : RdBks W0 vb p.blks) (hk : k < p.blks.length)
    (hargs : ∀ j, j < (p.blks.getD k default).ins.length → ((p.blks.getD k default).ins.getD j default).args.length ≤ 1000) (hlen : (p.blks.getD k default).ins.length ≤ 100000) (hlo : lo.length ≤ 1000000) (hp0 : p.blks.length ≤ 1000000)
    (hb : Below W0.heap.size W0 W1) (y5 : W1.cell? ⟨bp, 5, none⟩ = some vb) (yn : W1.cell? ⟨bn, 0, none⟩ = some (.int .i64 (k : Int))) (yo : W1.cell? ⟨bo, 0, none⟩ = some (.slice (some ⟨go, 0, none⟩) R c0)) (hrow : RowB W1 go R c0 lo)
    (J Jx : List EX → World → Prop) (hJ : ∀ s A B, J s A → StE W1.heap.size s A B → J s B)
    (hY : ∀ pre x W, J pre W → PrE W0 W1.heap.size (p.blks.getD k default).ins lo R pre x W → YieldAt Fence.wide (n - 1) Try.prog l (encE R x) W fun e W' => (e = .returned (.bool true) ∧ J (pre ++ [x]) W' ∧ KpE W0 x W W') ∨ (e = .returned (.bool false) ∧ Jx (pre ++ [x]) W'))
    (h0 : J [] W1) :
    CallsIn Fence.wide n Try.prog 91 #[.func (.yield l) #[] #[], .pointer (some ⟨bn, 0, none⟩), .pointer (some ⟨bp, 0, none⟩), .pointer (some ⟨bo, 0, none⟩)] W1 fun e W' =>
      (∃ v, e = .returned v) ∧ ((∃ xs, xs.length = (p.blks.getD k default).ins.length ∧ J xs W') ∨ ∃ pre, Jx pre W') := by
  have hvb' := hvb
  obtain ⟨ab, cb, rfl, hb1, hb2, -⟩ := hvb'
  have HBk := Lib.hid (RdBks.at hvb).2
  unfold maxLen at hb2
  obtain ⟨bb, ob, vi, rfl, hvi, c0', -⟩ := HBk.out k hk
  have hvi' := hvi
  obtain ⟨ai, ci, rfl, hi1, hi2, -⟩ := hvi'
  unfold maxLen at hi2
  have HV := Lib.hid hvi
  have C0 := Lib.hid c0'
  have HAR := Lib.hid hargs
  have EC : Hid (Calls Try.prog 89 #[.slice (some ⟨go, 0, none⟩) R c0] W1 fun e w' => ∃ g' c', e = .returned (.slice (some ⟨g', 0, none⟩) R c') ∧ W1.heap.size ≤ g' ∧ RowB w' g' R c' lo ∧ Below W1.heap.size W1 w') := clone_c go R c0 lo W1 hrow hlo
  have HY := Lib.hid hY
  have HJ := Lib.hid hJ
  have HB := Lib.hid hb
  have hz := hb.size
  clear hvi c0' HBk hargs hrow hY hJ hb hlo
  have e0 : Hid (backK lo ((p.blks.getD k default).ins.drop (p.blks.getD k default).ins.length) = lo) := backK_end _ _
  generalize (p.blks.getD k default).ins = L at *
  have hk0 : (0 : Int) ≤ (k : Int) := by omega
  have hk1 : (k : Int) < (p.blks.length : Int) := by omega
  refine callsIn_of_wp Try.func91 rfl trivial ?_ rfl
  simp only [Try.ntmps91, List.size_toArray, List.length_cons, List.length_nil, Nat.reduceAdd, Nat.reduceSub, Array.replicate_succ, Array.replicate_zero, List.push_toArray, List.append_toArray, List.nil_append, List.cons_append]
  gi_wp2_with (gi_at_call 89; refine (callsIn_wide.2 EC.out).mono ?_; rintro e w2 ⟨g, c', rfl, hg, hr2, hB2⟩; have HR2 := Lib.hid hr2; have HB2 := Lib.hid hB2; have yn := (hB2.cell (p := ⟨bn, 0, none⟩) (World.block_lt_of_cell? W1 _ yn)).trans yn; have y5 := (hB2.cell (p := ⟨bp, 5, none⟩) (World.block_lt_of_cell? W1 _ y5)).trans y5; have c0 := Ext.below (HB.out.trans (hB2.mono hz)) _ _ C0.out; clear hr2 hB2 EC)
  have hgW : W0.heap.size ≤ g := Nat.le_trans hz hg
  have HJ2 : Hid (J [] w2) := HJ.out [] W1 w2 h0 HB2.out
  have HBL : Hid (Below W0.heap.size W0 w2) := HB.out.trans (HB2.out.mono hz)
  clear yn y5 c0 h0 HB2
  gi_loopw [7] (fun i wr => ∃ (m : Nat) (pre : List EX), m ≤ L.length ∧ i = .int .i64 ((m : Int) - 1) ∧ pre.length + m = L.length ∧ Hid (∀ y ∈ pre, y.g = g) ∧ Hid (J pre wr) ∧ Hid (RowB wr g R c' (backK lo (L.drop m))) ∧ Hid (Below W0.heap.size W0 wr)) (fun i _ => (intOf i + 1).toNat)
  case atStart => exact ⟨L.length, [], Nat.le_refl _, by first | rfl | go_num, by simp, fun y hy => (by cases hy), HJ2, by rw [e0.out]; exact HR2, HBL⟩
  case round =>
    clear HJ2 HR2 HBL e0
    obtain ⟨m, pre, hm, rfl, hpre, HG, HJr, HRr, HBr⟩ := hrel
    by_cases hlt : 0 < m
    · obtain ⟨i, rfl⟩ : ∃ i, m = i + 1 := ⟨m - 1, by omega⟩
      have hi : ((i + 1 : Nat) : Int) - 1 = (i : Int) := by omega
      rw [hi]
      clear hi
      have hiL : i < L.length := by omega
      have hpr : PrE W0 W1.heap.size L lo R pre ⟨i, g, c'⟩ wr := ⟨by omega, by show i = _; omega, hg, HRr.out, HG.out, HBr.out⟩
      obtain ⟨fn, tmps, assign, body, hy, hRd⟩ := HY.out pre ⟨i, g, c'⟩ wr HJr.out hpr
      have hRd := Lib.hid hRd
      dsimp only [encE] at hy
      clear hpr
      gi_wp2
      refine hRd.out.mono ?_
      clear hRd hy
      rintro e W3 (⟨rfl, hJ3, hk3⟩ | ⟨rfl, hJx3⟩)
      · have HJ3 := Lib.hid hJ3
        have HB3 : Hid (Below W0.heap.size W0 W3) := HBr.out.trans hk3.below
        have HR3 : Hid (RowB W3 g R c' (backK lo (L.drop (i + 1)))) := HRr.out.of_block hk3.row
        clear hJ3 hk3 HJr HRr HBr
        have hI := (HV.out).at
        obtain ⟨b4, o4, va, rfl, hbw4, hva, d0, d1, d2, d3, d4, d5, d6, d7, d8, d9, d10⟩ := hI.2 i hiL
        have hX4 := Ext.below HB3.out
        have HI4 : Hid (InV W0 (.agg #[.int .i64 (L.getD i default).op, .int .i64 (L.getD i default).d, .int .i64 (L.getD i default).a, .int .i64 (L.getD i default).b, .int .i64 (L.getD i default).fn, .int .i64 (L.getD i default).obj, .int .i64 (L.getD i default).off, .int .i64 (L.getD i default).size, .int .u32 (L.getD i default).num, va, .bool (L.getD i default).log]) (L.getD i default)) := ⟨va, rfl, hva⟩
        have HA4 := Lib.hid (HAR.out i hiL)
        have HK4 := Lib.hid (backK_step lo L i hiL)
        replace d0 := hX4 _ _ d0
        replace d1 := hX4 _ _ d1
        replace d2 := hX4 _ _ d2
        replace d3 := hX4 _ _ d3
        replace d4 := hX4 _ _ d4
        replace d5 := hX4 _ _ d5
        replace d6 := hX4 _ _ d6
        replace d7 := hX4 _ _ d7
        replace d8 := hX4 _ _ d8
        replace d9 := hX4 _ _ d9
        replace d10 := hX4 _ _ d10
        clear hI hva hX4 hbw4
        generalize L.getD i default = I4 at *
        have EB : Hid (Calls Try.prog 90 #[.slice (some ⟨g, 0, none⟩) R c', .agg #[.int .i64 I4.op, .int .i64 I4.d, .int .i64 I4.a, .int .i64 I4.b, .int .i64 I4.fn, .int .i64 I4.obj, .int .i64 I4.off, .int .i64 I4.size, .int .u32 I4.num, va, .bool I4.log]] W3 fun e w' => e = .returned (.tuple #[]) ∧ RowB w' g R c' (backK lo (L.drop i)) ∧ But g W3 w') := by
          have := before_c W0 g R c' _ I4 _ W3 HB3.out hgW HR3.out HI4.out HA4.out
          rw [HK4.out]
          exact this
        gi_wp2_with (gi_at_call 90; refine (callsIn_wide.2 EB.out).mono ?_; rintro e w4 ⟨rfl, hr4, hb4⟩; have HR4 := Lib.hid hr4; have HB4 := Lib.hid hb4; clear hb4 hr4)
        have HJ4 : Hid (J (pre ++ [⟨i, g, c'⟩]) w4) := HJ.out _ _ _ HJ3.out (StE.of HG.out hg HB4.out)
        have HB5 : Hid (Below W0.heap.size W0 w4) := HB3.out.trans (HB4.out.toBelow hgW HB3.out.size)
        clear d0 d1 d2 d3 d4 d5 d6 d7 d8 d9 d10 EB HB4
        go_roundw
        case rel => exact ⟨i, pre ++ [⟨i, g, c'⟩], by omega, by go_num, by simp; omega, fun y hy => by rcases List.mem_append.1 hy with h | h; exact HG.out y h; rw [List.mem_singleton.1 h], HJ4, HR4, HB5⟩
        case measure => simp [intOf]; try omega
      · gi_wp2
        refine bodyPost_ret (results_none rfl _ _ _) rfl ?_
        exact ⟨⟨_, rfl⟩, .inr ⟨_, hJx3⟩⟩
    · obtain rfl : m = 0 := by omega
      gi_wp2
      go_end0
      exact ⟨⟨_, rfl⟩, .inl ⟨pre, by omega, HJr.out⟩⟩
/-- no such block: no round -/
theorem each1_no (p : Pr) (k : Int) (vb O : Value) (bp bn bo n l : Nat) (W0 W1 : World) (hvb : RdBks W0 vb p.blks) (hk : k < 0 ∨ (p.blks.length : Int) ≤ k)
    (y5 : W1.cell? ⟨bp, 5, none⟩ = some vb) (yn : W1.cell? ⟨bn, 0, none⟩ = some (.int .i64 k)) :
    CallsIn Fence.wide n Try.prog 91 #[.func (.yield l) #[] #[], .pointer (some ⟨bn, 0, none⟩), .pointer (some ⟨bp, 0, none⟩), .pointer (some ⟨bo, 0, none⟩)] W1 fun e W' => (∃ v, e = .returned v) ∧ W' = W1 := by
  obtain ⟨ab, cb, rfl, hb1, hb2, -⟩ := hvb
  refine callsIn_of_wp Try.func91 rfl trivial ?_ rfl
  simp only [Try.ntmps91, List.size_toArray, List.length_cons, List.length_nil, Nat.reduceAdd, Nat.reduceSub, Array.replicate_succ, Array.replicate_zero, List.push_toArray, List.append_toArray, List.nil_append, List.cons_append]
  by_cases h0 : k < 0
  · gi_wp2
    refine bodyPost_ret (results_none rfl _ _ _) rfl ?_
    exact ⟨⟨_, rfl⟩, rfl⟩
  · have h1 : (p.blks.length : Int) ≤ k := by omega
    gi_wp2
    refine bodyPost_ret (results_none rfl _ _ _) rfl ?_
    exact ⟨⟨_, rfl⟩, rfl⟩
end Go.Proofs.Ytnnhobbabcfogaa
