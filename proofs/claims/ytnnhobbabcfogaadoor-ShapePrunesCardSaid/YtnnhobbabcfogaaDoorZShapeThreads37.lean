/-
  The page's example: tidied.; The page's example: tidied, the walk.
-/
import Derived.Test.YtnnhobbabcfogaaDoorZShapeThreads36

set_option linter.all false
namespace Go.Proofs.YtnnhobbabcfogaaDoor
open Go.ChangeShapes Go.WideShapes Go.ChangeAt Go.RowKit Go.Maps
set_option maxHeartbeats 4000000
set_option linter.unusedVariables false
set_option maxRecDepth 100000

def I0 : In := ⟨1, 0, -1, -1, 0, 0, 0, 0, 1, [], false⟩
def P0 : Pr := ⟨false, 0, 1, [], [⟨[I0], 1, -1, 1, 0⟩, ⟨[I0], 1, -1, 2, 0⟩, ⟨[I0], 3, 0, 0, 0⟩]⟩
def Q0 : Pr := ⟨false, 0, 1, [], [⟨[I0, I0, I0], 3, 0, 0, 0⟩, ⟨[I0], 1, -1, 2, 0⟩, ⟨[I0], 3, 0, 0, 0⟩]⟩
def P1 : Pr := ⟨false, 0, 1, [], [⟨[I0, I0, I0], 3, 0, 0, 0⟩]⟩
theorem th0 : thP P0 = P0 := by rfl
theorem th1 : thP P1 = P1 := by rfl
theorem mg0 : mgP P0 5 = some Q0 := by rfl
theorem mg1 : mgP P1 5 = some P1 := by rfl
theorem pn0 : pnP Q0 = P1 := by rfl
theorem pn1 : pnP P1 = P1 := by rfl
theorem jmp0 : JmpOk P0 := by
  constructor
  · intro n hn hf
    have : n = 0 ∨ n = 1 ∨ n = 2 := by simp [P0] at hn; omega
    rcases this with rfl | rfl | rfl <;> simp [bkAt, P0] at hf ⊢
  · intro n hn hf
    have : n = 0 ∨ n = 1 ∨ n = 2 := by simp [P0] at hn; omega
    rcases this with rfl | rfl | rfl <;> simp [bkAt, P0] at hf ⊢
theorem jmpQ : JmpOk Q0 := by
  constructor
  · intro n hn hf
    have : n = 0 ∨ n = 1 ∨ n = 2 := by simp [Q0] at hn; omega
    rcases this with rfl | rfl | rfl <;> simp [bkAt, Q0] at hf ⊢
  · intro n hn hf
    have : n = 0 ∨ n = 1 ∨ n = 2 := by simp [Q0] at hn; omega
    rcases this with rfl | rfl | rfl <;> simp [bkAt, Q0] at hf ⊢
theorem jmp1 : JmpOk P1 := by
  constructor
  · intro n hn hf
    have : n = 0 := by simp [P1] at hn; omega
    subst this; simp [bkAt, P1] at hf ⊢
  · intro n hn hf
    have : n = 0 := by simp [P1] at hn; omega
    subst this; simp [bkAt, P1] at hf ⊢
theorem finQ : FinOk Q0 := fun n hn => by
  have : n = 0 ∨ n = 1 ∨ n = 2 := by simp [Q0] at hn; omega
  rcases this with rfl | rfl | rfl <;> simp [bkAt, Q0]
theorem fin1 : FinOk P1 := fun n hn => by
  have : n = 0 := by simp [P1] at hn; omega
  subst this; simp [bkAt, P1]
theorem RdI.void {w w' : World} {v : Value} (h : RdI w v []) : RdI w' v [] := by
  obtain ⟨a, c, h1, h2, h3, -⟩ := h
  exact ⟨a, c, h1, h2, h3, fun i hi => absurd hi (Nat.not_lt_zero i)⟩
section
variable {w w' : World} {b0 : Nat} {s : ByteArray} {x : Bool} {n1 n2 : Int} {ao ab : Option Addr} {lo lb co cb : Nat} {t : TypeId}
theorem RdIns.box (H0 : w.heap[b0]? = some (.cells #[.string s, .bool x, .int .i64 n1, .int .i64 n2, .slice ao lo co, .slice ab lb cb] t (0, 0))) (hk : ∀ b, b ≠ b0 → w'.heap[b]? = w.heap[b]?)
    {v : Value} {l : List In} (hl : ∀ i, (l.getD i default).args = []) (h : RdIns w v l) : RdIns w' v l := by
  obtain ⟨a, c, h1, h2, h3, h4⟩ := h
  refine ⟨a, c, h1, h2, h3, fun i hi => ?_⟩
  obtain ⟨b, o, e, r⟩ := h4 i hi
  have hb : b ≠ b0 := by
    rintro rfl
    have r0 := r.op
    have r1 := r.d
    have r2 := r.a
    rw [cell_of_heap H0] at r0 r1 r2
    generalize o + i * 11 = y at *
    rcases y with _ | _ | _ | _ | _ | _ | y <;> simp at r0 r1 r2
  have hc : Sub (fun j => w.cell? ⟨b, o + i * 11 + j, none⟩) (fun j => w'.cell? ⟨b, o + i * 11 + j, none⟩) := fun j u hu => (World.cell?_of_block (a := ⟨b, o + i * 11 + j, none⟩) (hk b hb)).trans hu
  obtain ⟨q0, q1, q2, q3, q4, q5, q6, q7, q8, ⟨va, q9, hva⟩, q10⟩ := r
  rw [hl] at hva
  exact ⟨b, o, e, ⟨hc _ _ q0, hc _ _ q1, hc _ _ q2, hc _ _ q3, hc _ _ q4, hc _ _ q5, hc _ _ q6, hc _ _ q7, hc _ _ q8, ⟨va, hc _ _ q9, by rw [hl]; exact hva.void⟩, hc _ _ q10⟩⟩
theorem RdBks.box (H0 : w.heap[b0]? = some (.cells #[.string s, .bool x, .int .i64 n1, .int .i64 n2, .slice ao lo co, .slice ab lb cb] t (0, 0))) (hk : ∀ b, b ≠ b0 → w'.heap[b]? = w.heap[b]?)
    {v : Value} {l : List Bk} (hl : ∀ k i, ((l.getD k default).ins.getD i default).args = []) (h : RdBks w v l) : RdBks w' v l := by
  obtain ⟨a, c, h1, h2, h3, h4⟩ := h
  refine ⟨a, c, h1, h2, h3, fun i hi => ?_⟩
  obtain ⟨b, o, e, r⟩ := h4 i hi
  obtain ⟨⟨va, q0, hva⟩, q1, q2, q3, q4⟩ := r
  have hb : b ≠ b0 := by
    rintro rfl
    obtain ⟨a', c', rfl, -⟩ := hva
    have r0 := q0
    have r1 := q1
    rw [cell_of_heap H0] at r0 r1
    generalize o + i * 5 = y at *
    rcases y with _ | _ | _ | _ | _ | _ | y <;> simp at r0 r1
  have hc : Sub (fun j => w.cell? ⟨b, o + i * 5 + j, none⟩) (fun j => w'.cell? ⟨b, o + i * 5 + j, none⟩) := fun j u hu => (World.cell?_of_block (a := ⟨b, o + i * 5 + j, none⟩) (hk b hb)).trans hu
  exact ⟨b, o, e, ⟨⟨va, hc _ _ q0, RdIns.box H0 hk (hl i) hva⟩, hc _ _ q1, hc _ _ q2, hc _ _ q3, hc _ _ q4⟩⟩
end
theorem args1 : ∀ k i, ((P1.blks.getD k default).ins.getD i default).args = [] := by
  intro k i
  rcases k with _ | k
  · rcases i with _ | _ | _ | i <;> rfl
  · cases i <;> rfl
end Go.Proofs.YtnnhobbabcfogaaDoor

set_option linter.all false
namespace Go.Proofs.YtnnhobbabcfogaaDoor
open Go.ChangeShapes Go.WideShapes Go.ChangeAt Go.RowKit Go.Maps
set_option maxHeartbeats 4000000
set_option linter.unusedVariables false
set_option maxRecDepth 100000

/-- a procedure with that many blocks and no slots, by value -/
theorem PrV.form {w : World} {v : Value} {p : Pr} {n : Nat} (h : PrV w v p) (hn : p.blks.length = n) (ho : p.objs.length = 0) (hv : p.void = false) (hp : p.params = 0) (hr : p.regs = 1) : ∃ (nm : ByteArray) (ao ab : Option Addr) (co cb : Nat), v = .agg #[.string nm, .bool false, .int .i64 0, .int .i64 1, .slice ao 0 co, .slice ab n cb] ∧ RdSls w (.slice ao 0 co) p.objs ∧ RdBks w (.slice ab n cb) p.blks := by
  obtain ⟨nm, vo, vb, rfl, h1, h2⟩ := h
  have h1' := h1
  have h2' := h2
  obtain ⟨ao, co, e1, -⟩ := h1'
  obtain ⟨ab, cb, e2, -⟩ := h2'
  rw [ho] at e1
  rw [hn] at e2
  exact ⟨nm, ao, ab, co, cb, by rw [e1, e2, hv, hp, hr], by rw [← e1]; exact h1, by rw [← e2]; exact h2⟩
theorem RdSls.void {w w' : World} {v : Value} (h : RdSls w v []) : RdSls w' v [] := by
  obtain ⟨a, c, h1, h2, h3, -⟩ := h
  exact ⟨a, c, h1, h2, h3, fun i hi => absurd hi (Nat.not_lt_zero i)⟩
theorem tidy_c (v : Value) (w : World) (hP : PrV w v P0) :
    Calls Tryd.prog 50 #[v] w fun e w' => ∃ v', e = .returned v' ∧ PrV w' v' P1 ∧ Below w.heap.size w w' := by
  obtain ⟨nm, ao, ab, co, cb, rfl, ho, hb⟩ := hP.form (n := 3) rfl rfl rfl rfl rfl
  obtain ⟨W0, hW0⟩ : ∃ W0, W0 = (w.alloc (.cells #[.string nm, .bool false, .int .i64 0, .int .i64 1, .slice ao 0 co, .slice ab 3 cb] 37)).alloc (.cells #[.string { data := #[] }, .bool false, .int .i64 0, .int .i64 0, .slice none 0 0, .slice none 0 0] 37) := ⟨_, rfl⟩
  have hW0' : W0 = allocs w [.cells #[.string nm, .bool false, .int .i64 0, .int .i64 1, .slice ao 0 co, .slice ab 3 cb] 37, .cells #[.string { data := #[] }, .bool false, .int .i64 0, .int .i64 0, .slice none 0 0, .slice none 0 0] 37] := hW0
  have B0 : Hid (Below w.heap.size w W0) := by rw [hW0']; exact allocs_below _ _
  have H0 : Hid (W0.heap[w.heap.size]? = some (.cells #[.string nm, .bool false, .int .i64 0, .int .i64 1, .slice ao 0 co, .slice ab 3 cb] 37 (0, 0))) := by rw [hW0']; exact allocs_heap _ w 0 (by simp)
  have H1 : Hid (W0.heap[w.heap.size + 1]? = some (.cells #[.string { data := #[] }, .bool false, .int .i64 0, .int .i64 0, .slice none 0 0, .slice none 0 0] 37 (0, 0))) := by rw [hW0']; exact allocs_heap _ w 1 (by simp)
  have HP := Lib.hid (hP.ext (Ext.below B0.out))
  clear ho hb hP
  go_enter Tryd.func50, Tryd.ntmps50
  go_wp2_with fail
  rw [← hW0]
  clear hW0 hW0'
  go_loopg [3] 1 (fun m _ wr => ∃ (nm : ByteArray) (ao ab : Option Addr) (co cb n : Nat), Hid ((n = 3 ∧ m = 1 ∧ PrV wr (.agg #[.string nm, .bool false, .int .i64 0, .int .i64 1, .slice ao 0 co, .slice ab n cb]) P0) ∨ (n = 1 ∧ m = 0 ∧ PrV wr (.agg #[.string nm, .bool false, .int .i64 0, .int .i64 1, .slice ao 0 co, .slice ab n cb]) P1)) ∧
    Hid (wr.heap[w.heap.size]? = some (.cells #[.string nm, .bool false, .int .i64 0, .int .i64 1, .slice ao 0 co, .slice ab n cb] 37 (0, 0))) ∧
    Hid (wr.heap[w.heap.size + 1]? = some (.cells #[.string { data := #[] }, .bool false, .int .i64 0, .int .i64 0, .slice none 0 0, .slice none 0 0] 37 (0, 0))) ∧ Hid (Below w.heap.size w wr))
  case atStart => exact ⟨nm, ao, ab, co, cb, 3, .inl ⟨rfl, rfl, HP.out⟩, H0, H1, B0⟩
  case round =>
    clear H0 H1 B0 HP
    obtain ⟨nm, ao, ab, co, cb, n, HC, HB, HZ, BB⟩ := hrel
    have l1 : w.heap.size + 1 < wr.heap.size := (Array.getElem?_eq_some_iff.1 HZ.out).1
    obtain ⟨rfl, hm, hp⟩ | ⟨rfl, hm, hp⟩ := HC.out
    · have HP := Lib.hid hp
      have Hm := Lib.hid hm
      clear hp hm HC
      have T1 := Lib.hid (fun w (h : PrV w (.agg #[.string nm, .bool false, .int .i64 0, .int .i64 1, .slice ao 0 co, .slice ab 3 cb]) P0) => thread_c P0 _ w h jmp0 (by decide))
      obtain ⟨y0, y1, y2, y3, y4, y5, l0⟩ := cl6 HB.out
      go_wp2_with fail
      refine (T1.out wr HP.out).mono ?_
      rintro e w1 ⟨v1, rfl, hp1, hb1⟩
      rw [th0] at hp1
      clear T1 y0 y1 y2 y3 y4 y5
      go_wp2_with fail
      refine (merge_c P0 Q0 5 v1 w1 hp1 mg0 (by decide) (by decide)).mono ?_
      rintro e w2 ⟨v2, rfl, hp2, hb2⟩
      go_wp2_with fail
      refine (prune_c Q0 v2 w2 hp2 jmpQ finQ (by decide)).mono ?_
      rintro e w3 ⟨v3, rfl, hp3, hb3⟩
      rw [pn0] at hp3
      obtain ⟨nm3, ao3, ab3, co3, cb3, rfl, ho3, hk3⟩ := hp3.form (n := 1) rfl rfl rfl rfl rfl
      have hb13 : Below wr.heap.size wr w3 := (hb1.trans (hb2.mono hb1.size)).trans (hb3.mono (hb1.trans (hb2.mono hb1.size)).size)
      have HB3 := Lib.hid ((hb13.block _ l0).trans HB.out)
      have HZ3 := Lib.hid ((hb13.block _ l1).trans HZ.out)
      have BB3 := Lib.hid (BB.out.trans (hb13.mono BB.out.size))
      have HO3 := Lib.hid ho3
      have HK3 := Lib.hid hk3
      clear hp1 hp2 hp3 hb1 hb2 hb3 hb13 ho3 hk3 HB HZ BB HP
      have l0 : w.heap.size < w3.heap.size := (Array.getElem?_eq_some_iff.1 HB3.out).1
      have l1 : w.heap.size + 1 < w3.heap.size := (Array.getElem?_eq_some_iff.1 HZ3.out).1
      obtain ⟨y0, y1, y2, y3, y4, y5, -⟩ := cl6 HB3.out
      obtain ⟨z0, z1, z2, z3, z4, z5, -⟩ := cl6 HZ3.out
      have zf := Lib.frozen_of_heap HB3.out
      have zf0 := zf 0
      have zf1 := zf 1
      have zf2 := zf 2
      have zf3 := zf 3
      have zf4 := zf 4
      have zf5 := zf 5
      clear zf
      go_wp2_with fail
      have hk4 : ∀ b, b ≠ w.heap.size → ((((((w3.setCell ⟨w.heap.size, 0, none⟩ (.string nm3)).setCell ⟨w.heap.size, 1, none⟩ (.bool false)).setCell ⟨w.heap.size, 2, none⟩ (.int .i64 0)).setCell ⟨w.heap.size, 3, none⟩ (.int .i64 1)).setCell ⟨w.heap.size, 4, none⟩ (.slice ao3 0 co3)).setCell ⟨w.heap.size, 5, none⟩ (.slice ab3 1 cb3)).heap[b]? = w3.heap[b]? := fun b hb =>
        (heap_setCell_other _ ⟨w.heap.size, 5, none⟩ b _ hb).trans ((heap_setCell_other _ ⟨w.heap.size, 4, none⟩ b _ hb).trans ((heap_setCell_other _ ⟨w.heap.size, 3, none⟩ b _ hb).trans ((heap_setCell_other _ ⟨w.heap.size, 2, none⟩ b _ hb).trans ((heap_setCell_other _ ⟨w.heap.size, 1, none⟩ b _ hb).trans (heap_setCell_other _ ⟨w.heap.size, 0, none⟩ b _ hb)))))
      have hbx4 := box_set (box_set (box_set (box_set (box_set (box_set HB3.out 0 (.string nm3)) 1 (.bool false)) 2 (.int .i64 0)) 3 (.int .i64 1)) 4 (.slice ao3 0 co3)) 5 (.slice ab3 1 cb3)
      have hbl4 := (((((BB3.out.setCell (p := ⟨w.heap.size, 0, none⟩) (Nat.le_refl _) (.string nm3)).setCell (p := ⟨w.heap.size, 1, none⟩) (Nat.le_refl _) (.bool false)).setCell (p := ⟨w.heap.size, 2, none⟩) (Nat.le_refl _) (.int .i64 0)).setCell (p := ⟨w.heap.size, 3, none⟩) (Nat.le_refl _) (.int .i64 1)).setCell (p := ⟨w.heap.size, 4, none⟩) (Nat.le_refl _) (.slice ao3 0 co3)).setCell (p := ⟨w.heap.size, 5, none⟩) (Nat.le_refl _) (.slice ab3 1 cb3)
      have hrd4 := RdBks.box HB3.out hk4 args1 HK3.out
      have hz4 := (hk4 (w.heap.size + 1) (by omega)).trans HZ3.out
      clear y0 y1 y2 y3 y4 y5 z0 z1 z2 z3 z4 z5 zf0 zf1 zf2 zf3 zf4 zf5
      generalize ((((((w3.setCell ⟨w.heap.size, 0, none⟩ (.string nm3)).setCell ⟨w.heap.size, 1, none⟩ (.bool false)).setCell ⟨w.heap.size, 2, none⟩ (.int .i64 0)).setCell ⟨w.heap.size, 3, none⟩ (.int .i64 1)).setCell ⟨w.heap.size, 4, none⟩ (.slice ao3 0 co3)).setCell ⟨w.heap.size, 5, none⟩ (.slice ab3 1 cb3)) = W4 at *
      have l40 : w.heap.size < W4.heap.size := (Array.getElem?_eq_some_iff.1 hbx4).1
      have l41 : w.heap.size + 1 < W4.heap.size := (Array.getElem?_eq_some_iff.1 hz4).1
      go_roundg 0
      case rel => exact ⟨nm3, ao3, ab3, co3, cb3, 1, .inr ⟨rfl, rfl, nm3, _, _, rfl, RdSls.void HO3.out, hrd4.ext (Ext.alloc _ _)⟩, ((below_alloc W4 _).block _ l40).trans hbx4, ((below_alloc W4 _).block _ l41).trans hz4, hbl4.trans ((below_alloc W4 _).mono hbl4.size)⟩
      case measure => rw [Hm.out]; omega
    · have HP := Lib.hid hp
      have Hm := Lib.hid hm
      clear hp hm HC
      have T1 := Lib.hid (fun w (h : PrV w (.agg #[.string nm, .bool false, .int .i64 0, .int .i64 1, .slice ao 0 co, .slice ab 1 cb]) P1) => thread_c P1 _ w h jmp1 (by decide))
      obtain ⟨y0, y1, y2, y3, y4, y5, l0⟩ := cl6 HB.out
      go_wp2_with fail
      refine (T1.out wr HP.out).mono ?_
      rintro e w1 ⟨v1, rfl, hp1, hb1⟩
      rw [th1] at hp1
      clear T1 y0 y1 y2 y3 y4 y5
      go_wp2_with fail
      refine (merge_c P1 P1 5 v1 w1 hp1 mg1 (by decide) (by decide)).mono ?_
      rintro e w2 ⟨v2, rfl, hp2, hb2⟩
      go_wp2_with fail
      refine (prune_c P1 v2 w2 hp2 jmp1 fin1 (by decide)).mono ?_
      rintro e w3 ⟨v3, rfl, hp3, hb3⟩
      rw [pn1] at hp3
      obtain ⟨nm3, ao3, ab3, co3, cb3, rfl, ho3, hk3⟩ := hp3.form (n := 1) rfl rfl rfl rfl rfl
      have hb13 : Below wr.heap.size wr w3 := (hb1.trans (hb2.mono hb1.size)).trans (hb3.mono (hb1.trans (hb2.mono hb1.size)).size)
      have HB3 := Lib.hid ((hb13.block _ l0).trans HB.out)
      have HZ3 := Lib.hid ((hb13.block _ l1).trans HZ.out)
      have BB3 := Lib.hid (BB.out.trans (hb13.mono BB.out.size))
      have HO3 := Lib.hid ho3
      have HK3 := Lib.hid hk3
      clear hp1 hp2 hp3 hb1 hb2 hb3 hb13 ho3 hk3 HB HZ BB HP
      have l0 : w.heap.size < w3.heap.size := (Array.getElem?_eq_some_iff.1 HB3.out).1
      have l1 : w.heap.size + 1 < w3.heap.size := (Array.getElem?_eq_some_iff.1 HZ3.out).1
      obtain ⟨y0, y1, y2, y3, y4, y5, -⟩ := cl6 HB3.out
      obtain ⟨z0, z1, z2, z3, z4, z5, -⟩ := cl6 HZ3.out
      have zf := Lib.frozen_of_heap HZ3.out
      have zf0 := zf 0
      have zf1 := zf 1
      have zf2 := zf 2
      have zf3 := zf 3
      have zf4 := zf 4
      have zf5 := zf 5
      clear zf
      go_wp2_with fail
      have hk4 : ∀ b, b ≠ (w.heap.size + 1) → ((((((w3.setCell ⟨(w.heap.size + 1), 0, none⟩ (.string nm3)).setCell ⟨(w.heap.size + 1), 1, none⟩ (.bool false)).setCell ⟨(w.heap.size + 1), 2, none⟩ (.int .i64 0)).setCell ⟨(w.heap.size + 1), 3, none⟩ (.int .i64 1)).setCell ⟨(w.heap.size + 1), 4, none⟩ (.slice ao3 0 co3)).setCell ⟨(w.heap.size + 1), 5, none⟩ (.slice ab3 1 cb3)).heap[b]? = w3.heap[b]? := fun b hb =>
        (heap_setCell_other _ ⟨(w.heap.size + 1), 5, none⟩ b _ hb).trans ((heap_setCell_other _ ⟨(w.heap.size + 1), 4, none⟩ b _ hb).trans ((heap_setCell_other _ ⟨(w.heap.size + 1), 3, none⟩ b _ hb).trans ((heap_setCell_other _ ⟨(w.heap.size + 1), 2, none⟩ b _ hb).trans ((heap_setCell_other _ ⟨(w.heap.size + 1), 1, none⟩ b _ hb).trans (heap_setCell_other _ ⟨(w.heap.size + 1), 0, none⟩ b _ hb)))))
      have hbx4 := box_set (box_set (box_set (box_set (box_set (box_set HZ3.out 0 (.string nm3)) 1 (.bool false)) 2 (.int .i64 0)) 3 (.int .i64 1)) 4 (.slice ao3 0 co3)) 5 (.slice ab3 1 cb3)
      have hbl4 := (((((BB3.out.setCell (p := ⟨(w.heap.size + 1), 0, none⟩) (Nat.le_succ _) (.string nm3)).setCell (p := ⟨(w.heap.size + 1), 1, none⟩) (Nat.le_succ _) (.bool false)).setCell (p := ⟨(w.heap.size + 1), 2, none⟩) (Nat.le_succ _) (.int .i64 0)).setCell (p := ⟨(w.heap.size + 1), 3, none⟩) (Nat.le_succ _) (.int .i64 1)).setCell (p := ⟨(w.heap.size + 1), 4, none⟩) (Nat.le_succ _) (.slice ao3 0 co3)).setCell (p := ⟨(w.heap.size + 1), 5, none⟩) (Nat.le_succ _) (.slice ab3 1 cb3)
      have hrd4 := RdBks.box HZ3.out hk4 args1 HK3.out
      have hblA := hbl4.trans ((below_alloc _ (.cells #[.string nm3, .bool false, .int .i64 0, .int .i64 1, .slice ao3 0 co3, .slice ab3 1 cb3] 37)).mono hbl4.size)
      exact bodyPost_ret (v := .agg #[.string nm3, .bool false, .int .i64 0, .int .i64 1, .slice ao3 0 co3, .slice ab3 1 cb3]) (by simp [results, Tryd.results50, go_sem, z0, z1, z2, z3, z4, z5, l1]) rfl ⟨_, rfl, ⟨nm3, _, _, rfl, RdSls.void HO3.out, hrd4.ext (Ext.alloc _ _)⟩, hblA⟩
end Go.Proofs.YtnnhobbabcfogaaDoor
