/-
 alias: each goes through a procedure's instructions and ends.
-/
import Derived.Test.YtmcddolkpcgddaaZHazardMarks38
set_option linter.all false
namespace Go.Proofs.Ytmcddolkpcgddaa
open Go.ChangeShapes Go.WideShapes Go.ChangeAt Go.RowKit
set_option maxHeartbeats 4000000
set_option maxRecDepth 100000
set_option linter.unusedVariables false

theorem RdIns.slY {w : World} {v : Value} {l : List In} (h : RdIns w v l) : ∃ a c, v = .slice a l.length c ∧ l.length ≤ c ∧ c ≤ maxLen := by
 obtain ⟨a, c, h1, h2, h3, -⟩ := h
 exact ⟨a, c, h1, h2, h3⟩
def cB (c : In → List Con) (b : Bk) : List Con := b.ins.flatMap c ++ conE b
def eaL (c : In → List Con) (bs : List Bk) (n : Nat) : List Con := (bs.take n).flatMap (cB c)
def eaI (bs : List Bk) (n : Nat) : List In := (bs.take n).flatMap (·.ins)
theorem take_snocE {α : Type} [Inhabited α] (l : List α) (k : Nat) (h : k < l.length) : l.take (k + 1) = l.take k ++ [l.getD k default] := by
 rw [List.take_succ_eq_append_getElem h]; simp [List.getD, h]
theorem eaL_succ (c : In → List Con) (bs : List Bk) (n : Nat) (h : n < bs.length) : eaL c bs (n + 1) = eaL c bs n ++ ((bs.getD n default).ins.flatMap c ++ conE (bs.getD n default)) := by
 unfold eaL; rw [take_snocE _ _ h, List.flatMap_append]; simp [cB]
theorem eaI_succ (bs : List Bk) (n : Nat) (h : n < bs.length) : eaI bs (n + 1) = eaI bs n ++ (bs.getD n default).ins := by
 unfold eaI; rw [take_snocE _ _ h, List.flatMap_append]; simp
theorem eaI_pre (bs : List Bk) (n j : Nat) (h : n < bs.length) : ∃ l', (eaI bs n ++ (bs.getD n default).ins.take j) ++ l' = bs.flatMap (·.ins) := by
 refine ⟨(bs.getD n default).ins.drop j ++ (bs.drop (n + 1)).flatMap (·.ins), ?_⟩
 have e : bs = bs.take n ++ bs.getD n default :: bs.drop (n + 1) := by
  conv => lhs; rw [← List.take_append_drop n bs]
  congr 1
  rw [List.drop_eq_getElem_cons h]; simp [List.getD, h]
 conv => rhs; rw [e, List.flatMap_append, List.flatMap_cons]
 unfold eaI
 simp only [List.append_assoc]
 congr 1
 rw [← List.append_assoc, List.take_append_drop]
/-- what an answer and a view are behind some instructions -/
structure EaS (w0 w : World) (k : VwK) (x : AS) (sp : List Sp) (f : List Sp → In → List Sp) (l : List Con) (li : List In) (wr : World) (b : Bool) : Prop where
 b : b = (x.pass l).2
 v : VwM w0 wr k (x.pass l).1 (li.foldl f sp)
 k : KpW k w wr
theorem EaS.step {w0 w wr w' : World} {k : VwK} {x : AS} {sp : List Sp} {f : List Sp → In → List Sp} {l c : List Con} {li : List In} {i : List In} {b : Bool} (h : EaS w0 w k x sp f l li wr b) (hv : VwM w0 w' k ((x.pass l).1.pass c).1 (i.foldl f (li.foldl f sp))) (hk : KpW k wr w') : EaS w0 w k x sp f (l ++ c) (li ++ i) w' (((x.pass l).1.pass c).2 || b) :=
 ⟨by rw [AS.pass_append, h.b], by rw [AS.pass_append, List.foldl_append]; exact hv, h.k.trans hk⟩
theorem EaS.grow {w0 w wr w' : World} {k : VwK} {x : AS} {sp : List Sp} {f : List Sp → In → List Sp} {l : List Con} {li : List In} {b : Bool} (h : EaS w0 w k x sp f l li wr b) (hb : Below wr.heap.size wr w') : EaS w0 w k x sp f l li w' b :=
 ⟨h.b, h.v.grow hb, h.k.trans (KpW.of_below hb)⟩
theorem eachP_c (w0 : World) (k : VwK) (x : AS) (sp : List Sp) (c : In → List Con) (f : List Sp → In → List Sp) (Q : List Sp → Prop) (w : World) (h : VwM w0 w k x sp)
  (hbl : k.p.blks.length ≤ 1000 ∧ ∀ n, n < k.p.blks.length → (k.p.blks.getD n default).ins.length ≤ 1000)
  (hend : ∀ n, n < k.p.blks.length → (k.p.blks.getD n default).fin = 3 → (k.p.blks.getD n default).a ≠ -1 → 0 ≤ (k.p.blks.getD n default).a ∧ (k.p.blks.getD n default).a.toNat < k.bs.length)
  (hQ : ∀ l l', l ++ l' = k.p.blks.flatMap (·.ins) → Q (l.foldl f sp))
  (hdo : ∀ (n j : Nat) X SP va wr, n < k.p.blks.length → j < (k.p.blks.getD n default).ins.length → VwM w0 wr k X SP → Q SP → RdI w0 va ((k.p.blks.getD n default).ins.getD j default).args →
    Calls Try.prog 65 #[.pointer (some ⟨k.bv, 0, none⟩), aggI ((k.p.blks.getD n default).ins.getD j default) va] wr fun e w' => e = .returned (.bool (X.pass (c ((k.p.blks.getD n default).ins.getD j default))).2) ∧ VwM w0 w' k (X.pass (c ((k.p.blks.getD n default).ins.getD j default))).1 (f SP ((k.p.blks.getD n default).ins.getD j default)) ∧ KpW k wr w') :
  Calls Try.prog 64 #[.pointer (some ⟨k.bv, 0, none⟩), .func (.func 65) #[.pointer (some ⟨k.bv, 0, none⟩)] #[]] w fun e w' => e = .returned (.bool (x.pass (k.p.blks.flatMap (cB c))).2) ∧ VwM w0 w' k (x.pass (k.p.blks.flatMap (cB c))).1 ((k.p.blks.flatMap (·.ins)).foldl f sp) ∧ KpW k w w' := by
 obtain ⟨pnm, pvo, pvb, pe, -, hbk⟩ := id h.pv
 simp only [Value.agg.injEq, Array.mk.injEq, List.cons.injEq] at pe
 obtain ⟨-, -, -, -, -, pe, -⟩ := pe
 subst pe
 obtain ⟨ab, cb, hvb, hb1, hb2, -⟩ := id hbk
 unfold maxLen at hb2
 have hvc : ∀ wr X SP, VwM w0 wr k X SP → wr.cell? ⟨k.bv, 5, none⟩ = some (.slice ab k.p.blks.length cb) := fun wr X SP hv => by rw [cell_of_heap hv.hv 5, ← hvb]; rfl
 have HVC := Lib.hid hvc
 have HBK := Lib.hid hbk
 have HVB := Lib.hid hvb
 have c5 := hvc w x sp h
 have lv := h.lv
 have HE := Lib.hid hend
 have HQ := Lib.hid hQ
 have HDO := Lib.hid hdo
 have HIL := Lib.hid hbl.2
 have hbl1 := hbl.1
 have H0 : Hid (EaS w0 w k x sp f (eaL c k.p.blks 0) (eaI k.p.blks 0) w false) := ⟨rfl, h, KpW.refl _ _⟩
 have HFIN : Hid (eaL c k.p.blks k.p.blks.length = k.p.blks.flatMap (cB c) ∧ eaI k.p.blks k.p.blks.length = k.p.blks.flatMap (·.ins)) := ⟨by unfold eaL; rw [List.take_length], by unfold eaI; rw [List.take_length]⟩
 rw [← HFIN.out.1, ← HFIN.out.2]
 clear h hbk hvc hend hQ hdo hbl hvb HFIN
 go_enter Try.func64, Try.ntmps64
 go_wp2_with fail
 go_loopw [5, 16] (fun d i wr => ∃ (n : Nat) (b : Bool), n ≤ k.p.blks.length ∧ d = .bool b ∧ i = .int .i64 (n : Int) ∧ Hid (EaS w0 w k x sp f (eaL c k.p.blks n) (eaI k.p.blks n) wr b)) (fun _ i _ => k.p.blks.length - (intOf i).toNat)
 case atStart => exact ⟨0, false, Nat.zero_le _, rfl, rfl, H0⟩
 case round =>
  clear H0 c5
  obtain ⟨n, b, hn, rfl, rfl, E⟩ := hrel
  have c5 := HVC.out _ _ _ E.out.v
  have lvr := E.out.v.lv
  by_cases hlt : n < k.p.blks.length
  ·have g1 : decide ((n : Int) < (k.p.blks.length : Int)) = true := decide_eq_true (by omega)
   have g2 : decide (n < k.p.blks.length) = true := decide_eq_true hlt
   have hbk := HBK.out
   rw [HVB.out] at hbk
   obtain ⟨bb, ob, vi, rfl, hvi, c0, c1, c2, c3, c4⟩ := (RdBks.at hbk).2 n hlt
   have HX := Lib.hid E.out.v.ext
   replace c0 := HX.out _ _ c0
   replace c1 := HX.out _ _ c1
   replace c2 := HX.out _ _ c2
   replace c3 := HX.out _ _ c3
   replace c4 := HX.out _ _ c4
   have lbw := World.block_lt_of_cell? wr _ c0
   have HVI := Lib.hid hvi
   obtain ⟨ai, ci, rfl, hi1, hi2⟩ := RdIns.slY hvi
   unfold maxLen at hi2
   clear hvi HX hbk
   have hLk := HIL.out n hlt
   have HDK := Lib.hid (fun j X SP va wr hj => HDO.out n j X SP va wr hlt hj)
   have HEK := Lib.hid (HE.out n hlt)
   have HPK := Lib.hid (fun j => eaI_pre k.p.blks n j hlt)
   have HS1 := Lib.hid (eaL_succ c k.p.blks n hlt)
   have HS2 := Lib.hid (eaI_succ k.p.blks n hlt)
   generalize k.p.blks.getD n default = K at *
   have hnm := Lib.hid (E.out.v.notMine (Nat.le_refl wr.heap.size))
   go_wp2_with fail
   generalize wr = wo at *
   obtain ⟨W2, hW2⟩ : ∃ W2, W2 = wo.alloc (.cells #[.slice ai K.ins.length ci, .int .i64 K.fin, .int .i64 K.a, .int .i64 K.to, .int .i64 K.els] 51) := ⟨_, rfl⟩
   have G2 : Hid (W2.heap[wo.heap.size]? = some (.cells #[.slice ai K.ins.length ci, .int .i64 K.fin, .int .i64 K.a, .int .i64 K.to, .int .i64 K.els] 51)) := by
    rw [hW2]; exact heap_alloc_new wo _
   have E2 : Hid (EaS w0 w k x sp f (eaL c k.p.blks n ++ (K.ins.take 0).flatMap c) (eaI k.p.blks n ++ K.ins.take 0) W2 b) := by
    simp only [List.take_zero, List.flatMap_nil, List.append_nil]
    rw [hW2]; exact E.out.grow (below_alloc wo _)
   try rw [← hW2]
   clear hW2 c0 c1 c2 c3 c4 c5 E
   go_loopw [5, 23] (fun d i wr => ∃ (j : Nat) (b : Bool), j ≤ K.ins.length ∧ d = .bool b ∧ i = .int .i64 (j : Int) ∧ Hid (EaS w0 w k x sp f (eaL c k.p.blks n ++ (K.ins.take j).flatMap c) (eaI k.p.blks n ++ K.ins.take j) wr b) ∧ Hid (wr.heap[wo.heap.size]? = some (.cells #[.slice ai K.ins.length ci, .int .i64 K.fin, .int .i64 K.a, .int .i64 K.to, .int .i64 K.els] 51))) (fun _ i _ => K.ins.length - (intOf i).toNat)
   case atStart => exact ⟨0, b, Nat.zero_le _, rfl, rfl, E2, G2⟩
   case round =>
    clear E2 G2
    obtain ⟨j, b, hj, rfl, rfl, E, G⟩ := hrel
    have lg := (Array.getElem?_eq_some_iff.1 G.out).1
    by_cases hlj : j < K.ins.length
    ·have g3 : decide ((j : Int) < (K.ins.length : Int)) = true := decide_eq_true (by omega)
     have g4 : decide (j < K.ins.length) = true := decide_eq_true hlj
     obtain ⟨bi, oi, vx, rfl, hbw, hva, d0, d1, d2, d3, d4, d5, d6, d7, d8, d9, d10⟩ := (RdIns.at HVI.out).2 j hlj
     have HX := Lib.hid E.out.v.ext
     replace d0 := HX.out _ _ d0
     replace d1 := HX.out _ _ d1
     replace d2 := HX.out _ _ d2
     replace d3 := HX.out _ _ d3
     replace d4 := HX.out _ _ d4
     replace d5 := HX.out _ _ d5
     replace d6 := HX.out _ _ d6
     replace d7 := HX.out _ _ d7
     replace d8 := HX.out _ _ d8
     replace d9 := HX.out _ _ d9
     replace d10 := HX.out _ _ d10
     have lbi := World.block_lt_of_cell? wr _ d0
     have HVA := Lib.hid hva
     obtain ⟨sa, sc, rfl, -⟩ := hva
     have HTS : Hid (K.ins.take (j + 1) = K.ins.take j ++ [K.ins.getD j default]) := take_snocE _ _ hlj
     have HQJ : Hid (Q ((eaI k.p.blks n ++ K.ins.take j).foldl f sp)) := by
      obtain ⟨l', hl'⟩ := HPK.out j
      exact HQ.out _ l' hl'
     have HDJ := Lib.hid (fun X SP va wr => HDK.out j X SP va wr hlj)
     clear HX
     generalize K.ins.getD j default = y at *
     have hnm3 := Lib.hid (E.out.v.notMine (Nat.le_refl wr.heap.size))
     go_wp2_with fail
     have hb3 := below_alloc wr (.cells #[.int .i64 y.op, .int .i64 y.d, .int .i64 y.a, .int .i64 y.b, .int .i64 y.fn, .int .i64 y.obj, .int .i64 y.off, .int .i64 y.size, .int .u32 y.num, .slice sa y.args.length sc, .bool y.log] 58)
     have E3 := Lib.hid (E.out.grow hb3)
     have G3 := Lib.hid ((hb3.block _ lg).trans G.out)
     generalize wr.alloc (.cells #[.int .i64 y.op, .int .i64 y.d, .int .i64 y.a, .int .i64 y.b, .int .i64 y.fn, .int .i64 y.obj, .int .i64 y.off, .int .i64 y.size, .int .u32 y.num, .slice sa y.args.length sc, .bool y.log] 58) = W3 at *
     clear hb3 E G d0 d1 d2 d3 d4 d5 d6 d7 d8 d9 d10
     have hcl := HDJ.out _ _ (.slice sa y.args.length sc) W3 E3.out.v HQJ.out HVA.out
     unfold aggI at hcl
     refine Calls.mono hcl ?_
     clear hcl
     rintro e w4 ⟨rfl, hv4, hk4⟩
     have E4 := Lib.hid (E3.out.step (i := [y]) hv4 hk4)
     have G4 := Lib.hid ((hk4.keep _ (Array.getElem?_eq_some_iff.1 G3.out).1 hnm.out).trans G3.out)
     have E5 : Hid (∀ b', ((x.pass (eaL c k.p.blks n ++ (K.ins.take j).flatMap c)).1.pass (c y)).2 = b' → EaS w0 w k x sp f (eaL c k.p.blks n ++ (K.ins.take (j + 1)).flatMap c) (eaI k.p.blks n ++ K.ins.take (j + 1)) w4 (b' || b)) := fun b' hb' => by
      rw [HTS.out, List.flatMap_append, ← List.append_assoc, ← List.append_assoc, ← hb']
      simpa using E4.out
     clear hv4 hk4 E3 E4 G3 HQJ HDJ
     generalize ((x.pass (eaL c k.p.blks n ++ (K.ins.take j).flatMap c)).1.pass (c y)).2 = nb at *
     cases nb
     all_goals
      have E6 := Lib.hid (E5.out _ rfl)
      clear E5
      go_wp2_with fail
      go_roundw
      case rel => exact ⟨j + 1, _, hlj, rfl, by go_num, E6, G4⟩
      case measure => simp [intOf]; omega
    ·obtain rfl : j = K.ins.length := by omega
     obtain ⟨q0, q1, q2, q3, q4, -⟩ := cl5 G.out
     have E : Hid (EaS w0 w k x sp f (eaL c k.p.blks n ++ K.ins.flatMap c) (eaI k.p.blks n ++ K.ins) wr b) := by
      have := E.out
      rwa [List.take_length] at this
     by_cases hfa : K.fin = 3 ∧ K.a ≠ -1
     ·obtain ⟨h1, h2⟩ := hfa
      obtain ⟨k1, k2⟩ := HEK.out h1 h2
      obtain ⟨r, hr⟩ : ∃ r : Nat, K.a = (r : Int) := ⟨K.a.toNat, by omega⟩
      have hr2 : r < k.bs.length := by omega
      have f3 : (K.fin == 3) = true := by rw [h1]; rfl
      have f4 : (K.a != -1) = true := by rw [bne_iff_ne]; exact h2
      have HCE : Hid (conE K = [.sub (some r) none]) := by show _ = _; unfold conE; rw [if_pos ⟨h1, h2⟩, hr]; rfl
      rw [hr] at q2 f4
      clear h1 h2 k1 k2 hr HEK
      go_wp2_with fail
      refine (let_c w0 k _ _ r wr E.out.v hr2).mono ?_
      rintro e w4 ⟨rfl, hv4, hk4⟩
      have E5 : Hid (∀ b', ((x.pass (eaL c k.p.blks n ++ K.ins.flatMap c)).1.news (.sub (some r) none)) = b' → EaS w0 w k x sp f (eaL c k.p.blks (n + 1)) (eaI k.p.blks (n + 1)) w4 (b' || b)) := fun b' hb' => by
       have h := E.out.step (c := [.sub (some r) none]) (i := []) (w' := w4) (by rw [AS.pass_one]; exact hv4) hk4
       rw [AS.pass_one, List.append_nil] at h
       rw [HS1.out, HS2.out, HCE.out, ← List.append_assoc, ← hb']
       exact h
      clear hv4 hk4 E
      generalize ((x.pass (eaL c k.p.blks n ++ K.ins.flatMap c)).1.news (.sub (some r) none)) = nb at *
      cases nb
      all_goals
       have E6 := Lib.hid (E5.out _ rfl)
       clear E5
       go_wp2_with fail
       go_roundw
       case rel => exact ⟨n + 1, _, hlt, rfl, by go_num, E6⟩
       case measure => simp [intOf]; omega
     ·have HCE : Hid (conE K = []) := by show _ = _; unfold conE; rw [if_neg hfa]
      have E6 : Hid (EaS w0 w k x sp f (eaL c k.p.blks (n + 1)) (eaI k.p.blks (n + 1)) wr b) := by
       show EaS _ _ _ _ _ _ _ _ _ _
       rw [HS1.out, HS2.out, HCE.out, List.append_nil]
       exact E.out
      clear HEK E
      by_cases h1 : K.fin = 3
      ·have f3 : (K.fin == 3) = true := by rw [h1]; rfl
       have f4 : (K.a != -1) = false := by
        have : K.a = -1 := Classical.byContradiction fun h2 => hfa ⟨h1, h2⟩
        rw [this]; rfl
       clear h1 hfa
       go_wp2_with fail
       go_roundw
       case rel => exact ⟨n + 1, _, hlt, rfl, by go_num, E6⟩
       case measure => simp [intOf]; omega
      ·have f3 : (K.fin == 3) = false := by rw [beq_eq_false_iff_ne]; exact h1
       clear h1 hfa
       go_wp2_with fail
       go_roundw
       case rel => exact ⟨n + 1, _, hlt, rfl, by go_num, E6⟩
       case measure => simp [intOf]; omega
  ·obtain rfl : n = k.p.blks.length := by omega
   go_wp2_with fail
   go_ret
   exact ⟨by rw [E.out.b]; rfl, E.out.v, E.out.k⟩
theorem eachS_c (w0 : World) (k : VwK) (x : AS) (sp : List Sp) (c : In → List Con) (f : List Sp → In → List Sp) (Q : List Sp → Prop) (w : World) (h : VwM w0 w k x sp)
  (hbl : k.p.blks.length ≤ 1000 ∧ ∀ n, n < k.p.blks.length → (k.p.blks.getD n default).ins.length ≤ 1000)
  (hend : ∀ n, n < k.p.blks.length → (k.p.blks.getD n default).fin = 3 → (k.p.blks.getD n default).a ≠ -1 → 0 ≤ (k.p.blks.getD n default).a ∧ (k.p.blks.getD n default).a.toNat < k.bs.length)
  (hQ : ∀ l l', l ++ l' = k.p.blks.flatMap (·.ins) → Q (l.foldl f sp))
  (hdo : ∀ (n j : Nat) X SP va wr, n < k.p.blks.length → j < (k.p.blks.getD n default).ins.length → VwM w0 wr k X SP → Q SP → RdI w0 va ((k.p.blks.getD n default).ins.getD j default).args →
    Calls Try.prog 66 #[.pointer (some ⟨k.bv, 0, none⟩), aggI ((k.p.blks.getD n default).ins.getD j default) va] wr fun e w' => e = .returned (.bool (X.pass (c ((k.p.blks.getD n default).ins.getD j default))).2) ∧ VwM w0 w' k (X.pass (c ((k.p.blks.getD n default).ins.getD j default))).1 (f SP ((k.p.blks.getD n default).ins.getD j default)) ∧ KpW k wr w') :
  Calls Try.prog 64 #[.pointer (some ⟨k.bv, 0, none⟩), .func (.func 66) #[.pointer (some ⟨k.bv, 0, none⟩)] #[]] w fun e w' => e = .returned (.bool (x.pass (k.p.blks.flatMap (cB c))).2) ∧ VwM w0 w' k (x.pass (k.p.blks.flatMap (cB c))).1 ((k.p.blks.flatMap (·.ins)).foldl f sp) ∧ KpW k w w' := by
 obtain ⟨pnm, pvo, pvb, pe, -, hbk⟩ := id h.pv
 simp only [Value.agg.injEq, Array.mk.injEq, List.cons.injEq] at pe
 obtain ⟨-, -, -, -, -, pe, -⟩ := pe
 subst pe
 obtain ⟨ab, cb, hvb, hb1, hb2, -⟩ := id hbk
 unfold maxLen at hb2
 have hvc : ∀ wr X SP, VwM w0 wr k X SP → wr.cell? ⟨k.bv, 5, none⟩ = some (.slice ab k.p.blks.length cb) := fun wr X SP hv => by rw [cell_of_heap hv.hv 5, ← hvb]; rfl
 have HVC := Lib.hid hvc
 have HBK := Lib.hid hbk
 have HVB := Lib.hid hvb
 have c5 := hvc w x sp h
 have lv := h.lv
 have HE := Lib.hid hend
 have HQ := Lib.hid hQ
 have HDO := Lib.hid hdo
 have HIL := Lib.hid hbl.2
 have hbl1 := hbl.1
 have H0 : Hid (EaS w0 w k x sp f (eaL c k.p.blks 0) (eaI k.p.blks 0) w false) := ⟨rfl, h, KpW.refl _ _⟩
 have HFIN : Hid (eaL c k.p.blks k.p.blks.length = k.p.blks.flatMap (cB c) ∧ eaI k.p.blks k.p.blks.length = k.p.blks.flatMap (·.ins)) := ⟨by unfold eaL; rw [List.take_length], by unfold eaI; rw [List.take_length]⟩
 rw [← HFIN.out.1, ← HFIN.out.2]
 clear h hbk hvc hend hQ hdo hbl hvb HFIN
 go_enter Try.func64, Try.ntmps64
 go_wp2_with fail
 go_loopw [5, 16] (fun d i wr => ∃ (n : Nat) (b : Bool), n ≤ k.p.blks.length ∧ d = .bool b ∧ i = .int .i64 (n : Int) ∧ Hid (EaS w0 w k x sp f (eaL c k.p.blks n) (eaI k.p.blks n) wr b)) (fun _ i _ => k.p.blks.length - (intOf i).toNat)
 case atStart => exact ⟨0, false, Nat.zero_le _, rfl, rfl, H0⟩
 case round =>
  clear H0 c5
  obtain ⟨n, b, hn, rfl, rfl, E⟩ := hrel
  have c5 := HVC.out _ _ _ E.out.v
  have lvr := E.out.v.lv
  by_cases hlt : n < k.p.blks.length
  ·have g1 : decide ((n : Int) < (k.p.blks.length : Int)) = true := decide_eq_true (by omega)
   have g2 : decide (n < k.p.blks.length) = true := decide_eq_true hlt
   have hbk := HBK.out
   rw [HVB.out] at hbk
   obtain ⟨bb, ob, vi, rfl, hvi, c0, c1, c2, c3, c4⟩ := (RdBks.at hbk).2 n hlt
   have HX := Lib.hid E.out.v.ext
   replace c0 := HX.out _ _ c0
   replace c1 := HX.out _ _ c1
   replace c2 := HX.out _ _ c2
   replace c3 := HX.out _ _ c3
   replace c4 := HX.out _ _ c4
   have lbw := World.block_lt_of_cell? wr _ c0
   have HVI := Lib.hid hvi
   obtain ⟨ai, ci, rfl, hi1, hi2⟩ := RdIns.slY hvi
   unfold maxLen at hi2
   clear hvi HX hbk
   have hLk := HIL.out n hlt
   have HDK := Lib.hid (fun j X SP va wr hj => HDO.out n j X SP va wr hlt hj)
   have HEK := Lib.hid (HE.out n hlt)
   have HPK := Lib.hid (fun j => eaI_pre k.p.blks n j hlt)
   have HS1 := Lib.hid (eaL_succ c k.p.blks n hlt)
   have HS2 := Lib.hid (eaI_succ k.p.blks n hlt)
   generalize k.p.blks.getD n default = K at *
   have hnm := Lib.hid (E.out.v.notMine (Nat.le_refl wr.heap.size))
   go_wp2_with fail
   generalize wr = wo at *
   obtain ⟨W2, hW2⟩ : ∃ W2, W2 = wo.alloc (.cells #[.slice ai K.ins.length ci, .int .i64 K.fin, .int .i64 K.a, .int .i64 K.to, .int .i64 K.els] 51) := ⟨_, rfl⟩
   have G2 : Hid (W2.heap[wo.heap.size]? = some (.cells #[.slice ai K.ins.length ci, .int .i64 K.fin, .int .i64 K.a, .int .i64 K.to, .int .i64 K.els] 51)) := by
    rw [hW2]; exact heap_alloc_new wo _
   have E2 : Hid (EaS w0 w k x sp f (eaL c k.p.blks n ++ (K.ins.take 0).flatMap c) (eaI k.p.blks n ++ K.ins.take 0) W2 b) := by
    simp only [List.take_zero, List.flatMap_nil, List.append_nil]
    rw [hW2]; exact E.out.grow (below_alloc wo _)
   try rw [← hW2]
   clear hW2 c0 c1 c2 c3 c4 c5 E
   go_loopw [5, 23] (fun d i wr => ∃ (j : Nat) (b : Bool), j ≤ K.ins.length ∧ d = .bool b ∧ i = .int .i64 (j : Int) ∧ Hid (EaS w0 w k x sp f (eaL c k.p.blks n ++ (K.ins.take j).flatMap c) (eaI k.p.blks n ++ K.ins.take j) wr b) ∧ Hid (wr.heap[wo.heap.size]? = some (.cells #[.slice ai K.ins.length ci, .int .i64 K.fin, .int .i64 K.a, .int .i64 K.to, .int .i64 K.els] 51))) (fun _ i _ => K.ins.length - (intOf i).toNat)
   case atStart => exact ⟨0, b, Nat.zero_le _, rfl, rfl, E2, G2⟩
   case round =>
    clear E2 G2
    obtain ⟨j, b, hj, rfl, rfl, E, G⟩ := hrel
    have lg := (Array.getElem?_eq_some_iff.1 G.out).1
    by_cases hlj : j < K.ins.length
    ·have g3 : decide ((j : Int) < (K.ins.length : Int)) = true := decide_eq_true (by omega)
     have g4 : decide (j < K.ins.length) = true := decide_eq_true hlj
     obtain ⟨bi, oi, vx, rfl, hbw, hva, d0, d1, d2, d3, d4, d5, d6, d7, d8, d9, d10⟩ := (RdIns.at HVI.out).2 j hlj
     have HX := Lib.hid E.out.v.ext
     replace d0 := HX.out _ _ d0
     replace d1 := HX.out _ _ d1
     replace d2 := HX.out _ _ d2
     replace d3 := HX.out _ _ d3
     replace d4 := HX.out _ _ d4
     replace d5 := HX.out _ _ d5
     replace d6 := HX.out _ _ d6
     replace d7 := HX.out _ _ d7
     replace d8 := HX.out _ _ d8
     replace d9 := HX.out _ _ d9
     replace d10 := HX.out _ _ d10
     have lbi := World.block_lt_of_cell? wr _ d0
     have HVA := Lib.hid hva
     obtain ⟨sa, sc, rfl, -⟩ := hva
     have HTS : Hid (K.ins.take (j + 1) = K.ins.take j ++ [K.ins.getD j default]) := take_snocE _ _ hlj
     have HQJ : Hid (Q ((eaI k.p.blks n ++ K.ins.take j).foldl f sp)) := by
      obtain ⟨l', hl'⟩ := HPK.out j
      exact HQ.out _ l' hl'
     have HDJ := Lib.hid (fun X SP va wr => HDK.out j X SP va wr hlj)
     clear HX
     generalize K.ins.getD j default = y at *
     have hnm3 := Lib.hid (E.out.v.notMine (Nat.le_refl wr.heap.size))
     go_wp2_with fail
     have hb3 := below_alloc wr (.cells #[.int .i64 y.op, .int .i64 y.d, .int .i64 y.a, .int .i64 y.b, .int .i64 y.fn, .int .i64 y.obj, .int .i64 y.off, .int .i64 y.size, .int .u32 y.num, .slice sa y.args.length sc, .bool y.log] 58)
     have E3 := Lib.hid (E.out.grow hb3)
     have G3 := Lib.hid ((hb3.block _ lg).trans G.out)
     generalize wr.alloc (.cells #[.int .i64 y.op, .int .i64 y.d, .int .i64 y.a, .int .i64 y.b, .int .i64 y.fn, .int .i64 y.obj, .int .i64 y.off, .int .i64 y.size, .int .u32 y.num, .slice sa y.args.length sc, .bool y.log] 58) = W3 at *
     clear hb3 E G d0 d1 d2 d3 d4 d5 d6 d7 d8 d9 d10
     have hcl := HDJ.out _ _ (.slice sa y.args.length sc) W3 E3.out.v HQJ.out HVA.out
     unfold aggI at hcl
     refine Calls.mono hcl ?_
     clear hcl
     rintro e w4 ⟨rfl, hv4, hk4⟩
     have E4 := Lib.hid (E3.out.step (i := [y]) hv4 hk4)
     have G4 := Lib.hid ((hk4.keep _ (Array.getElem?_eq_some_iff.1 G3.out).1 hnm.out).trans G3.out)
     have E5 : Hid (∀ b', ((x.pass (eaL c k.p.blks n ++ (K.ins.take j).flatMap c)).1.pass (c y)).2 = b' → EaS w0 w k x sp f (eaL c k.p.blks n ++ (K.ins.take (j + 1)).flatMap c) (eaI k.p.blks n ++ K.ins.take (j + 1)) w4 (b' || b)) := fun b' hb' => by
      rw [HTS.out, List.flatMap_append, ← List.append_assoc, ← List.append_assoc, ← hb']
      simpa using E4.out
     clear hv4 hk4 E3 E4 G3 HQJ HDJ
     generalize ((x.pass (eaL c k.p.blks n ++ (K.ins.take j).flatMap c)).1.pass (c y)).2 = nb at *
     cases nb
     all_goals
      have E6 := Lib.hid (E5.out _ rfl)
      clear E5
      go_wp2_with fail
      go_roundw
      case rel => exact ⟨j + 1, _, hlj, rfl, by go_num, E6, G4⟩
      case measure => simp [intOf]; omega
    ·obtain rfl : j = K.ins.length := by omega
     obtain ⟨q0, q1, q2, q3, q4, -⟩ := cl5 G.out
     have E : Hid (EaS w0 w k x sp f (eaL c k.p.blks n ++ K.ins.flatMap c) (eaI k.p.blks n ++ K.ins) wr b) := by
      have := E.out
      rwa [List.take_length] at this
     by_cases hfa : K.fin = 3 ∧ K.a ≠ -1
     ·obtain ⟨h1, h2⟩ := hfa
      obtain ⟨k1, k2⟩ := HEK.out h1 h2
      obtain ⟨r, hr⟩ : ∃ r : Nat, K.a = (r : Int) := ⟨K.a.toNat, by omega⟩
      have hr2 : r < k.bs.length := by omega
      have f3 : (K.fin == 3) = true := by rw [h1]; rfl
      have f4 : (K.a != -1) = true := by rw [bne_iff_ne]; exact h2
      have HCE : Hid (conE K = [.sub (some r) none]) := by show _ = _; unfold conE; rw [if_pos ⟨h1, h2⟩, hr]; rfl
      rw [hr] at q2 f4
      clear h1 h2 k1 k2 hr HEK
      go_wp2_with fail
      refine (let_c w0 k _ _ r wr E.out.v hr2).mono ?_
      rintro e w4 ⟨rfl, hv4, hk4⟩
      have E5 : Hid (∀ b', ((x.pass (eaL c k.p.blks n ++ K.ins.flatMap c)).1.news (.sub (some r) none)) = b' → EaS w0 w k x sp f (eaL c k.p.blks (n + 1)) (eaI k.p.blks (n + 1)) w4 (b' || b)) := fun b' hb' => by
       have h := E.out.step (c := [.sub (some r) none]) (i := []) (w' := w4) (by rw [AS.pass_one]; exact hv4) hk4
       rw [AS.pass_one, List.append_nil] at h
       rw [HS1.out, HS2.out, HCE.out, ← List.append_assoc, ← hb']
       exact h
      clear hv4 hk4 E
      generalize ((x.pass (eaL c k.p.blks n ++ K.ins.flatMap c)).1.news (.sub (some r) none)) = nb at *
      cases nb
      all_goals
       have E6 := Lib.hid (E5.out _ rfl)
       clear E5
       go_wp2_with fail
       go_roundw
       case rel => exact ⟨n + 1, _, hlt, rfl, by go_num, E6⟩
       case measure => simp [intOf]; omega
     ·have HCE : Hid (conE K = []) := by show _ = _; unfold conE; rw [if_neg hfa]
      have E6 : Hid (EaS w0 w k x sp f (eaL c k.p.blks (n + 1)) (eaI k.p.blks (n + 1)) wr b) := by
       show EaS _ _ _ _ _ _ _ _ _ _
       rw [HS1.out, HS2.out, HCE.out, List.append_nil]
       exact E.out
      clear HEK E
      by_cases h1 : K.fin = 3
      ·have f3 : (K.fin == 3) = true := by rw [h1]; rfl
       have f4 : (K.a != -1) = false := by
        have : K.a = -1 := Classical.byContradiction fun h2 => hfa ⟨h1, h2⟩
        rw [this]; rfl
       clear h1 hfa
       go_wp2_with fail
       go_roundw
       case rel => exact ⟨n + 1, _, hlt, rfl, by go_num, E6⟩
       case measure => simp [intOf]; omega
      ·have f3 : (K.fin == 3) = false := by rw [beq_eq_false_iff_ne]; exact h1
       clear h1 hfa
       go_wp2_with fail
       go_roundw
       case rel => exact ⟨n + 1, _, hlt, rfl, by go_num, E6⟩
       case measure => simp [intOf]; omega
  ·obtain rfl : n = k.p.blks.length := by omega
   go_wp2_with fail
   go_ret
   exact ⟨by rw [E.out.b]; rfl, E.out.v, E.out.k⟩
end Go.Proofs.Ytmcddolkpcgddaa
