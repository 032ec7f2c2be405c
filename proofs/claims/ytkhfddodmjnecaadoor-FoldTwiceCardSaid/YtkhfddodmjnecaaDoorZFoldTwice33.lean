/-
 fold's desk: a register has a value (have).
-/
import Derived.Test.YtkhfddodmjnecaaDoorZFoldTwice32
import Derived.Test.YtkhfddodmjnecaaDoorZFoldTwice02
import Derived.Test.YtkhfddodmjnecaaDoorZFoldTwice10
set_option linter.all false
namespace Go.Proofs.YtkhfddodmjnecaaDoor
open Go.ChangeShapes Go.WideShapes Go.ChangeAt Go.RowKit Go.Maps
set_option maxHeartbeats 4000000
set_option maxRecDepth 100000
set_option linter.unusedVariables false

theorem MapH.ext {α : Type} {K : KeyS α} {w : World} {b c : Nat} {M M' : α → Option Value} (h : MapH K w b c M) (e : ∀ x, M x = M' x) : MapH K w b c M' := by rwa [show M' = M from (funext e).symm]
theorem haveD_fs (d : Dk) (r v y : Int) : (haveD d r v).fs y = if y = v then d.fs v ++ [r] else d.fs y := rfl
theorem DkX.have {w w' : World} {S : Nat → Prop} {q : Dkb} {c : Nat} {R : Int} {d : Dk} {vf : Int → Value} (h : DkX w S q c R d vf) {r v : Int} {v' : Value} (hr : 0 ≤ r ∧ r < R) (hv : 1 ≤ v ∧ v ≤ d.vs)
  (hos : w'.os = w.os) (hta : w'.tape = w.tape) (hou : w'.output = w.output) (hs : w.heap.size ≤ w'.heap.size) (hg : ∀ b, b < w.heap.size → b ≠ q.bo → b ≠ q.bf → (d.fs v ≠ [] → (vf v).ownBlock ≠ some b) → w'.heap[b]? = w.heap[b]?)
  (hmo : MapH KyI w' q.bo (c + 1) (fun y => if y = r then some (Value.int .i64 v) else (d.of y).map (Value.int .i64))) (hmf : MapH KyI w' q.bf (c + 1) (fun y => if y = v then some v' else if d.fs y = [] then none else some (vf y)))
  (hrow : w'.ownsRow 0 3 1 v' ((d.fs v).length + 1) (rowI (d.fs v) ++ [.int .i64 r])) (hblk : (d.fs v ≠ [] ∧ v'.ownBlock = (vf v).ownBlock) ∨ ∃ g, v'.ownBlock = some g ∧ w.heap.size ≤ g) :
  ∃ S', DkM w' S' q (c + 1) R (haveD d r v) ∧ Stp S w w' S' := by
 obtain ⟨a1, a2, a3, a4, a5⟩ := h.apart
 obtain ⟨n1, n2, n3, n4, n5, n6⟩ := h.n1
 have keep : ∀ b, S b → b ≠ q.bo → b ≠ q.bf → (d.fs v ≠ [] → (vf v).ownBlock ≠ some b) → w'.heap[b]? = w.heap[b]? := fun b hb => hg b (h.sl b hb)
 have hlt : ∀ g, v'.ownBlock = some g → g < w'.heap.size := fun g hg => (World.ownsRow.lt hrow g hg).2
 refine ⟨fun b => S b ∨ v'.ownBlock = some b, ⟨updI vf v v', ?_, hmo.ext fun x => ?_, (h.mky.same (keep _ h.s1.2.2.1 (Ne.symm n1) n5 (fun z => (a5 v z).2.2.1))).mono (by omega), (h.mn.same (keep _ h.s1.2.2.2.1 (Ne.symm n2) n6 (fun z => (a5 v z).2.2.2.1))).mono (by omega), hmf.ext fun y => ?_, fun y hy => ?_, fun y u hy hu hne => ?_, fun y => ?_, fun y x hx => ?_, h.B.have hr hv, h.Rb, ?_, ?_, h.n1, ⟨.inl h.s1.1, .inl h.s1.2.1, .inl h.s1.2.2.1, .inl h.s1.2.2.2.1, .inl h.s1.2.2.2.2⟩, fun y g hy e => ?_, fun b hb => ?_⟩, ⟨hos, hta, hou, hs, fun b hb hn => ?_, fun b hb => ?_⟩⟩
 ·exact (keep _ h.s1.1 a1 a4 (fun z => (a5 v z).1)).trans h.st
 ·show _ = ((updI d.of r (some v)) x).map _
  by_cases e : x = r
  ·rw [if_pos e, e, updI_same]; rfl
  ·rw [if_neg e, updI_other _ _ e]
 ·rw [haveD_fs]
  by_cases e : y = v
  ·rw [if_pos e, if_pos e, if_neg (by simp), e, updI_same]
  ·rw [if_neg e, if_neg e, updI_other _ _ e]
 ·rw [haveD_fs] at hy ⊢
  by_cases e : y = v
  ·rw [if_pos e, e, updI_same, List.length_append]
   unfold rowI
   rw [List.map_append]
   exact hrow
  ·rw [if_neg e] at hy ⊢
   rw [updI_other _ _ e]
   refine ow_same (h.row y hy) fun g hgb => keep g (h.s2 y g hy hgb) (fun e2 => (a5 y hy).2.1 (e2 ▸ hgb)) (fun e2 => (a5 y hy).2.2.2.2 (e2 ▸ hgb)) fun z e2 => h.ap y v hy z e (hgb.trans e2.symm)
 ·rw [haveD_fs] at hy hu
  have key : ∀ x, x ≠ v → d.fs x ≠ [] → (vf x).ownBlock ≠ v'.ownBlock := fun x hx hxe e => by
   rcases hblk with ⟨h1, h2⟩ | ⟨g, h1, h2⟩
   ·exact h.ap x v hxe h1 hx (e.trans h2)
   ·have := h.sl g (h.s2 x g hxe (e.trans h1)); omega
  by_cases e : y = v
  ·have e2 : u ≠ v := fun z => hne (e.trans z.symm)
   rw [if_neg e2] at hu
   rw [e, updI_same, updI_other _ _ e2]
   exact Ne.symm (key u e2 hu)
  ·rw [if_neg e] at hy
   rw [updI_other _ _ e]
   by_cases e2 : u = v
   ·rw [e2, updI_same]; exact key y e hy
   ·rw [if_neg e2] at hu
    rw [updI_other _ _ e2]; exact h.ap y u hy hu hne
 ·rw [haveD_fs]
  split
  ·have := h.fl v; rw [List.length_append, List.length_singleton]; omega
  ·have := h.fl y; omega
 ·rw [haveD_fs] at hx
  split at hx
  ·rcases List.mem_append.1 hx with hx | hx
   ·exact h.fr v x hx
   ·rw [List.mem_singleton] at hx; rw [hx]; exact hr
  ·exact h.fr y x hx
 ·have := h.vs; show d.vs ≤ _; omega
 ·have := h.mm; show 0 ≤ d.mm ∧ d.mm ≤ _; omega
 ·rw [haveD_fs] at hy
  by_cases e2 : y = v
  ·rw [e2, updI_same] at e; exact .inr e
  ·rw [if_neg e2] at hy
   rw [updI_other _ _ e2] at e
   exact .inl (h.s2 y g hy e)
 ·rcases hb with hb | hb
  ·exact Nat.lt_of_lt_of_le (h.sl b hb) hs
  ·exact hlt b hb
 ·refine hg b hb (fun e => hn (e ▸ h.s1.2.1)) (fun e => hn (e ▸ h.s1.2.2.2.2)) fun z e => hn (h.s2 v b z e)
 ·rcases hb with hb | hb
  ·exact .inl hb
  ·rcases hblk with ⟨h1, h2⟩ | ⟨g, h1, h2⟩
   ·exact .inl (h.s2 v b h1 (h2.symm.trans hb))
   ·rw [h1] at hb; cases hb; exact .inr h2
theorem zeroSl (w : World) : (zeroValue 38).run Tryd.prog w = .ok (.slice none 0 0) w := by kernel_rfl
theorem zeroIn (w : World) : (zeroValue 3).run Tryd.prog w = .ok (.int .i64 0) w := by kernel_rfl
theorem put_none (a : Act) (v : Value) : a.put none v = a := rfl
theorem have_c (w : World) (S : Nat → Prop) (q : Dkb) (c : Nat) (R : Int) (d : Dk) (r v : Int) (h : DkM w S q c R d) (hc : c ≤ 1000000000) (hr : 0 ≤ r ∧ r < R) (hv : 1 ≤ v ∧ v ≤ d.vs) :
  Calls Tryd.prog 40 #[.pointer (some ⟨q.bd, 0, none⟩), .int .i64 r, .int .i64 v] w fun e w' => e = .returned (.tuple #[]) ∧ ∃ S', DkM w' S' q (c + 1) R (haveD d r v) ∧ Stp S w w' S' := by
 obtain ⟨vf, h⟩ := h
 have H := Lib.hid h
 obtain ⟨a1, a2, a3, a4, a5⟩ := h.apart
 obtain ⟨n1, n2, n3, n4, n5, n6⟩ := h.n1
 have hRb := h.Rb
 have hv1 := h.vs
 have HS := Lib.hid h.st
 obtain ⟨y0, y1, y2, y3, y4, y5, l0⟩ := cl6 HS.out
 have hwr : KyI.W r := WalkArith.wf_i64 (by omega)
 have hwv : KyI.W v := WalkArith.wf_i64 (by omega)
 obtain ⟨ov, hov⟩ : ∃ ov, ov = (if d.fs v = [] then none else some (vf v)).getD (Value.slice none 0 0) := ⟨_, rfl⟩
 have HO : Hid (w.ownsRow 0 3 1 ov (d.fs v).length (rowI (d.fs v))) := by
  show World.ownsRow _ _ _ _ _ _ _
  rw [hov]
  by_cases e : d.fs v = []
  ·rw [if_pos e, e]; exact own_nil w 0 _ _
  ·rw [if_neg e]; exact h.row v e
 have HOB : Hid ((d.fs v ≠ [] ∧ ov.ownBlock = (vf v).ownBlock) ∨ ov.ownBlock = none) := by
  show _ ∨ _
  rw [hov]
  by_cases e : d.fs v = []
  ·rw [if_pos e]; exact .inr rfl
  ·rw [if_neg e]; exact .inl ⟨e, rfl⟩
 have HLK : Hid (∀ W, W.heap[q.bf]? = w.heap[q.bf]? → (Instr.lookup 78 (.map (some q.bf)) (.int .i64 v) false).run Tryd.prog W = .ok ov W) := fun W hW => by
  rw [hov]; exact (h.mf.same hW).look0 Tryd.underlying78 zeroSl v hwv
 clear hov h
 have hcm : c < maxLen := by unfold maxLen; omega
 have HL : Hid ((d.fs v).length ≤ 1000000000) := by have := H.out.fl v; show _ ≤ _; omega
 have hbfl : q.bf < w.heap.size := H.out.mf.lt
 go_enter Tryd.func40, Tryd.ntmps40
 go_wp2_with (at_mapUpdate; refine MapH.put H.out.mo Tryd.underlying75 r (.int .i64 v) hwr hcm rfl _ _ _ rfl rfl rfl rfl ?_; intro w1 hm1 hg1)
 have hk1 : ∀ b, b < w.heap.size → b ≠ q.bo → w1.heap[b]? = w.heap[b]? := fun b hb hn => hg1.block b hb (by simpa using hn)
 have hs1 := hg1.size
 have HS1 := Lib.hid ((hk1 _ l0 a1).trans HS.out)
 have HO1 : Hid (w1.ownsRow 0 3 1 ov (d.fs v).length (rowI (d.fs v))) := by
  refine ow_same HO.out fun g hg => hk1 g (World.ownsRow.lt HO.out g hg).2 fun e => ?_
  rcases HOB.out with ⟨z1, z2⟩ | z
  ·exact (a5 v z1).2.1 (by rw [← z2, hg, e])
  ·rw [hg] at z; cases z
 have HLK1 : Hid (∀ W, W.heap[q.bf]? = w1.heap[q.bf]? → (Instr.lookup 78 (.map (some q.bf)) (.int .i64 v) false).run Tryd.prog W = .ok ov W) := fun W hW => HLK.out W (hW.trans (hk1 _ hbfl (Ne.symm n3)))
 have HM1 := Lib.hid hm1
 have HG1 := Lib.hid hg1
 have HF1 := Lib.hid (H.out.mf.same (hk1 _ hbfl (Ne.symm n3)))
 clear y0 y1 y2 y3 y4 y5 hm1 hg1 HO HLK
 obtain ⟨y0, y1, y2, y3, y4, y5, l1⟩ := cl6 HS1.out
 go_wp2_with fail
 refine wp_region_game (fun z => z = q.bd) (by kernel_rfl) ?_
 show wpE _ _ _ _ _ _ _ w1.drew
 rw [put_none]
 refine E_mob2s [0, 1, 2, 3, 4, 5, 6, 7, 8, 9, 11] _ _ _ _ (by kernel_rfl) ?_
 simp only [List.map_cons, List.map_nil, List.getElem?_toArray, List.getElem?_cons_succ, List.getElem?_cons_zero, Option.getD_some, List.size_toArray, List.length_cons, List.length_nil, Nat.reduceAdd, Nat.reduceSub]
 repeat (go_big_quiet_step (fail))
 refine wpQuiet_nil ?_
 have HA := Lib.hid (below_alloc w1.drew (.cells #[.int .i64 r] 3))
 have hbf1 : q.bf < w1.heap.size := by omega
 have hl2 := HLK1.out w1.drew rfl
 have hl3 := HLK1.out (w1.alloc (.cells #[.int .i64 r] 3)).drew (HA.out.block q.bf hbf1)
 refine E_loud2 10 12 _ _ rfl rfl (by kernel_rfl) ?_ ?_
 all_goals simp only [List.getElem_toArray, List.getElem_cons_succ, List.getElem_cons_zero]
 ·go_wp2_with fail
  refine ⟨Keep.refl _ _, ?_⟩
  refine E_loud1 12 _ rfl (by kernel_rfl) ?_
  simp only [List.getElem_toArray, List.getElem_cons_succ, List.getElem_cons_zero]
  go_wp2_with fail
  refine ⟨keep_alloc (fun b hb => by rw [hb]; exact l1), ?_⟩
  clear hl2 hl3
  have H3 : Hid ((w1.drew.alloc (.cells #[.int .i64 r] 3)).ownsRow 0 3 1 ov (d.fs v).length (rowI (d.fs v))) := own_below HO1.out (Below.drew (Below.refl _ _) |>.trans HA.out)
  have HC3 : Hid ((w1.drew.alloc (.cells #[.int .i64 r] 3)).cell? ⟨w1.heap.size, 0, none⟩ = some (.int .i64 r)) := cell_of_heap (heap_alloc_new w1.drew _) 0
  refine E_loud1 13 _ rfl (by kernel_rfl) ?_
  simp only [List.getElem_toArray, List.getElem_cons_succ, List.getElem_cons_zero]
  refine appI (n := r) H3.out rfl rfl rfl rfl HC3.out HL.out (Nat.zero_le _) ?_
  intro v' w3 ho3 hg3 ha3
  have hsA : (w1.alloc (.cells #[.int .i64 r] 3)).drew.heap.size = w1.heap.size + 1 := by simp
  have hob : ∀ b, ov.ownBlock = some b → b ≠ q.bd ∧ b ≠ q.bo ∧ b ≠ q.bk ∧ b ≠ q.bn ∧ b ≠ q.bf := fun b hb => by
   rcases HOB.out with ⟨z1, z2⟩ | z
   ·rw [hb] at z2
    have := a5 v z1
    rw [← z2] at this
    exact ⟨fun e => this.1 (by rw [e]), fun e => this.2.1 (by rw [e]), fun e => this.2.2.1 (by rw [e]), fun e => this.2.2.2.1 (by rw [e]), fun e => this.2.2.2.2 (by rw [e])⟩
   ·rw [hb] at z; cases z
  have hk3 : ∀ b, b < w1.heap.size → ov.ownBlock ≠ some b → w3.heap[b]? = w1.heap[b]? := fun b hb hn => (hg3.block b (by rw [hsA]; omega) (fun e => hn e.symm)).trans (HA.out.block b hb)
  have HK3 : Hid (Keep (fun z => z = q.bd) (w1.alloc (.cells #[.int .i64 r] 3)).drew w3) := keep_grown hg3 (fun b hb => by
   rw [hb]
   exact ⟨by rw [hsA]; omega, fun e => (hob _ e).1 rfl⟩)
  have HF3 := Lib.hid (HF1.out.same (hk3 _ hbf1 (fun e => (hob _ e).2.2.2.2 rfl)))
  have HM3 := Lib.hid (HM1.out.same (hk3 _ HM1.out.lt (fun e => (hob _ e).2.1 rfl)))
  have hs3 := hg3.size
  rw [hsA] at hs3
  have HV3 := Lib.hid ho3
  have HA3 := Lib.hid ha3
  have HG3 := Lib.hid hg3
  obtain ⟨av, cv, hav⟩ := own_slice ho3 (Nat.succ_pos _)
  subst hav
  clear ho3 hg3 ha3 y0 y1 y2 y3 y4 y5
  go_wp2_with fail
  refine ⟨HK3.out, ?_⟩
  refine E_last 14 _ rfl (by kernel_rfl) ?_
  simp only [List.getElem_toArray, List.getElem_cons_succ, List.getElem_cons_zero]
  go_wp2_with (at_mapUpdate; refine MapH.put HF3.out Tryd.underlying78 v _ hwv hcm rfl _ _ _ rfl rfl rfl rfl ?_; intro w4 hm4 hg4)
  refine E_done (by kernel_rfl) ?_ _
  have HEND : Hid (∃ S', DkM w4 S' q (c + 1) R (haveD d r v) ∧ Stp S w w4 S') := by
   have hk4 : ∀ b, b < w1.heap.size → b ≠ q.bf → ov.ownBlock ≠ some b → w4.heap[b]? = w1.heap[b]? := fun b hb hn ho => (hg4.block b (by omega) (by simpa using hn)).trans (hk3 b hb ho)
   have hs4 := hg4.size
   refine H.out.have (v' := .slice (some ⟨av, 0, none⟩) ((d.fs v).length + 1) cv) hr hv ((hg4.os.trans HG3.out.os).trans HG1.out.os) ((hg4.tape.trans HG3.out.tape).trans HG1.out.tape) ((hg4.output.trans HG3.out.output).trans HG1.out.output) (by omega) (fun b hb h1 h2 h3 => ?_) ?_ ?_ ?_ ?_
   ·refine (hk4 b (by omega) h2 fun e => ?_).trans (hk1 b hb h1)
    rcases HOB.out with ⟨z1, z2⟩ | z
    ·exact h3 z1 (z2.symm.trans e)
    ·rw [e] at z; cases z
   ·refine (HM3.out.same (hg4.block _ HM3.out.lt (by simpa using n3))).ext fun y => ?_
    split <;> rfl
   ·refine hm4.ext fun y => ?_
    split <;> rfl
   ·refine ow_same HV3.out fun g hg => hg4.block g (World.ownsRow.lt HV3.out g hg).2 fun e => ?_
    simp only [Option.some.injEq] at e
    rcases HA3.out with z | z
    ·exact (hob g (z.symm.trans hg)).2.2.2.2 e
    ·rw [hg] at z
     simp only [Option.some.injEq] at z
     have : w1.heap.size ≤ g := by rw [z]; simp
     omega
   ·rcases HA3.out with z | z
    ·rcases HOB.out with ⟨z1, z2⟩ | z2
     ·exact .inl ⟨z1, z.trans z2⟩
     ·rw [z2] at z; cases z
    ·exact .inr ⟨_, z, by simp; omega⟩
  clear HM3 HF3 HV3 HG3 HA3 hm4 hg4 HK3
  go_wp2_with fail
  go_end0
  exact ⟨rfl, HEND.out⟩
 ·go_wp2_with fail
  refine ⟨keep_alloc (fun b hb => by rw [hb]; exact l1), ?_⟩
  refine E_loud1 10 _ rfl (by kernel_rfl) ?_
  simp only [List.getElem_toArray, List.getElem_cons_succ, List.getElem_cons_zero]
  go_wp2_with fail
  refine ⟨Keep.refl _ _, ?_⟩
  clear hl2 hl3
  have H3 : Hid ((w1.drew.alloc (.cells #[.int .i64 r] 3)).ownsRow 0 3 1 ov (d.fs v).length (rowI (d.fs v))) := own_below HO1.out (Below.drew (Below.refl _ _) |>.trans HA.out)
  have HC3 : Hid ((w1.drew.alloc (.cells #[.int .i64 r] 3)).cell? ⟨w1.heap.size, 0, none⟩ = some (.int .i64 r)) := cell_of_heap (heap_alloc_new w1.drew _) 0
  refine E_loud1 13 _ rfl (by kernel_rfl) ?_
  simp only [List.getElem_toArray, List.getElem_cons_succ, List.getElem_cons_zero]
  refine appI (n := r) H3.out rfl rfl rfl rfl HC3.out HL.out (Nat.zero_le _) ?_
  intro v' w3 ho3 hg3 ha3
  have hsA : (w1.alloc (.cells #[.int .i64 r] 3)).drew.heap.size = w1.heap.size + 1 := by simp
  have hob : ∀ b, ov.ownBlock = some b → b ≠ q.bd ∧ b ≠ q.bo ∧ b ≠ q.bk ∧ b ≠ q.bn ∧ b ≠ q.bf := fun b hb => by
   rcases HOB.out with ⟨z1, z2⟩ | z
   ·rw [hb] at z2
    have := a5 v z1
    rw [← z2] at this
    exact ⟨fun e => this.1 (by rw [e]), fun e => this.2.1 (by rw [e]), fun e => this.2.2.1 (by rw [e]), fun e => this.2.2.2.1 (by rw [e]), fun e => this.2.2.2.2 (by rw [e])⟩
   ·rw [hb] at z; cases z
  have hk3 : ∀ b, b < w1.heap.size → ov.ownBlock ≠ some b → w3.heap[b]? = w1.heap[b]? := fun b hb hn => (hg3.block b (by rw [hsA]; omega) (fun e => hn e.symm)).trans (HA.out.block b hb)
  have HK3 : Hid (Keep (fun z => z = q.bd) (w1.alloc (.cells #[.int .i64 r] 3)).drew w3) := keep_grown hg3 (fun b hb => by
   rw [hb]
   exact ⟨by rw [hsA]; omega, fun e => (hob _ e).1 rfl⟩)
  have HF3 := Lib.hid (HF1.out.same (hk3 _ hbf1 (fun e => (hob _ e).2.2.2.2 rfl)))
  have HM3 := Lib.hid (HM1.out.same (hk3 _ HM1.out.lt (fun e => (hob _ e).2.1 rfl)))
  have hs3 := hg3.size
  rw [hsA] at hs3
  have HV3 := Lib.hid ho3
  have HA3 := Lib.hid ha3
  have HG3 := Lib.hid hg3
  obtain ⟨av, cv, hav⟩ := own_slice ho3 (Nat.succ_pos _)
  subst hav
  clear ho3 hg3 ha3 y0 y1 y2 y3 y4 y5
  go_wp2_with fail
  refine ⟨HK3.out, ?_⟩
  refine E_last 14 _ rfl (by kernel_rfl) ?_
  simp only [List.getElem_toArray, List.getElem_cons_succ, List.getElem_cons_zero]
  go_wp2_with (at_mapUpdate; refine MapH.put HF3.out Tryd.underlying78 v _ hwv hcm rfl _ _ _ rfl rfl rfl rfl ?_; intro w4 hm4 hg4)
  refine E_done (by kernel_rfl) ?_ _
  have HEND : Hid (∃ S', DkM w4 S' q (c + 1) R (haveD d r v) ∧ Stp S w w4 S') := by
   have hk4 : ∀ b, b < w1.heap.size → b ≠ q.bf → ov.ownBlock ≠ some b → w4.heap[b]? = w1.heap[b]? := fun b hb hn ho => (hg4.block b (by omega) (by simpa using hn)).trans (hk3 b hb ho)
   have hs4 := hg4.size
   refine H.out.have (v' := .slice (some ⟨av, 0, none⟩) ((d.fs v).length + 1) cv) hr hv ((hg4.os.trans HG3.out.os).trans HG1.out.os) ((hg4.tape.trans HG3.out.tape).trans HG1.out.tape) ((hg4.output.trans HG3.out.output).trans HG1.out.output) (by omega) (fun b hb h1 h2 h3 => ?_) ?_ ?_ ?_ ?_
   ·refine (hk4 b (by omega) h2 fun e => ?_).trans (hk1 b hb h1)
    rcases HOB.out with ⟨z1, z2⟩ | z
    ·exact h3 z1 (z2.symm.trans e)
    ·rw [e] at z; cases z
   ·refine (HM3.out.same (hg4.block _ HM3.out.lt (by simpa using n3))).ext fun y => ?_
    split <;> rfl
   ·refine hm4.ext fun y => ?_
    split <;> rfl
   ·refine ow_same HV3.out fun g hg => hg4.block g (World.ownsRow.lt HV3.out g hg).2 fun e => ?_
    simp only [Option.some.injEq] at e
    rcases HA3.out with z | z
    ·exact (hob g (z.symm.trans hg)).2.2.2.2 e
    ·rw [hg] at z
     simp only [Option.some.injEq] at z
     have : w1.heap.size ≤ g := by rw [z]; simp
     omega
   ·rcases HA3.out with z | z
    ·rcases HOB.out with ⟨z1, z2⟩ | z2
     ·exact .inl ⟨z1, z.trans z2⟩
     ·rw [z2] at z; cases z
    ·exact .inr ⟨_, z, by simp; omega⟩
  clear HM3 HF3 HV3 HG3 HA3 hm4 hg4 HK3
  go_wp2_with fail
  go_end0
  exact ⟨rfl, HEND.out⟩
end Go.Proofs.YtkhfddodmjnecaaDoor
