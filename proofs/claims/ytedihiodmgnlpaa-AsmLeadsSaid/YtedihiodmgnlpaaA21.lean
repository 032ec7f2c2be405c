/-
  The document's Assemble.
-/
import Derived.Test.YtedihiodmgnlpaaA20
import Derived.Test.YtedihiodmgnlpaaA14
set_option linter.all false
namespace Go.Proofs.Ytedihiodmgnlpaa
open Go.ChangeShapes Go.WideShapes Go.ChangeAt Go.RowKit Go.Maps
set_option maxHeartbeats 4000000
set_option linter.unusedVariables false
set_option maxRecDepth 100000

/-- the document's words and labels under way, in a block made since the world wp -/
structure Mk (wp w : World) (vw vl : Value) (ws ls : List Int) : Prop where
  bx : w.ownsRow wp.heap.size 31 3 (rowAt wp.heap.size 1) 1 [vw, vl, .int .i64 0]
  ow : w.ownsRow wp.heap.size 35 1 vw ws.length (ws.map (Value.int .u32))
  ol : w.ownsRow wp.heap.size 3 1 vl ls.length (ls.map (Value.int .i64))
  below : Below wp.heap.size wp w
theorem Mk.start (wp : World) : Mk wp (wp.alloc (.cells #[.slice none 0 0, .slice none 0 0, .int .i64 0] 31)) (.slice none 0 0) (.slice none 0 0) [] [] :=
  ⟨⟨by simp, .inr ⟨wp.heap.size, 1, _, rfl, Nat.le_refl _, heap_alloc_new wp _, by simp, by simp [maxLen], by simp, by simp⟩⟩, own_nil _ _ _ _, own_nil _ _ _ _, below_a1 _ _⟩
theorem Mk.grow {wp w w' : World} {vw vl : Value} {ws ls : List Int} (h : Mk wp w vw vl ws ls) (hb : Below w.heap.size w w') : Mk wp w' vw vl ws ls :=
  ⟨own_below h.bx hb, own_below h.ow hb, own_below h.ol hb, h.below.trans (hb.mono h.below.size)⟩
theorem Mk.word {wp w W w' : World} {vw vl vw' : Value} {ws ls : List Int} {n : Int} (h : Mk wp w vw vl ws ls) (hb : Below w.heap.size w W) (h1 : w'.ownsRow wp.heap.size 35 1 vw' (ws.length + 1) (ws.map (Value.int .u32) ++ [.int .u32 n])) (hg : W.grownBy w' vw.ownBlock) : Mk wp (w'.setCell ⟨wp.heap.size, 0, none⟩ vw') vw' vl (ws ++ [n]) ls := by
  have H := h.grow hb
  have hbx := H.bx.kept hg (rowsNe H.bx H.ow (by decide))
  have hol := H.ol.kept hg (rowsNe H.ol H.ow (by decide))
  have hbl := below_grown H.below hg H.below.size fun g e => (own_lt H.ow e).1
  obtain ⟨hb2, hg2⟩ := hbx.stored 0 vw'
  refine ⟨hb2, ?_, hol.kept hg2 (rowsNe hol hbx (by decide)), hbl.setCell (p := ⟨wp.heap.size, 0, none⟩) (Nat.le_refl _) _⟩
  have := h1.kept hg2 (rowsNe h1 hbx (by decide))
  simpa using this
theorem Mk.lab {wp w W w' : World} {vw vl vl' : Value} {ws ls : List Int} {n : Int} (h : Mk wp w vw vl ws ls) (hb : Below w.heap.size w W) (h1 : w'.ownsRow wp.heap.size 3 1 vl' (ls.length + 1) (ls.map (Value.int .i64) ++ [.int .i64 n])) (hg : W.grownBy w' vl.ownBlock) : Mk wp (w'.setCell ⟨wp.heap.size, 1, none⟩ vl') vw vl' ws (ls ++ [n]) := by
  have H := h.grow hb
  have hbx := H.bx.kept hg (rowsNe H.bx H.ol (by decide))
  have how := H.ow.kept hg (rowsNe H.ow H.ol (by decide))
  have hbl := below_grown H.below hg H.below.size fun g e => (own_lt H.ol e).1
  obtain ⟨hb2, hg2⟩ := hbx.stored 1 vl'
  refine ⟨hb2, how.kept hg2 (rowsNe how hbx (by decide)), ?_, hbl.setCell (p := ⟨wp.heap.size, 1, none⟩) (Nat.le_refl _) _⟩
  have := h1.kept hg2 (rowsNe h1 hbx (by decide))
  simpa using this
theorem Mk.setL {wp w : World} {vw : Value} {bl c : Nat} {ws ls : List Int} (h : Mk wp w vw (.slice (some ⟨bl, 0, none⟩) ls.length c) ws ls) (k : Nat) (x : Int) : Mk wp (w.setCell ⟨bl, k, none⟩ (.int .i64 x)) vw (.slice (some ⟨bl, 0, none⟩) ls.length c) ws (ls.set k x) := by
  obtain ⟨h1, hg⟩ := h.ol.stored k (.int .i64 x)
  refine ⟨h.bx.kept hg (rowsNe h.bx h.ol (by decide)), h.ow.kept hg (rowsNe h.ow h.ol (by decide)), ?_, h.below.setCell (p := ⟨bl, k, none⟩) (own_lt h.ol rfl).1 _⟩
  rw [List.map_set, List.length_set]; exact h1
theorem Mk.c0 {wp w : World} {vw vl : Value} {ws ls : List Int} (h : Mk wp w vw vl ws ls) : w.cell? ⟨wp.heap.size, 0, none⟩ = some vw := h.bx.cellAt 0 (by decide)
theorem Mk.c1 {wp w : World} {vw vl : Value} {ws ls : List Int} (h : Mk wp w vw vl ws ls) : w.cell? ⟨wp.heap.size, 1, none⟩ = some vl := h.bx.cellAt 1 (by decide)
theorem Mk.c2 {wp w : World} {vw vl : Value} {ws ls : List Int} (h : Mk wp w vw vl ws ls) : w.cell? ⟨wp.heap.size, 2, none⟩ = some (.int .i64 0) := h.bx.cellAt 2 (by decide)
theorem word_c (i : IN) (hi : i.ok = true) (w : World) : Calls Try.prog 48 #[i.v] w fun e w' => e = .returned (.int .u32 (encW i)) ∧ Below w.heap.size w w' := by
  obtain ⟨op, rd, rs1, rs2, imm⟩ := i
  obtain ⟨h1, h2⟩ := ok_op _ hi
  dsimp only at h1 h2
  obtain ⟨k, rfl⟩ := Int.eq_ofNat_of_zero_le (show 0 ≤ op by omega)
  have e : encW ⟨(k : Int), rd, rs1, rs2, imm⟩ = wordP k rd rs1 rs2 imm := by unfold encW; rw [if_pos hi]; rfl
  rw [e]
  exact rword_c k (by omega) (by omega) rd rs1 rs2 imm w hi
/-- what the document's Assemble answers -/
def MadeP (L : List It) (w : World) (e : Ending) (w' : World) : Prop :=
  ∃ v u, e = .returned (.agg #[v, u, .int .i64 (asmE L)]) ∧ RdW w' v (asmW L) ∧ RdI w' u (asmL L) ∧ Below w.heap.size w w'
theorem made_bad (L : List It) (w w' : World) (n : Int) (h : asmE L = n) (hn : n ≠ 0) (hb : Below w.heap.size w w') : MadeP L w (.returned (.agg #[.slice none 0 0, .slice none 0 0, .int .i64 n])) w' := by
  refine ⟨_, _, by rw [h], ?_, ?_, hb⟩
  · unfold asmW; rw [if_neg (by rw [h]; exact hn)]
    exact ⟨none, 0, rfl, Nat.le_refl _, by simp [maxLen], fun i hi => absurd hi (Nat.not_lt_zero i)⟩
  · unfold asmL; rw [if_neg (by rw [h]; exact hn)]
    exact ⟨none, 0, rfl, Nat.le_refl _, by simp [maxLen], fun i hi => absurd hi (Nat.not_lt_zero i)⟩
theorem asm_may (L : List It) (h : mayE L ≠ 0) : asmE L = mayE L := by
  unfold mayE at h ⊢
  unfold asmE
  split
  · rfl
  · split
    · rfl
    · rename_i h1 h2
      rw [if_neg h1, if_neg h2] at h
      rw [if_pos h]
theorem may_yes (L : List It) (h : mayE L = 0) : L.length ≤ 32768 ∧ okN L L.length = true ∧ dupN L L.length = false ∧ misN L L.length = false ∧ labE L = 0 := by
  unfold mayE at h
  split at h
  · cases h
  · split at h
    · cases h
    · rename_i h1 h2
      refine ⟨by omega, by simpa using h2, ?_, ?_, h⟩
      · unfold labE at h
        split at h
        · cases h
        · rename_i h3; simpa using h3
      · unfold labE at h
        split at h
        · cases h
        · split at h
          · cases h
          · rename_i h3; simpa using h3
theorem res_box {w w1 : World} {a b c : Value} {t : TypeId} (h : Below (w.alloc (.cells #[a, b, c] t)).heap.size (w.alloc (.cells #[a, b, c] t)) w1) : w1.heap[w.heap.size]? = some (.cells #[a, b, c] t (0, 0)) :=
  (h.block w.heap.size (by simp)).trans (heap_alloc_new w _)
theorem below_set3 {w w1 : World} (h : Below w.heap.size w w1) (a b c : Value) : Below w.heap.size w (((w1.setCell ⟨w.heap.size, 0, none⟩ a).setCell ⟨w.heap.size, 1, none⟩ b).setCell ⟨w.heap.size, 2, none⟩ c) :=
  ((h.setCell (p := ⟨w.heap.size, 0, none⟩) (Nat.le_refl _) _).setCell (p := ⟨w.heap.size, 1, none⟩) (Nat.le_refl _) _).setCell (p := ⟨w.heap.size, 2, none⟩) (Nat.le_refl _) _
theorem own_form {w : World} {B n sz : Nat} {e : TypeId} {v : Value} {xs : List Value} (h : w.ownsRow B e sz v n xs) : ∃ a c, v = .slice a n c := by
  obtain ⟨-, ⟨rfl, rfl⟩ | ⟨g, cap, cur, rfl, -⟩⟩ := h
  · exact ⟨none, 0, rfl⟩
  · exact ⟨_, cap, rfl⟩
theorem grown_setCell (w : World) (a : Addr) (u : Value) : w.grownBy (w.setCell a u) (some a.block) :=
  ⟨rfl, rfl, rfl, by simp, fun k _ hk => heap_setCell_other w a k u (fun e => hk (by rw [e]))⟩
theorem grown_set3 (w : World) (b : Nat) (x y z : Value) : w.grownBy (((w.setCell ⟨b, 0, none⟩ x).setCell ⟨b, 1, none⟩ y).setCell ⟨b, 2, none⟩ z) (some b) :=
  ((grown_setCell w ⟨b, 0, none⟩ x).trans (grown_setCell _ ⟨b, 1, none⟩ y)).trans (grown_setCell _ ⟨b, 2, none⟩ z)
theorem made_good (L : List It) (w w3 wr : World) (v u : Value) (hl : w.heap.size < w3.heap.size) (M : Mk w3 wr v u (wordsF L L.length) (lblF L)) (h : asmE L = 0) (hb : Below w.heap.size w wr) : MadeP L w (.returned (.agg #[v, u, .int .i64 0])) (((wr.setCell ⟨w.heap.size, 0, none⟩ v).setCell ⟨w.heap.size, 1, none⟩ u).setCell ⟨w.heap.size, 2, none⟩ (.int .i64 0)) := by
  refine ⟨_, _, by rw [h], ?_, ?_, below_set3 hb _ _ _⟩
  · unfold asmW; rw [if_pos h]
    exact Rows'.grown (own_rows (f := Value.int .u32) 0 M.ow) (grown_set3 _ _ _ _ _) (fun b o n c e => by have := (own_lt M.ow (g := b) (by rw [e]; rfl)).1; intro e2; simp only [Option.some.injEq] at e2; omega) fun i c c' hs h => hs _ _ h
  · unfold asmL; rw [if_pos h]
    exact Rows'.grown (own_rows (f := Value.int .i64) 0 M.ol) (grown_set3 _ _ _ _ _) (fun b o n c e => by have := (own_lt M.ol (g := b) (by rw [e]; rfl)).1; intro e2; simp only [Option.some.injEq] at e2; omega) fun i c c' hs h => hs _ _ h
theorem rassemble_c (L : List It) (v : Value) (w : World) (hv : RdT w v L) (hi : ImmOk L) :
    Calls Try.prog 15 #[v] w (MadeP L w) := by
  have HV := Lib.hid hv
  have HI := Lib.hid hi
  obtain ⟨ai, ci, rfl, hl1, hl2, hit⟩ := hv
  unfold maxLen at hl2
  have HIT := Lib.hid hit
  clear hit hi
  have HMY : Hid (∀ w', Below w.heap.size w w' → Calls Try.prog 44 #[.slice ai L.length ci] w' fun e w'' => e = .returned (.int .i64 (mayE L)) ∧ Below w'.heap.size w' w'') := fun w' hb => may_c L _ w' (HV.out.ext (Ext.below hb))
  by_cases hm : mayE L = 0
  · obtain ⟨hn, hok, hd, hms, hlb⟩ := may_yes L hm
    have hV : OkL L := okN_at L L.length hok
    have HOK := Lib.hid hok
    have HLB := Lib.hid hlb
    have HVV := Lib.hid hV
    have HFA : Hid (∀ w', Below w.heap.size w w' → Calls Try.prog 45 #[.slice ai L.length ci] w' fun e w'' => ∃ u, e = .returned u ∧ RdB w'' u (farF L) ∧ Below w'.heap.size w' w'') := fun w' hb => far_c L _ w' (HV.out.ext (Ext.below hb)) hn HI.out hV hd hms
    have HFL : Hid ((farF L).length = L.length) := by show (itF _ _ _ _).length = _; rw [itF_len]; simp [noF]
    have HPL : Hid (∀ w' u, Below w.heap.size w w' → RdB w' u (farF L) → Calls Try.prog 46 #[.slice ai L.length ci, u] w' fun e w'' => ∃ u, e = .returned u ∧ RdI w'' u (posL L (farF L) (L.length + 1)) ∧ FrV w' u ∧ Below w'.heap.size w' w'') := fun w' u hb hu => places_c L (farF L) _ _ w' (HV.out.ext (Ext.below hb)) hu HFL.out hn HI.out
    have HIO := Lib.hid (fun k (hk : k < L.length) => item_ok L hn hV hd hms k hk)
    have HIB := Lib.hid (fun k (hk : k < L.length) => item_bad L hV k hk)
    have HRI : Hid (∀ k w' ua uf, k < L.length → Below w.heap.size w w' → RdI w' ua (posL L (farF L) (L.length + 1)) → RdB w' uf (farF L) → Calls Try.prog 47 #[.slice ai L.length ci, ua, uf, .int .i64 (k : Int)] w' fun e w'' => ∃ u, e = .returned u ∧ RdN w'' u (itemL L k) ∧ FrV w' u ∧ Below w'.heap.size w' w'') := fun k w' ua uf hk hb hua huf =>
      rinsts_c L (farF L) _ _ _ w' (HV.out.ext (Ext.below hb)) hua huf HFL.out hn HI.out hV k hk (far_3 L (labs0 L) (L.length + 1) k) (stdN L (L.getD k default).label L.length).toNat (fun h => by have := std_lt L hms k hk h; omega) (wyF L k) (fun h => wy_std L hV hd hms k hk h)
    have HRL := Lib.hid (rl_end L hV hms)
    have HRN := Lib.hid (rlF_len L (farF L) hV)
    have HMB := Lib.hid (mostF_bd L hV)
    rw [hm] at HMY
    clear hok hd hms hlb hV hm
    go_enter Try.func15, Try.ntmps15
    go_wp2_with (first | (go_at_call 44; refine (HMY.out _ (below_a1 _ _)).mono ?_; rintro e w1 ⟨rfl, hb1⟩; have B1 : Hid (Below w.heap.size w w1) := (below_a1 _ _).trans (hb1.mono (by simp)); have HR1 := Lib.hid (res_box hb1); clear hb1) | (go_at_call 45; refine (HFA.out _ B1.out).mono ?_; rintro e w2 ⟨uf, rfl, huf, hb2⟩; have B2 : Hid (Below w.heap.size w w2) := B1.out.trans (hb2.mono B1.out.size); have HR2 := Lib.hid ((hb2.block _ (Array.getElem?_eq_some_iff.1 HR1.out).1).trans HR1.out); clear hb2; have HUF := Lib.hid huf; clear huf) | (go_at_call 46; refine (HPL.out _ _ B2.out HUF.out).mono ?_; rintro e w3 ⟨ua, rfl, hua, -, hb3⟩; have B3 : Hid (Below w.heap.size w w3) := B2.out.trans (hb3.mono B2.out.size); have HUF3 := Lib.hid (HUF.out.ext (Ext.below hb3)); have HR3 := Lib.hid ((hb3.block _ (Array.getElem?_eq_some_iff.1 HR2.out).1).trans HR2.out); clear hb3; have HUA := Lib.hid hua; clear hua))
    clear HUF HR1 HR2 B1 B2 HFA HPL HMY
    have HUA2 := HUA.out
    obtain ⟨aa, ca, rfl, hua1, hua2, hua3⟩ := HUA2
    unfold maxLen at hua2
    have HU3 := Lib.hid hua3
    clear hua3
    have hl0 : w.heap.size < w3.heap.size := (Array.getElem?_eq_some_iff.1 HR3.out).1
    go_loopw [6] (fun i wr => ∃ (k : Nat), k ≤ L.length ∧ i = .int .i64 (k : Int) ∧ Hid (inN L k = true) ∧ ∃ vw vl, Hid (Mk w3 wr vw vl (wordsF L k) (rlF L (farF L) k))) (fun i _ => L.length - (intOf i).toNat)
    case atStart => exact ⟨0, Nat.zero_le _, rfl, rfl, _, _, Mk.start w3⟩
    case round =>
      obtain ⟨k, hk, rfl, DI, vw0, vl0, M0⟩ := hrel
      have Bw : Hid (Below w.heap.size w wr) := B3.out.trans (M0.out.below.mono B3.out.size)
      have HR : Hid (wr.heap[w.heap.size]? = _) := (M0.out.below.block _ hl0).trans HR3.out
      by_cases hlk : k < L.length
      · have HN := Lib.hid (HRI.out k wr _ uf hlk Bw.out (HUA.out.ext (Ext.below M0.out.below)) (HUF3.out.ext (Ext.below M0.out.below)))
        have HOk := Lib.hid (HIO.out k hlk)
        have HBk := Lib.hid (HIB.out k hlk)
        have HWk : Hid (wordsF L (k + 1) = wordsF L k ++ (itemL L k).map encW) := rfl
        have HDk : Hid (inN L (k + 1) = (inN L k && itemB L k)) := rfl
        have HLN := Lib.hid (itemL_len L k)
        have HWN := Lib.hid (wordsF_len L k)
        have HAS : Hid (inN L (k + 1) = false → asmE L = 7) := fun h => asmE_7 L (by omega) HOK.out HLB.out (in_mono L L.length (k + 1) (by omega) h)
        have HRk : Hid (rlF L (farF L) (k + 1) = if (L.getD k default).kind = 2 then (padL (rlF L (farF L) k) ((L.getD k default).label.toNat + 1)).set (L.getD k default).label.toNat (posF L (farF L) k) else rlF L (farF L) k) := rfl
        have HRNk := Lib.hid (HRN.out k (by omega))
        have HMBk := Lib.hid (HMB.out k (by omega))
        have HILk := Lib.hid (item_label _ (HVV.out k hlk))
        obtain ⟨b, o, rfl, hc⟩ := HIT.out k hlk
        have hbw : b < w.heap.size := World.block_lt_of_cell? w _ hc.kind
        have yk := hc.kind
        have yl := hc.label
        have HYK := Lib.hid yk
        have HYL := Lib.hid yl
        clear hc yk yl HR Bw
        generalize itemL L k = I at *
        generalize itemB L k = ib at *
        generalize L.getD k default = X at *
        generalize wordsF L k = ws at *
        generalize rlF L (farF L) k = rl at *
        go_wp2_with (go_at_call 47; refine HN.out.mono ?_; rintro e w4 ⟨v4, rfl, hv4, hf4, hb4⟩; have HV4 := Lib.hid hv4; obtain ⟨av, cv, rfl, hv41, hv42, -⟩ := hv4)
        have HA4 : Hid (Apart (.slice av I.length cv) vw0.ownBlock) := Apart.new M0.out.ow hf4
        have HAG : Hid (Apart (.slice av I.length cv) (some w3.heap.size)) := Apart.new M0.out.bx hf4
        have M4 := Lib.hid (M0.out.grow hb4)
        unfold maxLen at hv42
        have hI := HLN.out
        clear hf4 hb4 HN M0
        go_loopw [8] (fun i wr => ∃ (j : Nat), j ≤ I.length ∧ i = .int .i64 (j : Int) ∧ Hid (∀ i, i < j → badI X (I.getD i default) = false) ∧ ∃ vw vl, Hid (Mk w3 wr vw vl (ws ++ (I.take j).map encW) rl) ∧ Hid (RdN wr (.slice av I.length cv) I) ∧ Hid (Apart (.slice av I.length cv) vw.ownBlock)) (fun i _ => I.length - (intOf i).toNat)
        case atStart => exact ⟨0, Nat.zero_le _, rfl, fun i h => absurd h (Nat.not_lt_zero i), _, _, by simpa using M4, HV4, HA4⟩
        case round =>
          clear HA4 HV4 M4
          obtain ⟨j, hj, rfl, HNB, vw, vl, M, HV4, HA⟩ := hrel
          have Bw : Hid (Below w.heap.size w wr) := B3.out.trans (M.out.below.mono B3.out.size)
          have HR : Hid (wr.heap[w.heap.size]? = _) := (M.out.below.block _ hl0).trans HR3.out
          have y0 := (Bw.out.cell (p := ⟨b, o + k * 7 + 0, none⟩) hbw).trans HYK.out
          have y6 := (Bw.out.cell (p := ⟨b, o + k * 7 + 6, none⟩) hbw).trans HYL.out
          simp only [Nat.add_zero] at y0
          by_cases hlj : j < I.length
          · obtain ⟨a2, c2, e2, -, -, h4⟩ := HV4.out
            cases e2
            obtain ⟨bi, oi, rfl, hc⟩ := h4 j hlj
            have z0 := hc.op
            have z1 := hc.rd
            have z2 := hc.rs1
            have z3 := hc.rs2
            have z4 := hc.imm
            simp only [Nat.add_zero] at z0
            have lbi : bi < wr.heap.size := World.block_lt_of_cell? wr _ z0
            have HBI : Hid (badI X (I.getD j default) = ((I.getD j default).op == 3 && X.kind != 1 && (decide ((I.getD j default).imm < -1048576) || decide (1048574 < (I.getD j default).imm)))) := rfl
            have HANY : Hid (badI X (I.getD j default) = true → asmE L = 7) := fun h => HAS.out (by
              rw [HDk.out, HBk.out]
              have : I.any (badI X) = true := List.any_eq_true.2 ⟨I.getD j default, by simp [List.getD, hlj], h⟩
              rw [this]; simp)
            have HMEM : Hid (badI X (I.getD j default) = false → (I.getD j default).ok = true) := HOk.out _ (by simp [List.getD, hlj])
            have HNX : Hid (badI X (I.getD j default) = false → ∀ i, i < j + 1 → badI X (I.getD i default) = false) := fun h i hi => by
              by_cases e : i = j
              · subst e; exact h
              · exact HNB.out i (by omega)
            have HT : Hid (ws ++ (I.take (j + 1)).map encW = (ws ++ (I.take j).map encW) ++ [encW (I.getD j default)]) := by
              show _ = _
              rw [List.take_succ, List.map_append, List.append_assoc]
              simp [List.getD, hlj]
            have HLW : Hid ((ws ++ (I.take j).map encW).length ≤ 100000) := by
              have := HWN.out
              show _ ≤ _
              simp; omega
            clear hc h4
            generalize I.getD j default = Y at *
            obtain ⟨op, rd, rs1, rs2, imm⟩ := Y
            dsimp only at z0 z1 z2 z3 z4 HBI
            generalize X.kind = kd at *
            by_cases h3 : op = 3
            · by_cases h1 : kd = 1
              · have g3 : (op == 3) = true := by rw [h3]; rfl
                have g1 : (kd != 1) = false := by rw [h1]; rfl
                clear h3 h1
                have HB0 : badI X ⟨op, rd, rs1, rs2, imm⟩ = false := by rw [HBI.out, g3]; simp [*]
                have HWC : Hid (∀ w, Calls Try.prog 48 #[.agg #[.int .i64 op, .int .i64 rd, .int .i64 rs1, .int .i64 rs2, .int .i64 imm]] w fun e w' => e = .returned (.int .u32 (encW ⟨op, rd, rs1, rs2, imm⟩)) ∧ Below w.heap.size w w') := fun w => word_c ⟨op, rd, rs1, rs2, imm⟩ (HMEM.out HB0) w
                have HNB2 := Lib.hid (HNX.out HB0)
                clear HB0 HBI HANY HMEM HNX HNB HAS
                generalize encW ⟨op, rd, rs1, rs2, imm⟩ = ew at *
                generalize ws ++ (I.take j).map encW = ws2 at *
                have q0 := M.out.c0
                have lg : w3.heap.size < wr.heap.size := World.block_lt_of_cell? wr _ q0
                go_wp2_with fail
                refine wp_region_game (fun x => x = w3.heap.size ∨ x = bi) (by kernel_rfl) ?_
                show wpE _ _ _ _ _ _ _ wr.drew
                refine E_mob2 0 _ rfl (by kernel_rfl) ?_
                simp only [List.getElem_toArray, List.getElem_cons_succ, List.getElem_cons_zero]
                go_big_quiet_step (fail)
                refine wpQuiet_nil ?_
                refine E_mob2 1 _ rfl (by kernel_rfl) ?_
                simp only [List.getElem_toArray, List.getElem_cons_succ, List.getElem_cons_zero]
                go_big_quiet_step (fail)
                refine wpQuiet_nil ?_
                refine E_mob2 2 _ rfl (by kernel_rfl) ?_
                simp only [List.getElem_toArray, List.getElem_cons_succ, List.getElem_cons_zero]
                go_big_quiet_step (fail)
                refine wpQuiet_nil ?_
                refine E_mob2 3 _ rfl (by kernel_rfl) ?_
                simp only [List.getElem_toArray, List.getElem_cons_succ, List.getElem_cons_zero]
                go_big_quiet_step (fail)
                refine wpQuiet_nil ?_
                refine E_mob2 4 _ rfl (by kernel_rfl) ?_
                simp only [List.getElem_toArray, List.getElem_cons_succ, List.getElem_cons_zero]
                go_big_quiet_step (fail)
                refine wpQuiet_nil ?_
                refine E_mob2 5 _ rfl (by kernel_rfl) ?_
                simp only [List.getElem_toArray, List.getElem_cons_succ, List.getElem_cons_zero]
                go_big_quiet_step (fail)
                refine wpQuiet_nil ?_
                refine E_loud1 6 _ rfl (by kernel_rfl) ?_
                simp only [List.getElem_toArray, List.getElem_cons_succ, List.getElem_cons_zero]
                go_wp2_with fail
                refine (HWC.out _).mono ?_
                rintro e w5 ⟨rfl, hb5⟩
                have B5 : Hid (Below wr.heap.size wr w5) := (Below.refl _ _).drew.trans hb5
                have hs5 := B5.out.size
                have HK5 : Hid (Keep (fun x => x = w3.heap.size ∨ x = bi) wr.drew w5) := keepBelow hb5 (fun x hx => by rcases hx with rfl | rfl <;> simpa)
                clear hb5
                go_wp2_with fail
                refine ⟨HK5.out, ?_⟩
                refine E_loud1 7 _ rfl (by kernel_rfl) ?_
                simp only [List.getElem_toArray, List.getElem_cons_succ, List.getElem_cons_zero]
                go_wp2_with fail
                refine ⟨keepBelow (below_a1 _ _) (fun x hx => by rcases hx with rfl | rfl <;> omega), ?_⟩
                have B6 : Hid (Below wr.heap.size wr (w5.alloc (.cells #[.int .u32 ew] 35))) := B5.out.trans ((below_a1 w5 (.cells #[.int .u32 ew] 35)).mono hs5)
                have OW6 := Lib.hid (own_below M.out.ow B6.out)
                refine E_loud1 8 _ rfl (by kernel_rfl) ?_
                simp only [List.getElem_toArray, List.getElem_cons_succ, List.getElem_cons_zero]
                refine appG 25 35 infoU32 Try.underlying25 rfl (by decide) (by decide) [.int .u32 ew] rfl (by simp [Value.oneCell']) OW6.out rfl rfl rfl rfl (cell_new1 _ _ _ _ rfl) (by have := HLW.out; omega) (by have := M.out.below.size; simp; omega) ?_
                intro o6 w6 O6 G6 D6
                obtain ⟨a6, c6, ho6⟩ := own_form O6
                have M6 := M.out.word B6.out O6 G6
                have M6 : Hid (Mk _ _ _ _ _ _) := M6
                rw [← HT.out] at M6
                have HV6 : RdN w6 (.slice (some ⟨bi, oi, none⟩) I.length cv) I := Rows'.grown (HV4.out.ext (Ext.below B6.out)) G6 HA.out fun _ _ _ hs h => h.sub hs
                have HV7 : Hid (RdN (w6.setCell ⟨w3.heap.size, 0, none⟩ o6) (.slice (some ⟨bi, oi, none⟩) I.length cv) I) := Rows'.grown HV6 (grown_setCell w6 ⟨w3.heap.size, 0, none⟩ o6) HAG.out fun _ _ _ hs h => h.sub hs
                have HA6 : Hid (Apart (.slice (some ⟨bi, oi, none⟩) I.length cv) o6.ownBlock) := Apart.app HA.out (fun b p n c e => by cases e; simp; omega) D6
                have bx6 := (own_below M.out.bx B6.out).kept G6 (rowsNe (own_below M.out.bx B6.out) OW6.out (by decide))
                have f6 := bx6.frozenAt 0
                have q6 : w6.cell? ⟨w3.heap.size, 0, none⟩ = some vw := bx6.cellAt 0 (by decide)
                have HK6 : Hid (Keep (fun x => x = w3.heap.size ∨ x = bi) (w5.alloc (.cells #[.int .u32 ew] 35)) w6) := fun x p hx => by
                  refine World.cell?_of_block (a := ⟨x, p, none⟩) (G6.block x (by rcases hx with rfl | rfl <;> (simp; omega)) ?_)
                  rcases hx with rfl | rfl
                  · rcases rowsNe M.out.bx M.out.ow (by decide) with h | h
                    · cases h
                    · exact h
                  · exact HA.out x oi I.length cv rfl
                clear M G6 D6 O6 OW6 B6 B5 HK5 HV6 bx6 HV4 HA q0
                subst ho6
                go_wp2_with fail
                refine ⟨HK6.out, ?_⟩
                refine E_mob2 9 _ rfl (by kernel_rfl) ?_
                simp only [List.getElem_toArray, List.getElem_cons_succ, List.getElem_cons_zero]
                go_big_quiet_step (fail)
                refine wpQuiet_nil ?_
                refine E_last 10 _ rfl (by kernel_rfl) ?_
                simp only [List.getElem_toArray, List.getElem_cons_succ, List.getElem_cons_zero]
                go_wp2_with fail
                refine E_done (by kernel_rfl) ?_ _
                clear q6 f6 HK6
                go_wp2_with fail
                go_roundw
                case rel => exact ⟨j + 1, by omega, by go_num, HNB2, _, _, M6, HV7, HA6⟩
                case measure => first | (simp [intOf]; done) | (simp [intOf]; omega)
              · have g3 : (op == 3) = true := by rw [h3]; rfl
                have g1 : (kd != 1) = true := bne_iff_ne.2 h1
                clear h1 h3
                by_cases h4 : imm < -1048576
                · have g4 : decide (imm < -1048576) = true := decide_eq_true h4
                  have HE := Lib.hid (HANY.out (by rw [HBI.out, g3, g1]; simp [*]))
                  have r0 := cell_of_heap HR.out 0
                  have r1 := cell_of_heap HR.out 1
                  have r2 := cell_of_heap HR.out 2
                  have s0 := frozen_of_heap HR.out 0
                  have s1 := frozen_of_heap HR.out 1
                  have s2 := frozen_of_heap HR.out 2
                  simp only [List.getElem?_toArray, List.getElem?_cons_zero, List.getElem?_cons_succ] at r0 r1 r2
                  clear HBI HANY HMEM HNX HT HNB HV4 HA HAS
                  go_wp2_with fail
                  exact bodyPost_ret (v := .agg #[.slice none 0 0, .slice none 0 0, .int .i64 7]) (by simp [results, Try.results15, go_sem, r0, r1, r2]) rfl (made_bad L w _ 7 HE.out (by decide) (below_set3 Bw.out _ _ _))
                · have g4 : decide (imm < -1048576) = false := decide_eq_false h4
                  by_cases h5 : 1048574 < imm
                  · have g5 : decide (1048574 < imm) = true := decide_eq_true h5
                    have HE := Lib.hid (HANY.out (by rw [HBI.out, g3, g1]; simp [*]))
                    have r0 := cell_of_heap HR.out 0
                    have r1 := cell_of_heap HR.out 1
                    have r2 := cell_of_heap HR.out 2
                    have s0 := frozen_of_heap HR.out 0
                    have s1 := frozen_of_heap HR.out 1
                    have s2 := frozen_of_heap HR.out 2
                    simp only [List.getElem?_toArray, List.getElem?_cons_zero, List.getElem?_cons_succ] at r0 r1 r2
                    clear HBI HANY HMEM HNX HT HNB HV4 HA HAS
                    go_wp2_with fail
                    exact bodyPost_ret (v := .agg #[.slice none 0 0, .slice none 0 0, .int .i64 7]) (by simp [results, Try.results15, go_sem, r0, r1, r2]) rfl (made_bad L w _ 7 HE.out (by decide) (below_set3 Bw.out _ _ _))
                  · have g5 : decide (1048574 < imm) = false := decide_eq_false h5
                    have HB0 : badI X ⟨op, rd, rs1, rs2, imm⟩ = false := by rw [HBI.out, g3]; simp [*]
                    have HWC : Hid (∀ w, Calls Try.prog 48 #[.agg #[.int .i64 op, .int .i64 rd, .int .i64 rs1, .int .i64 rs2, .int .i64 imm]] w fun e w' => e = .returned (.int .u32 (encW ⟨op, rd, rs1, rs2, imm⟩)) ∧ Below w.heap.size w w') := fun w => word_c ⟨op, rd, rs1, rs2, imm⟩ (HMEM.out HB0) w
                    have HNB2 := Lib.hid (HNX.out HB0)
                    clear HB0 HBI HANY HMEM HNX HNB HAS
                    generalize encW ⟨op, rd, rs1, rs2, imm⟩ = ew at *
                    generalize ws ++ (I.take j).map encW = ws2 at *
                    have q0 := M.out.c0
                    have lg : w3.heap.size < wr.heap.size := World.block_lt_of_cell? wr _ q0
                    go_wp2_with fail
                    refine wp_region_game (fun x => x = w3.heap.size ∨ x = bi) (by kernel_rfl) ?_
                    show wpE _ _ _ _ _ _ _ wr.drew
                    refine E_mob2 0 _ rfl (by kernel_rfl) ?_
                    simp only [List.getElem_toArray, List.getElem_cons_succ, List.getElem_cons_zero]
                    go_big_quiet_step (fail)
                    refine wpQuiet_nil ?_
                    refine E_mob2 1 _ rfl (by kernel_rfl) ?_
                    simp only [List.getElem_toArray, List.getElem_cons_succ, List.getElem_cons_zero]
                    go_big_quiet_step (fail)
                    refine wpQuiet_nil ?_
                    refine E_mob2 2 _ rfl (by kernel_rfl) ?_
                    simp only [List.getElem_toArray, List.getElem_cons_succ, List.getElem_cons_zero]
                    go_big_quiet_step (fail)
                    refine wpQuiet_nil ?_
                    refine E_mob2 3 _ rfl (by kernel_rfl) ?_
                    simp only [List.getElem_toArray, List.getElem_cons_succ, List.getElem_cons_zero]
                    go_big_quiet_step (fail)
                    refine wpQuiet_nil ?_
                    refine E_mob2 4 _ rfl (by kernel_rfl) ?_
                    simp only [List.getElem_toArray, List.getElem_cons_succ, List.getElem_cons_zero]
                    go_big_quiet_step (fail)
                    refine wpQuiet_nil ?_
                    refine E_mob2 5 _ rfl (by kernel_rfl) ?_
                    simp only [List.getElem_toArray, List.getElem_cons_succ, List.getElem_cons_zero]
                    go_big_quiet_step (fail)
                    refine wpQuiet_nil ?_
                    refine E_loud1 6 _ rfl (by kernel_rfl) ?_
                    simp only [List.getElem_toArray, List.getElem_cons_succ, List.getElem_cons_zero]
                    go_wp2_with fail
                    refine (HWC.out _).mono ?_
                    rintro e w5 ⟨rfl, hb5⟩
                    have B5 : Hid (Below wr.heap.size wr w5) := (Below.refl _ _).drew.trans hb5
                    have hs5 := B5.out.size
                    have HK5 : Hid (Keep (fun x => x = w3.heap.size ∨ x = bi) wr.drew w5) := keepBelow hb5 (fun x hx => by rcases hx with rfl | rfl <;> simpa)
                    clear hb5
                    go_wp2_with fail
                    refine ⟨HK5.out, ?_⟩
                    refine E_loud1 7 _ rfl (by kernel_rfl) ?_
                    simp only [List.getElem_toArray, List.getElem_cons_succ, List.getElem_cons_zero]
                    go_wp2_with fail
                    refine ⟨keepBelow (below_a1 _ _) (fun x hx => by rcases hx with rfl | rfl <;> omega), ?_⟩
                    have B6 : Hid (Below wr.heap.size wr (w5.alloc (.cells #[.int .u32 ew] 35))) := B5.out.trans ((below_a1 w5 (.cells #[.int .u32 ew] 35)).mono hs5)
                    have OW6 := Lib.hid (own_below M.out.ow B6.out)
                    refine E_loud1 8 _ rfl (by kernel_rfl) ?_
                    simp only [List.getElem_toArray, List.getElem_cons_succ, List.getElem_cons_zero]
                    refine appG 25 35 infoU32 Try.underlying25 rfl (by decide) (by decide) [.int .u32 ew] rfl (by simp [Value.oneCell']) OW6.out rfl rfl rfl rfl (cell_new1 _ _ _ _ rfl) (by have := HLW.out; omega) (by have := M.out.below.size; simp; omega) ?_
                    intro o6 w6 O6 G6 D6
                    obtain ⟨a6, c6, ho6⟩ := own_form O6
                    have M6 := M.out.word B6.out O6 G6
                    have M6 : Hid (Mk _ _ _ _ _ _) := M6
                    rw [← HT.out] at M6
                    have HV6 : RdN w6 (.slice (some ⟨bi, oi, none⟩) I.length cv) I := Rows'.grown (HV4.out.ext (Ext.below B6.out)) G6 HA.out fun _ _ _ hs h => h.sub hs
                    have HV7 : Hid (RdN (w6.setCell ⟨w3.heap.size, 0, none⟩ o6) (.slice (some ⟨bi, oi, none⟩) I.length cv) I) := Rows'.grown HV6 (grown_setCell w6 ⟨w3.heap.size, 0, none⟩ o6) HAG.out fun _ _ _ hs h => h.sub hs
                    have HA6 : Hid (Apart (.slice (some ⟨bi, oi, none⟩) I.length cv) o6.ownBlock) := Apart.app HA.out (fun b p n c e => by cases e; simp; omega) D6
                    have bx6 := (own_below M.out.bx B6.out).kept G6 (rowsNe (own_below M.out.bx B6.out) OW6.out (by decide))
                    have f6 := bx6.frozenAt 0
                    have q6 : w6.cell? ⟨w3.heap.size, 0, none⟩ = some vw := bx6.cellAt 0 (by decide)
                    have HK6 : Hid (Keep (fun x => x = w3.heap.size ∨ x = bi) (w5.alloc (.cells #[.int .u32 ew] 35)) w6) := fun x p hx => by
                      refine World.cell?_of_block (a := ⟨x, p, none⟩) (G6.block x (by rcases hx with rfl | rfl <;> (simp; omega)) ?_)
                      rcases hx with rfl | rfl
                      · rcases rowsNe M.out.bx M.out.ow (by decide) with h | h
                        · cases h
                        · exact h
                      · exact HA.out x oi I.length cv rfl
                    clear M G6 D6 O6 OW6 B6 B5 HK5 HV6 bx6 HV4 HA q0
                    subst ho6
                    go_wp2_with fail
                    refine ⟨HK6.out, ?_⟩
                    refine E_mob2 9 _ rfl (by kernel_rfl) ?_
                    simp only [List.getElem_toArray, List.getElem_cons_succ, List.getElem_cons_zero]
                    go_big_quiet_step (fail)
                    refine wpQuiet_nil ?_
                    refine E_last 10 _ rfl (by kernel_rfl) ?_
                    simp only [List.getElem_toArray, List.getElem_cons_succ, List.getElem_cons_zero]
                    go_wp2_with fail
                    refine E_done (by kernel_rfl) ?_ _
                    clear q6 f6 HK6
                    go_wp2_with fail
                    go_roundw
                    case rel => exact ⟨j + 1, by omega, by go_num, HNB2, _, _, M6, HV7, HA6⟩
                    case measure => first | (simp [intOf]; done) | (simp [intOf]; omega)
            · have g3 : (op == 3) = false := beq_eq_false_iff_ne.2 h3
              clear h3
              have HB0 : badI X ⟨op, rd, rs1, rs2, imm⟩ = false := by rw [HBI.out, g3]; simp [*]
              have HWC : Hid (∀ w, Calls Try.prog 48 #[.agg #[.int .i64 op, .int .i64 rd, .int .i64 rs1, .int .i64 rs2, .int .i64 imm]] w fun e w' => e = .returned (.int .u32 (encW ⟨op, rd, rs1, rs2, imm⟩)) ∧ Below w.heap.size w w') := fun w => word_c ⟨op, rd, rs1, rs2, imm⟩ (HMEM.out HB0) w
              have HNB2 := Lib.hid (HNX.out HB0)
              clear HB0 HBI HANY HMEM HNX HNB HAS
              generalize encW ⟨op, rd, rs1, rs2, imm⟩ = ew at *
              generalize ws ++ (I.take j).map encW = ws2 at *
              have q0 := M.out.c0
              have lg : w3.heap.size < wr.heap.size := World.block_lt_of_cell? wr _ q0
              go_wp2_with fail
              refine wp_region_game (fun x => x = w3.heap.size ∨ x = bi) (by kernel_rfl) ?_
              show wpE _ _ _ _ _ _ _ wr.drew
              refine E_mob2 0 _ rfl (by kernel_rfl) ?_
              simp only [List.getElem_toArray, List.getElem_cons_succ, List.getElem_cons_zero]
              go_big_quiet_step (fail)
              refine wpQuiet_nil ?_
              refine E_mob2 1 _ rfl (by kernel_rfl) ?_
              simp only [List.getElem_toArray, List.getElem_cons_succ, List.getElem_cons_zero]
              go_big_quiet_step (fail)
              refine wpQuiet_nil ?_
              refine E_mob2 2 _ rfl (by kernel_rfl) ?_
              simp only [List.getElem_toArray, List.getElem_cons_succ, List.getElem_cons_zero]
              go_big_quiet_step (fail)
              refine wpQuiet_nil ?_
              refine E_mob2 3 _ rfl (by kernel_rfl) ?_
              simp only [List.getElem_toArray, List.getElem_cons_succ, List.getElem_cons_zero]
              go_big_quiet_step (fail)
              refine wpQuiet_nil ?_
              refine E_mob2 4 _ rfl (by kernel_rfl) ?_
              simp only [List.getElem_toArray, List.getElem_cons_succ, List.getElem_cons_zero]
              go_big_quiet_step (fail)
              refine wpQuiet_nil ?_
              refine E_mob2 5 _ rfl (by kernel_rfl) ?_
              simp only [List.getElem_toArray, List.getElem_cons_succ, List.getElem_cons_zero]
              go_big_quiet_step (fail)
              refine wpQuiet_nil ?_
              refine E_loud1 6 _ rfl (by kernel_rfl) ?_
              simp only [List.getElem_toArray, List.getElem_cons_succ, List.getElem_cons_zero]
              go_wp2_with fail
              refine (HWC.out _).mono ?_
              rintro e w5 ⟨rfl, hb5⟩
              have B5 : Hid (Below wr.heap.size wr w5) := (Below.refl _ _).drew.trans hb5
              have hs5 := B5.out.size
              have HK5 : Hid (Keep (fun x => x = w3.heap.size ∨ x = bi) wr.drew w5) := keepBelow hb5 (fun x hx => by rcases hx with rfl | rfl <;> simpa)
              clear hb5
              go_wp2_with fail
              refine ⟨HK5.out, ?_⟩
              refine E_loud1 7 _ rfl (by kernel_rfl) ?_
              simp only [List.getElem_toArray, List.getElem_cons_succ, List.getElem_cons_zero]
              go_wp2_with fail
              refine ⟨keepBelow (below_a1 _ _) (fun x hx => by rcases hx with rfl | rfl <;> omega), ?_⟩
              have B6 : Hid (Below wr.heap.size wr (w5.alloc (.cells #[.int .u32 ew] 35))) := B5.out.trans ((below_a1 w5 (.cells #[.int .u32 ew] 35)).mono hs5)
              have OW6 := Lib.hid (own_below M.out.ow B6.out)
              refine E_loud1 8 _ rfl (by kernel_rfl) ?_
              simp only [List.getElem_toArray, List.getElem_cons_succ, List.getElem_cons_zero]
              refine appG 25 35 infoU32 Try.underlying25 rfl (by decide) (by decide) [.int .u32 ew] rfl (by simp [Value.oneCell']) OW6.out rfl rfl rfl rfl (cell_new1 _ _ _ _ rfl) (by have := HLW.out; omega) (by have := M.out.below.size; simp; omega) ?_
              intro o6 w6 O6 G6 D6
              obtain ⟨a6, c6, ho6⟩ := own_form O6
              have M6 := M.out.word B6.out O6 G6
              have M6 : Hid (Mk _ _ _ _ _ _) := M6
              rw [← HT.out] at M6
              have HV6 : RdN w6 (.slice (some ⟨bi, oi, none⟩) I.length cv) I := Rows'.grown (HV4.out.ext (Ext.below B6.out)) G6 HA.out fun _ _ _ hs h => h.sub hs
              have HV7 : Hid (RdN (w6.setCell ⟨w3.heap.size, 0, none⟩ o6) (.slice (some ⟨bi, oi, none⟩) I.length cv) I) := Rows'.grown HV6 (grown_setCell w6 ⟨w3.heap.size, 0, none⟩ o6) HAG.out fun _ _ _ hs h => h.sub hs
              have HA6 : Hid (Apart (.slice (some ⟨bi, oi, none⟩) I.length cv) o6.ownBlock) := Apart.app HA.out (fun b p n c e => by cases e; simp; omega) D6
              have bx6 := (own_below M.out.bx B6.out).kept G6 (rowsNe (own_below M.out.bx B6.out) OW6.out (by decide))
              have f6 := bx6.frozenAt 0
              have q6 : w6.cell? ⟨w3.heap.size, 0, none⟩ = some vw := bx6.cellAt 0 (by decide)
              have HK6 : Hid (Keep (fun x => x = w3.heap.size ∨ x = bi) (w5.alloc (.cells #[.int .u32 ew] 35)) w6) := fun x p hx => by
                refine World.cell?_of_block (a := ⟨x, p, none⟩) (G6.block x (by rcases hx with rfl | rfl <;> (simp; omega)) ?_)
                rcases hx with rfl | rfl
                · rcases rowsNe M.out.bx M.out.ow (by decide) with h | h
                  · cases h
                  · exact h
                · exact HA.out x oi I.length cv rfl
              clear M G6 D6 O6 OW6 B6 B5 HK5 HV6 bx6 HV4 HA q0
              subst ho6
              go_wp2_with fail
              refine ⟨HK6.out, ?_⟩
              refine E_mob2 9 _ rfl (by kernel_rfl) ?_
              simp only [List.getElem_toArray, List.getElem_cons_succ, List.getElem_cons_zero]
              go_big_quiet_step (fail)
              refine wpQuiet_nil ?_
              refine E_last 10 _ rfl (by kernel_rfl) ?_
              simp only [List.getElem_toArray, List.getElem_cons_succ, List.getElem_cons_zero]
              go_wp2_with fail
              refine E_done (by kernel_rfl) ?_ _
              clear q6 f6 HK6
              go_wp2_with fail
              go_roundw
              case rel => exact ⟨j + 1, by omega, by go_num, HNB2, _, _, M6, HV7, HA6⟩
              case measure => first | (simp [intOf]; done) | (simp [intOf]; omega)
          · obtain rfl : j = I.length := by omega
            have DI2 : Hid (inN L (k + 1) = true) := by
              show _ = _
              rw [HDk.out, DI.out, HBk.out]
              have : I.any (badI X) = false := by
                rw [List.any_eq_false]
                intro i hi
                obtain ⟨n, hn, rfl⟩ := List.mem_iff_getElem.1 hi
                have := HNB.out n hn
                simp [List.getD, hn] at this
                simp [this]
              rw [this]; rfl
            have M2 := M.out
            rw [List.take_of_length_le (Nat.le_refl _), ← HWk.out] at M2
            have M2 := Lib.hid M2
            clear M HV4 HA HNB HAS HBk HDk HOk
            by_cases h2 : X.kind = 2
            · obtain ⟨l, hl⟩ : ∃ l : Nat, X.label = (l : Int) := ⟨X.label.toNat, by have := HILk.out.1; omega⟩
              have hl2 : (l : Int) < 4096 := by rw [← hl]; exact HILk.out.2
              have HRk2 : Hid (rlF L (farF L) (k + 1) = (padL rl (l + 1)).set l (posF L (farF L) k)) := by show _ = _; rw [HRk.out, if_pos h2, hl, Int.toNat_natCast]
              rw [h2] at y0
              rw [hl] at y6 HYL
              have hrl : rl.length ≤ 4096 := by have := HRNk.out; have := HMBk.out; omega
              clear HRk HYK h2 hl
              go_wp2_with fail
              go_loopg [] (l + 1 - rl.length) (fun m wr => ∃ (q : Nat) (vl : Value), q ≤ l + 1 - rl.length ∧ Hid (m = l + 1 - rl.length - q) ∧ Hid (Mk w3 wr vw vl (wordsF L (k + 1)) (rl ++ List.replicate q (-1))))
              case atStart => exact ⟨0, _, Nat.zero_le _, rfl, by simpa using M2⟩
              case round =>
                clear M2 y0 y6 HR Bw
                obtain ⟨q, vl, hq, Hm, M⟩ := hrel
                have Bw : Hid (Below w.heap.size w wr) := B3.out.trans (M.out.below.mono B3.out.size)
                have y6 := (Bw.out.cell (p := ⟨b, o + k * 7 + 6, none⟩) hbw).trans HYL.out
                have lb : b < wr.heap.size := World.block_lt_of_cell? wr _ y6
                have q1 := M.out.c1
                have lg : w3.heap.size < wr.heap.size := World.block_lt_of_cell? wr _ q1
                obtain ⟨a5, c5, rfl, h51, h52, -⟩ := own_rows (f := Value.int .i64) 0 M.out.ol
                have HLS : Hid ((rl ++ List.replicate q (-1)).length = rl.length + q) := by show _ = _; simp
                have M := M.out
                rw [HLS.out] at q1 h51 M
                have M := Lib.hid M
                unfold maxLen at h52
                by_cases hlq : q < l + 1 - rl.length
                · have g6 : decide (rl.length + q ≤ l) = true := decide_eq_true (by omega)
                  have HT : Hid (rl ++ List.replicate (q + 1) (-1) = (rl ++ List.replicate q (-1)) ++ [-1]) := by show _ = _; rw [List.replicate_succ', List.append_assoc]
                  go_wp2_with fail
                  go_quiet (fail)
                  have MD := Lib.hid (M.out.grow (below_drewN _ wr nq))
                  have q1 : (wr.drewN nq).cell? ⟨w3.heap.size, 1, none⟩ = _ := q1
                  have y6 : (wr.drewN nq).cell? ⟨b, o + k * 7 + 6, none⟩ = _ := y6
                  have lg : w3.heap.size < (wr.drewN nq).heap.size := lg
                  generalize wr.drewN nq = W1 at *
                  have OL := Lib.hid (own_below MD.out.ol (below_a1 W1 (.cells #[.int .i64 (-1)] 3)))
                  go_wp2_with (at_builtin; refine appG 26 3 infoInt Try.underlying26 rfl (by decide) (by decide) [.int .i64 (-1)] rfl (by simp [Value.oneCell']) OL.out rfl rfl rfl rfl (cell_new1 _ _ _ _ rfl) (by rw [HLS.out]; omega) (by have := MD.out.below.size; simp; omega) ?_; intro o6 w6 O6 G6 D6; obtain ⟨a6, c6, ho6⟩ := own_form O6; have M6 := MD.out.lab (below_a1 W1 (.cells #[.int .i64 (-1)] 3)) O6 G6; rw [← HT.out] at M6; have M6 := Lib.hid M6; have bx6 := (own_below MD.out.bx (below_a1 W1 (.cells #[.int .i64 (-1)] 3))).kept G6 (rowsNe (own_below MD.out.bx (below_a1 W1 (.cells #[.int .i64 (-1)] 3))) OL.out (by decide)); have f6 := bx6.frozenAt 1; have q6 : w6.cell? ⟨w3.heap.size, 1, none⟩ = some (.slice a5 (rl.length + q) c5) := bx6.cellAt 1 (by decide); have lg6 : w3.heap.size < w6.heap.size := World.block_lt_of_cell? w6 _ q6; clear O6 G6 D6 bx6 OL MD M; subst ho6)
                  go_roundg (l + 1 - rl.length - (q + 1))
                  case rel => exact ⟨q + 1, .slice a6 (rl.length + q + 1) c6, by omega, rfl, by have := M6.out; rw [HLS.out] at this; exact this⟩
                  case measure => rw [Hm.out]; omega
                · obtain rfl : q = l + 1 - rl.length := by omega
                  have g6 : decide (rl.length + (l + 1 - rl.length) ≤ l) = false := decide_eq_false (by omega)
                  go_wp2_with fail
                  go_quiet (fail)
                  have hbl := M.out.ol
                  obtain ⟨-, ⟨e, e0⟩ | ⟨bl, cap, cur, e, -⟩⟩ := hbl
                  · exfalso; rw [HLS.out] at e0; omega
                  · simp only [Value.slice.injEq] at e
                    obtain ⟨rfl, -, rfl⟩ := e
                    obtain ⟨ba, oa, rfl, hca⟩ := HU3.out k (by rw [posL_len]; omega)
                    rw [posL_at L (farF L) _ _ (by omega)] at hca
                    simp only [Nat.mul_one, Nat.add_zero] at hca
                    have lba : ba < w3.heap.size := World.block_lt_of_cell? w3 _ hca
                    have hca := (M.out.below.cell (p := ⟨ba, oa + k, none⟩) lba).trans hca
                    have MD := Lib.hid (M.out.grow (Below.drew (below_drewN _ wr nq)))
                    have q1 : (wr.drewN nq).drew.cell? ⟨w3.heap.size, 1, none⟩ = _ := q1
                    have y6 : (wr.drewN nq).drew.cell? ⟨b, o + k * 7 + 6, none⟩ = _ := y6
                    have ya : (wr.drewN nq).drew.cell? ⟨ba, oa + k, none⟩ = _ := hca
                    have lg : w3.heap.size < (wr.drewN nq).drew.heap.size := lg
                    go_wp2_with fail
                    refine wp_region_game (fun x => x = w3.heap.size ∨ x = b ∨ x = ba) (by kernel_rfl) ?_
                    show wpE _ _ _ _ _ _ _ (wr.drewN nq).drew
                    generalize (wr.drewN nq).drew = W1 at *
                    clear hca M
                    have hli : l < rl.length + (l + 1 - rl.length) := by omega
                    have hpl : (posL L (farF L) (L.length + 1)).length = L.length + 1 := posL_len _ _ _
                    have hpk : k < (posL L (farF L) (L.length + 1)).length := by omega
                    have HPL := Lib.hid hpl
                    clear hpl
                    generalize posF L (farF L) k = pk at *
                    refine E_mob2 0 _ rfl (by kernel_rfl) ?_
                    simp only [List.getElem_toArray, List.getElem_cons_succ, List.getElem_cons_zero]
                    go_big_quiet_step (fail)
                    refine wpQuiet_nil ?_
                    refine E_mob2 1 _ rfl (by kernel_rfl) ?_
                    simp only [List.getElem_toArray, List.getElem_cons_succ, List.getElem_cons_zero]
                    go_big_quiet_step (fail)
                    refine wpQuiet_nil ?_
                    refine E_mob2 2 _ rfl (by kernel_rfl) ?_
                    simp only [List.getElem_toArray, List.getElem_cons_succ, List.getElem_cons_zero]
                    go_big_quiet_step (fail)
                    refine wpQuiet_nil ?_
                    refine E_mob2 3 _ rfl (by kernel_rfl) ?_
                    simp only [List.getElem_toArray, List.getElem_cons_succ, List.getElem_cons_zero]
                    go_big_quiet_step (fail)
                    refine wpQuiet_nil ?_
                    refine E_mob2 4 _ rfl (by kernel_rfl) ?_
                    simp only [List.getElem_toArray, List.getElem_cons_succ, List.getElem_cons_zero]
                    go_big_quiet_step (fail)
                    refine wpQuiet_nil ?_
                    refine E_mob2 5 _ rfl (by kernel_rfl) ?_
                    simp only [List.getElem_toArray, List.getElem_cons_succ, List.getElem_cons_zero]
                    go_big_quiet_step (fail)
                    refine wpQuiet_nil ?_
                    refine E_mob2 6 _ rfl (by kernel_rfl) ?_
                    simp only [List.getElem_toArray, List.getElem_cons_succ, List.getElem_cons_zero]
                    go_big_quiet_step (fail)
                    refine wpQuiet_nil ?_
                    refine E_mob2 7 _ rfl (by kernel_rfl) ?_
                    simp only [List.getElem_toArray, List.getElem_cons_succ, List.getElem_cons_zero]
                    go_big_quiet_step (fail)
                    refine wpQuiet_nil ?_
                    refine E_mob2 8 _ rfl (by kernel_rfl) ?_
                    simp only [List.getElem_toArray, List.getElem_cons_succ, List.getElem_cons_zero]
                    go_big_quiet_step (fail)
                    refine wpQuiet_nil ?_
                    refine E_mob2 9 _ rfl (by kernel_rfl) ?_
                    simp only [List.getElem_toArray, List.getElem_cons_succ, List.getElem_cons_zero]
                    go_big_quiet_step (fail)
                    refine wpQuiet_nil ?_
                    refine E_mob2 10 _ rfl (by kernel_rfl) ?_
                    simp only [List.getElem_toArray, List.getElem_cons_succ, List.getElem_cons_zero]
                    go_big_quiet_step (fail)
                    refine wpQuiet_nil ?_
                    refine E_mob2 11 _ rfl (by kernel_rfl) ?_
                    simp only [List.getElem_toArray, List.getElem_cons_succ, List.getElem_cons_zero]
                    go_big_quiet_step (fail)
                    refine wpQuiet_nil ?_
                    refine E_last 12 _ rfl (by kernel_rfl) ?_
                    simp only [List.getElem_toArray, List.getElem_cons_succ, List.getElem_cons_zero]
                    have M8 := MD.out
                    rw [← HLS.out] at M8
                    have hlt : l < (rl ++ List.replicate (l + 1 - rl.length) (-1)).length := by rw [HLS.out]; omega
                    have cl : W1.cell? ⟨bl, l, none⟩ = some (.int .i64 ((rl ++ List.replicate (l + 1 - rl.length) (-1))[l]'hlt)) := by
                      rw [M8.ol.cellAt l (by omega), List.getElem?_map, List.getElem?_eq_getElem hlt]
                      rfl
                    generalize (rl ++ List.replicate (l + 1 - rl.length) (-1))[l]'hlt = old at cl
                    have fl := M8.ol.frozenAt l
                    have M9 := M8.setL l pk
                    have HRk3 : Hid (rlF L (farF L) (k + 1) = (rl ++ List.replicate (l + 1 - rl.length) (-1)).set l pk) := HRk2
                    rw [← HRk3.out] at M9
                    have M9 := Lib.hid M9
                    clear M8 MD HRk2 HRk3 hlt q1 y6 ya
                    go_wp2_with fail
                    refine E_done (by kernel_rfl) ?_ _
                    go_wp2_with fail
                    go_roundw
                    case rel => exact ⟨k + 1, by omega, by go_num, DI2, _, _, M9⟩
                    case measure => first | (simp [intOf]; done) | (simp [intOf]; omega)
            · have h2' : (X.kind == 2) = false := beq_eq_false_iff_ne.2 h2
              have HRk2 : Hid (rlF L (farF L) (k + 1) = rl) := by show _ = _; rw [HRk.out, if_neg h2]
              rw [← HRk2.out] at M2
              clear h2 HRk
              go_wp2_with fail
              go_roundw
              case rel => exact ⟨k + 1, by omega, by go_num, DI2, _, _, M2⟩
              case measure => first | (simp [intOf]; done) | (simp [intOf]; omega)
      · obtain rfl : k = L.length := by omega
        have M9 := M0.out
        rw [HRL.out] at M9
        have HE := Lib.hid (asmE_0 L (by omega) HOK.out HLB.out DI.out)
        obtain ⟨a6, c6, rfl⟩ := own_form M9.ow
        obtain ⟨a7, c7, rfl⟩ := own_form M9.ol
        have q0 := M9.c0
        have q1 := M9.c1
        have q2 := M9.c2
        have lg : w3.heap.size < wr.heap.size := World.block_lt_of_cell? wr _ q2
        have ne : w3.heap.size ≠ w.heap.size := by omega
        have r0 := cell_of_heap HR.out 0
        have r1 := cell_of_heap HR.out 1
        have r2 := cell_of_heap HR.out 2
        have s0 := frozen_of_heap HR.out 0
        have s1 := frozen_of_heap HR.out 1
        have s2 := frozen_of_heap HR.out 2
        simp only [List.getElem?_toArray, List.getElem?_cons_zero, List.getElem?_cons_succ] at r0 r1 r2
        have M9 := Lib.hid M9
        clear M0 HR
        go_wp2_with fail
        exact bodyPost_ret (v := .agg #[.slice a6 _ c6, .slice a7 _ c7, .int .i64 0]) (by simp [results, Try.results15, go_sem, r0, r1, r2]) rfl (made_good L w w3 wr _ _ hl0 M9.out HE.out Bw.out)
  · have HE := Lib.hid (asm_may L hm)
    have HM := Lib.hid hm
    have g1 : (mayE L != 0) = true := bne_iff_ne.2 hm
    clear hm
    generalize mayE L = me at *
    go_enter Try.func15, Try.ntmps15
    go_upto_region 2 with (go_at_call 44; refine (HMY.out _ (below_a1 _ _)).mono ?_; rintro e w1 ⟨rfl, hb1⟩; have B1 : Hid (Below w.heap.size w w1) := (below_a1 _ _).trans (hb1.mono (by simp)); have HR1 := Lib.hid (res_box hb1); clear hb1)
    go_wp2_with (go_at_call 44; refine (HMY.out _ B1.out).mono ?_; rintro e w2 ⟨rfl, hb2⟩; have B2 : Hid (Below w.heap.size w w2) := B1.out.trans (hb2.mono B1.out.size); have HR2 := Lib.hid ((hb2.block _ (Array.getElem?_eq_some_iff.1 HR1.out).1).trans HR1.out); have HR := HR2; have r0 := cell_of_heap HR.out 0; have r1 := cell_of_heap HR.out 1; have r2 := cell_of_heap HR.out 2; have s0 := frozen_of_heap HR.out 0; have s1 := frozen_of_heap HR.out 1; have s2 := frozen_of_heap HR.out 2; simp only [List.getElem?_toArray, List.getElem?_cons_zero, List.getElem?_cons_succ] at r0 r1 r2; clear hb2 B1 HR1)
    exact bodyPost_ret (v := .agg #[.slice none 0 0, .slice none 0 0, .int .i64 me]) (by simp [results, Try.results15, go_sem, r0, r1, r2]) rfl (made_bad L w _ me HE.out HM.out (below_set3 B2.out _ _ _))
end Go.Proofs.Ytedihiodmgnlpaa
