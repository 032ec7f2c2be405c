/-
  The contract of the sheet's labels.
-/
import Derived.Test.YtedihiodmgnlpaaA10
import Derived.Deep.OwnRows
set_option linter.all false
namespace Go.Proofs.Ytedihiodmgnlpaa
open Go.ChangeShapes Go.WideShapes Go.ChangeAt Go.RowKit Go.Maps
set_option maxHeartbeats 4000000
set_option linter.unusedVariables false
set_option maxRecDepth 20000

theorem madeI (w : World) (B n : Nat) (hB : B ≤ w.heap.size) (hn : n ≤ maxLen) : (w.alloc (.cells (madeCells #[.int .i64 0] n) 3)).ownsRow B 3 1 (.slice (some ⟨w.heap.size, 0, none⟩) n n) n ((List.replicate n (0 : Int)).map (Value.int .i64)) := by
  have hl : (madeCells #[Value.int .i64 0] n).toList = (List.replicate n (0 : Int)).map (Value.int .i64) := by
    apply List.ext_getElem
    · simp [madeCells]
    · intro i h1 h2
      simp [madeCells, Nat.mod_one]
  refine ⟨by simp, .inr ⟨w.heap.size, n, _, rfl, hB, heap_alloc_new w _, by simp, hn, by simp [madeCells], ?_⟩⟩
  rw [hl]
  simp [List.take_of_length_le]
theorem infoInt : (Try.prog.info? 3).map (fun i => (i.zero, i.size, i.bytes)) = some (some (.int .i64 0), 1, 8) := by kernel_rfl
/-- the sheet ahead of its labels -/
structure Sh0 (wp w : World) (bs bf ba : Nat) (vi : Value) (L : List It) (far : List Bool) (at' : List Int) : Prop where
  sh : w.ownsRow 0 86 4 (rowAt bs 1) 1 [vi, rowAt bf L.length, rowAt ba (L.length + 1), .slice none 0 0]
  items : RdT wp vi L
  fr : w.ownsRow 0 4 1 (rowAt bf L.length) L.length (far.map Value.bool)
  ar : w.ownsRow 0 3 1 (rowAt ba (L.length + 1)) (L.length + 1) (at'.map (Value.int .i64))
  below : Below wp.heap.size wp w
  ps : wp.heap.size ≤ bs
  pf : wp.heap.size ≤ bf
  pa : wp.heap.size ≤ ba
  most : L.length ≤ 32768
theorem dup_mono (L : List It) : ∀ n j, j ≤ n → dupN L j = true → dupN L n = true
  | 0, j, h, hd => by obtain rfl : j = 0 := by omega
                      exact hd
  | n + 1, j, h, hd => by
    by_cases e : j = n + 1
    · subst e; exact hd
    · unfold dupN; rw [dup_mono L n j (by omega) hd]; rfl
theorem mis_mono (L : List It) : ∀ n j, j ≤ n → misN L j = true → misN L n = true
  | 0, j, h, hd => by obtain rfl : j = 0 := by omega
                      exact hd
  | n + 1, j, h, hd => by
    by_cases e : j = n + 1
    · subst e; exact hd
    · unfold misN; rw [mis_mono L n j (by omega) hd]; rfl
section
variable {wp w w' : World} {bs bf ba bl : Nat} {vi : Value} {L : List It} {far : List Bool} {at' lab : List Int}
theorem Sh0.grow (h : Sh0 wp w bs bf ba vi L far at') (hb : Below w.heap.size w w') : Sh0 wp w' bs bf ba vi L far at' := by
  have hg : w.grownBy w' none := ⟨hb.os, hb.tape, hb.output, hb.size, fun k hk _ => hb.block k hk⟩
  have nn : ∀ b n : Nat, (rowAt b n).ownBlock = none ∨ (rowAt b n).ownBlock ≠ none := fun b n => .inr (by simp [rowAt, Value.ownBlock])
  exact ⟨h.sh.kept hg (nn _ _), h.items, h.fr.kept hg (nn _ _), h.ar.kept hg (nn _ _), h.below.trans (hb.mono h.below.size), h.ps, h.pf, h.pa, h.most⟩
theorem Sh0.c0 (h : Sh0 wp w bs bf ba vi L far at') : w.cell? ⟨bs, 0, none⟩ = some vi := h.sh.cellAt 0 (by decide)
theorem Sh0.it (h : Sh0 wp w bs bf ba vi L far at') : ∃ ai ci, vi = .slice ai L.length ci ∧ ∀ k, k < L.length → ∃ b o, ai = some ⟨b, o, none⟩ ∧ b < wp.heap.size ∧ ItC (fun j => w.cell? ⟨b, o + k * 7 + j, none⟩) (L.getD k default) := by
  obtain ⟨ai, ci, e, h1, h2, h3⟩ := h.items
  refine ⟨ai, ci, e, fun k hk => ?_⟩
  obtain ⟨b, o, e, c⟩ := h3 k hk
  have hb : b < wp.heap.size := World.block_lt_of_cell? wp _ c.kind
  refine ⟨b, o, e, hb, c.sub fun j v hv => ?_⟩
  exact (h.below.cell (p := ⟨b, o + k * 7 + j, none⟩) hb).trans hv
theorem Sh0.begin (h : Sh0 wp w bs bf ba vi L far at') (m : Nat) (hm : m ≤ 4096) : Sh wp ((w.setCell ⟨bs, 3, none⟩ (.slice (some ⟨w.heap.size, 0, none⟩) m m)).alloc (.cells (madeCells #[.int .i64 0] m) 3)) bs bf ba w.heap.size vi L far at' (List.replicate m 0) := by
  obtain ⟨h1, hg⟩ := h.sh.stored 3 (.slice (some ⟨w.heap.size, 0, none⟩) m m)
  have nsf : bs ≠ bf := fun e => by rcases rowsNe h.sh h.fr (by decide) with k | k <;> simp [ob, e] at k
  have nsa : bs ≠ ba := fun e => by rcases rowsNe h.sh h.ar (by decide) with k | k <;> simp [ob, e] at k
  have hga := World.grownBy_alloc (w.setCell ⟨bs, 3, none⟩ (.slice (some ⟨w.heap.size, 0, none⟩) m m)) (.cells (madeCells #[.int .i64 0] m) 3) none
  have nn : ∀ b n : Nat, (rowAt b n).ownBlock = none ∨ (rowAt b n).ownBlock ≠ none := fun b n => .inr (by simp [rowAt, Value.ownBlock])
  have hmk := madeI (w.setCell ⟨bs, 3, none⟩ (.slice (some ⟨w.heap.size, 0, none⟩) m m)) 0 m (Nat.zero_le _) (by unfold maxLen; omega)
  have la : ba < w.heap.size := by
    have := (h.ar.lt ba rfl).2
    exact this
  refine ⟨?_, h.items, (h.fr.kept hg (.inr (some_ne nsf.symm))).kept hga (nn _ _), (h.ar.kept hg (.inr (some_ne nsa.symm))).kept hga (nn _ _), ?_, by omega, (h.below.setCell (p := ⟨bs, 3, none⟩) h.ps _).alloc (by simpa using h.below.size) _, h.ps, h.pf, h.pa, h.below.size, h.most, by simpa using hm⟩
  · rw [List.length_replicate]; exact h1.kept hga (nn _ _)
  · rw [List.length_replicate]; simpa [rowAt] using hmk
theorem rep_set (m k : Nat) (h : k < m) : (List.replicate k (-1 : Int) ++ List.replicate (m - k) 0).set k (-1) = List.replicate (k + 1) (-1) ++ List.replicate (m - (k + 1)) 0 := by
  obtain ⟨r, rfl⟩ : ∃ r, m = k + 1 + r := ⟨m - (k + 1), by omega⟩
  rw [show k + 1 + r - k = r + 1 by omega, show k + 1 + r - (k + 1) = r by omega, List.set_append_right _ _ (by simp), List.length_replicate, Nat.sub_self]
  rw [List.replicate_succ, List.set_cons_zero, List.replicate_succ' , List.append_assoc]
  rfl
theorem labels_c (h : Sh0 wp w bs bf ba vi L far at') (hV : OkL L) :
    Calls Try.prog 40 #[.pointer (some ⟨bs, 0, none⟩)] w fun e w' => e = .returned (.int .i64 (labE L)) ∧ Below wp.heap.size wp w' ∧ (labE L = 0 → ∃ bl, Sh wp w' bs bf ba bl vi L far at' (List.replicate (mostF L L.length + 1).toNat (-1))) := by
  have HE : Hid (labE L = if dupN L L.length = true then 6 else if misN L L.length = true then 4 else 0) := rfl
  have H := Lib.hid h
  have HV := Lib.hid hV
  have c0 := h.c0
  have hn := h.most
  have lbs : bs < w.heap.size := World.block_lt_of_cell? w _ c0
  obtain ⟨ai, ci, rfl, hit⟩ := h.it
  have hbp := h.below.size
  clear h hV hit
  have hmm := @run_makeMap Try.prog
  go_enter Try.func40, Try.ntmps40
  go_wp2_with fail
  clear hmm
  have M0 := Lib.hid (SetM.made w)
  go_loopw [4, 16] (fun mo i wr => ∃ (k : Nat), k ≤ L.length ∧ i = .int .i64 (k : Int) ∧ mo = .int .i64 (mostF L k) ∧ Hid (dupN L k = false) ∧ Hid (Below w.heap.size w wr) ∧ Hid (SetM wr w.heap.size k (memL L k)) ∧ w.heap.size < wr.heap.size) (fun _ i _ => L.length - (intOf i).toNat)
  case atStart => exact ⟨0, Nat.zero_le _, rfl, rfl, rfl, below_a1 _ _, M0, by simp⟩
  case round =>
    clear M0 c0
    obtain ⟨k, hk, rfl, rfl, D, B, M, hlw⟩ := hrel
    have S := Lib.hid (H.out.grow B.out)
    have c0 := S.out.c0
    by_cases hlk : k < L.length
    · obtain ⟨ai', ci', e, hit⟩ := S.out.it
      simp only [Value.slice.injEq] at e
      obtain ⟨rfl, -, rfl⟩ := e
      obtain ⟨b, o, rfl, hb, hc⟩ := hit k hlk
      have y0 := hc.kind
      have y1 := hc.op
      have y2 := hc.rd
      have y3 := hc.rs1
      have y4 := hc.rs2
      have y5 := hc.imm
      have y6 := hc.label
      simp only [Nat.add_zero] at y0
      have lbw : bs < wr.heap.size := World.block_lt_of_cell? wr _ c0
      have lb : b < wr.heap.size := World.block_lt_of_cell? wr _ y0
      have hl := item_label _ (HV.out k hlk)
      have hmo := mostF_bd L HV.out k hk
      have HD : Hid (dupN L (k + 1) = (dupN L k || ((L.getD k default).kind == 2 && memL L k (L.getD k default).label))) := rfl
      have HM : Hid (∀ x, memL L (k + 1) x = (((L.getD k default).kind == 2 && x == (L.getD k default).label) || memL L k x)) := fun x => rfl
      have HO : Hid (mostF L (k + 1) = if (L.getD k default).kind = 2 then max (mostF L k) (L.getD k default).label else mostF L k) := rfl
      have HDU : Hid (∀ j, j ≤ L.length → dupN L j = true → dupN L L.length = true) := fun j hj => dup_mono L _ j hj
      clear hit hc hb
      generalize L.getD k default = X at *
      obtain ⟨kind, ⟨op, rd, rs1, rs2, imm⟩, label⟩ := X
      dsimp only at y0 y1 y2 y3 y4 y5 y6 hl HD HM HO
      obtain ⟨hl1, hl2⟩ := hl
      obtain ⟨hmo1, hmo2⟩ := hmo
      have hwf := Lib.hid (wf_small label hl1 hl2)
      by_cases h2 : kind = 2
      · subst h2
        have hlook := SetM.look (M.out.grow (below_a1 wr (.cells #[.int .i64 2, .int .i64 op, .int .i64 rd, .int .i64 rs1, .int .i64 rs2, .int .i64 imm, .int .i64 label] 41))) label hwf.out
        cases hm : memL L k label
        · rw [hm] at hlook
          have hm := Lib.hid hm
          go_wp2_with (at_mapUpdate; refine SetM.put (M.out.grow (below_a1 wr (.cells #[.int .i64 2, .int .i64 op, .int .i64 rd, .int .i64 rs1, .int .i64 rs2, .int .i64 imm, .int .i64 label] 41))) label hwf.out (by unfold maxLen; omega) rfl _ _ _ rfl rfl rfl rfl ?_; intro w3 hs3 hg3; have z6 : w3.cell? ⟨wr.heap.size, 6, none⟩ = some (.int .i64 label) := hg3.cell (cell_of_heap (heap_new wr _ _ rfl) 6) (fun e => by simp at e; omega); have lw3 : wr.heap.size < w3.heap.size := (by have := hg3.size; simp at this; omega))
          go_round
          case rel =>
            refine ⟨k + 1, by omega, by go_num, ?_, ?_, ?_, hs3.to (fun x => by rw [HM.out]; rfl), by omega⟩
            · rw [HO.out, if_pos rfl]; split <;> (simp only [Value.int.injEq, true_and]; omega)
            · show _ = _; rw [HD.out, D.out, hm.out]; rfl
            · exact grownBelow (B.out.trans ((below_a1 wr _).mono (by omega))) hg3 (by simp; omega) (fun b e => by simp at e; omega)
          case measure => first | (simp [intOf]; done) | (simp [intOf]; omega)
        · rw [hm] at hlook
          have HDY : Hid (dupN L L.length = true) := HDU.out (k + 1) (by omega) (by rw [HD.out, hm]; simp)
          clear hm
          rw [if_pos HDY.out] at HE
          go_wp2_with fail
          go_ret
          exact ⟨retI HE.out.symm, H.out.below.trans ((B.out.trans ((below_a1 _ _).mono (by omega))).mono hbp), fun h => by rw [HE.out] at h; simp at h⟩
      · have h2' : (kind == 2) = false := beq_eq_false_iff_ne.2 h2
        have h2n : (kind != 2) = true := bne_iff_ne.2 h2
        go_wp2_with fail
        go_round
        case rel => exact ⟨k + 1, by omega, by go_num, by rw [HO.out, if_neg h2], by show _ = _; rw [HD.out, D.out, h2']; rfl, B.out.trans ((below_a1 _ _).mono (by omega)), ((M.out.grow (below_a1 _ _)).mono (Nat.le_succ _)).to (fun x => by rw [HM.out, h2']; rfl), by simp; omega⟩
        case measure => first | (simp [intOf]; done) | (simp [intOf]; omega)
    · obtain rfl : k = L.length := by omega
      rw [D.out, if_neg (by decide)] at HE
      have hmo := mostF_bd L HV.out L.length hk
      obtain ⟨hmo1, hmo2⟩ := hmo
      obtain ⟨m, hm⟩ : ∃ m : Nat, mostF L L.length = (m : Int) - 1 := ⟨(mostF L L.length + 1).toNat, by omega⟩
      have HM := Lib.hid hm
      rw [hm] at hmo1 hmo2 ⊢
      clear hm
      have lbw : bs < wr.heap.size := World.block_lt_of_cell? wr _ c0
      go_wp2_with fail
      go_loopw [40] (fun i wr => ∃ (k : Nat), k ≤ L.length ∧ i = .int .i64 (k : Int) ∧ Hid (misN L k = false) ∧ Hid (Below w.heap.size w wr) ∧ Hid (SetM wr w.heap.size L.length (memL L L.length)) ∧ w.heap.size < wr.heap.size) (fun i _ => L.length - (intOf i).toNat)
      case atStart => exact ⟨0, Nat.zero_le _, rfl, rfl, B, M, hlw⟩
      case round =>
        clear B M hlw S c0 lbw
        rename World => wy
        obtain ⟨k, hk, rfl, D2, B, M, hlw⟩ := hrel
        have S := Lib.hid (H.out.grow B.out)
        have c0 := S.out.c0
        by_cases hlk : k < L.length
        · obtain ⟨ai', ci', e, hit⟩ := S.out.it
          simp only [Value.slice.injEq] at e
          obtain ⟨rfl, -, rfl⟩ := e
          obtain ⟨b, o, rfl, hb, hc⟩ := hit k hlk
          have y0 := hc.kind
          have y1 := hc.op
          have y2 := hc.rd
          have y3 := hc.rs1
          have y4 := hc.rs2
          have y5 := hc.imm
          have y6 := hc.label
          simp only [Nat.add_zero] at y0
          have lbw : bs < wy.heap.size := World.block_lt_of_cell? wy _ c0
          have lb : b < wy.heap.size := World.block_lt_of_cell? wy _ y0
          have hl := item_label _ (HV.out k hlk)
          have HD : Hid (misN L (k + 1) = (misN L k || (((L.getD k default).kind == 3 || (L.getD k default).kind == 4) && !(memL L L.length (L.getD k default).label)))) := rfl
          have HDU : Hid (∀ j, j ≤ L.length → misN L j = true → misN L L.length = true) := fun j hj => mis_mono L _ j hj
          clear hit hc hb
          generalize L.getD k default = X at *
          obtain ⟨kind, ⟨op, rd, rs1, rs2, imm⟩, label⟩ := X
          dsimp only at y0 y1 y2 y3 y4 y5 y6 hl HD
          obtain ⟨hl1, hl2⟩ := hl
          have hwf := Lib.hid (wf_small label hl1 hl2)
          have hlook := SetM.look (M.out.grow (below_a1 wy (.cells #[.int .i64 kind, .int .i64 op, .int .i64 rd, .int .i64 rs1, .int .i64 rs2, .int .i64 imm, .int .i64 label] 41))) label hwf.out
          by_cases h3 : kind = 3
          · subst h3
            cases hm : memL L L.length label
            · rw [hm] at hlook
              have HDY : Hid (misN L L.length = true) := HDU.out (k + 1) (by omega) (by rw [HD.out, hm]; simp)
              clear hm
              rw [if_pos HDY.out] at HE
              go_wp2_with fail
              go_ret
              exact ⟨retI HE.out.symm, H.out.below.trans ((B.out.trans ((below_a1 _ _).mono (by omega))).mono hbp), fun h => by rw [HE.out] at h; simp at h⟩
            · rw [hm] at hlook
              have HD : Hid (misN L (k + 1) = false) := by show _ = _; rw [HD.out, D2.out, hm]; rfl
              clear hm
              go_wp2_with fail
              go_round
              case rel => exact ⟨k + 1, by omega, by go_num, HD, B.out.trans ((below_a1 _ _).mono (by omega)), M.out.grow (below_a1 _ _), by simp; omega⟩
              case measure => first | (simp [intOf]; done) | (simp [intOf]; omega)
          · have h3' : (kind == 3) = false := beq_eq_false_iff_ne.2 h3
            rw [h3', Bool.false_or] at HD
            by_cases h4 : kind = 4
            · subst h4
              clear h3
              cases hm : memL L L.length label
              · rw [hm] at hlook
                have HDY : Hid (misN L L.length = true) := HDU.out (k + 1) (by omega) (by rw [HD.out, hm]; simp)
                clear hm
                rw [if_pos HDY.out] at HE
                go_wp2_with fail
                go_ret
                exact ⟨retI HE.out.symm, H.out.below.trans ((B.out.trans ((below_a1 _ _).mono (by omega))).mono hbp), fun h => by rw [HE.out] at h; simp at h⟩
              · rw [hm] at hlook
                have HD : Hid (misN L (k + 1) = false) := by show _ = _; rw [HD.out, D2.out, hm]; rfl
                clear hm
                go_wp2_with fail
                go_round
                case rel => exact ⟨k + 1, by omega, by go_num, HD, B.out.trans ((below_a1 _ _).mono (by omega)), M.out.grow (below_a1 _ _), by simp; omega⟩
                case measure => first | (simp [intOf]; done) | (simp [intOf]; omega)
            · have h4' : (kind == 4) = false := beq_eq_false_iff_ne.2 h4
              rw [h4', Bool.false_and, Bool.or_false] at HD
              clear h3 h4 hlook
              go_wp2_with fail
              go_round
              case rel => exact ⟨k + 1, by omega, by go_num, by show _ = _; rw [HD.out, D2.out], B.out.trans ((below_a1 _ _).mono (by omega)), M.out.grow (below_a1 _ _), by simp; omega⟩
              case measure => first | (simp [intOf]; done) | (simp [intOf]; omega)
        · obtain rfl : k = L.length := by omega
          rw [D2.out, if_neg (by decide)] at HE
          have lbw : bs < wy.heap.size := World.block_lt_of_cell? wy _ c0
          have f3 := S.out.sh.frozenAt 3
          have c3 : wy.cell? ⟨bs, 3, none⟩ = some (.slice none 0 0) := S.out.sh.cellAt 3 (by decide)
          have hmk := run_make_row' (P := Try.prog) 26 3 (.int .i64 0) 8 Try.underlying26 infoInt rfl .i64 .i64 m (by omega) (by omega)
          have N0 := Lib.hid (S.out.begin m (by omega))
          go_wp2_with fail
          have hm2 : m ≤ 4096 := by omega
          have hgl : w.heap.size < wy.heap.size := hlw
          generalize ((wy.setCell ⟨bs, 3, none⟩ (.slice (some ⟨wy.heap.size, 0, none⟩) m m)).alloc (.cells (madeCells #[.int .i64 0] m) 3)) = W1 at N0 ⊢
          clear hmk c0 f3 c3
          generalize wy.heap.size = bl at *
          go_loopw [71] (fun i wr => ∃ (k : Nat), k ≤ m ∧ i = .int .i64 (k : Int) ∧ Hid (Sh wp wr bs bf ba bl (.slice ai L.length ci) L far at' (List.replicate k (-1) ++ List.replicate (m - k) 0))) (fun i _ => m - (intOf i).toNat)
          case atStart => exact ⟨0, Nat.zero_le _, rfl, by simpa using N0⟩
          case round =>
            clear N0
            rename World => wz
            obtain ⟨k, hk, rfl, N⟩ := hrel
            have hlen : (List.replicate k (-1 : Int) ++ List.replicate (m - k) 0).length = m := by simp; omega
            by_cases hlk : k < m
            · have c3 := N.out.c3
              have cl := N.out.cl (k := k) (by rw [hlen]; exact hlk)
              have fl := N.out.lr.frozenAt k
              rw [hlen] at c3
              have HS := Lib.hid (rep_set m k hlk)
              go_wp2_with fail
              go_round
              case rel => exact ⟨k + 1, by omega, by go_num, by have := N.out.setL k (-1); rw [HS.out] at this; exact this⟩
              case measure => first | (simp [intOf]; done) | (simp [intOf]; omega)
            · obtain rfl : k = m := by omega
              go_wp2_with fail
              go_ret
              refine ⟨retI HE.out.symm, N.out.below, fun _ => ⟨bl, ?_⟩⟩
              have := N.out
              rw [Nat.sub_self, List.replicate_zero, List.append_nil] at this
              rw [HM.out, show ((k : Int) - 1 + 1).toNat = k by omega]
              exact this
end
end Go.Proofs.Ytedihiodmgnlpaa
