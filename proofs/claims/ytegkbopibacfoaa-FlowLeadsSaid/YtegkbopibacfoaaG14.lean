/-
  Contract of the reference's walk into a block, which calls itself.
-/
import Derived.Test.YtegkbopibacfoaaG13
import Derived.Test.YtegkbopibacfoaaH2
import Derived.Test.YtegkbopibacfoaaE2
set_option linter.all false
namespace Go.Proofs.Ytegkbopibacfoaa
open Go.ChangeShapes Go.WideShapes Go.ChangeAt Go.RowKit
set_option maxHeartbeats 2000000
set_option maxRecDepth 20000

section
variable {w w' : World} {bw bs B n : Nat} {s : S3} {ov bv ov' bv' : Value}
theorem FrR.cell (h : FrR w w' bw bs ov bv ov' bv') {k o : Nat} (hk : k < w.heap.size) (k1 : k ≠ bw) (k2 : k ≠ bs) (k3 : ov.ownBlock ≠ some k) (k4 : bv.ownBlock ≠ some k) : w'.cell? ⟨k, o, none⟩ = w.cell? ⟨k, o, none⟩ :=
  World.cell?_of_block (w := w) (a := ⟨k, o, none⟩) (h.block k hk k1 k2 k3 k4)
theorem RM.stAt (h : RM w bw bs B n s ov bv) {k : Nat} (hk : k < n) : w.cell? ⟨bs, k, none⟩ = some (.int .i64 (s.st.getD k 0)) := by
  have := h.st.cellAt k (by omega)
  rw [List.getElem?_map, List.getElem?_eq_getElem (by rw [h.len]; exact hk), Option.map_some] at this
  rw [this]
  simp [List.getD, h.len, hk]
theorem RM.q0 (h : RM w bw bs B n s ov bv) : w.cell? ⟨bw, 0, none⟩ = some (.slice (some ⟨bs, 0, none⟩) n n) := (h.wk.cellAt 0 (by decide)).trans rfl
theorem RM.q1 (h : RM w bw bs B n s ov bv) : w.cell? ⟨bw, 1, none⟩ = some ov := (h.wk.cellAt 1 (by decide)).trans rfl
theorem RM.q2 (h : RM w bw bs B n s ov bv) : w.cell? ⟨bw, 2, none⟩ = some bv := (h.wk.cellAt 2 (by decide)).trans rfl
theorem RM.belowp {wp : World} {N : Nat} (h : RM w bw bs B n s ov bv) (hf : FrR w w' bw bs ov bv ov' bv') (hb : Below N wp w) (h1 : N ≤ bw) (h2 : N ≤ bs) : Below N wp w' := by
  have hBw := h.Bw
  have hbw := h.bwB
  refine ⟨hf.os.trans hb.os, hf.tape.trans hb.tape, hf.output.trans hb.output, Nat.le_trans hb.size hf.size, fun k hk => ?_⟩
  refine (hf.block k (by omega) (by omega) (by omega) (fun e => ?_) (fun e => ?_)).trans (hb.block k hk)
  · have := (h.ord.lt k e).1; omega
  · have := (h.back.lt k e).1; omega
theorem RM.far (h : RM w bw bs B n s ov bv) {k : Nat} (hk : w.heap.size ≤ k) : k ≠ bw ∧ k ≠ bs ∧ ov.ownBlock ≠ some k ∧ bv.ownBlock ≠ some k := by
  have h1 := h.Bw
  have h2 := h.bwB
  have h3 := h.bsB
  refine ⟨by omega, by omega, fun e => ?_, fun e => ?_⟩
  · have := (h.ord.lt k e).2; omega
  · have := (h.back.lt k e).2; omega
end
theorem rinto_c (p : Pr) (V : Value) (wp : World) (hP : PrV wp V p) (hlen : p.blks.length ≤ 1000000) : ∀ (f : Nat) (w : World) (bw bs B x : Nat) (s : S3) (ov bv : Value), Below wp.heap.size wp w → wp.heap.size ≤ bw → wp.heap.size ≤ bs →
    RM w bw bs B p.blks.length s ov bv → x < p.blks.length → s.look x = 0 → s.zeros ≤ f → phi s ≤ 9000000 →
    Calls Try.prog 57 #[.pointer (some ⟨bw, 0, none⟩), V, .int .i64 (x : Int)] w fun e w' => e = .returned (.tuple #[]) ∧ ∃ ov' bv', RM w' bw bs B p.blks.length (rI p f x s) ov' bv' ∧ FrR w w' bw bs ov bv ov' bv' := by
  intro f
  induction f with
  | zero =>
    intro w bw bs B x s ov bv _ _ _ hM hx h0 hz _
    have := zeros_enter s x (by rw [hM.len]; simpa using hx) h0
    omega
  | succ f ih =>
    intro w bw bs B x s ov bv hb hpw hps hM hx h0 hz hph
    have hP' := hP
    obtain ⟨nm, vo, vb, rfl, -, a, c, rfl, -, -, -⟩ := hP'
    have EO : Hid (∀ (k : Nat) w', Below wp.heap.size wp w' → k < p.blks.length → Calls Try.prog 18 #[.agg #[.string nm, .bool p.void, .int .i64 p.params, .int .i64 p.regs, vo, .slice a p.blks.length c], .int .i64 (k : Int)] w' (RetI w' (outsP p k))) := fun k w' hb hk =>
      routsP_c p _ k w' (hP.ext (Ext.below hb)) hk hlen
    have hbw : bw < w.heap.size := Nat.lt_of_lt_of_le hM.bwB hM.Bw
    have hbs : bs < w.heap.size := Nat.lt_of_lt_of_le hM.bsB hM.Bw
    have q0 : w.cell? ⟨bw, 0, none⟩ = some (.slice (some ⟨bs, 0, none⟩) p.blks.length p.blks.length) := (hM.wk.cellAt 0 (by decide)).trans rfl
    have qf := hM.st.frozenAt x
    have qc0 := hM.st.cellAt x (by omega)
    rw [List.getElem?_map, List.getElem?_eq_getElem (by rw [hM.len]; exact hx), Option.map_some] at qc0
    obtain ⟨y, qc⟩ : ∃ y, w.cell? ⟨bs, x, none⟩ = some (.int .i64 y) := ⟨_, qc0⟩
    clear qc0
    have HM := Lib.hid hM
    have IH := Lib.hid ih
    have HB := Lib.hid hb
    clear hM ih hb
    go_enter Try.func57, Try.ntmps57
    go_wp2_with fail
    obtain ⟨M1, F1⟩ := HM.out.setSt x 1
    obtain ⟨M2, F2⟩ := M1.grow (below_alloc _ (.cells #[.string nm, .bool p.void, .int .i64 p.params, .int .i64 p.regs, vo, .slice a p.blks.length c] 25))
    have hwp : wp.heap.size ≤ w.heap.size := by omega
    have hb2 : Below wp.heap.size wp ((w.setCell ⟨bs, x, none⟩ (.int .i64 1)).alloc (.cells #[.string nm, .bool p.void, .int .i64 p.params, .int .i64 p.regs, vo, .slice a p.blks.length c] 25)) := (HB.out.setCell hps _).alloc (by simpa using hwp) _
    refine (EO.out x _ hb2 hx).mono ?_
    rintro e w3 ⟨v3, rfl, ho3, hb3⟩
    obtain ⟨M3, F3⟩ := M2.grow hb3
    have M4 : Hid (RM w3 bw bs B p.blks.length (s.enter x) ov bv) := M3
    have F4 := Lib.hid ((F1.trans F2).trans F3)
    clear M1 F1 M2 F2 M3 F3
    have HR3 := Lib.hid ho3.rf
    obtain ⟨a3, c3, rfl, hl3, hm3, -⟩ := ho3.rd
    clear ho3
    have hph3 : Hid (phi (s.enter x) + 4 = phi s) := by
      have hx' : (x : Int).toNat < s.st.length := by rw [HM.out.len]; simpa using hx
      have h1 := zeros_enter s x hx' h0
      have e : (s.enter x).ord = s.ord ∧ (s.enter x).back = s.back := ⟨rfl, rfl⟩
      show _ = _
      unfold phi
      rw [e.1, e.2]
      omega
    have hz3 : (s.enter x).zeros ≤ f := by
      have := zeros_enter s x (by rw [HM.out.len]; simpa using hx) h0
      omega
    have hsl : (s.enter x).st.length = p.blks.length := by rw [enter_len]; exact HM.out.len
    have HL : Hid (∀ k, k ≤ (outsP p x).length → (((outsP p x).take k).foldl (hI p f x) (s.enter x)).zeros ≤ f ∧ phi (((outsP p x).take k).foldl (hI p f x) (s.enter x)) ≤ 8999998) := fun k hk => by
      refine ⟨Nat.le_trans (foldl_zeros_of p f (rI_zeros p f) x _ _) hz3, ?_⟩
      have h2 := foldl_phi p f x (rI_phi p f) ((outsP p x).take k) (s.enter x) hsl (fun t ht => outsP_mem (List.mem_of_mem_take ht))
      have h3 := outsP_len p x
      have h4 : ((outsP p x).take k).length ≤ 2 := by rw [List.length_take]; omega
      have := hph3.out
      omega
    have HS : Hid (∀ k, k < (outsP p x).length → ((outsP p x).take (k + 1)).foldl (hI p f x) (s.enter x) = hI p f x (((outsP p x).take k).foldl (hI p f x) (s.enter x)) ((outsP p x).getD k 0)) := fun k hk => by
      rw [take_snoc _ k hk, List.foldl_append]; rfl
    have HT : Hid (∀ k, k < (outsP p x).length → 0 ≤ (outsP p x).getD k 0 ∧ (outsP p x).getD k 0 < p.blks.length) := fun k hk => outsP_in p x k hk
    have HRI : Hid (rI p (f + 1) x s = ((outsP p x).foldl (hI p f x) (s.enter x)).leave x) := by
      show _ = _
      rw [rI_succ, Int.toNat_natCast]
    have hbs3 : w.heap.size + 1 ≤ w3.heap.size := by have := hb3.size; simpa using this
    have HBX : Hid (∀ j : Nat, j < 6 → w3.cell? ⟨w.heap.size, j, none⟩ = #[Value.string nm, .bool p.void, .int .i64 p.params, .int .i64 p.regs, vo, .slice a p.blks.length c][j]?) := fun j _ => by
      have h1 := hb3.cell (p := ⟨w.heap.size, j, none⟩) (by simp)
      rw [h1]
      have := cell_of_heap (heap_alloc_new (w.setCell ⟨bs, x, none⟩ (.int .i64 1)) (.cells #[.string nm, .bool p.void, .int .i64 p.params, .int .i64 p.regs, vo, .slice a p.blks.length c] 25)) j
      simpa using this
    have HFB : Hid (w.heap.size ≠ bw ∧ w.heap.size ≠ bs ∧ ov.ownBlock ≠ some w.heap.size ∧ bv.ownBlock ≠ some w.heap.size) := HM.out.far (Nat.le_refl _)
    have HFL : Hid (∀ k, w.heap.size + 1 ≤ k → k ≠ bw ∧ k ≠ bs ∧ ov.ownBlock ≠ some k ∧ bv.ownBlock ≠ some k) := fun k hk => HM.out.far (by omega)
    have HB3 : Hid (Below wp.heap.size wp w3) := hb2.trans (hb3.mono (by simp; omega))
    clear hb2 hb3 q0 qf qc HB hph hz hz3 hsl hph3
    have hLs := outsP_len p x
    generalize outsP p x = L at HL HS HT HRI HR3 hl3 hLs ⊢
    go_wp2_with fail
    go_loopw [7] (fun i wr => ∃ (k : Nat) (ov' bv' : Value), k ≤ L.length ∧ i = .int .i64 (k : Int) ∧ Hid (RM wr bw bs B p.blks.length ((L.take k).foldl (hI p f x) (s.enter x)) ov' bv') ∧ Hid (FrR w3 wr bw bs ov bv ov' bv')) (fun i _ => L.length - (intOf i).toNat)
    case atStart => exact ⟨0, ov, bv, Nat.zero_le _, rfl, M4, FrR.refl _ _ _ _ _⟩
    case round =>
      obtain ⟨k, ov', bv', hk, rfl, M, F⟩ := hrel
      obtain ⟨hz, hph⟩ := HL.out k hk
      by_cases hlt : k < L.length
      · have HSk := Lib.hid (HS.out k hlt)
        obtain ⟨ht0, ht1⟩ := HT.out k hlt
        obtain ⟨⟨a3', c3', e3, -, -, hcl⟩, hfar⟩ := HR3.out
        simp only [Value.slice.injEq] at e3
        obtain ⟨rfl, -, rfl⟩ := e3
        obtain ⟨b3, o3, rfl, hc3⟩ := hcl k hlt
        have hb3 : w.heap.size + 1 ≤ b3 := by have := hfar _ _ _ rfl; simpa using this
        simp only [Nat.mul_one, Nat.add_zero] at hc3
        generalize (L.take k).foldl (hI p f x) (s.enter x) = s' at M hz hph HSk
        generalize L.getD k 0 = t at HSk ht0 ht1 hc3
        obtain ⟨tk, rfl⟩ := Int.eq_ofNat_of_zero_le ht0
        have htk : tk < p.blks.length := by omega
        have hb3l : b3 < w3.heap.size := World.block_lt_of_cell? w3 _ hc3
        obtain ⟨f1, f2, f3, f4⟩ := HFL.out b3 hb3
        have HC3 := Lib.hid hc3
        clear hc3 hcl hfar ht0 ht1
        go_wp2_with fail
        obtain ⟨W5, hW5⟩ : ∃ W5, W5 = wr.drew := ⟨_, rfl⟩
        obtain ⟨M5, F5⟩ := M.out.grow (Below.drew (Below.refl _ _))
        rw [← hW5] at M5 F5
        refine wp_region_game (fun b => b = bw ∨ b = bs ∨ b = b3) (by kernel_rfl) ?_
        show wpE _ _ _ _ _ _ _ wr.drew
        rw [← hW5]
        clear hW5 M
        have F := Lib.hid (F.out.trans F5)
        clear F5
        have qc := (F.out.cell (o := o3 + k) hb3l f1 f2 f3 f4).trans HC3.out
        have q0 := M5.q0
        have qt := M5.stAt htk
        have hyl : Hid (s'.look (tk : Int) = s'.st.getD tk 0) := rfl
        have M5 := Lib.hid M5
        generalize s'.st.getD tk 0 = y at hyl qt
        by_cases hy1 : y = 1
        · subst hy1
          have HI1 : Hid (hI p f x s' (tk : Int) = s'.loop x tk) := by show _ = _; unfold hI; rw [if_pos hyl.out]
          refine E_mob2 0 _ rfl (by kernel_rfl) ?_
          simp only [List.getElem_toArray, List.getElem_cons_succ, List.getElem_cons_zero]
          go_big_quiet_step (fail)
          refine wpQuiet_nil ?_
          refine E_mob2 1 _ rfl (by kernel_rfl) ?_
          simp only [List.getElem_toArray, List.getElem_cons_succ, List.getElem_cons_zero]
          go_big_quiet_step (fail)
          refine wpQuiet_nil ?_
          refine E_mob2 2 _ rfl (by kernel_rfl) ?_
          simp only [List.getElem_toArray, List.getElem_cons_succ, List.getElem_cons_zero]
          go_big_quiet_step (fail)
          refine wpQuiet_nil ?_
          refine E_mob2 3 _ rfl (by kernel_rfl) ?_
          simp only [List.getElem_toArray, List.getElem_cons_succ, List.getElem_cons_zero]
          go_big_quiet_step (fail)
          refine wpQuiet_nil ?_
          refine E_mob2 4 _ rfl (by kernel_rfl) ?_
          simp only [List.getElem_toArray, List.getElem_cons_succ, List.getElem_cons_zero]
          go_big_quiet_step (fail)
          refine wpQuiet_nil ?_
          refine E_mob2 5 _ rfl (by kernel_rfl) ?_
          simp only [List.getElem_toArray, List.getElem_cons_succ, List.getElem_cons_zero]
          go_big_quiet_step (fail)
          refine wpQuiet_nil ?_
          refine E_mob2 6 _ rfl (by kernel_rfl) ?_
          simp only [List.getElem_toArray, List.getElem_cons_succ, List.getElem_cons_zero]
          go_big_quiet_step (fail)
          refine wpQuiet_nil ?_
          refine E_mob2 7 _ rfl (by kernel_rfl) ?_
          simp only [List.getElem_toArray, List.getElem_cons_succ, List.getElem_cons_zero]
          go_big_quiet_step (fail)
          refine wpQuiet_nil ?_
          refine E_mob2 8 _ rfl (by kernel_rfl) ?_
          simp only [List.getElem_toArray, List.getElem_cons_succ, List.getElem_cons_zero]
          go_big_quiet_step (fail)
          refine wpQuiet_nil ?_
          refine E_mob2 9 _ rfl (by kernel_rfl) ?_
          simp only [List.getElem_toArray, List.getElem_cons_succ, List.getElem_cons_zero]
          go_big_quiet_step (fail)
          refine wpQuiet_nil ?_
          refine E_mob2 10 _ rfl (by kernel_rfl) ?_
          simp only [List.getElem_toArray, List.getElem_cons_succ, List.getElem_cons_zero]
          go_big_quiet_step (fail)
          refine wpQuiet_nil ?_
          refine E_done (by kernel_rfl) ?_ _
          clear qc q0 qt
          go_wp2_with fail
          obtain ⟨W6, hW6⟩ : ∃ W6, W6 = W5.drew := ⟨_, rfl⟩
          obtain ⟨M6, F6⟩ := M5.out.grow (Below.drew (Below.refl _ _))
          rw [← hW6] at M6 F6
          refine wp_region_game (fun b => b = b3) (by kernel_rfl) ?_
          show wpE _ _ _ _ _ _ _ W5.drew
          rw [← hW6]
          clear hW6 M5
          have F := Lib.hid (F.out.trans F6)
          clear F6
          have qc := (F.out.cell (o := o3 + k) hb3l f1 f2 f3 f4).trans HC3.out
          have q2 := M6.q2
          have hbw : bw < W6.heap.size := Nat.lt_of_lt_of_le M6.bwB M6.Bw
          have hgt : b3 < W6.heap.size := Nat.lt_of_lt_of_le hb3l F.out.size
          have g4 : bv'.ownBlock ≠ some b3 := newB_far F.out.nb hb3l f4
          have M6 := Lib.hid M6
          have HB1 : Hid (s'.back.length ≤ 1000000000) := by
            show _ ≤ _
            unfold phi at hph
            omega
          refine E_mob2 0 _ rfl (by kernel_rfl) ?_
          simp only [List.getElem_toArray, List.getElem_cons_succ, List.getElem_cons_zero]
          go_big_quiet_step (fail)
          refine wpQuiet_nil ?_
          refine E_mob2 1 _ rfl (by kernel_rfl) ?_
          simp only [List.getElem_toArray, List.getElem_cons_succ, List.getElem_cons_zero]
          go_big_quiet_step (fail)
          refine wpQuiet_nil ?_
          refine E_mob2 2 _ rfl (by kernel_rfl) ?_
          simp only [List.getElem_toArray, List.getElem_cons_succ, List.getElem_cons_zero]
          go_big_quiet_step (fail)
          refine wpQuiet_nil ?_
          refine E_mob2 3 _ rfl (by kernel_rfl) ?_
          simp only [List.getElem_toArray, List.getElem_cons_succ, List.getElem_cons_zero]
          go_big_quiet_step (fail)
          refine wpQuiet_nil ?_
          refine E_mob2 5 _ rfl (by kernel_rfl) ?_
          simp only [List.getElem_toArray, List.getElem_cons_succ, List.getElem_cons_zero]
          go_big_quiet_step (fail)
          refine wpQuiet_nil ?_
          refine E_mob2 6 _ rfl (by kernel_rfl) ?_
          simp only [List.getElem_toArray, List.getElem_cons_succ, List.getElem_cons_zero]
          go_big_quiet_step (fail)
          refine wpQuiet_nil ?_
          refine E_mob2 7 _ rfl (by kernel_rfl) ?_
          simp only [List.getElem_toArray, List.getElem_cons_succ, List.getElem_cons_zero]
          go_big_quiet_step (fail)
          refine wpQuiet_nil ?_
          refine E_mob2 8 _ rfl (by kernel_rfl) ?_
          simp only [List.getElem_toArray, List.getElem_cons_succ, List.getElem_cons_zero]
          go_big_quiet_step (fail)
          refine wpQuiet_nil ?_
          refine E_mob2 9 _ rfl (by kernel_rfl) ?_
          simp only [List.getElem_toArray, List.getElem_cons_succ, List.getElem_cons_zero]
          go_big_quiet_step (fail)
          refine wpQuiet_nil ?_
          refine E_mob2 10 _ rfl (by kernel_rfl) ?_
          simp only [List.getElem_toArray, List.getElem_cons_succ, List.getElem_cons_zero]
          go_big_quiet_step (fail)
          refine wpQuiet_nil ?_
          refine E_loud2 4 11 _ _ rfl rfl (by kernel_rfl) ?_ ?_
          · simp only [List.getElem_toArray, List.getElem_cons_succ, List.getElem_cons_zero]
            go_wp2_with fail
            refine ⟨Keep.refl _ _, ?_⟩
            refine E_loud1 11 _ rfl (by kernel_rfl) ?_
            simp only [List.getElem_toArray, List.getElem_cons_succ, List.getElem_cons_zero]
            go_wp2_with fail
            refine ⟨keep_alloc (fun b hb => by rw [hb]; exact hgt), ?_⟩
            obtain ⟨M8, F8⟩ := M6.out.grow (below_alloc W6 (.cells #[.int .i64 (x : Int), .int .i64 (tk : Int)] 42))
            have M8 := Lib.hid M8
            have F8 := Lib.hid F8
            refine E_loud1 12 _ rfl (by kernel_rfl) ?_
            simp only [List.getElem_toArray, List.getElem_cons_succ, List.getElem_cons_zero]
            refine appD 38 42 info_pair Try.underlying38 rfl (by decide) (y := .int .i64 (x : Int)) (z' := .int .i64 (tk : Int)) M8.out.back rfl rfl rfl rfl (by simp) (by simp) rfl rfl HB1.out M8.out.Bw ?_
            intro v2 w2 h2 hg2 ha2
            obtain ⟨M9, F9⟩ := M8.out.backs hg2 h2 ha2
            have M9 := Lib.hid M9
            have F9 := Lib.hid F9
            have HK2 := Lib.hid (keep_grown (S := fun b => b = b3) hg2 (fun b hb => by rw [hb]; exact ⟨by simp; omega, g4⟩))
            have hbw2 : bw < w2.heap.size := Nat.lt_of_lt_of_le (by simp; omega) hg2.size
            have qn2 : bv'.ownBlock ≠ some bw := fun e => by have := (M8.out.back.lt bw e).1; have := M8.out.bwB; omega
            have qw2 : w2.frozen? ⟨bw, 2, none⟩ = false := (grown_frozen hg2 (by simp; omega) qn2).trans (M8.out.wk.frozenAt 2)
            have qc2 : w2.cell? ⟨bw, 2, none⟩ = some bv' := (grown_cell hg2 (by simp; omega) qn2).trans M8.out.q2
            obtain ⟨a2, c2, rfl⟩ := row_form h2
            clear h2 hg2 ha2 qn2
            go_wp2_with fail
            refine ⟨HK2.out, ?_⟩
            refine E_mob2 13 _ rfl (by kernel_rfl) ?_
            simp only [List.getElem_toArray, List.getElem_cons_succ, List.getElem_cons_zero]
            go_big_quiet_step (fail)
            refine wpQuiet_nil ?_
            refine E_mob2 14 _ rfl (by kernel_rfl) ?_
            simp only [List.getElem_toArray, List.getElem_cons_succ, List.getElem_cons_zero]
            go_big_quiet_step (fail)
            refine wpQuiet_nil ?_
            refine E_loud1 15 _ rfl (by kernel_rfl) ?_
            simp only [List.getElem_toArray, List.getElem_cons_succ, List.getElem_cons_zero]
            go_wp2_with fail
            refine ⟨keep_set _ (Ne.symm f1), ?_⟩
            refine E_done (by kernel_rfl) ?_ _
            clear q2 qc hbw hgt HK2 hbw2 qw2 qc2 M8
            generalize w2.setCell ⟨bw, 2, none⟩ _ = W10 at M9 F9 ⊢
            go_wp2_with fail
            have F10 := Lib.hid (F.out.trans (F8.out.trans F9.out))
            clear F8 F9 F
            obtain ⟨W11, hW11⟩ : ∃ W11, W11 = W10.drew := ⟨_, rfl⟩
            obtain ⟨M11, F11⟩ := M9.out.grow (Below.drew (Below.refl _ _))
            rw [← hW11] at M11 F11
            refine wp_region_game (fun b => b = bw ∨ b = bs ∨ b = b3) (by kernel_rfl) ?_
            show wpE _ _ _ _ _ _ _ W10.drew
            rw [← hW11]
            clear hW11 M9
            have F := Lib.hid (F10.out.trans F11)
            clear F10 F11
            have qc := (F.out.cell (o := o3 + k) hb3l f1 f2 f3 f4).trans HC3.out
            have q0 := M11.q0
            have qt : W11.cell? ⟨bs, tk, none⟩ = some (.int .i64 1) := (M11.stAt htk).trans (by rw [← hyl.out]; rfl)
            have M11 := Lib.hid M11
            refine E_mob2 0 _ rfl (by kernel_rfl) ?_
            simp only [List.getElem_toArray, List.getElem_cons_succ, List.getElem_cons_zero]
            go_big_quiet_step (fail)
            refine wpQuiet_nil ?_
            refine E_mob2 1 _ rfl (by kernel_rfl) ?_
            simp only [List.getElem_toArray, List.getElem_cons_succ, List.getElem_cons_zero]
            go_big_quiet_step (fail)
            refine wpQuiet_nil ?_
            refine E_mob2 2 _ rfl (by kernel_rfl) ?_
            simp only [List.getElem_toArray, List.getElem_cons_succ, List.getElem_cons_zero]
            go_big_quiet_step (fail)
            refine wpQuiet_nil ?_
            refine E_mob2 3 _ rfl (by kernel_rfl) ?_
            simp only [List.getElem_toArray, List.getElem_cons_succ, List.getElem_cons_zero]
            go_big_quiet_step (fail)
            refine wpQuiet_nil ?_
            refine E_mob2 4 _ rfl (by kernel_rfl) ?_
            simp only [List.getElem_toArray, List.getElem_cons_succ, List.getElem_cons_zero]
            go_big_quiet_step (fail)
            refine wpQuiet_nil ?_
            refine E_mob2 5 _ rfl (by kernel_rfl) ?_
            simp only [List.getElem_toArray, List.getElem_cons_succ, List.getElem_cons_zero]
            go_big_quiet_step (fail)
            refine wpQuiet_nil ?_
            refine E_mob2 6 _ rfl (by kernel_rfl) ?_
            simp only [List.getElem_toArray, List.getElem_cons_succ, List.getElem_cons_zero]
            go_big_quiet_step (fail)
            refine wpQuiet_nil ?_
            refine E_mob2 7 _ rfl (by kernel_rfl) ?_
            simp only [List.getElem_toArray, List.getElem_cons_succ, List.getElem_cons_zero]
            go_big_quiet_step (fail)
            refine wpQuiet_nil ?_
            refine E_mob2 8 _ rfl (by kernel_rfl) ?_
            simp only [List.getElem_toArray, List.getElem_cons_succ, List.getElem_cons_zero]
            go_big_quiet_step (fail)
            refine wpQuiet_nil ?_
            refine E_mob2 9 _ rfl (by kernel_rfl) ?_
            simp only [List.getElem_toArray, List.getElem_cons_succ, List.getElem_cons_zero]
            go_big_quiet_step (fail)
            refine wpQuiet_nil ?_
            refine E_mob2 10 _ rfl (by kernel_rfl) ?_
            simp only [List.getElem_toArray, List.getElem_cons_succ, List.getElem_cons_zero]
            go_big_quiet_step (fail)
            refine wpQuiet_nil ?_
            refine E_done (by kernel_rfl) ?_ _
            clear qc q0 qt
            go_wp2_with fail
            go_roundw
            case rel => exact ⟨k + 1, ov', _, by omega, by go_num, by rw [HSk.out, HI1.out]; exact M11.out, F⟩
            case measure => simp [intOf]; omega
          · simp only [List.getElem_toArray, List.getElem_cons_succ, List.getElem_cons_zero]
            go_wp2_with fail
            refine ⟨keep_alloc (fun b hb => by rw [hb]; exact hgt), ?_⟩
            refine E_loud1 4 _ rfl (by kernel_rfl) ?_
            simp only [List.getElem_toArray, List.getElem_cons_succ, List.getElem_cons_zero]
            go_wp2_with fail
            refine ⟨Keep.refl _ _, ?_⟩
            obtain ⟨M8, F8⟩ := M6.out.grow (below_alloc W6 (.cells #[.int .i64 (x : Int), .int .i64 (tk : Int)] 42))
            have M8 := Lib.hid M8
            have F8 := Lib.hid F8
            refine E_loud1 12 _ rfl (by kernel_rfl) ?_
            simp only [List.getElem_toArray, List.getElem_cons_succ, List.getElem_cons_zero]
            refine appD 38 42 info_pair Try.underlying38 rfl (by decide) (y := .int .i64 (x : Int)) (z' := .int .i64 (tk : Int)) M8.out.back rfl rfl rfl rfl (by simp) (by simp) rfl rfl HB1.out M8.out.Bw ?_
            intro v2 w2 h2 hg2 ha2
            obtain ⟨M9, F9⟩ := M8.out.backs hg2 h2 ha2
            have M9 := Lib.hid M9
            have F9 := Lib.hid F9
            have HK2 := Lib.hid (keep_grown (S := fun b => b = b3) hg2 (fun b hb => by rw [hb]; exact ⟨by simp; omega, g4⟩))
            have hbw2 : bw < w2.heap.size := Nat.lt_of_lt_of_le (by simp; omega) hg2.size
            have qn2 : bv'.ownBlock ≠ some bw := fun e => by have := (M8.out.back.lt bw e).1; have := M8.out.bwB; omega
            have qw2 : w2.frozen? ⟨bw, 2, none⟩ = false := (grown_frozen hg2 (by simp; omega) qn2).trans (M8.out.wk.frozenAt 2)
            have qc2 : w2.cell? ⟨bw, 2, none⟩ = some bv' := (grown_cell hg2 (by simp; omega) qn2).trans M8.out.q2
            obtain ⟨a2, c2, rfl⟩ := row_form h2
            clear h2 hg2 ha2 qn2
            go_wp2_with fail
            refine ⟨HK2.out, ?_⟩
            refine E_mob2 13 _ rfl (by kernel_rfl) ?_
            simp only [List.getElem_toArray, List.getElem_cons_succ, List.getElem_cons_zero]
            go_big_quiet_step (fail)
            refine wpQuiet_nil ?_
            refine E_mob2 14 _ rfl (by kernel_rfl) ?_
            simp only [List.getElem_toArray, List.getElem_cons_succ, List.getElem_cons_zero]
            go_big_quiet_step (fail)
            refine wpQuiet_nil ?_
            refine E_loud1 15 _ rfl (by kernel_rfl) ?_
            simp only [List.getElem_toArray, List.getElem_cons_succ, List.getElem_cons_zero]
            go_wp2_with fail
            refine ⟨keep_set _ (Ne.symm f1), ?_⟩
            refine E_done (by kernel_rfl) ?_ _
            clear q2 qc hbw hgt HK2 hbw2 qw2 qc2 M8
            generalize w2.setCell ⟨bw, 2, none⟩ _ = W10 at M9 F9 ⊢
            go_wp2_with fail
            have F10 := Lib.hid (F.out.trans (F8.out.trans F9.out))
            clear F8 F9 F
            obtain ⟨W11, hW11⟩ : ∃ W11, W11 = W10.drew := ⟨_, rfl⟩
            obtain ⟨M11, F11⟩ := M9.out.grow (Below.drew (Below.refl _ _))
            rw [← hW11] at M11 F11
            refine wp_region_game (fun b => b = bw ∨ b = bs ∨ b = b3) (by kernel_rfl) ?_
            show wpE _ _ _ _ _ _ _ W10.drew
            rw [← hW11]
            clear hW11 M9
            have F := Lib.hid (F10.out.trans F11)
            clear F10 F11
            have qc := (F.out.cell (o := o3 + k) hb3l f1 f2 f3 f4).trans HC3.out
            have q0 := M11.q0
            have qt : W11.cell? ⟨bs, tk, none⟩ = some (.int .i64 1) := (M11.stAt htk).trans (by rw [← hyl.out]; rfl)
            have M11 := Lib.hid M11
            refine E_mob2 0 _ rfl (by kernel_rfl) ?_
            simp only [List.getElem_toArray, List.getElem_cons_succ, List.getElem_cons_zero]
            go_big_quiet_step (fail)
            refine wpQuiet_nil ?_
            refine E_mob2 1 _ rfl (by kernel_rfl) ?_
            simp only [List.getElem_toArray, List.getElem_cons_succ, List.getElem_cons_zero]
            go_big_quiet_step (fail)
            refine wpQuiet_nil ?_
            refine E_mob2 2 _ rfl (by kernel_rfl) ?_
            simp only [List.getElem_toArray, List.getElem_cons_succ, List.getElem_cons_zero]
            go_big_quiet_step (fail)
            refine wpQuiet_nil ?_
            refine E_mob2 3 _ rfl (by kernel_rfl) ?_
            simp only [List.getElem_toArray, List.getElem_cons_succ, List.getElem_cons_zero]
            go_big_quiet_step (fail)
            refine wpQuiet_nil ?_
            refine E_mob2 4 _ rfl (by kernel_rfl) ?_
            simp only [List.getElem_toArray, List.getElem_cons_succ, List.getElem_cons_zero]
            go_big_quiet_step (fail)
            refine wpQuiet_nil ?_
            refine E_mob2 5 _ rfl (by kernel_rfl) ?_
            simp only [List.getElem_toArray, List.getElem_cons_succ, List.getElem_cons_zero]
            go_big_quiet_step (fail)
            refine wpQuiet_nil ?_
            refine E_mob2 6 _ rfl (by kernel_rfl) ?_
            simp only [List.getElem_toArray, List.getElem_cons_succ, List.getElem_cons_zero]
            go_big_quiet_step (fail)
            refine wpQuiet_nil ?_
            refine E_mob2 7 _ rfl (by kernel_rfl) ?_
            simp only [List.getElem_toArray, List.getElem_cons_succ, List.getElem_cons_zero]
            go_big_quiet_step (fail)
            refine wpQuiet_nil ?_
            refine E_mob2 8 _ rfl (by kernel_rfl) ?_
            simp only [List.getElem_toArray, List.getElem_cons_succ, List.getElem_cons_zero]
            go_big_quiet_step (fail)
            refine wpQuiet_nil ?_
            refine E_mob2 9 _ rfl (by kernel_rfl) ?_
            simp only [List.getElem_toArray, List.getElem_cons_succ, List.getElem_cons_zero]
            go_big_quiet_step (fail)
            refine wpQuiet_nil ?_
            refine E_mob2 10 _ rfl (by kernel_rfl) ?_
            simp only [List.getElem_toArray, List.getElem_cons_succ, List.getElem_cons_zero]
            go_big_quiet_step (fail)
            refine wpQuiet_nil ?_
            refine E_done (by kernel_rfl) ?_ _
            clear qc q0 qt
            go_wp2_with fail
            go_roundw
            case rel => exact ⟨k + 1, ov', _, by omega, by go_num, by rw [HSk.out, HI1.out]; exact M11.out, F⟩
            case measure => simp [intOf]; omega
        · have hy1' : (y == 1) = false := beq_eq_false_iff_ne.2 hy1
          refine E_mob2 0 _ rfl (by kernel_rfl) ?_
          simp only [List.getElem_toArray, List.getElem_cons_succ, List.getElem_cons_zero]
          go_big_quiet_step (fail)
          refine wpQuiet_nil ?_
          refine E_mob2 1 _ rfl (by kernel_rfl) ?_
          simp only [List.getElem_toArray, List.getElem_cons_succ, List.getElem_cons_zero]
          go_big_quiet_step (fail)
          refine wpQuiet_nil ?_
          refine E_mob2 2 _ rfl (by kernel_rfl) ?_
          simp only [List.getElem_toArray, List.getElem_cons_succ, List.getElem_cons_zero]
          go_big_quiet_step (fail)
          refine wpQuiet_nil ?_
          refine E_mob2 3 _ rfl (by kernel_rfl) ?_
          simp only [List.getElem_toArray, List.getElem_cons_succ, List.getElem_cons_zero]
          go_big_quiet_step (fail)
          refine wpQuiet_nil ?_
          refine E_mob2 4 _ rfl (by kernel_rfl) ?_
          simp only [List.getElem_toArray, List.getElem_cons_succ, List.getElem_cons_zero]
          go_big_quiet_step (fail)
          refine wpQuiet_nil ?_
          refine E_mob2 5 _ rfl (by kernel_rfl) ?_
          simp only [List.getElem_toArray, List.getElem_cons_succ, List.getElem_cons_zero]
          go_big_quiet_step (fail)
          refine wpQuiet_nil ?_
          refine E_mob2 6 _ rfl (by kernel_rfl) ?_
          simp only [List.getElem_toArray, List.getElem_cons_succ, List.getElem_cons_zero]
          go_big_quiet_step (fail)
          refine wpQuiet_nil ?_
          refine E_mob2 7 _ rfl (by kernel_rfl) ?_
          simp only [List.getElem_toArray, List.getElem_cons_succ, List.getElem_cons_zero]
          go_big_quiet_step (fail)
          refine wpQuiet_nil ?_
          refine E_mob2 8 _ rfl (by kernel_rfl) ?_
          simp only [List.getElem_toArray, List.getElem_cons_succ, List.getElem_cons_zero]
          go_big_quiet_step (fail)
          refine wpQuiet_nil ?_
          refine E_mob2 9 _ rfl (by kernel_rfl) ?_
          simp only [List.getElem_toArray, List.getElem_cons_succ, List.getElem_cons_zero]
          go_big_quiet_step (fail)
          refine wpQuiet_nil ?_
          refine E_mob2 10 _ rfl (by kernel_rfl) ?_
          simp only [List.getElem_toArray, List.getElem_cons_succ, List.getElem_cons_zero]
          go_big_quiet_step (fail)
          refine wpQuiet_nil ?_
          refine E_done (by kernel_rfl) ?_ _
          clear qc q0 qt hy1'
          go_wp2_with fail
          obtain ⟨W6, hW6⟩ : ∃ W6, W6 = W5.drew := ⟨_, rfl⟩
          obtain ⟨M6, F6⟩ := M5.out.grow (Below.drew (Below.refl _ _))
          rw [← hW6] at M6 F6
          refine wp_region_game (fun b => b = bw ∨ b = bs ∨ b = b3) (by kernel_rfl) ?_
          show wpE _ _ _ _ _ _ _ W5.drew
          rw [← hW6]
          clear hW6 M5
          have F := Lib.hid (F.out.trans F6)
          clear F6
          have qc := (F.out.cell (o := o3 + k) hb3l f1 f2 f3 f4).trans HC3.out
          have q0 := M6.q0
          have qt : W6.cell? ⟨bs, tk, none⟩ = some (.int .i64 y) := (M6.stAt htk).trans (by rw [← hyl.out]; rfl)
          have M6 := Lib.hid M6
          by_cases hy0 : y = 0
          · subst hy0
            have HI1 : Hid (hI p f x s' (tk : Int) = rI p f tk s') := by show _ = _; unfold hI; rw [if_neg (by rw [hyl.out]; decide), if_pos hyl.out]
            refine E_mob2 0 _ rfl (by kernel_rfl) ?_
            simp only [List.getElem_toArray, List.getElem_cons_succ, List.getElem_cons_zero]
            go_big_quiet_step (fail)
            refine wpQuiet_nil ?_
            refine E_mob2 1 _ rfl (by kernel_rfl) ?_
            simp only [List.getElem_toArray, List.getElem_cons_succ, List.getElem_cons_zero]
            go_big_quiet_step (fail)
            refine wpQuiet_nil ?_
            refine E_mob2 2 _ rfl (by kernel_rfl) ?_
            simp only [List.getElem_toArray, List.getElem_cons_succ, List.getElem_cons_zero]
            go_big_quiet_step (fail)
            refine wpQuiet_nil ?_
            refine E_mob2 3 _ rfl (by kernel_rfl) ?_
            simp only [List.getElem_toArray, List.getElem_cons_succ, List.getElem_cons_zero]
            go_big_quiet_step (fail)
            refine wpQuiet_nil ?_
            refine E_mob2 4 _ rfl (by kernel_rfl) ?_
            simp only [List.getElem_toArray, List.getElem_cons_succ, List.getElem_cons_zero]
            go_big_quiet_step (fail)
            refine wpQuiet_nil ?_
            refine E_mob2 5 _ rfl (by kernel_rfl) ?_
            simp only [List.getElem_toArray, List.getElem_cons_succ, List.getElem_cons_zero]
            go_big_quiet_step (fail)
            refine wpQuiet_nil ?_
            refine E_mob2 6 _ rfl (by kernel_rfl) ?_
            simp only [List.getElem_toArray, List.getElem_cons_succ, List.getElem_cons_zero]
            go_big_quiet_step (fail)
            refine wpQuiet_nil ?_
            refine E_mob2 7 _ rfl (by kernel_rfl) ?_
            simp only [List.getElem_toArray, List.getElem_cons_succ, List.getElem_cons_zero]
            go_big_quiet_step (fail)
            refine wpQuiet_nil ?_
            refine E_mob2 8 _ rfl (by kernel_rfl) ?_
            simp only [List.getElem_toArray, List.getElem_cons_succ, List.getElem_cons_zero]
            go_big_quiet_step (fail)
            refine wpQuiet_nil ?_
            refine E_mob2 9 _ rfl (by kernel_rfl) ?_
            simp only [List.getElem_toArray, List.getElem_cons_succ, List.getElem_cons_zero]
            go_big_quiet_step (fail)
            refine wpQuiet_nil ?_
            refine E_mob2 10 _ rfl (by kernel_rfl) ?_
            simp only [List.getElem_toArray, List.getElem_cons_succ, List.getElem_cons_zero]
            go_big_quiet_step (fail)
            refine wpQuiet_nil ?_
            refine E_done (by kernel_rfl) ?_ _
            clear qc q0 qt
            go_wp2_with fail
            obtain ⟨W7, hW7⟩ : ∃ W7, W7 = W6.drew := ⟨_, rfl⟩
            obtain ⟨M7, F7⟩ := M6.out.grow (Below.drew (Below.refl _ _))
            rw [← hW7] at M7 F7
            refine wp_region_game (fun b => b = w.heap.size ∨ b = b3) (by kernel_rfl) ?_
            show wpE _ _ _ _ _ _ _ W6.drew
            rw [← hW7]
            clear hW7 M6
            have F := Lib.hid (F.out.trans F7)
            clear F7
            have qc := (F.out.cell (o := o3 + k) hb3l f1 f2 f3 f4).trans HC3.out
            obtain ⟨z1, z2, z3, z4⟩ := HFB.out
            have x0 := (F.out.cell (o := 0) hbs3 z1 z2 z3 z4).trans (HBX.out 0 (by decide))
            have x1 := (F.out.cell (o := 1) hbs3 z1 z2 z3 z4).trans (HBX.out 1 (by decide))
            have x2 := (F.out.cell (o := 2) hbs3 z1 z2 z3 z4).trans (HBX.out 2 (by decide))
            have x3 := (F.out.cell (o := 3) hbs3 z1 z2 z3 z4).trans (HBX.out 3 (by decide))
            have x4 := (F.out.cell (o := 4) hbs3 z1 z2 z3 z4).trans (HBX.out 4 (by decide))
            have x5 := (F.out.cell (o := 5) hbs3 z1 z2 z3 z4).trans (HBX.out 5 (by decide))
            simp at x0 x1 x2 x3 x4 x5
            have hB7 := Lib.hid (M4.out.belowp F.out HB3.out hpw hps)
            have M7 := Lib.hid M7
            refine E_mob2 0 _ rfl (by kernel_rfl) ?_
            simp only [List.getElem_toArray, List.getElem_cons_succ, List.getElem_cons_zero]
            go_big_quiet_step (fail)
            refine wpQuiet_nil ?_
            refine E_mob2 1 _ rfl (by kernel_rfl) ?_
            simp only [List.getElem_toArray, List.getElem_cons_succ, List.getElem_cons_zero]
            go_big_quiet_step (fail)
            refine wpQuiet_nil ?_
            refine E_mob2 2 _ rfl (by kernel_rfl) ?_
            simp only [List.getElem_toArray, List.getElem_cons_succ, List.getElem_cons_zero]
            go_big_quiet_step (fail)
            refine wpQuiet_nil ?_
            refine E_mob2 3 _ rfl (by kernel_rfl) ?_
            simp only [List.getElem_toArray, List.getElem_cons_succ, List.getElem_cons_zero]
            go_big_quiet_step (fail)
            refine wpQuiet_nil ?_
            refine E_mob2 4 _ rfl (by kernel_rfl) ?_
            simp only [List.getElem_toArray, List.getElem_cons_succ, List.getElem_cons_zero]
            go_big_quiet_step (fail)
            refine wpQuiet_nil ?_
            refine E_mob2 5 _ rfl (by kernel_rfl) ?_
            simp only [List.getElem_toArray, List.getElem_cons_succ, List.getElem_cons_zero]
            go_big_quiet_step (fail)
            refine wpQuiet_nil ?_
            refine E_loud1 6 _ rfl (by kernel_rfl) ?_
            simp only [List.getElem_toArray, List.getElem_cons_succ, List.getElem_cons_zero]
            go_wp2_with fail
            refine (IH.out W7 bw bs B tk s' ov' bv' hB7.out hpw hps M7.out htk hyl.out hz (by omega)).mono ?_
            rintro e w8 ⟨rfl, ov2, bv2, M8, F8⟩
            have M8 := Lib.hid M8
            have F8 := Lib.hid F8
            have hK : Hid (Keep (fun b => b = w.heap.size ∨ b = b3) W7 w8) := fun b o hb => by
              rcases hb with rfl | rfl
              · exact F8.out.cell (Nat.lt_of_lt_of_le hbs3 F.out.size) z1 z2 (newB_far F.out.no hbs3 z3) (newB_far F.out.nb hbs3 z4)
              · exact F8.out.cell (Nat.lt_of_lt_of_le hb3l F.out.size) f1 f2 (newB_far F.out.no hb3l f3) (newB_far F.out.nb hb3l f4)
            clear x0 x1 x2 x3 x4 x5 qc z1 z2 z3 z4
            go_wp2_with fail
            refine ⟨hK.out, ?_⟩
            refine E_done (by kernel_rfl) ?_ _
            go_wp2_with fail
            go_roundw
            case rel => exact ⟨k + 1, ov2, bv2, by omega, by go_num, by rw [HSk.out, HI1.out]; exact M8.out, F.out.trans F8.out⟩
            case measure => simp [intOf]; omega
          · have hy0' : (y == 0) = false := beq_eq_false_iff_ne.2 hy0
            have HI1 : Hid (hI p f x s' (tk : Int) = s') := by show _ = _; unfold hI; rw [if_neg (by rw [hyl.out]; exact hy1), if_neg (by rw [hyl.out]; exact hy0)]
            refine E_mob2 0 _ rfl (by kernel_rfl) ?_
            simp only [List.getElem_toArray, List.getElem_cons_succ, List.getElem_cons_zero]
            go_big_quiet_step (fail)
            refine wpQuiet_nil ?_
            refine E_mob2 1 _ rfl (by kernel_rfl) ?_
            simp only [List.getElem_toArray, List.getElem_cons_succ, List.getElem_cons_zero]
            go_big_quiet_step (fail)
            refine wpQuiet_nil ?_
            refine E_mob2 2 _ rfl (by kernel_rfl) ?_
            simp only [List.getElem_toArray, List.getElem_cons_succ, List.getElem_cons_zero]
            go_big_quiet_step (fail)
            refine wpQuiet_nil ?_
            refine E_mob2 3 _ rfl (by kernel_rfl) ?_
            simp only [List.getElem_toArray, List.getElem_cons_succ, List.getElem_cons_zero]
            go_big_quiet_step (fail)
            refine wpQuiet_nil ?_
            refine E_mob2 4 _ rfl (by kernel_rfl) ?_
            simp only [List.getElem_toArray, List.getElem_cons_succ, List.getElem_cons_zero]
            go_big_quiet_step (fail)
            refine wpQuiet_nil ?_
            refine E_mob2 5 _ rfl (by kernel_rfl) ?_
            simp only [List.getElem_toArray, List.getElem_cons_succ, List.getElem_cons_zero]
            go_big_quiet_step (fail)
            refine wpQuiet_nil ?_
            refine E_mob2 6 _ rfl (by kernel_rfl) ?_
            simp only [List.getElem_toArray, List.getElem_cons_succ, List.getElem_cons_zero]
            go_big_quiet_step (fail)
            refine wpQuiet_nil ?_
            refine E_mob2 7 _ rfl (by kernel_rfl) ?_
            simp only [List.getElem_toArray, List.getElem_cons_succ, List.getElem_cons_zero]
            go_big_quiet_step (fail)
            refine wpQuiet_nil ?_
            refine E_mob2 8 _ rfl (by kernel_rfl) ?_
            simp only [List.getElem_toArray, List.getElem_cons_succ, List.getElem_cons_zero]
            go_big_quiet_step (fail)
            refine wpQuiet_nil ?_
            refine E_mob2 9 _ rfl (by kernel_rfl) ?_
            simp only [List.getElem_toArray, List.getElem_cons_succ, List.getElem_cons_zero]
            go_big_quiet_step (fail)
            refine wpQuiet_nil ?_
            refine E_mob2 10 _ rfl (by kernel_rfl) ?_
            simp only [List.getElem_toArray, List.getElem_cons_succ, List.getElem_cons_zero]
            go_big_quiet_step (fail)
            refine wpQuiet_nil ?_
            refine E_done (by kernel_rfl) ?_ _
            clear qc q0 qt hy0'
            go_wp2_with fail
            go_roundw
            case rel => exact ⟨k + 1, ov', bv', by omega, by go_num, by rw [HSk.out, HI1.out]; exact M6.out, F⟩
            case measure => simp [intOf]; omega
      · obtain rfl : k = L.length := by omega
        rw [List.take_length] at M hz hph
        generalize L.foldl (hI p f x) (s.enter x) = s' at M hz hph HRI
        have q0 := M.out.q0
        have qs := M.out.stAt hx
        have qf := M.out.st.frozenAt x
        generalize s'.st.getD x 0 = ys at qs
        obtain ⟨M6, F6⟩ := M.out.setSt x 2
        obtain ⟨M8, F8⟩ := M6.grow (below_alloc _ (.cells #[.int .i64 (x : Int)] 3))
        have M8 := Lib.hid M8
        have F8 := Lib.hid (F6.trans F8)
        have q1 := M.out.q1
        have hbw : bw < wr.heap.size := Nat.lt_of_lt_of_le M.out.bwB M.out.Bw
        have hbs : bs < wr.heap.size := Nat.lt_of_lt_of_le M.out.bsB M.out.Bw
        have hne : bw ≠ bs := M.out.bne
        have HL1 : Hid (s'.ord.length ≤ 1000000000) := by
          show _ ≤ _
          unfold phi at hph
          omega
        clear M6 F6
        have HCX : Hid (((wr.setCell ⟨bs, x, none⟩ (.int .i64 2)).alloc (.cells #[.int .i64 (x : Int)] 3)).cell? ⟨wr.heap.size, 0, none⟩ = some (.int .i64 (x : Int))) := by
          have := cell_of_heap (heap_alloc_new (wr.setCell ⟨bs, x, none⟩ (.int .i64 2)) (.cells #[.int .i64 (x : Int)] 3)) 0
          show _ = _
          simpa using this
        have HBW : Hid (bw < ((wr.setCell ⟨bs, x, none⟩ (.int .i64 2)).alloc (.cells #[.int .i64 (x : Int)] 3)).heap.size) := by show _ < _; simp; omega
        go_wp2_with (at_builtin; refine appI (n := (x : Int)) M8.out.ord rfl rfl rfl rfl HCX.out HL1.out M8.out.Bw ?_; intro v2 w2 h2 hg2 ha2; have R9 := M8.out.order hg2 h2 ha2; have M9 := Lib.hid R9.1; have F9 := Lib.hid R9.2; have hbw2 : bw < w2.heap.size := Nat.lt_of_lt_of_le HBW.out hg2.size; have qn2 : ov'.ownBlock ≠ some bw := row_far M8.out.ord M8.out.bwB; have qw2 : w2.frozen? ⟨bw, 1, none⟩ = false := (grown_frozen hg2 HBW.out qn2).trans (M8.out.wk.frozenAt 1); have qc2 : w2.cell? ⟨bw, 1, none⟩ = some ov' := (grown_cell hg2 HBW.out qn2).trans M8.out.q1; obtain ⟨a2, c2, rfl⟩ := row_form h2; clear h2 hg2 ha2 qn2 R9)
        go_end0
        exact ⟨rfl, _, bv', by rw [HRI.out]; exact M9.out, F4.out.trans (F.out.trans (F8.out.trans F9.out))⟩
end Go.Proofs.Ytegkbopibacfoaa
