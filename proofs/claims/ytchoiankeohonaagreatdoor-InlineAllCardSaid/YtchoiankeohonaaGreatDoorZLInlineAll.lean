/-
 words
-/
import Derived.Test.YtchoiankeohonaaGreatDoorRows
import Derived.Test.YtchoiankeohonaaGreatDoorZInlineAll51
import Derived.Test.YtchoiankeohonaaGreatDoorTie
import Derived.Test.YtchoiankeohonaaGreatDoorCards
import Derived.LaidMore
import Derived.Stop.Joined
import Derived.SevenTiedAt
import Derived.Lib.LaidTab
import Derived.Stop.LaidErr
import Derived.Test.YtchoiankeohonaaGreatDoorZInlineAll52
namespace Go.Proofs.YtchoiankeohonaaGreatDoor.inlineAll
open Go.ChangeShapes Go.WideShapes Go.ChangeAt Go.RowKit Go.Joins Go.Deep
set_option linter.all false

theorem gP : Tryz.prog.globalNamed "internal/strconv.uint64pow10" = some 0 := by kernel_rfl
theorem tP : (Tryz.prog.globals[0]?).map (·.type) = some 149 := by kernel_rfl
theorem g2 : Tryz.prog.globalNamed "math/bits.deBruijn64tab" = some 2 := by kernel_rfl
theorem t2 : (Tryz.prog.globals[2]?).map (·.type) = some 158 := by kernel_rfl
theorem door_met (os : Os) (args : Array Value) : laidMetH Tryz.prog Rows.inlineAllRow.laid ((World.doorLaid Tryz.prog 400 os).forCall (fun _ _ => 0) ⟨#[], args, []⟩).memory :=
 laidMetH_of_parts3 (fuel := 8) (laidMet_of_run' 8 (by kernel_rfl) (by kernel_rfl)) (by kernel_rfl) (by kernel_rfl)
theorem of_laid {W : World} (h : laidMetH Tryz.prog Rows.inlineAllRow.laid W) : Pow W ∧ 2 < W.heap.size := by
 rw [MakeChecks.laidMetH_plain _ _ _ (by kernel_rfl)] at h
 have h1 : laidMet Tryz.prog [("math/bits.deBruijn32tab", Rows.laid_math_bits_deBruijn32tab), ("math/bits.deBruijn64tab", Rows.laid_math_bits_deBruijn64tab), ("internal/strconv.uint64pow10", Lib.tabData .u64 Lib.pow10Tab)] W := h
 refine ⟨Lib.tabIs_of_head (t := 149) (e := 133) (n := 20) gP tP Tryz.underlying149 Tryz.underlying133 (by kernel_rfl) (by kernel_rfl) (laidMet.tail (laidMet.tail h1)), ?_⟩
 have h2 : laidMet Tryz.prog (("math/bits.deBruijn64tab", Lib.tabData .u8 [0, 1, 56, 2, 57, 49, 28, 3, 61, 58, 42, 50, 38, 29, 17, 4, 62, 47, 59, 36, 45, 43, 51, 22, 53, 39, 33, 30, 24, 18, 12, 5, 63, 55, 48, 27, 60, 41, 37, 16, 46, 35, 44, 21, 52, 32, 23, 11, 54, 26, 40, 15, 34, 20, 31, 10, 25, 14, 19, 9, 13, 8, 7, 6]) :: [("internal/strconv.uint64pow10", Lib.tabData .u64 Lib.pow10Tab)]) W := laidMet.tail h1
 have hT := Lib.tabIs_of_head (t := 158) (e := 5) (n := 64) g2 t2 Tryz.underlying158 Tryz.underlying5 (by kernel_rfl) (by kernel_rfl) h2
 exact World.block_lt_of_cell? W _ (hT.cell g2 0 (by decide))
set_option maxRecDepth 100000 in
theorem lifted (os : Os) (started : os.Started) (H : Type) (enc : TypeId × Value → H) :
  ReturnsInHanded {} Tryz.checked os 3 .any (fun w args => (Rows.inlineAllSpec.pre enc Tryz.prog Tryz.f3 [] false w args ∧ laidMetH Tryz.prog Rows.inlineAllRow.laid w) ∧ sizedMet enc Tryz.prog Tryz.f3 (OpenSpec.ofChange Rows.inlineAllSpec) false w args) (Rows.inlineAllSpec.post enc Tryz.prog Tryz.f3 false true false false) := by
 refine returnsInHanded_of_change_and (C := Tryz.checked) (X := fun w _ => laidMetH Tryz.prog Rows.inlineAllRow.laid w) (fun _ _ _ hh h => h.of_heap hh) ownKnob_none started (by kernel_rfl) Tryz.func3
  (ChangeSpec.witness_shaped (enc := enc) (C := Tryz.checked) (os := os) (X := fun w _ => laidMetH Tryz.prog Rows.inlineAllRow.laid w) false (World.doorLaid Tryz.prog 400 os) #[.agg #[.slice none 0 0, .slice none 0 0, .slice none 0 0, .int .i64 0], .slice none 0 0] 8 rfl (World.shaped_of_RefB (by kernel_rfl) (by kernel_rfl)) (by kernel_rfl) (by kernel_rfl) (by kernel_rfl) (door_met os _)) ?_
 intro W base args ds gs before hval0 hW _ _ hL _
 obtain ⟨hpw, hpg⟩ := of_laid hL
 have hval : ∀ (j : Nat) t v, Tryz.f3.params[j]? = some t → args[j]? = some v → Value.okWide Tryz.prog W .any base t v := hval0
 have hW' := hW
 have hlt := hW.lt
 obtain ⟨p, q, hA0, hV, rfl, hfz, hnd⟩ := hW
 have hA : DataW.TrodAll enc Tryz.prog W 0 (fun _ => true) true Tryz.f3.params.toList args.toList ds p := hA0
 rw [Tryz.params3] at hA hval
 obtain ⟨v0, vs0, d0, ds0, p0, q0, hargs, rfl, rfl, h0, r0⟩ := trodAll_cons hA
 obtain ⟨v1, vs1, d1, ds1, p1, q1, rfl, rfl, rfl, h1, r1⟩ := trodAll_cons r0
 obtain ⟨rfl, rfl, rfl⟩ := trodAll_nil r1
 obtain rfl : args = #[v0, v1] := by cases args; simp_all
 obtain ⟨rfl, rfl⟩ := trodVars_none hV
 obtain ⟨x0, ok0, hx0⟩ := open_MdV (hval 0 26 v0 rfl rfl) h0
 obtain ⟨x1, ok1, hx1⟩ := open_WV (hval 1 27 v1 rfl rfl) h1
 simp only [List.append_nil] at hW'
 refine (InlineAll_w x0 v0 x1 v1 W ok0 hx0 ok1 hx1 hpw hpg).mono fun e W' ⟨he, hb⟩ => ?_
 subst he
 have hargs := trodAll_stays laidOut_prog hb _ _ _ _ (by rw [Tryz.params3]; kernel_rfl) (fun x hx => hlt x (by simpa using hx)) hA0
 exact ⟨_, rfl, ⟨_, [], _, [], _, [], hW', trodAll_cons_mk (shut_bool Tryz.underlying4 _) trodAll_mk0, hargs, rfl, hb.frame _, fun h => by cases h⟩⟩

theorem over : Rows.inlineAllRow.holds Tryz.pinned (OpenSpec.ofChange Rows.inlineAllSpec) :=
 OpenClaim.holds_of_wide 3 Tryz.f3 rfl rfl rfl rfl rfl rfl rfl ⟨rfl, rfl, rfl, rfl, rfl⟩ rfl rfl rfl rfl rfl (by kernel_rfl) Tryz.func3 (by kernel_rfl)
  (of_decide_eq_true (by kernel_rfl)) (by unfold Func.isWrapper; first | (rw [if_pos (by decide +kernel)]; kernel_rfl) | (rw [if_neg (by decide +kernel)]; exact ⟨rfl, rfl⟩))
  (fun os started H enc _ => lifted os started H enc)

theorem proved : Rows.InlineAllCardSaid :=
 Claim7.holds_tied_plain_at .later [] [.data, .data, .data] true (true, "ceaaf1ec64d8c390812e34bc7fd4c005c4619b450f6972640a74e0fb3fb93874") false
  over (fun _ h => by cases h) (by kernel_rfl) (fun _ h => by cases h) inlineAll_row_tie rfl ⟨rfl, rfl⟩ (by kernel_rfl) rfl
  (fun f fn hf hfn => by
    obtain rfl : f = 3 := Option.some.inj ((show Tryz.prog.funcNamed "rushlight/rushlightlaw20.InlineAll" = some 3 by kernel_rfl).symm.trans hf) |>.symm
    obtain rfl : fn = Tryz.f3 := (Option.some.inj (Tryz.func3.symm.trans hfn)).symm
    exact ⟨by kernel_rfl, fun j t ht => by
     rw [Tryz.params3] at ht
     have h3 : t ∈ [26, 27] := by
      have := Array.mem_of_getElem? ht
      simpa using this
     clear ht
     revert t
     decide +kernel⟩)
  (by kernel_rfl)
#print axioms proved
end Go.Proofs.YtchoiankeohonaaGreatDoor.inlineAll
