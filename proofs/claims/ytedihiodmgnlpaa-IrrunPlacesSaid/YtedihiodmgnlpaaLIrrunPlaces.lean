/-
  Where any slots lie, one behind the other, is as the document says: for all slots that the statement lets through, without further conditions.
-/
import Derived.Test.YtedihiodmgnlpaaRows
import Derived.Test.YtedihiodmgnlpaaR19
import Derived.Test.YtedihiodmgnlpaaL
import Derived.Test.YtedihiodmgnlpaaO
import Derived.Test.YtedihiodmgnlpaaO4
namespace Go.Proofs.Ytedihiodmgnlpaa.irrunPlaces
open Go.ChangeShapes Go.WideShapes Go.ChangeAt Go.RowKit Go.Joins Go.Deep
set_option linter.all false

set_option maxRecDepth 100000 in
theorem lifted (os : Os) (started : os.Started) (H : Type) (enc : TypeId × Value → H) :
    ReturnsInHanded {} Try.checked os 10 .any (Rows.irrunPlacesSpec.pre6 enc Try.prog Try.f10 Rows.irrunPlacesRow.domain false) (Rows.irrunPlacesSpec.post enc Try.prog Try.f10 false true false false) := by
  refine returnsInHanded_of_change (C := Try.checked) ownKnob_none started (by kernel_rfl) Try.func10
    (ChangeSpec.witness6 (enc := enc) (C := Try.checked) false ⟨#[], #[.slice none 0 0], []⟩ 8 (by kernel_rfl) (by kernel_rfl) (by kernel_rfl) (by kernel_rfl)) ?_
  intro W base args ds gs before hval0 hW hcnd _
  have hval : ∀ (j : Nat) t v, Try.f10.params[j]? = some t → args[j]? = some v → Value.okWide Try.prog W .any base t v := hval0
  have hW' := hW
  have hlt := hW.lt
  obtain ⟨p, q, hA0, hV, rfl, hfz, hnd⟩ := hW
  have hA : DataW.TrodAll enc Try.prog W 0 (fun _ => true) true Try.f10.params.toList args.toList ds p := hA0
  rw [Try.params10] at hA hval
  obtain ⟨v0, vs0, d0, ds0, p0, q0, hargs, rfl, rfl, h0, r0⟩ := trodAll_cons hA
  obtain ⟨rfl, rfl, rfl⟩ := trodAll_nil r0
  obtain rfl : args = #[v0] := by cases args; simp_all
  obtain ⟨rfl, rfl⟩ := trodVars_none hV
  obtain ⟨x0, ok0, hx0⟩ := open_SlsV (hval 0 62 v0 rfl rfl) h0
  simp only [List.append_nil] at hW'
  refine (IrrunPlaces_x x0 v0 W ok0 hx0).mono fun e W' ⟨he, hb⟩ => ?_
  subst he
  have hargs := trodAll_stays laidOut_prog hb _ _ _ _ (by rw [Try.params10]; kernel_rfl) (fun x hx => hlt x (by simpa using hx)) hA0
  exact ⟨_, rfl, ⟨_, [], _, [], _, [], hW', trodAll_cons_mk (shut_bool Try.underlying4 _) trodAll_mk0, hargs, rfl, hb.frame _, fun h => by cases h⟩⟩

theorem over : Rows.irrunPlacesRow.holds Try.pinned (OpenSpec.ofChange Rows.irrunPlacesSpec) :=
  OpenClaim.holds_of_wide 10 Try.f10 rfl rfl rfl rfl rfl rfl rfl ⟨rfl, rfl, rfl, rfl, rfl⟩ rfl rfl rfl rfl rfl (by kernel_rfl) Try.func10 (by kernel_rfl)
    (of_decide_eq_true (by kernel_rfl)) (by unfold Func.isWrapper; first | (rw [if_pos (by decide +kernel)]; kernel_rfl) | (rw [if_neg (by decide +kernel)]; exact ⟨rfl, rfl⟩))
    (fun os started H enc _ => lifted os started H enc)

theorem proved : Rows.IrrunPlacesSaid :=
  over
#print axioms proved
end Go.Proofs.Ytedihiodmgnlpaa.irrunPlaces
