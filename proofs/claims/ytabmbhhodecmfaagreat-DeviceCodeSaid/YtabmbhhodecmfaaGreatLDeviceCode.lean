/-
  What is proved: DeviceCode: code and inputs are never written, and what is handed out is memory of its own. Conditions: none beyond the statement's own.
-/
import Derived.Test.YtabmbhhodecmfaaGreatRows
import Derived.Test.YtabmbhhodecmfaaGreatV34
import Derived.Test.YtabmbhhodecmfaaGreatL
import Derived.Test.YtabmbhhodecmfaaGreatO
import Derived.Test.YtabmbhhodecmfaaGreatO5
namespace Go.Proofs.YtabmbhhodecmfaaGreat.deviceCode
open Go.ChangeShapes Go.WideShapes Go.ChangeAt Go.RowKit Go.Joins Go.Deep
set_option linter.all false

set_option maxRecDepth 100000 in
theorem lifted (os : Os) (started : os.Started) (H : Type) (enc : TypeId × Value → H) :
    ReturnsInHanded {} Tryz.checked os 5 .any (Rows.deviceCodeSpec.pre6 enc Tryz.prog Tryz.f5 Rows.deviceCodeRow.domain false) (Rows.deviceCodeSpec.post enc Tryz.prog Tryz.f5 false true false false) := by
  refine returnsInHanded_of_change (C := Tryz.checked) ownKnob_none started (by kernel_rfl) Tryz.func5
    (ChangeSpec.witness6 (enc := enc) (C := Tryz.checked) false ⟨#[], #[.agg #[.slice none 0 0, .slice none 0 0, .slice none 0 0, .slice none 0 0, .int .i64 0]], []⟩ 8 (by kernel_rfl) (by kernel_rfl) (by kernel_rfl) (by kernel_rfl)) ?_
  intro W base args ds gs before hval0 hW hcnd _
  have hval : ∀ (j : Nat) t v, Tryz.f5.params[j]? = some t → args[j]? = some v → Value.okWide Tryz.prog W .any base t v := hval0
  have hW' := hW
  have hlt := hW.lt
  obtain ⟨p, q, hA0, hV, rfl, hfz, hnd⟩ := hW
  have hA : DataW.TrodAll enc Tryz.prog W 0 (fun _ => true) true Tryz.f5.params.toList args.toList ds p := hA0
  rw [Tryz.params5] at hA hval
  obtain ⟨v0, vs0, d0, ds0, p0, q0, hargs, rfl, rfl, h0, r0⟩ := trodAll_cons hA
  obtain ⟨rfl, rfl, rfl⟩ := trodAll_nil r0
  obtain rfl : args = #[v0] := by cases args; simp_all
  obtain ⟨rfl, rfl⟩ := trodVars_none hV
  obtain ⟨x0, ok0, hx0⟩ := open_CsV (hval 0 26 v0 rfl rfl) h0
  simp only [List.append_nil] at hW'
  refine (DeviceCode_w x0 v0 W ok0 hx0).mono fun e W' ⟨he, hb⟩ => ?_
  subst he
  have hargs := trodAll_stays laidOut_prog hb _ _ _ _ (by rw [Tryz.params5]; kernel_rfl) (fun x hx => hlt x (by simpa using hx)) hA0
  exact ⟨_, rfl, ⟨_, [], _, [], _, [], hW', trodAll_cons_mk (shut_bool Tryz.underlying4 _) trodAll_mk0, hargs, rfl, hb.frame _, fun h => by cases h⟩⟩

theorem over : Rows.deviceCodeRow.holds Tryz.pinned (OpenSpec.ofChange Rows.deviceCodeSpec) :=
  OpenClaim.holds_of_wide 5 Tryz.f5 rfl rfl rfl rfl rfl rfl rfl ⟨rfl, rfl, rfl, rfl, rfl⟩ rfl rfl rfl rfl rfl (by kernel_rfl) Tryz.func5 (by kernel_rfl)
    (of_decide_eq_true (by kernel_rfl)) (by unfold Func.isWrapper; first | (rw [if_pos (by decide +kernel)]; kernel_rfl) | (rw [if_neg (by decide +kernel)]; exact ⟨rfl, rfl⟩))
    (fun os started H enc _ => lifted os started H enc)

theorem proved : Rows.DeviceCodeSaid :=
  over
#print axioms proved
end Go.Proofs.YtabmbhhodecmfaaGreat.deviceCode
