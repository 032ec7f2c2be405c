/-
  The game of a drawn region, where lengths and greatest numbers may be taken first too.
-/
import Derived.Test.YtnnhobbabcfogaaE
set_option linter.all false
namespace Go.Proofs.Ytnnhobbabcfogaa
open Go Go.RowKit

def lookB (o : Oper) : Bool :=
  match o.op with
  | .call c => (match c.callee with | .builtin .len | .builtin .max => true | _ => false)
  | _ => false
theorem lookB_spec {P : Program} {o : Oper} {ρ : Operand → Value} {w : World} {n : Next} {w' : World} (h : lookB o = true) (hr : (execOp ρ o).run P w = .ok n w') : ∃ v, n = .value v := by
  unfold lookB at h
  split at h
  · rename_i c hc
    split at h
    · rename_i hb
      simp only [execOp, hc, resolve, hb, Sem.run_bind, Sem.run_pure, Result.andThen_ok, invoke] at hr
      exact bind_value hr
    · rename_i hb
      simp only [execOp, hc, resolve, hb, Sem.run_bind, Sem.run_pure, Result.andThen_ok, invoke] at hr
      exact bind_value hr
    · cases h
  · cases h
section
variable {P : Program} {ops : Array Oper} {Q : Act → World → Prop} {S : Nat → Prop}
theorem E_mob2 {f : Nat} {listed : Array Bool} {a : Act} {w : World} (i : Nat) (o : Oper) (hio : ops[i]? = some o)
    (hc : (closedB ops listed && (Region.noSelect ops && (Region.ready .any ops listed).contains i && Region.free .any ops listed i && (lookOp o || lookB o))) = true)
    (h : wpQuiet P ops (fun w' => ∃ x, w' = kp S w x) (fun a' => wpE S P ops Q f (listed.setIfInBounds i true) a' w) [o] a) : wpE S P ops Q (f + 1) listed a w := by
  simp only [Bool.and_eq_true] at hc
  obtain ⟨hcl, ⟨⟨hs, hr⟩, hf⟩, hk⟩ := hc
  simp only [wpQuiet] at h
  have hy : ∃ v, YieldsE S P ops w o v a ∧ wpE S P ops Q f (listed.setIfInBounds i true) (a.put o.dst v) w := by
    split at h
    · rename_i hw
      obtain ⟨v, hv, hn⟩ := h
      refine ⟨v, .inl ⟨hw, fun w' hb => ?_⟩, hn⟩
      have h3 := hv w' (keep_kp hb)
      unfold Oper.quietAt at h3
      generalize hrr : (execOp a.eval o).run P w' = r at h3
      cases r with
      | ok n w1 =>
        have hu : ∃ v, n = .value v := by
          rw [Bool.or_eq_true] at hk
          rcases hk with hk | hk
          · exact lookOp_spec hk hrr
          · exact lookB_spec hk hrr
        obtain ⟨u, rfl⟩ := hu
        simp only [Oper.quietUpon] at h3
        obtain ⟨rfl, rfl⟩ := h3
        rfl
      | halt x w1 => simp only [Oper.quietUpon] at h3
    · rename_i hw
      exact ⟨undef, .inr ⟨by simpa using hw, rfl⟩, h⟩
  obtain ⟨v, hy, hn⟩ := hy
  exact wpE_first hio (Region.noSelect_spec hs) f listed a w (Region.free_spec hio hf) (closed_of hcl) (by simpa using hr) hy hn
end
end Go.Proofs.Ytnnhobbabcfogaa
