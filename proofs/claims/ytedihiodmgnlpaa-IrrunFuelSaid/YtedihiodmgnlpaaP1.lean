/-
  Runs with more fuel: what was put out begins with what was; what ended otherwise is the same.
-/
import Derived.Test.YtedihiodmgnlpaaR6
set_option linter.all false
namespace Go.Proofs.Ytedihiodmgnlpaa
set_option linter.unusedVariables false

/-- a later outcome: what was put out stays at the beginning -/
structure Later (a b : Oc) : Prop where
  out : a.out <+: b.out
  ins : a.ins ≤ b.ins
theorem Later.refl (a : Oc) : Later a a := ⟨List.prefix_refl _, Int.le_refl _⟩
theorem Later.trans {a b c : Oc} (h : Later a b) (k : Later b c) : Later a c := ⟨h.out.trans k.out, Int.le_trans h.ins k.ins⟩
/-- a machine on its way -/
structure Way (M : Ms) : Prop where
  e : M.s.e ≠ 16
  exit : M.stk ≠ [] → M.s.exit = 0
def LaterI (s : Oc) (o : Option (List Int × Oc)) : Prop := ∀ r, o = some r → Later s r.2 ∧ r.2.e = s.e ∧ r.2.exit = s.exit
theorem laterI_ite {s : Oc} {q : Prop} [Decidable q] {a b : Option (List Int × Oc)} (h : LaterI s a) (h' : LaterI s b) : LaterI s (if q then a else b) := by split <;> assumption
theorem laterI_none {s : Oc} : LaterI s none := fun _ h => by cases h
theorem laterI_some {s : Oc} {x : List Int} {y : Oc} (h : Later s y ∧ y.e = s.e ∧ y.exit = s.exit) : LaterI s (some (x, y)) := fun _ h2 => by cases h2; exact h
theorem insM_later {m : Md} {inp : List Int} {p : Pr} {low : Int} {i : In} {regs : List Int} {s : Oc} : LaterI s (insM m inp p low i regs s) := by
  unfold insM
  repeat' apply laterI_ite
  all_goals first
    | exact laterI_none
    | (apply laterI_some
       first
       | exact ⟨Later.refl _, rfl, rfl⟩
       | exact ⟨⟨List.prefix_refl _, Int.le_refl _⟩, rfl, rfl⟩
       | exact ⟨⟨List.prefix_append _ _, Int.le_refl _⟩, rfl, rfl⟩
       | exact ⟨⟨List.prefix_refl _, by dsimp only; omega⟩, rfl, rfl⟩)
theorem enterM_way {m : Md} {K : List Fr} {n : Nat} {args : List Int} {top : Int} {s : Oc} (he : s.e ≠ 16) (hx : s.exit = 0) : Later s (enterM m K n args top s).s ∧ Way (enterM m K n args top s) := by
  unfold enterM
  split
  · exact ⟨⟨List.prefix_refl _, Int.le_refl _⟩, by simp, fun _ => hx⟩
  · exact ⟨Later.refl _, he, fun _ => hx⟩
theorem backM_way {m : Md} {K : List Fr} {v : Int} {s : Oc} (he : s.e ≠ 16) (hx : s.exit = 0) : Later s (backM m K v s).s ∧ Way (backM m K v s) := by
  cases K with
  | nil => exact ⟨⟨List.prefix_refl _, Int.le_refl _⟩, he, fun h => absurd rfl h⟩
  | cons c K => exact ⟨Later.refl _, he, fun _ => hx⟩
theorem stepM_way {m : Md} {inp : List Int} {M : Ms} (h : Way M) : Later M.s (stepM m inp M).s ∧ Way (stepM m inp M) := by
  obtain ⟨stk, halt, s⟩ := M
  cases stk with
  | nil => exact ⟨Later.refl _, h⟩
  | cons fr K =>
    have he := h.e
    have hx := h.exit (by simp)
    dsimp only at he hx
    unfold stepM
    dsimp only
    split
    · split
      · exact backM_way he hx
      · exact ⟨Later.refl _, he, fun _ => hx⟩
    · split
      · exact enterM_way he hx
      · have := insM_later (m := m) (inp := inp) (p := pk m fr.n) (low := fr.low) (i := (((pk m fr.n).blks.getD fr.b default).ins.getD fr.i default)) (regs := fr.regs) (s := s)
        cases hR : insM m inp (pk m fr.n) fr.low (((pk m fr.n).blks.getD fr.b default).ins.getD fr.i default) fr.regs s with
        | none => exact ⟨⟨List.prefix_refl _, Int.le_refl _⟩, by simp, fun _ => hx⟩
        | some r =>
          obtain ⟨a, b, c⟩ := this r hR
          exact ⟨a, by show r.2.e ≠ 16; rw [b]; exact he, fun _ => by show r.2.exit = 0; rw [c]; exact hx⟩
theorem runM_later {m : Md} {inp : List Int} : ∀ (f : Nat) (M : Ms), Way M → Later M.s (runM m inp f M)
  | 0, M, h => by
    unfold runM; split
    · exact Later.refl _
    · exact ⟨List.prefix_refl _, Int.le_refl _⟩
  | f + 1, M, h => by
    unfold runM; split
    · exact Later.refl _
    · exact (stepM_way h).1.trans (runM_later f _ (stepM_way h).2)
/-- a run with more fuel -/
theorem runM_more {m : Md} {inp : List Int} : ∀ (f : Nat) (M : Ms), Way M → ∃ N : Ms, Way N ∧ ((N.fin = true ∧ runM m inp f M = N.s ∧ ∀ d, runM m inp (f + d) M = N.s) ∨ (N.fin = false ∧ runM m inp f M = { N.s with e := 16 } ∧ ∀ d, runM m inp (f + d) M = runM m inp d N))
  | 0, M, h => by
    refine ⟨M, h, ?_⟩
    cases hf : M.fin
    · exact .inr ⟨rfl, by simp [runM, hf], fun d => by rw [Nat.zero_add]⟩
    · exact .inl ⟨rfl, by simp [runM, hf], fun d => by rw [runM_fin _ _ _ _ hf]⟩
  | f + 1, M, h => by
    cases hf : M.fin
    · obtain ⟨N, hN, hc⟩ := runM_more f (stepM m inp M) (stepM_way h).2
      have e : ∀ d, runM m inp (f + 1 + d) M = runM m inp (f + d) (stepM m inp M) := fun d => by
        rw [show f + 1 + d = (f + d) + 1 by omega]
        show (if M.fin = true then M.s else _) = _
        rw [if_neg (by rw [hf]; decide)]
      refine ⟨N, hN, ?_⟩
      rcases hc with ⟨h1, h2, h3⟩ | ⟨h1, h2, h3⟩
      · exact .inl ⟨h1, (e 0).trans h2, fun d => (e d).trans (h3 d)⟩
      · exact .inr ⟨h1, (e 0).trans h2, fun d => (e d).trans (h3 d)⟩
    · exact ⟨M, h, .inl ⟨hf, runM_fin _ _ _ _ hf, fun d => runM_fin _ _ _ _ hf⟩⟩
theorem playM_more (m : Md) (inp : List Int) (f d : Nat) : playM m inp (f + d) = playM m inp f ∨ ((playM m inp f).e = 16 ∧ (playM m inp f).exit = 0 ∧ Later (playM m inp f) (playM m inp (f + d))) := by
  unfold playM
  split
  · exact .inl rfl
  · split
    · exact .inl rfl
    · obtain ⟨N, hN, ⟨h1, h2, h3⟩ | ⟨h1, h2, h3⟩⟩ := runM_more (m := m) (inp := inp) f (enterM m [] m.main.toNat [] 65536 ⟨mem0 m m.globs.length, [], 0, 0, 0⟩) (enterM_way (by dsimp only; decide) rfl).2
      · exact .inl ((h3 d).trans h2.symm)
      · refine .inr ?_
        rw [h2, h3 d]
        have hs : N.stk ≠ [] := fun e => by simp [Ms.fin, e] at h1
        have := runM_later (m := m) (inp := inp) d N hN
        exact ⟨rfl, hN.exit hs, ⟨this.out, this.ins⟩⟩
theorem playM_e (m : Md) (inp : List Int) (f : Nat) : (playM m inp f).e ≠ 16 ∨ (playM m inp f).exit = 0 := by
  unfold playM
  split
  · exact .inl (by dsimp only; omega)
  · split
    · exact .inl (by dsimp only; omega)
    · obtain ⟨N, hN, ⟨h1, h2, h3⟩ | ⟨h1, h2, h3⟩⟩ := runM_more (m := m) (inp := inp) f (enterM m [] m.main.toNat [] 65536 ⟨mem0 m m.globs.length, [], 0, 0, 0⟩) (enterM_way (by dsimp only; decide) rfl).2
      · exact .inl (by rw [h2]; exact hN.e)
      · refine .inr ?_
        rw [h2]
        exact hN.exit (fun e => by simp [Ms.fin, e] at h1)
end Go.Proofs.Ytedihiodmgnlpaa
