/-
 What an instruction reads, sets and stores, in plain data.; A procedure in the place of another one: what it owes, and what is right then. Plain.
-/
import Derived.Test.YtchoiankeohonaaGreatDoorZInlineAll25
import Derived.Test.YtchoiankeohonaaGreatDoorZInlineAll31

set_option linter.all false
namespace Go.Proofs.YtchoiankeohonaaGreatDoor
set_option linter.unusedVariables false

theorem hasL_mem (l : List Int) (r : Int) : hasL l r = true ↔ r ∈ l := by unfold hasL; simp
theorem ops12 {m : Md} {p : Pr} {i : In} (h : okI m p i = true) : 1 ≤ i.op ∧ i.op ≤ 12 := by
 unfold okI at h
 simp only [Bool.and_eq_true, decide_eq_true_eq] at h
 exact ⟨h.1.1, h.1.2.1⟩
theorem okI_regs {m : Md} {p : Pr} {i : In} (h : okI m p i = true) (h9 : i.op ≠ 9) : regF p i.d (i.op != 6 && (i.op != 10 && i.op != 12)) = true ∧ regF p i.a (readsA i.op) = true ∧ regF p i.b (readsB i.op) = true ∧ moreF m p i = true := by
 unfold okI at h
 simp only [Bool.and_eq_true] at h
 have h := h.2
 rw [if_neg h9] at h
 simp only [Bool.and_eq_true] at h
 exact ⟨h.1.1, h.1.2.1, h.1.2.2, h.2⟩
theorem regF_in {p : Pr} {r : Int} (h : regF p r true = true) : 0 ≤ r ∧ r < p.regs := by unfold regF at h; simpa using h
theorem regF_may {p : Pr} {r : Int} {b : Bool} (h : regF p r b = true) : r = -1 ∨ 0 ≤ r ∧ r < p.regs := by
 cases b
 ·left; unfold regF at h; simpa using h
 ·exact .inr (regF_in h)
/-- what it sets is in its place -/
theorem okI_d {m : Md} {p : Pr} {i : In} (h : okI m p i = true) (hd : i.op ≠ 6 ∧ i.op ≠ 10 ∧ i.op ≠ 12 ∧ i.op ≠ 9) : 0 ≤ i.d ∧ i.d < p.regs := by
 have h1 := (okI_regs h (by omega)).1
 have e : (i.op != 6 && (i.op != 10 && i.op != 12)) = true := by simp; omega
 rw [e] at h1
 exact regF_in h1
theorem okI_a {m : Md} {p : Pr} {i : In} (h : okI m p i = true) (ha : i.op = 2 ∨ i.op = 3 ∨ i.op = 4 ∨ i.op = 5 ∨ i.op = 6 ∨ i.op = 10) : (0 ≤ i.a ∧ i.a < p.regs) ∧ hasL (usesI i) i.a = true := by
 have h1 := (okI_regs h (by omega)).2.1
 have e : readsA i.op = true := by unfold readsA; simp; omega
 rw [e] at h1
 have h2 := regF_in h1
 refine ⟨h2, (hasL_mem _ _).2 ?_⟩
 unfold usesI
 rw [e]
 have : (i.a != -1) = true := by simp; omega
 simp [this]
 try (left; omega)
theorem okI_b {m : Md} {p : Pr} {i : In} (h : okI m p i = true) (hb : i.op = 3 ∨ i.op = 6) : (0 ≤ i.b ∧ i.b < p.regs) ∧ hasL (usesI i) i.b = true := by
 have h1 := (okI_regs h (by omega)).2.2.1
 have e : readsB i.op = true := by unfold readsB; simp; omega
 rw [e] at h1
 have h2 := regF_in h1
 refine ⟨h2, (hasL_mem _ _).2 ?_⟩
 unfold usesI
 rw [e]
 have : (i.b != -1) = true := by simp; omega
 simp [this]
 try (right; left; omega)
theorem okI_args {m : Md} {p : Pr} {i : In} (h : okI m p i = true) (h9 : i.op = 9) {r : Int} (hr : r ∈ i.args) : (0 ≤ r ∧ r < p.regs) ∧ hasL (usesI i) r = true := by
 have h1 := (okI_call h h9).2.2.2.2
 rw [List.all_eq_true] at h1
 have h2 := regF_in (h1 r hr)
 refine ⟨h2, (hasL_mem _ _).2 ?_⟩
 unfold usesI
 have : (r != -1) = true := by simp; omega
 simp [h9, hr]
 try omega
/-- what it reads is in its place -/
theorem uses_in {m : Md} {p : Pr} {i : In} (h : okI m p i = true) {x : Int} (hx : hasL (usesI i) x = true) : 0 ≤ x ∧ x < p.regs := by
 have hx := (hasL_mem _ _).1 hx
 unfold usesI at hx
 by_cases h9 : i.op = 9
 ·have e1 : readsA i.op = false := by rw [h9]; rfl
  have e2 : readsB i.op = false := by rw [h9]; rfl
  rw [e1, e2, if_pos h9] at hx
  simp at hx
  exact (okI_args h h9 hx.1).1
 ·rw [if_neg h9, List.append_nil] at hx
  obtain ⟨-, ha, hb, -⟩ := okI_regs h h9
  rcases List.mem_append.1 hx with q | q
  ·split at q
   ·rename_i hc
    simp only [List.mem_singleton] at q
    rw [q]
    simp only [Bool.and_eq_true] at hc
    rw [hc.1] at ha
    exact regF_in ha
   ·cases q
  ·split at q
   ·rename_i hc
    simp only [List.mem_singleton] at q
    rw [q]
    simp only [Bool.and_eq_true] at hc
    rw [hc.1] at hb
    exact regF_in hb
   ·cases q
/-- .. the same where what it reads is the same -/
theorem insM_follow {m : Md} {inp : List Int} {p : Pr} {low : Int} {i : In} {regs regs' : List Int} {s s' : Oc} {r : List Int × Oc} (hok : okI m p i = true) (h9 : i.op ≠ 9) (h : insM m inp p low i regs s = some r)
  (hu : ∀ x : Int, hasL (usesI i) x = true → rg regs' x = rg regs x) (hm : i.op = 5 → s'.mem = s.mem) (ho : s'.out = s.out) (hn : s'.ins = s.ins) (hx : s'.exit = s.exit) (he : s'.e = s.e) :
  ∃ r', insM m inp p low i regs' s' = some r' ∧ r'.2.out = r.2.out ∧ r'.2.ins = r.2.ins ∧ r'.2.exit = r.2.exit ∧ r'.2.e = r.2.e ∧
   (defI i = -1 ∧ r.1 = regs ∧ r'.1 = regs' ∨ (defI i = i.d ∧ i.op ≠ 6 ∧ i.op ≠ 10 ∧ i.op ≠ 12) ∧ ∃ v, r.1 = regs.set i.d.toNat v ∧ r'.1 = regs'.set i.d.toNat v) ∧
   (i.op = 6 ∧ r.2.mem = storeP s.mem (addrM regs i - 268435456).toNat (rg regs i.b) i.size.toNat ∧ r'.2.mem = storeP s'.mem (addrM regs i - 268435456).toNat (rg regs i.b) i.size.toNat ∨ i.op ≠ 6 ∧ r.2.mem = s.mem ∧ r'.2.mem = s'.mem) := by
 have hop := ops12 hok
 have hA : (i.op = 2 ∨ i.op = 3 ∨ i.op = 4 ∨ i.op = 5 ∨ i.op = 6 ∨ i.op = 10) → rg regs' i.a = rg regs i.a := fun q => hu _ (okI_a hok q).2
 have hB : (i.op = 3 ∨ i.op = 6) → rg regs' i.b = rg regs i.b := fun q => hu _ (okI_b hok q).2
 have hAd : (i.op = 5 ∨ i.op = 6) → addrM regs' i = addrM regs i := fun q => by unfold addrM; rw [hA (by omega)]
 have D : ∀ (n : Int), (n = 1 ∨ n = 2 ∨ n = 3 ∨ n = 4 ∨ n = 5 ∨ n = 7 ∨ n = 8 ∨ n = 11) → i.op = n → defI i = i.d := fun n hn e => by
  unfold defI; rw [e]; rcases hn with rfl | rfl | rfl | rfl | rfl | rfl | rfl | rfl <;> rfl
 have D' : ∀ (n : Int), (n = 6 ∨ n = 10 ∨ n = 12) → i.op = n → defI i = -1 := fun n hn e => by
  unfold defI; rw [e]; rcases hn with rfl | rfl | rfl <;> rfl
 have hop : i.op = 1 ∨ i.op = 2 ∨ i.op = 3 ∨ i.op = 4 ∨ i.op = 5 ∨ i.op = 6 ∨ i.op = 7 ∨ i.op = 8 ∨ i.op = 10 ∨ i.op = 11 ∨ i.op = 12 := by omega
 unfold insM at h ⊢
 rcases hop with e | e | e | e | e | e | e | e | e | e | e
 ·rw [if_pos e] at h ⊢
  cases h
  exact ⟨_, rfl, ho, hn, hx, he, .inr ⟨⟨D _ (by decide) e, by omega, by omega, by omega⟩, _, rfl, rfl⟩, .inr ⟨by omega, rfl, rfl⟩⟩
 ·rw [if_neg (by omega), if_pos e] at h ⊢
  cases h
  rw [hA (by omega)]
  exact ⟨_, rfl, ho, hn, hx, he, .inr ⟨⟨D _ (by decide) e, by omega, by omega, by omega⟩, _, rfl, rfl⟩, .inr ⟨by omega, rfl, rfl⟩⟩
 ·rw [if_neg (by omega), if_neg (by omega), if_pos e] at h ⊢
  cases h
  rw [hA (by omega), hB (by omega)]
  exact ⟨_, rfl, ho, hn, hx, he, .inr ⟨⟨D _ (by decide) e, by omega, by omega, by omega⟩, _, rfl, rfl⟩, .inr ⟨by omega, rfl, rfl⟩⟩
 ·rw [if_neg (by omega), if_neg (by omega), if_neg (by omega), if_pos e] at h ⊢
  cases h
  rw [hA (by omega)]
  exact ⟨_, rfl, ho, hn, hx, he, .inr ⟨⟨D _ (by decide) e, by omega, by omega, by omega⟩, _, rfl, rfl⟩, .inr ⟨by omega, rfl, rfl⟩⟩
 ·rw [if_neg (by omega), if_neg (by omega), if_neg (by omega), if_neg (by omega), if_pos e] at h ⊢
  rw [hAd (by omega), hm e]
  split at h
  ·cases h
   rename_i hp
   rw [if_pos hp]
   exact ⟨_, rfl, ho, hn, hx, he, .inr ⟨⟨D _ (by decide) e, by omega, by omega, by omega⟩, _, rfl, rfl⟩, .inr ⟨by omega, rfl, hm e⟩⟩
  ·cases h
 ·rw [if_neg (by omega), if_neg (by omega), if_neg (by omega), if_neg (by omega), if_neg (by omega), if_pos e] at h ⊢
  rw [hAd (by omega), hB (by omega)]
  split at h
  ·cases h
   rename_i hp
   rw [if_pos hp]
   exact ⟨_, rfl, ho, hn, hx, he, .inl ⟨D' _ (by decide) e, rfl, rfl⟩, .inl ⟨e, rfl, rfl⟩⟩
  ·cases h
 ·rw [if_neg (by omega), if_neg (by omega), if_neg (by omega), if_neg (by omega), if_neg (by omega), if_neg (by omega), if_pos e] at h ⊢
  cases h
  exact ⟨_, rfl, ho, hn, hx, he, .inr ⟨⟨D _ (by decide) e, by omega, by omega, by omega⟩, _, rfl, rfl⟩, .inr ⟨by omega, rfl, rfl⟩⟩
 ·rw [if_neg (by omega), if_neg (by omega), if_neg (by omega), if_neg (by omega), if_neg (by omega), if_neg (by omega), if_neg (by omega), if_pos e] at h ⊢
  cases h
  exact ⟨_, rfl, ho, hn, hx, he, .inr ⟨⟨D _ (by decide) e, by omega, by omega, by omega⟩, _, rfl, rfl⟩, .inr ⟨by omega, rfl, rfl⟩⟩
 ·rw [if_neg (by omega), if_neg (by omega), if_neg (by omega), if_neg (by omega), if_neg (by omega), if_neg (by omega), if_neg (by omega), if_neg (by omega), if_pos e] at h ⊢
  cases h
  rw [hA (by omega), ho]
  exact ⟨_, rfl, rfl, hn, hx, he, .inl ⟨D' _ (by decide) e, rfl, rfl⟩, .inr ⟨by omega, rfl, rfl⟩⟩
 ·rw [if_neg (by omega), if_neg (by omega), if_neg (by omega), if_neg (by omega), if_neg (by omega), if_neg (by omega), if_neg (by omega), if_neg (by omega), if_neg (by omega), if_pos e] at h ⊢
  cases h
  rw [hn]
  exact ⟨_, rfl, ho, rfl, hx, he, .inr ⟨⟨D _ (by decide) e, by omega, by omega, by omega⟩, _, rfl, rfl⟩, .inr ⟨by omega, rfl, rfl⟩⟩
 ·rw [if_neg (by omega), if_neg (by omega), if_neg (by omega), if_neg (by omega), if_neg (by omega), if_neg (by omega), if_neg (by omega), if_neg (by omega), if_neg (by omega), if_neg (by omega)] at h ⊢
  cases h
  exact ⟨_, rfl, ho, hn, hx, he, .inl ⟨D' _ (by decide) e, rfl, rfl⟩, .inr ⟨by omega, rfl, rfl⟩⟩
/-- what is live -/
theorem live_use {p : Pr} {b i : Nat} {r : Int} (hi : i < (p.blks.getD b default).ins.length) (h : hasL (usesI ((p.blks.getD b default).ins.getD i default)) r = true) : liveP p b i r = true := by
 rw [liveP_iff]
 left
 unfold withinB
 rw [withinI_1 r _ i hi h, if_neg (by decide)]
theorem live_on {p : Pr} {b i : Nat} {r : Int} (hi : i < (p.blks.getD b default).ins.length) (h : liveP p b (i + 1) r = true) (hd : defI ((p.blks.getD b default).ins.getD i default) ≠ r) : liveP p b i r = true := by
 cases hu : hasL (usesI ((p.blks.getD b default).ins.getD i default)) r
 ·rw [liveP_iff] at h ⊢
  have e : withinB (p.blks.getD b default) i r = withinB (p.blks.getD b default) (i + 1) r := by
   unfold withinB
   rw [withinI_3 r _ i hi hu hd]
  rw [e]; exact h
 ·exact live_use hi hu
theorem live_fin {p : Pr} {b : Nat} {r : Int} (h : endReads (p.blks.getD b default) r = true) : liveP p b (p.blks.getD b default).ins.length r = true := (liveP_end p b r).2 (.inl h)
theorem live_out {p : Pr} {b : Nat} {t r : Int} (ht : t ∈ outsP p b) (h : liveP p t.toNat 0 r = true) : liveP p b (p.blks.getD b default).ins.length r = true := (liveP_end p b r).2 (.inr ⟨t, ht, (liveP_0 p _ r).1 h⟩)
/-- where a block's end leads -/
theorem outs_next {p : Pr} {b : Nat} (he : endF p (p.blks.getD b default) = true) (h3 : (p.blks.getD b default).fin ≠ 3) (c : Prop) [Decidable c] (hc : (p.blks.getD b default).fin ≠ 2 → ¬ c) :
  (if c then (p.blks.getD b default).els else (p.blks.getD b default).to) ∈ outsP p b := by
 have hx := end_cases he
 unfold outsP
 rw [List.mem_filter]
 generalize p.blks.getD b default = B at *
 rcases hx with ⟨q1, q2, q3⟩ | ⟨q1, q2, q3, q4, q5, -, -⟩ | ⟨q1, -⟩
 ·rw [if_neg (hc (by omega))]
  refine ⟨?_, by simp; omega⟩
  unfold outsB; rw [if_pos (.inl q1)]; exact List.mem_cons_self
 ·refine ⟨?_, by split <;> (simp; omega)⟩
  unfold outsB
  by_cases e : B.to = B.els
  ·rw [if_pos (.inr ⟨q1, e⟩)]
   split <;> simp [e]
  ·rw [if_neg (by rintro (h | ⟨-, h⟩); exact absurd h (by omega); exact e h), if_pos q1]
   split <;> simp
 ·exact absurd q1 h3
end Go.Proofs.YtchoiankeohonaaGreatDoor

set_option linter.all false
namespace Go.Proofs.YtchoiankeohonaaGreatDoor
set_option linter.unusedVariables false

theorem getD_mid {α : Type} (A B : List α) (a d : α) : (A ++ a :: B).getD A.length d = a := by simp [List.getD]
theorem rg_set (l : List Int) (d r v : Int) (hd : 0 ≤ d) (hr : 0 ≤ r) : rg (l.set d.toNat v) r = if r = d ∧ d.toNat < l.length then v else rg l r := by
 unfold rg
 simp only [List.getD, List.getElem?_set]
 by_cases e : d.toNat = r.toNat
 ·have e2 : r = d := by omega
  rw [if_pos e]
  by_cases h : d.toNat < l.length
  ·rw [if_pos h, if_pos ⟨e2, h⟩]; rfl
  ·rw [if_neg h, if_neg (fun q => h q.2), e2]; simp [Nat.le_of_not_lt h]
 ·rw [if_neg e, if_neg (fun q => e (by omega))]
theorem rg_set_ne (l : List Int) {d r : Int} (v : Int) (hd : 0 ≤ d) (hr : 0 ≤ r) (h : r ≠ d) : rg (l.set d.toNat v) r = rg l r := by rw [rg_set _ _ _ _ hd hr, if_neg (fun q => h q.1)]
theorem MdOk.with {m : Md} {n : Nat} {q : Pr} (h : MdOk m) (hq : PrOk q) : MdOk (withM m n q) := by
 obtain ⟨h1, h2, h3, h4⟩ := h
 refine ⟨h1, h2, fun p hp => ?_, h4⟩
 unfold withM at hp
 rcases List.mem_or_eq_of_mem_set hp with hp | rfl
 ·exact h3 p hp
 ·exact hq
theorem SzM.with {m : Md} {n : Nat} {q : Pr} (h : SzM m) (hq : SzP q) : SzM (withM m n q) := ⟨fun p hp => by
 unfold withM at hp
 rcases List.mem_or_eq_of_mem_set hp with hp | rfl
 ·exact h.procs p hp
 ·exact hq⟩
theorem getD_in {α : Type} {l : List α} {j : Nat} {d : α} (h : j < l.length) : l.getD j d ∈ l := by simp [List.getD, h]
theorem i64_0 : I64 0 := ⟨by decide, by decide⟩
theorem i64_1 : I64 1 := ⟨by decide, by decide⟩
theorem i64_m : I64 (-1) := ⟨by decide, by decide⟩
end Go.Proofs.YtchoiankeohonaaGreatDoor
