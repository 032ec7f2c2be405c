/-
 Without what is idle a procedure does the same. Plain.
-/
import Derived.Test.YtnnhobbabcfogaaZDeadDoes38
import Derived.Test.YtnnhobbabcfogaaZDeadDoes48
set_option linter.all false
namespace Go.Proofs.Ytnnhobbabcfogaa
set_option linter.unusedVariables false

def goneI (p : Pr) (b t : Nat) : Bool := idleI p b t || storeI (p.blks.getD b default).ins t
def knI (p : Pr) (b i : Nat) : Nat := ((List.range i).filter fun t => !goneI p b t).length
theorem knI_0 (p : Pr) (b : Nat) : knI p b 0 = 0 := rfl
theorem knI_no {p : Pr} {b i : Nat} (h : goneI p b i = true) : knI p b (i + 1) = knI p b i := by
 unfold knI; rw [List.range_succ, List.filter_append]; simp [h]
theorem knI_yes {p : Pr} {b i : Nat} (h : goneI p b i = false) : knI p b (i + 1) = knI p b i + 1 := by
 unfold knI; rw [List.range_succ, List.filter_append]; simp [h]
theorem kept_eq (p : Pr) (b : Nat) : withoutL (p.blks.getD b default).ins (placesL p b) = ((List.range (p.blks.getD b default).ins.length).filter fun t => !goneI p b t).map fun t => (p.blks.getD b default).ins.getD t default := by
 unfold withoutL
 congr 1
 refine List.filter_congr fun t ht => ?_
 have ht := List.mem_range.1 ht
 congr 1
 rw [Bool.eq_iff_iff, hasL_iff, placesL, List.mem_append, idleL, storeL, posU_mem_iff _ ht, posU_mem_iff _ ht]
 unfold goneI
 rw [Bool.or_eq_true]
theorem range_split (n i : Nat) (h : i < n) : List.range n = List.range i ++ i :: (List.range' (i + 1) (n - (i + 1))) := by
 rw [List.range_eq_range', List.range_eq_range']
 have e : n = i + ((n - (i + 1)) + 1) := by omega
 conv => lhs; rw [e]
 rw [← List.range'_append_1, List.range'_succ]
 simp
theorem getD_mid {α : Type} (A B : List α) (a d : α) : (A ++ a :: B).getD A.length d = a := by simp [List.getD]
theorem kept_at {p : Pr} {b i : Nat} (hi : i < (p.blks.getD b default).ins.length) (h : goneI p b i = false) :
  knI p b i < (withoutL (p.blks.getD b default).ins (placesL p b)).length ∧ (withoutL (p.blks.getD b default).ins (placesL p b)).getD (knI p b i) default = (p.blks.getD b default).ins.getD i default := by
 rw [kept_eq, range_split _ _ hi, List.filter_append, List.filter_cons]
 rw [if_pos (by simp [h]), List.map_append, List.map_cons]
 have e : (List.map (fun t => (p.blks.getD b default).ins.getD t default) (List.filter (fun t => !goneI p b t) (List.range i))).length = knI p b i := by rw [List.length_map]; rfl
 generalize List.map (fun t => (p.blks.getD b default).ins.getD t default) (List.filter (fun t => !goneI p b t) (List.range i)) = A at *
 generalize List.map (fun t => (p.blks.getD b default).ins.getD t default) (List.filter (fun t => !goneI p b t) (List.range' (i + 1) ((p.blks.getD b default).ins.length - (i + 1)))) = B at *
 rw [← e]
 exact ⟨by rw [List.length_append, List.length_cons]; omega, getD_mid _ _ _ _⟩
theorem kept_len (p : Pr) (b : Nat) : (withoutL (p.blks.getD b default).ins (placesL p b)).length = knI p b (p.blks.getD b default).ins.length := by
 rw [kept_eq, List.length_map]; rfl
/-- registers agree where they are live -/
structure LiveQ (p : Pr) (b i : Nat) (x : Int) (regs regs' : List Int) : Prop where
 len : regs'.length = regs.length
 eq : ∀ r : Int, 0 ≤ r → liveP p b i r = true → r ≠ x → rg regs' r = rg regs r
theorem rg_set (l : List Int) (d r v : Int) (hd : 0 ≤ d) (hr : 0 ≤ r) : rg (l.set d.toNat v) r = if r = d ∧ d.toNat < l.length then v else rg l r := by
 unfold rg
 simp only [List.getD, List.getElem?_set]
 by_cases e : d.toNat = r.toNat
 ·have e2 : r = d := by omega
  rw [if_pos e]
  by_cases h : d.toNat < l.length
  ·rw [if_pos h, if_pos ⟨e2, h⟩]; rfl
  ·rw [if_neg h, if_neg (fun q => h q.2), e2]; simp [Nat.le_of_not_lt h]
 ·rw [if_neg e, if_neg (fun q => e (by omega))]
theorem rg_set_ne (l : List Int) {d r : Int} (v : Int) (hd : 0 ≤ d) (hr : 0 ≤ r) (h : r ≠ d) : rg (l.set d.toNat v) r = rg l r := by rw [rg_set _ _ _ _ hd hr, if_neg (fun q => h q.1)]
theorem rg_set_2 {l l' : List Int} (hl : l'.length = l.length) {d r : Int} (v : Int) (hd : 0 ≤ d) (hr : 0 ≤ r) (h : r ≠ d → rg l' r = rg l r) : rg (l'.set d.toNat v) r = rg (l.set d.toNat v) r := by
 rw [rg_set _ _ _ _ hd hr, rg_set _ _ _ _ hd hr, hl]
 by_cases e : r = d
 ·by_cases q : d.toNat < l.length
  ·rw [if_pos ⟨e, q⟩, if_pos ⟨e, q⟩]
  ·rw [if_neg (fun z => q z.2), if_neg (fun z => q z.2)]
   unfold rg
   rw [e]
   simp [List.getD, Nat.le_of_not_lt q, hl]
 ·rw [if_neg (fun z => e z.1), if_neg (fun z => e z.1)]
  exact h e
/-- memories agree but for what will be stored anew -/
structure MemQ (l : List In) (i : Nat) (regs mem mem' : List Int) : Prop where
 len : mem'.length = mem.length
 eq : ∀ a : Nat, mem'.getD a 0 = mem.getD a 0 ∨ ∃ k, k < i ∧ storeI l k = true ∧ hiddenF (l.getD k default) (l.drop i) = true ∧ (addrM regs (l.getD k default) - 268435456).toNat ≤ a ∧ a < (addrM regs (l.getD k default) - 268435456).toNat + (l.getD k default).size.toNat
theorem MemQ.refl (l : List In) (i : Nat) (regs mem : List Int) : MemQ l i regs mem mem := ⟨rfl, fun _ => .inl rfl⟩
theorem storeI_op {l : List In} {k : Nat} (h : storeI l k = true) : (l.getD k default).op = 6 ∧ hiddenF (l.getD k default) (l.drop (k + 1)) = true := by
 unfold storeI at h
 simp only [Bool.and_eq_true, beq_iff_eq] at h
 exact ⟨h.1, h.2.2⟩
theorem hidden_cases {s : In} {l : List In} {i : Nat} (hi : i < l.length) (h : hiddenF s (l.drop i) = true) :
  hidesF s (l.getD i default) = true ∨ stopsF s (l.getD i default) = false ∧ hiddenF s (l.drop (i + 1)) = true := by
 rw [hiddenF_drop s l hi] at h
 by_cases h1 : hidesF s (l.getD i default) = true
 ·exact .inl h1
 ·rw [if_neg h1] at h
  by_cases h2 : stopsF s (l.getD i default) = true
  ·rw [if_pos h2] at h; cases h
  ·rw [if_neg h2] at h
   exact .inr ⟨by simpa using h2, h⟩
theorem stops_not {s i : In} (h : stopsF s i = false) : i.op ≠ 5 ∧ i.op ≠ 9 ∧ i.op ≠ 12 ∧ defI i ≠ s.a := by
 unfold stopsF at h
 simp only [Bool.or_eq_false_iff, beq_eq_false_iff_ne] at h
 exact ⟨h.1, h.2.1, h.2.2.1, h.2.2.2⟩
theorem hides_is {s y : In} (h : hidesF s y = true) : y.op = 6 ∧ y.size = s.size ∧ y.a = s.a ∧ y.off = s.off := by
 unfold hidesF at h
 simp only [Bool.and_eq_true, beq_iff_eq] at h
 exact ⟨h.1, h.2.1, h.2.2.1, h.2.2.2⟩
theorem hides_addr {s y : In} (h : hidesF s y = true) (regs : List Int) : addrM regs s = addrM regs y := by
 obtain ⟨-, -, h1, h2⟩ := hides_is h
 unfold addrM; rw [h1, h2]
/-- nothing waits where a load, a call, a mark, or the end comes -/
theorem MemQ.none {l : List In} {i : Nat} {regs mem mem' : List Int} (h : MemQ l i regs mem mem') (hn : i = l.length ∨ i < l.length ∧ ((l.getD i default).op = 5 ∨ (l.getD i default).op = 9 ∨ (l.getD i default).op = 12)) : mem' = mem := by
 refine list_getD_ext h.len fun a => ?_
 rcases h.eq a with h1 | ⟨k, h1, h2, h3, -⟩
 ·exact h1
 ·exfalso
  rcases hn with rfl | ⟨hi, ho⟩
  ·rw [hiddenF_end] at h3; cases h3
  ·rcases hidden_cases hi h3 with h4 | ⟨h4, -⟩
   ·have := (hides_is h4).1; omega
   ·have := stops_not h4; omega
/-- past an instruction that stores nothing -/
theorem MemQ.on {l : List In} {i : Nat} {regs regs1 mem mem' : List Int} (h : MemQ l i regs mem mem') (hi : i < l.length) (h6 : (l.getD i default).op ≠ 6)
  (hr : ∀ k, k < i → storeI l k = true → defI (l.getD i default) ≠ (l.getD k default).a → rg regs1 (l.getD k default).a = rg regs (l.getD k default).a) : MemQ l (i + 1) regs1 mem mem' := by
 refine ⟨h.len, fun a => ?_⟩
 rcases h.eq a with h1 | ⟨k, h1, h2, h3, h4, h5⟩
 ·exact .inl h1
 ·right
  rcases hidden_cases hi h3 with h7 | ⟨h7, h8⟩
  ·exact absurd (hides_is h7).1 h6
  ·have e : addrM regs1 (l.getD k default) = addrM regs (l.getD k default) := by unfold addrM; rw [hr k h1 h2 (stops_not h7).2.2.2]
   exact ⟨k, by omega, h2, h8, by rw [e]; exact h4, by rw [e]; exact h5⟩
/-- past a store, done by one alone, or by both -/
theorem MemQ.store {l : List In} {i : Nat} {regs mem mem' : List Int} {v : Int} {both : Bool} (h : MemQ l i regs mem mem') (hi : i < l.length) (h6 : (l.getD i default).op = 6) (hb : both = false → storeI l i = true) :
  MemQ l (i + 1) regs (storeP mem (addrM regs (l.getD i default) - 268435456).toNat v (l.getD i default).size.toNat) (if both = true then storeP mem' (addrM regs (l.getD i default) - 268435456).toNat v (l.getD i default).size.toNat else mem') := by
 refine ⟨by split <;> simp [storeP_len, h.len], fun a => ?_⟩
 by_cases ha : (addrM regs (l.getD i default) - 268435456).toNat ≤ a ∧ a < (addrM regs (l.getD i default) - 268435456).toNat + (l.getD i default).size.toNat
 ·cases both
  ·right
   have := hb rfl
   exact ⟨i, by omega, this, (storeI_op this).2, ha.1, ha.2⟩
  ·left
   rw [if_pos rfl]
   exact storeP_in _ _ _ _ h.len _ ha.1 ha.2
 ·have e1 : (storeP mem (addrM regs (l.getD i default) - 268435456).toNat v (l.getD i default).size.toNat).getD a 0 = mem.getD a 0 := storeP_out _ _ _ _ (by omega)
  have e2 : (if both = true then storeP mem' (addrM regs (l.getD i default) - 268435456).toNat v (l.getD i default).size.toNat else mem').getD a 0 = mem'.getD a 0 := by
   split
   ·exact storeP_out _ _ _ _ (by omega)
   ·rfl
  rw [e1, e2]
  rcases h.eq a with h1 | ⟨k, h1, h2, h3, h4, h5⟩
  ·exact .inl h1
  ·right
   rcases hidden_cases hi h3 with h7 | ⟨h7, h8⟩
   ·exfalso
    apply ha
    rw [hides_addr h7] at h4 h5
    have := (hides_is h7).2.1
    rw [this]
    exact ⟨h4, h5⟩
   ·exact ⟨k, by omega, h2, h8, h4, h5⟩
structure DeadT (p : Pr) (f f' : Fr) (s s' : Oc) : Prop where
 b : f'.b = f.b
 i : f'.i = knI p f.b f.i
 regs : LiveQ p f.b f.i (-1) f.regs f'.regs
 mem : MemQ (p.blks.getD f.b default).ins f.i f.regs s.mem s'.mem
 out : s'.out = s.out
 ins : s'.ins = s.ins
 exit : s'.exit = s.exit
 e : s'.e = s.e
structure DeadS (p : Pr) (f f' : Fr) : Prop where
 b : f'.b = f.b
 i : f'.i = knI p f.b f.i
 at' : goneI p f.b (f.i - 1) = false
 regs : LiveQ p f.b f.i (((p.blks.getD f.b default).ins.getD (f.i - 1) default).d) f.regs f'.regs
theorem pure_op {i : In} (h : pureI i = true) : 1 ≤ i.op ∧ i.op ≤ 8 ∧ i.op ≠ 6 := by unfold pureI at h; simpa using h
theorem idle_is {p : Pr} {b t : Nat} (h : idleI p b t = true) : pureI ((p.blks.getD b default).ins.getD t default) = true ∧ liveP p b (t + 1) ((p.blks.getD b default).ins.getD t default).d = false := by
 unfold idleI at h; simpa using h
theorem gone_call {p : Pr} {b t : Nat} (h : ((p.blks.getD b default).ins.getD t default).op = 9) : goneI p b t = false := by
 unfold goneI
 cases h1 : idleI p b t
 ·cases h2 : storeI (p.blks.getD b default).ins t
  ·rfl
  ·have := (storeI_op h2).1; omega
 ·have := pure_op (idle_is h1).1; omega
theorem Oc.ext' {a b : Oc} (h1 : a.mem = b.mem) (h2 : a.out = b.out) (h3 : a.ins = b.ins) (h4 : a.exit = b.exit) (h5 : a.e = b.e) : a = b := by
 cases a; cases b; cases h1; cases h2; cases h3; cases h4; cases h5; rfl
theorem defI_nn {m : Md} {p : Pr} {i : In} (h : okI m p i = true) (h9 : i.op ≠ 9) (hd : defI i = i.d) (hd2 : i.op ≠ 6 ∧ i.op ≠ 10 ∧ i.op ≠ 12) : 0 ≤ i.d := (okI_d h ⟨hd2.1, hd2.2.1, hd2.2.2, h9⟩).1
theorem dead_rep {m : Md} {inp : List Int} {n0 : Nat} (hok : okM m = true) (hn : n0 < m.procs.length) : RepS m inp n0 (dropP (pk m n0)) (DeadS (pk m n0)) (DeadT (pk m n0)) 1 := by
 have hP := okM_proc hok hn
 obtain ⟨p, hp⟩ : ∃ p, pk m n0 = p := ⟨_, rfl⟩
 rw [hp] at hP ⊢
 have hq : ∀ b, b < p.blks.length → (dropP p).blks.getD b default = { p.blks.getD b default with ins := withoutL (p.blks.getD b default).ins (placesL p b) } := fun b hb => dropP_at p hb
 have hpk : pk (withM m n0 (dropP p)) n0 = dropP p := pk_with _ _ _ hn
 have hB : ∀ f : Fr, f.n = n0 → fBk m f = p.blks.getD f.b default := fun f h => by unfold fBk; rw [h, hp]
 have hB' : ∀ f : Fr, f.n = n0 → f.b < p.blks.length → fBk (withM m n0 (dropP p)) f = { p.blks.getD f.b default with ins := withoutL (p.blks.getD f.b default).ins (placesL p f.b) } := fun f h hb => by unfold fBk; rw [h, hpk, hq _ hb]
 have hgb : ∀ f : Fr, f.n = n0 → GFr m f → f.b < p.blks.length := fun f h hg => by have := hg.b; rw [h, hp] at this; exact this
 have hokB : ∀ b, b < p.blks.length → okB m p (p.blks.getD b default) = true := fun b hb => okP_blk hP hb
 -- the kept instruction
 have hin : ∀ (f f' : Fr), f.n = n0 → f'.n = n0 → f.b < p.blks.length → f'.b = f.b → f'.i = knI p f.b f.i → f.i < (p.blks.getD f.b default).ins.length → goneI p f.b f.i = false → f'.i ≠ (fBk (withM m n0 (dropP p)) f').ins.length ∧ fIn (withM m n0 (dropP p)) f' = fIn m f := fun f f' e1 e2 hb e3 e4 hi hg => by
  obtain ⟨k1, k2⟩ := kept_at hi hg
  have e5 := hB' f' e2 (by rw [e3]; exact hb)
  refine ⟨?_, ?_⟩
  ·rw [e5, e3, e4]
   dsimp only
   omega
  ·unfold fIn
   rw [e5, hB f e1, e3, e4]
   exact k2
 have hend : ∀ (f f' : Fr), f'.n = n0 → f.b < p.blks.length → f'.b = f.b → f'.i = knI p f.b f.i → f.i = (p.blks.getD f.b default).ins.length → f'.i = (fBk (withM m n0 (dropP p)) f').ins.length ∧ (fBk (withM m n0 (dropP p)) f').fin = (p.blks.getD f.b default).fin ∧ (fBk (withM m n0 (dropP p)) f').a = (p.blks.getD f.b default).a ∧ (fBk (withM m n0 (dropP p)) f').to = (p.blks.getD f.b default).to ∧ (fBk (withM m n0 (dropP p)) f').els = (p.blks.getD f.b default).els := fun f f' e2 hb e3 e4 hi => by
  have e5 := hB' f' e2 (by rw [e3]; exact hb)
  rw [e5, e3]
  dsimp only
  refine ⟨?_, rfl, rfl, rfl, rfl⟩
  rw [kept_len, e4, hi]
 refine ⟨Nat.le_refl _, ?_, ?_, ?_, ?_, ?_, ?_⟩
 ·-- a call begins
  intro args low s ha haw hm
  rw [hp]
  exact ⟨rfl, rfl, ⟨rfl, fun _ _ _ _ => rfl⟩, MemQ.refl _ _ _ _, rfl, rfl, rfl, rfl⟩
 ·-- an instruction
  intro f f' s s' r e1 e2 e3 hT hG hm hi h9 hX
  rw [hp] at hX
  have hb := hgb f e1 hG
  have hokb := hokB _ hb
  have hi' := hi
  rw [hB f e1] at hi'
  have eI : fIn m f = (p.blks.getD f.b default).ins.getD f.i default := by unfold fIn; rw [hB f e1]
  have hI : okI m p (fIn m f) = true := by rw [eI]; exact okB_ins hokb hi'
  have hI' : ∀ k, k < f.i → storeI (p.blks.getD f.b default).ins k = true → 0 ≤ ((p.blks.getD f.b default).ins.getD k default).a := fun k hk hs => (okI_a (okB_ins hokb (by omega)) (.inr (.inr (.inr (.inr (.inl (storeI_op hs).1)))))).1.1
  have h12 := ops12 hI
  have hsh := insM_shape (m := m) ⟨h12.1, h12.2, h9⟩ hX
  obtain ⟨s1, s2, s3, s4, s5, s6⟩ := hsh
  cases hg : goneI p f.b f.i
  ·-- both do it
   obtain ⟨k1, k2⟩ := hin f f' e1 e2 hb hT.b hT.i hi' hg
   have hfol := insM_follow (m := m) (inp := inp) (p := p) (low := f.low) (s' := s') (regs' := f'.regs) hI h9 hX (fun x hx => by
     have hb0 := (uses_in hI hx).1
     exact hT.regs.eq x hb0 (live_use hi' (by rw [← eI]; exact hx)) (by omega))
    (fun h5 => hT.mem.none (.inr ⟨hi', .inl (by rw [← eI]; exact h5)⟩)) hT.out hT.ins hT.exit hT.e
   obtain ⟨r', q1, q2, q3, q4, q5, q6, q7⟩ := hfol
   refine ⟨1, { f' with regs := r'.1, i := f'.i + 1 }, r'.2, Nat.le_refl _, e2, e3, fun K => ?_, ?_⟩
   ·rw [it_one (fin_on _ _ _)]
    refine fs_ins (r := r') k1 (by rw [k2]; exact h9) ?_
    rw [k2, e2, hpk, e3]
    rw [insM_with, insM_objs m inp (p := p) (p' := dropP p) rfl]
    exact q1
   ·refine ⟨hT.b, by dsimp only; rw [knI_yes hg, hT.i], ⟨?_, ?_⟩, ?_, q2, q3, q4, q5⟩
    ·dsimp only
     rcases q6 with ⟨-, z1, z2⟩ | ⟨-, v, z1, z2⟩
     ·rw [z1, z2]; exact hT.regs.len
     ·rw [z1, z2]; simpa using hT.regs.len
    ·intro x hx0 hx hx1
     dsimp only at hx ⊢
     rcases q6 with ⟨z0, z1, z2⟩ | ⟨z0, v, z1, z2⟩
     ·rw [z1, z2]
      refine hT.regs.eq x hx0 (live_on hi' hx ?_) hx1
      rw [← eI, z0]; exact Ne.symm hx1
     ·rw [z1, z2]
      refine rg_set_2 hT.regs.len v (defI_nn hI h9 z0.1 z0.2) hx0 (fun hne => hT.regs.eq x hx0 (live_on hi' hx ?_) hx1)
      rw [← eI, z0.1]; exact Ne.symm hne
    ·dsimp only
     rcases q7 with ⟨h6, z1, z2⟩ | ⟨h6, z1, z2⟩
     ·have hr1 : r.1 = f.regs := by
       rcases q6 with ⟨-, z, -⟩ | ⟨z, -⟩
       ·exact z
       ·exact absurd h6 z.2.1
      rw [z1, z2, hr1, eI]
      exact hT.mem.store (both := true) hi' (by rw [← eI]; exact h6) (fun h => (by cases h))
     ·rw [z1, z2]
      refine hT.mem.on hi' (by rw [← eI]; exact h6) (fun k hk hs hd => ?_)
      rcases q6 with ⟨-, z, -⟩ | ⟨z0, v, z, -⟩
      ·rw [z]
      ·rw [z]
       refine rg_set_ne _ _ (defI_nn hI h9 z0.1 z0.2) (hI' k hk hs) ?_
       rw [← eI, z0.1] at hd
       exact Ne.symm hd
  ·-- it is gone
   refine ⟨0, f', s', Nat.zero_le _, e2, e3, fun K => rfl, ?_⟩
   unfold goneI at hg
   rw [Bool.or_eq_true] at hg
   have hgi : goneI p f.b f.i = true := by unfold goneI; rw [Bool.or_eq_true]; exact hg
   by_cases hid : idleI p f.b f.i = true
   ·obtain ⟨hp1, hp2⟩ := idle_is hid
    rw [← eI] at hp1 hp2
    obtain ⟨o1, o2, o3⟩ := pure_op hp1
    have hd := okI_d hI ⟨o3, by omega, by omega, h9⟩
    have hdd : defI (fIn m f) = (fIn m f).d := by unfold defI; rw [if_pos (by omega)]
    obtain ⟨v, hv⟩ : ∃ v, r.1 = f.regs.set (fIn m f).d.toNat v := by
     rcases s1 with ⟨z, -⟩ | ⟨-, -, -, -, z⟩
     ·rw [hdd] at z; omega
     ·exact z
    have hm1 : r.2.mem = s.mem := by
     rcases s4 with ⟨z, -⟩ | ⟨-, z⟩
     ·exact absurd z o3
     ·exact z
    refine ⟨hT.b, by dsimp only; rw [knI_no hgi, hT.i], ⟨by dsimp only; rw [hv]; simpa using hT.regs.len, ?_⟩, ?_, ?_, ?_, ?_, ?_⟩
    ·intro x hx0 hx hx1
     dsimp only at hx ⊢
     have hxd : x ≠ (fIn m f).d := fun e => by rw [e] at hx; rw [hx] at hp2; cases hp2
     rw [hv, rg_set_ne _ _ hd.1 hx0 hxd]
     refine hT.regs.eq x hx0 (live_on hi' hx ?_) hx1
     rw [← eI, hdd]; exact Ne.symm hxd
    ·dsimp only
     rw [hm1]
     refine hT.mem.on hi' (by rw [← eI]; exact o3) (fun k hk hs hdk => ?_)
     rw [hv]
     refine rg_set_ne _ _ hd.1 (hI' k hk hs) ?_
     rw [← eI, hdd] at hdk
     exact Ne.symm hdk
    ·rw [s5 (by omega)]; exact hT.out
    ·rw [s6 (by omega)]; exact hT.ins
    ·rw [s2]; exact hT.exit
    ·rw [s3]; exact hT.e
   ·have hst : storeI (p.blks.getD f.b default).ins f.i = true := by rcases hg with h | h; exact absurd h hid; exact h
    have h6 : (fIn m f).op = 6 := by rw [eI]; exact (storeI_op hst).1
    have hr1 : r.1 = f.regs := by
     rcases s1 with ⟨-, z⟩ | ⟨-, z, -⟩
     ·exact z
     ·exact absurd h6 z
    have hs1 : r.2 = { s with mem := storeP s.mem (addrM f.regs (fIn m f) - 268435456).toNat (rg f.regs (fIn m f).b) (fIn m f).size.toNat } := by
     rcases s4 with ⟨-, -, z⟩ | ⟨z, -⟩
     ·exact z
     ·exact absurd h6 z
    have hdd : defI (fIn m f) = -1 := by unfold defI; rw [if_neg (by omega)]
    refine ⟨hT.b, by dsimp only; rw [knI_no hgi, hT.i], ⟨by dsimp only; rw [hr1]; exact hT.regs.len, ?_⟩, ?_, ?_, ?_, ?_, ?_⟩
    ·intro x hx0 hx hx1
     dsimp only at hx ⊢
     rw [hr1]
     refine hT.regs.eq x hx0 (live_on hi' hx ?_) hx1
     rw [← eI, hdd]; exact Ne.symm hx1
    ·rw [hs1, hr1, eI]
     exact hT.mem.store (both := false) hi' (by rw [← eI]; exact h6) (fun _ => hst)
    ·rw [hs1]; exact hT.out
    ·rw [hs1]; exact hT.ins
    ·rw [hs1]; exact hT.exit
    ·rw [hs1]; exact hT.e
 ·-- a call
  intro f f' s s' e1 e2 e3 hT hG hm hi h9
  have hb := hgb f e1 hG
  have hokb := hokB _ hb
  have hi' := hi
  rw [hB f e1] at hi'
  have eI : fIn m f = (p.blks.getD f.b default).ins.getD f.i default := by unfold fIn; rw [hB f e1]
  have hI : okI m p (fIn m f) = true := by rw [eI]; exact okB_ins hokb hi'
  have hg : goneI p f.b f.i = false := gone_call (by rw [← eI]; exact h9)
  obtain ⟨k1, k2⟩ := hin f f' e1 e2 hb hT.b hT.i hi' hg
  have hs : s' = s := Oc.ext' (hT.mem.none (.inr ⟨hi', .inr (.inl (by rw [← eI]; exact h9))⟩)) hT.out hT.ins hT.exit hT.e
  subst hs
  have ha : (fIn m f).args.map (rg f'.regs) = (fIn m f).args.map (rg f.regs) := List.map_congr_left fun x hx => by
   obtain ⟨z1, z2⟩ := okI_args hI h9 hx
   exact hT.regs.eq x z1.1 (live_use hi' (by rw [← eI]; exact z2)) (by omega)
  refine ⟨0, f', Nat.le_refl _, e2, e3, fun K => rfl, fun K => ?_, ?_⟩
  ·rw [fs_call k1 (by rw [k2]; exact h9), k2, ha, e3]
  ·refine ⟨hT.b, by show f'.i + 1 = knI p f.b (f.i + 1); rw [knI_yes hg, hT.i], by show goneI p f.b (f.i + 1 - 1) = false; rw [Nat.add_sub_cancel]; exact hg, hT.regs.len, fun x hx0 hx hx1 => ?_⟩
   have hx : liveP p f.b (f.i + 1) x = true := hx
   have hx1 : x ≠ ((p.blks.getD f.b default).ins.getD (f.i + 1 - 1) default).d := hx1
   rw [Nat.add_sub_cancel, ← eI] at hx1
   refine hT.regs.eq x hx0 (live_on hi' hx ?_) (by omega)
   rw [← eI]
   unfold defI
   rw [if_pos (by omega)]
   exact Ne.symm hx1
 ·-- a call comes back
  intro f f' v s e1 e2 e3 hS hU hv hm
  have hG := hU.g
  have hb := hgb f e1 hG
  have hi1 := hU.i
  have hil : f.i ≤ (p.blks.getD f.b default).ins.length := by have := hG.i; rw [e1, hp] at this; exact this
  have hi' : f.i - 1 < (p.blks.getD f.b default).ins.length := by omega
  obtain ⟨k1, k2⟩ := kept_at hi' hS.at'
  have e4 : f'.i - 1 = knI p f.b (f.i - 1) := by
   have := knI_yes hS.at'
   rw [Nat.sub_add_cancel hi1, ← hS.i] at this
   omega
  have ed : ((pk (withM m n0 (dropP p)) f'.n).blks.getD f'.b default).ins.getD (f'.i - 1) default = (p.blks.getD f.b default).ins.getD (f.i - 1) default := by
   rw [e2, hpk, hS.b, hq _ hb, e4]
   exact k2
  have ed2 : ((pk m f.n).blks.getD f.b default).ins.getD (f.i - 1) default = (p.blks.getD f.b default).ins.getD (f.i - 1) default := by rw [e1, hp]
  have hI : okI m p ((p.blks.getD f.b default).ins.getD (f.i - 1) default) = true := okB_ins (hokB _ hb) hi'
  have h9 : ((p.blks.getD f.b default).ins.getD (f.i - 1) default).op = 9 := by have := hU.c; rw [ed2] at this; exact this
  have hdr : ((p.blks.getD f.b default).ins.getD (f.i - 1) default).d ≠ -1 → 0 ≤ ((p.blks.getD f.b default).ins.getD (f.i - 1) default).d := fun h => by
   have := (okI_call hI h9).2.2.2.1
   rcases regF_may this with h2 | h2
   ·exact absurd h2 h
   ·exact h2.1
  unfold retF
  rw [ed, ed2]
  have hSr := hS.regs
  generalize ((p.blks.getD f.b default).ins.getD (f.i - 1) default).d = d at *
  by_cases hd : d ≠ -1
  ·rw [if_pos hd, if_pos hd]
   refine ⟨hS.b, hS.i, ⟨by simpa using hSr.len, fun x hx0 hx hx1 => ?_⟩, MemQ.refl _ _ _ _, rfl, rfl, rfl, rfl⟩
   exact rg_set_2 hSr.len v (hdr hd) hx0 (fun hne => hSr.eq x hx0 hx hne)
  ·rw [if_neg hd, if_neg hd]
   refine ⟨hS.b, hS.i, ⟨hSr.len, fun x hx0 hx hx1 => hSr.eq x hx0 hx (by omega)⟩, MemQ.refl _ _ _ _, rfl, rfl, rfl, rfl⟩
 ·-- on to another block
  intro f f' s s' e1 e2 e3 hT hG hm hi h3
  have hb := hgb f e1 hG
  have hokb := hokB _ hb
  have hi' := hi
  rw [hB f e1] at hi' h3
  obtain ⟨x1, x2, x3, x4, x5⟩ := hend f f' e2 hb hT.b hT.i hi'
  have hs : s' = s := Oc.ext' (hT.mem.none (.inl hi')) hT.out hT.ins hT.exit hT.e
  subst hs
  refine ⟨1, fNext (withM m n0 (dropP p)) f', s', Nat.le_refl _, e2, e3, fun K => ?_, ?_⟩
  ·rw [it_one (fin_on _ _ _), fs_end x1 (by rw [x2]; exact h3)]
  ·have hx := end_cases (okB_end hokb)
   have hra : (p.blks.getD f.b default).fin = 2 → rg f'.regs (p.blks.getD f.b default).a = rg f.regs (p.blks.getD f.b default).a := fun h2 => by
    have ha : 0 ≤ (p.blks.getD f.b default).a := by
     rcases hx with ⟨q1, -⟩ | ⟨q1, q2, q3, q4, q5, q6, -⟩ | ⟨q1, -⟩
     ·omega
     ·exact q6
     ·omega
    refine hT.regs.eq _ ha ?_ (by omega)
    rw [hi']
    exact live_fin (by unfold endReads; rw [h2]; simp)
   have hcond : (if (fBk (withM m n0 (dropP p)) f').fin = 2 ∧ rg f'.regs (fBk (withM m n0 (dropP p)) f').a = 0 then (fBk (withM m n0 (dropP p)) f').els else (fBk (withM m n0 (dropP p)) f').to) = (if (p.blks.getD f.b default).fin = 2 ∧ rg f.regs (p.blks.getD f.b default).a = 0 then (p.blks.getD f.b default).els else (p.blks.getD f.b default).to) := by
    rw [x2, x3, x4, x5]
    by_cases h2 : (p.blks.getD f.b default).fin = 2
    ·rw [hra h2]
    ·rw [if_neg (fun h => h2 h.1), if_neg (fun h => h2 h.1)]
   have hout := outs_next (p := p) (b := f.b) (okB_end hokb) h3 ((p.blks.getD f.b default).fin = 2 ∧ rg f.regs (p.blks.getD f.b default).a = 0) (fun h h' => h h'.1)
   unfold fNext
   rw [hcond, hB f e1]
   refine ⟨rfl, rfl, ⟨hT.regs.len, fun x hx0 hx hx1 => hT.regs.eq x hx0 ?_ hx1⟩, MemQ.refl _ _ _ _, rfl, rfl, rfl, rfl⟩
   rw [hi']
   exact live_out hout hx
 ·-- back
  intro f f' s s' e1 e2 e3 hT hG hm hi h3
  have hb := hgb f e1 hG
  have hokb := hokB _ hb
  have hi' := hi
  rw [hB f e1] at hi' h3
  obtain ⟨x1, x2, x3, x4, x5⟩ := hend f f' e2 hb hT.b hT.i hi'
  have hs : s' = s := Oc.ext' (hT.mem.none (.inl hi')) hT.out hT.ins hT.exit hT.e
  subst hs
  refine ⟨0, f', Nat.le_refl _, fun K => rfl, fun K => ?_⟩
  rw [fs_ret x1 (by rw [x2]; exact h3), x3, hB f e1]
  by_cases ha : (p.blks.getD f.b default).a ≠ -1
  ·rw [if_pos ha, if_pos ha]
   have ha0 : 0 ≤ (p.blks.getD f.b default).a := by
    rcases end_cases (okB_end hokb) with ⟨q1, -⟩ | ⟨q1, -⟩ | ⟨q1, q2⟩
    ·omega
    ·omega
    ·omega
   rw [hT.regs.eq _ ha0 (by rw [hi']; exact live_fin (by unfold endReads; rw [h3]; simp)) (by omega)]
  ·rw [if_neg ha, if_neg ha]
end Go.Proofs.Ytnnhobbabcfogaa
