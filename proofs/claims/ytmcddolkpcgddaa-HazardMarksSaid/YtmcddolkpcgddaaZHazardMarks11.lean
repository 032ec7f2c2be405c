/-
 Which modules and procedures of the middle language are right, as plain functions.; What a procedure's instructions ask of the things that registers may point into; the least answer, however it is reckoned; exact places; which accesses may meet.
-/
import Derived.Test.YtmcddolkpcgddaaZHazardMarks10

set_option linter.all false
namespace Go.Proofs.Ytmcddolkpcgddaa

def offF (n : Int) : Bool := decide (-32768 ≤ n) && decide (n ≤ 32768)
def slotF (s : Sl) : Bool := decide (1 ≤ s.size) && (decide (s.size ≤ 32768) && (s.align == 1 || s.align == 4))
def regF (p : Pr) (r : Int) (should : Bool) : Bool := if should = true then decide (0 ≤ r) && decide (r < p.regs) else r == -1
def blockF (p : Pr) (n : Int) : Bool := decide (0 ≤ n) && decide (n < p.blks.length)
def endF (p : Pr) (b : Bk) : Bool :=
 if b.fin = 1 then blockF p b.to && (b.a == -1 && b.els == 0)
 else if b.fin = 2 then blockF p b.to && (blockF p b.els && regF p b.a true)
 else if b.fin = 3 then regF p b.a (!p.void) && (b.to == 0 && b.els == 0)
 else false
/-- an instruction without what its operation has -/
def plainI (i : In) : In :=
 { op := i.op, d := -1, a := -1, b := -1, args := [], log := if i.op = 6 ∨ defI i ≠ -1 then false else i.log, num := if i.op = 1 then 0 else i.num, fn := if i.op = 3 ∨ i.op = 4 then 0 else i.fn, off := if i.op = 5 ∨ i.op = 6 ∨ i.op = 7 ∨ i.op = 8 then 0 else i.off, size := if i.op = 5 ∨ i.op = 6 then 0 else i.size, obj := if i.op = 7 ∨ i.op = 8 ∨ i.op = 9 then 0 else i.obj }
def bareF (i : In) : Bool :=
 (plainI i).fn == 0 && ((plainI i).obj == 0 && ((plainI i).off == 0 && ((plainI i).size == 0 && ((plainI i).num == 0 && (!(plainI i).log && (i.op == 9 || decide (i.args.length = 0)))))))
def callF (m : Md) (p : Pr) (i : In) : Bool :=
 decide (0 ≤ i.obj) && (decide (i.obj < m.procs.length) && (decide ((i.args.length : Int) = (m.procs.getD i.obj.toNat default).params) && (regF p i.d (!(m.procs.getD i.obj.toNat default).void) && i.args.all fun r => regF p r true)))
/-- what an operation has beside registers -/
def moreF (m : Md) (p : Pr) (i : In) : Bool :=
 if i.op = 3 then decide (1 ≤ i.fn) && decide (i.fn ≤ 16)
 else if i.op = 4 then decide (17 ≤ i.fn) && decide (i.fn ≤ 19)
 else if i.op = 5 ∨ i.op = 6 then (i.size == 1 || i.size == 4) && offF i.off
 else if i.op = 7 then (decide (0 ≤ i.obj) && decide (i.obj < p.objs.length)) && offF i.off
 else if i.op = 8 then (decide (0 ≤ i.obj) && decide (i.obj < m.globs.length)) && offF i.off
 else true
def okI (m : Md) (p : Pr) (i : In) : Bool :=
 (decide (1 ≤ i.op) && (decide (i.op ≤ 12) && bareF i)) &&
 if i.op = 9 then callF m p i && (regF p i.a false && regF p i.b false)
 else (regF p i.d (i.op != 6 && (i.op != 10 && i.op != 12)) && (regF p i.a (readsA i.op) && regF p i.b (readsB i.op))) && moreF m p i
def okB (m : Md) (p : Pr) (b : Bk) : Bool := b.ins.all (okI m p) && endF p b
def insN (p : Pr) : Nat := (p.blks.map fun b => b.ins.length).sum
def okHead (p : Pr) : Bool :=
 decide (0 ≤ p.params) && (decide (p.params ≤ 6) && (decide (p.params ≤ p.regs) && (decide (p.regs ≤ 8000) && (decide (p.objs.length ≤ 400) && (decide (1 ≤ p.blks.length) && (decide (p.blks.length ≤ 4000) && (p.objs.all slotF && decide (insN p ≤ 20000))))))))
def okP (m : Md) (p : Pr) : Bool := okHead p && p.blks.all (okB m p)
def dataF (m : Md) : Bool := (List.range m.data.length).all fun k => decide (((m.data.getD k []).length : Int) = (m.globs.getD k default).size)
def okHeadM (m : Md) : Bool :=
 decide (m.data.length = m.globs.length) && (decide (m.globs.length ≤ 200) && (m.globs.all slotF && (decide (1 ≤ m.procs.length) && (decide (m.procs.length ≤ 200) && (decide (0 ≤ m.main) && decide (m.main < m.procs.length))))))
def okM (m : Md) : Bool :=
 okHeadM m && (dataF m && (((m.procs.getD m.main.toNat default).params == 0 && !(m.procs.getD m.main.toNat default).void) && m.procs.all (okP m)))
/-- sizes that no sum of 64 bits leaves -/
structure SzP (p : Pr) : Prop where
 blks : p.blks.length ≤ 100000
 ins : ∀ b ∈ p.blks, b.ins.length ≤ 100000
structure SzM (m : Md) : Prop where
 procs : ∀ p ∈ m.procs, SzP p
end Go.Proofs.Ytmcddolkpcgddaa

set_option linter.all false
namespace Go.Proofs.Ytmcddolkpcgddaa

/-- what an instruction asks, in the program's order; o: how many variables there are -/
def conI (o : Nat) (i : In) : List Con :=
 if i.op = 7 then [.put i.obj.toNat i.d.toNat]
 else if i.op = 8 then [.put (o + i.obj.toNat) i.d.toNat]
 else if i.op = 2 then [.sub (some i.a.toNat) (some i.d.toNat)]
 else if i.op = 3 then (if i.fn = 1 ∨ i.fn = 2 then [.sub (some i.a.toNat) (some i.d.toNat), .sub (some i.b.toNat) (some i.d.toNat)] else [])
 else if i.op = 5 then (if i.size = 4 then [.sub none (some i.d.toNat)] else [])
 else if i.op = 6 then (if i.size = 4 then [.sub (some i.b.toNat) none] else [])
 else if i.op = 9 then (i.args.map fun r => .sub (some r.toNat) none) ++ (if i.d = -1 then [] else [.sub none (some i.d.toNat)])
 else []
/-- the same in the document's order -/
def conR (o : Nat) (i : In) : List Con :=
 if i.op = 9 then (if i.d = -1 then [] else [.sub none (some i.d.toNat)]) ++ (i.args.map fun r => .sub (some r.toNat) none) else conI o i
def conE (b : Bk) : List Con := if b.fin = 3 ∧ b.a ≠ -1 then [.sub (some b.a.toNat) none] else []
def conB (o : Nat) (b : Bk) : List Con := b.ins.flatMap (conI o) ++ conE b
def conBR (o : Nat) (b : Bk) : List Con := b.ins.flatMap (conR o) ++ conE b
def conP (p : Pr) : List Con := p.blks.flatMap (conB p.objs.length)
def conPR (p : Pr) : List Con := p.blks.flatMap (conBR p.objs.length)
theorem mem_conR (o : Nat) (i : In) (c : Con) : c ∈ conR o i ↔ c ∈ conI o i := by
 by_cases e : i.op = 9
 ·have h : conI o i = (i.args.map fun r => .sub (some r.toNat) none) ++ (if i.d = -1 then [] else [.sub none (some i.d.toNat)]) := by
   unfold conI; rw [e]; rfl
  unfold conR
  rw [if_pos e, h, List.mem_append, List.mem_append]
  exact Or.comm
 ·unfold conR; rw [if_neg e]
theorem mem_conBR (o : Nat) (b : Bk) (c : Con) : c ∈ conBR o b ↔ c ∈ conB o b := by
 unfold conBR conB
 simp only [List.mem_append, List.mem_flatMap, mem_conR]
theorem mem_conPR (p : Pr) (c : Con) : c ∈ conPR p ↔ c ∈ conP p := by
 unfold conPR conP
 simp only [List.mem_flatMap, mem_conBR]

theorem okI_parts {m : Md} {p : Pr} {i : In} (h : okI m p i = true) : (1 ≤ i.op ∧ i.op ≤ 12) ∧ (i.op = 9 → callF m p i = true) ∧ (i.op ≠ 9 → regF p i.d (i.op != 6 && (i.op != 10 && i.op != 12)) = true ∧ regF p i.a (readsA i.op) = true ∧ regF p i.b (readsB i.op) = true ∧ moreF m p i = true) := by
 unfold okI at h
 by_cases e : i.op = 9
 ·rw [if_pos e] at h
  simp only [Bool.and_eq_true, decide_eq_true_eq] at h
  exact ⟨⟨h.1.1, h.1.2.1⟩, fun _ => h.2.1, fun h2 => absurd e h2⟩
 ·rw [if_neg e] at h
  simp only [Bool.and_eq_true, decide_eq_true_eq] at h
  exact ⟨⟨h.1.1, h.1.2.1⟩, fun h2 => absurd h2 e, fun _ => ⟨h.2.1.1, h.2.1.2.1, h.2.1.2.2, h.2.2⟩⟩
theorem al_reg {p : Pr} {r : Int} {b : Bool} (h : regF p r b = true) (hb : b = true) : 0 ≤ r ∧ r < p.regs := by
 subst hb
 simpa [regF] using h
theorem al_none {p : Pr} {r : Int} {b : Bool} (h : regF p r b = true) : r = -1 ∨ 0 ≤ r ∧ r < p.regs := by
 cases b
 ·exact .inl (by simpa [regF] using h)
 ·exact .inr (al_reg h rfl)
/-- where an instruction is right its registers and things are there -/
theorem conI_ok {m : Md} {p : Pr} {i : In} (h : okI m p i = true) : ∀ c ∈ conI p.objs.length i, c.inn p.regs.toNat ∧ c.thing (p.objs.length + m.globs.length + 1) := by
 obtain ⟨-, h9, hn⟩ := okI_parts h
 intro c hc
 unfold conI at hc
 have S : ∀ (r : Int), (0 ≤ r ∧ r < p.regs) → ∀ q, some r.toNat = some q → q < p.regs.toNat := fun r hr q e => by cases e; omega
 have Z : ∀ q, (none : Option Nat) = some q → q < p.regs.toNat := fun q e => by cases e
 by_cases e7 : i.op = 7
 ·rw [if_pos e7] at hc
  obtain ⟨hd, -, -, hm⟩ := hn (by omega)
  have hd := al_reg hd (by rw [e7]; rfl)
  have hm : (0 ≤ i.obj ∧ i.obj < p.objs.length) ∧ offF i.off = true := by simpa [moreF, e7] using hm
  rw [List.mem_singleton] at hc
  subst hc
  exact ⟨by show i.d.toNat < _; omega, by show i.obj.toNat < _; omega⟩
 rw [if_neg e7] at hc
 by_cases e8 : i.op = 8
 ·rw [if_pos e8] at hc
  obtain ⟨hd, -, -, hm⟩ := hn (by omega)
  have hd := al_reg hd (by rw [e8]; rfl)
  have hm : (0 ≤ i.obj ∧ i.obj < m.globs.length) ∧ offF i.off = true := by simpa [moreF, e8] using hm
  rw [List.mem_singleton] at hc
  subst hc
  exact ⟨by show i.d.toNat < _; omega, by show _ + i.obj.toNat < _; omega⟩
 rw [if_neg e8] at hc
 by_cases e2 : i.op = 2
 ·rw [if_pos e2] at hc
  obtain ⟨hd, ha, -, -⟩ := hn (by omega)
  have hd := al_reg hd (by rw [e2]; rfl)
  have ha := al_reg ha (by rw [e2]; rfl)
  rw [List.mem_singleton] at hc
  subst hc
  exact ⟨⟨S _ ha, S _ hd⟩, trivial⟩
 rw [if_neg e2] at hc
 by_cases e3 : i.op = 3
 ·rw [if_pos e3] at hc
  obtain ⟨hd, ha, hb, -⟩ := hn (by omega)
  have hd := al_reg hd (by rw [e3]; rfl)
  have ha := al_reg ha (by rw [e3]; rfl)
  have hb := al_reg hb (by rw [e3]; rfl)
  split at hc
  ·simp only [List.mem_cons, List.not_mem_nil, or_false] at hc
   rcases hc with rfl | rfl
   ·exact ⟨⟨S _ ha, S _ hd⟩, trivial⟩
   ·exact ⟨⟨S _ hb, S _ hd⟩, trivial⟩
  ·cases hc
 rw [if_neg e3] at hc
 by_cases e5 : i.op = 5
 ·rw [if_pos e5] at hc
  obtain ⟨hd, -, -, -⟩ := hn (by omega)
  have hd := al_reg hd (by rw [e5]; rfl)
  split at hc
  ·rw [List.mem_singleton] at hc
   subst hc
   exact ⟨⟨Z, S _ hd⟩, trivial⟩
  ·cases hc
 rw [if_neg e5] at hc
 by_cases e6 : i.op = 6
 ·rw [if_pos e6] at hc
  obtain ⟨-, -, hb, -⟩ := hn (by omega)
  have hb := al_reg hb (by rw [e6]; rfl)
  split at hc
  ·rw [List.mem_singleton] at hc
   subst hc
   exact ⟨⟨S _ hb, Z⟩, trivial⟩
  ·cases hc
 rw [if_neg e6] at hc
 by_cases e9 : i.op = 9
 ·rw [if_pos e9] at hc
  have h9 := h9 e9
  unfold callF at h9
  simp only [Bool.and_eq_true, decide_eq_true_eq, List.all_eq_true] at h9
  obtain ⟨-, -, -, hd, ha⟩ := h9
  rcases List.mem_append.1 hc with hc | hc
  ·obtain ⟨r, hr, rfl⟩ := List.mem_map.1 hc
   exact ⟨⟨S _ (al_reg (ha r hr) rfl), Z⟩, trivial⟩
  ·split at hc
   ·cases hc
   ·rw [List.mem_singleton] at hc
    subst hc
    rcases al_none hd with e | e
    ·contradiction
    ·exact ⟨⟨Z, S _ e⟩, trivial⟩
 rw [if_neg e9] at hc
 cases hc
theorem conE_ok {p : Pr} {b : Bk} (h : endF p b = true) (T : Nat) : ∀ c ∈ conE b, c.inn p.regs.toNat ∧ c.thing T := by
 intro c hc
 unfold conE at hc
 split at hc
 ·rename_i e
  rw [List.mem_singleton] at hc
  subst hc
  have h3 : regF p b.a (!p.void) = true := by
   have : endF p b = (regF p b.a (!p.void) && (b.to == 0 && b.els == 0)) := by unfold endF; rw [e.1]; rfl
   rw [this] at h
   simp only [Bool.and_eq_true] at h
   exact h.1
  rcases al_none h3 with e2 | e2
  ·exact absurd e2 e.2
  ·exact ⟨⟨fun q hq => by cases hq; omega, fun q hq => by cases hq⟩, trivial⟩
 ·cases hc
theorem conP_ok {m : Md} {p : Pr} (h : p.blks.all (okB m p) = true) : ∀ c ∈ conP p, c.inn p.regs.toNat ∧ c.thing (p.objs.length + m.globs.length + 1) := by
 intro c hc
 unfold conP at hc
 obtain ⟨b, hb, hc⟩ := List.mem_flatMap.1 hc
 have hB := List.all_eq_true.1 h b hb
 unfold okB at hB
 rw [Bool.and_eq_true] at hB
 unfold conB at hc
 rcases List.mem_append.1 hc with hc | hc
 ·obtain ⟨i, hi, hc⟩ := List.mem_flatMap.1 hc
  exact conI_ok (List.all_eq_true.1 hB.1 i hi) c hc
 ·exact conE_ok hB.2 _ c hc

/-- at the start: what is out -/
def outA (o T : Nat) : Nat := (List.range T).foldl (fun x t => if o ≤ t then x ||| (1 <<< t) else x) 0
theorem outA_bit (o T t : Nat) : (outA o T).testBit t = (decide (o ≤ t) && decide (t < T)) := by
 induction T with
 | zero => simp [outA]
 | succ n ih =>
  have hs : outA o (n + 1) = if o ≤ n then outA o n ||| (1 <<< n) else outA o n := by
   unfold outA; rw [List.range_succ, List.foldl_append]; rfl
  rw [hs]
  by_cases h : o ≤ n
  ·rw [if_pos h, Nat.testBit_or, ih, Nat.one_shiftLeft, Nat.testBit_two_pow, Bool.eq_iff_iff]
   simp only [Bool.or_eq_true, Bool.and_eq_true, decide_eq_true_eq]
   omega
  ·rw [if_neg h, ih, Bool.eq_iff_iff]
   simp only [Bool.and_eq_true, decide_eq_true_eq]
   omega
def outR (o T : Nat) : List Bool := (List.range T).map fun t => decide (o ≤ t)
/-- the first of both ways -/
def AS.start (p : Pr) (T : Nat) : AS := ⟨(List.range p.regs.toNat).map fun r : Nat => if (r : Int) < p.params then outA p.objs.length T else 0, outA p.objs.length T⟩
def AR.start (p : Pr) (T : Nat) : AR := ⟨(List.range p.regs.toNat).map fun r : Nat => if (r : Int) < p.params then outR p.objs.length T else List.replicate T false, outR p.objs.length T⟩
theorem AR.start_ok (p : Pr) (T : Nat) : (AR.start p T).Ok p.regs.toNat T := by
 refine ⟨by simp [AR.start], fun l hl => ?_, by simp [AR.start, outR]⟩
 obtain ⟨r, hr, rfl⟩ := List.mem_map.1 hl
 split <;> simp [outR]
theorem AS.start_len (p : Pr) (T : Nat) : (AS.start p T).regs.length = p.regs.toNat := by simp [AS.start]
theorem start_same (p : Pr) (T : Nat) (o : Option Nat) (ho : ∀ r, o = some r → r < p.regs.toNat) (t : Nat) : (AS.start p T).sem o t ↔ (AR.start p T).sem o t := by
 have key : (outA p.objs.length T).testBit t = true ↔ (outR p.objs.length T).getD t false = true := by
  rw [outA_bit]
  unfold outR
  by_cases h : t < T
  ·simp [h]
  ·have : ((List.range T).map fun t => decide (p.objs.length ≤ t))[t]? = none := List.getElem?_eq_none (by simp; omega)
   rw [List.getD_eq_getElem?_getD, this]; simp [h]
 cases o with
 | none => exact key
 | some r =>
  have hr := ho r rfl
  unfold AS.sem AR.sem
  have h1 : (AS.start p T).get (some r) = if (r : Int) < p.params then outA p.objs.length T else 0 := by simp [AS.get, AS.start, hr]
  have h2 : (AR.start p T).get (some r) = if (r : Int) < p.params then outR p.objs.length T else List.replicate T false := by simp [AR.get, AR.start, hr]
  rw [h1, h2]
  split
  ·exact key
  ·simp [List.getD_eq_getElem?_getD, List.getElem?_replicate]
   split <;> simp
theorem start_bound (p : Pr) (T : Nat) : ∀ o t, (AS.start p T).sem o t → t < T := by
 have key : ∀ t, (outA p.objs.length T).testBit t = true → t < T := fun t h => by rw [outA_bit] at h; simp at h; exact h.2
 intro o t h
 cases o with
 | none => exact key t h
 | some r =>
  unfold AS.sem AS.get AS.start at h
  by_cases hr : r < p.regs.toNat
  ·simp only [List.getD_eq_getElem?_getD, List.getElem?_map, List.getElem?_range hr, Option.map_some, Option.getD_some] at h
   split at h
   ·exact key t h
   ·simp at h
  ·have : ((List.range p.regs.toNat).map fun r : Nat => if (r : Int) < p.params then outA p.objs.length T else 0)[r]? = none := List.getElem?_eq_none (by simp; omega)
   simp [List.getD_eq_getElem?_getD, this] at h

/-- where both have come to their end they say the same -/
structure AS.End (p : Pr) (T : Nat) (x : AS) : Prop where
 len : x.regs.length = p.regs.toNat
 up : ∀ o t, (AS.start p T).sem o t → x.sem o t
 lo : ∀ S : Option Nat → Nat → Prop, (∀ c ∈ conP p, c.holds S) → (∀ o t, (AS.start p T).sem o t → S o t) → ∀ o t, x.sem o t → S o t
structure AR.End (p : Pr) (T : Nat) (x : AR) : Prop where
 ok : x.Ok p.regs.toNat T
 up : ∀ o t, (∀ r, o = some r → r < p.regs.toNat) → (AR.start p T).sem o t → x.sem o t
 lo : ∀ S : Option Nat → Nat → Prop, (∀ c ∈ conP p, c.holds S) → (∀ o t, (∀ r, o = some r → r < p.regs.toNat) → (AR.start p T).sem o t → S o t) → ∀ o t, (∀ r, o = some r → r < p.regs.toNat) → x.sem o t → S o t
theorem ends_same {p : Pr} {T : Nat} {x : AS} {y : AR} (hx : x.End p T) (hy : y.End p T) (cx : ∀ c ∈ conP p, c.holds x.sem) (cy : ∀ c ∈ conP p, c.holds fun o t => (∀ r, o = some r → r < p.regs.toNat) ∧ y.sem o t)
  (o : Option Nat) (ho : ∀ r, o = some r → r < p.regs.toNat) (t : Nat) : x.sem o t ↔ y.sem o t := by
 constructor
 ·intro h
  refine (hx.lo (fun o t => (∀ r, o = some r → r < p.regs.toNat) ∧ y.sem o t) cy (fun o t h => ?_) o t h).2
  have ho : ∀ r, o = some r → r < p.regs.toNat := by
   intro r e
   subst e
   apply Classical.byContradiction
   intro hn
   unfold AS.sem AS.get AS.start at h
   have : ((List.range p.regs.toNat).map fun r : Nat => if (r : Int) < p.params then outA p.objs.length T else 0)[r]? = none := List.getElem?_eq_none (by simp; omega)
   simp [List.getD_eq_getElem?_getD, this] at h
  exact ⟨ho, hy.up o t ho ((start_same p T o ho t).1 h)⟩
 ·exact hy.lo x.sem cx (fun o t ho h => hx.up o t ((start_same p T o ho t).2 h)) o t ho
end Go.Proofs.Ytmcddolkpcgddaa
