/-
 A run of the middle language as a machine of single steps, in plain data.; A call's frame in memory beside the runner; what an instruction leaves as it was.; Instructions, blocks, procedures and modules written out in the text: how they lie in memory.
-/
import Derived.Test.YtchoiankeohonaaGreatDoorZInlineAll05
import Derived.Test.YtchoiankeohonaaGreatDoorZInlineAll07
import Derived.Test.YtchoiankeohonaaGreatDoorZInlineAll09
import Derived.Test.YtchoiankeohonaaGreatDoorZInlineAll02

set_option linter.all false
namespace Go.Proofs.YtchoiankeohonaaGreatDoor
set_option linter.unusedVariables false

/-- what a run has made -/
structure Oc where
 mem : List Int
 out : List Int
 ins : Int
 exit : Int
 e : Int
/-- a call that stands -/
structure Fr where
 n : Nat
 regs : List Int
 low : Int
 b : Nat
 i : Nat
structure Ms where
 stk : List Fr
 halt : Bool
 s : Oc
def RS.oc (s : RS) : Oc := ⟨s.mem, s.out, s.ins, s.exit, s.e⟩
def rg (regs : List Int) (n : Int) : Int := regs.getD n.toNat 0
def longM (p : Pr) : Int := slE p.objs p.objs.length
def enM (m : Md) : Int := 4096 + slE m.globs m.globs.length
def pk (m : Md) (n : Nat) : Pr := m.procs.getD n default
def addrM (regs : List Int) (i : In) : Int := (rg regs i.a + i.off) % 4294967296
/-- an instruction that is no call -/
def insM (m : Md) (inp : List Int) (p : Pr) (low : Int) (i : In) (regs : List Int) (s : Oc) : Option (List Int × Oc) :=
 if i.op = 1 then some (regs.set i.d.toNat i.num, s)
 else if i.op = 2 then some (regs.set i.d.toNat (rg regs i.a), s)
 else if i.op = 3 then some (regs.set i.d.toNat (fnF i.fn (rg regs i.a) (rg regs i.b)), s)
 else if i.op = 4 then some (regs.set i.d.toNat (fnF i.fn (rg regs i.a) 0), s)
 else if i.op = 5 then (if placeF (addrM regs i) i.size = true then some (regs.set i.d.toNat (loadP s.mem (addrM regs i - 268435456).toNat i.size.toNat), s) else none)
 else if i.op = 6 then (if placeF (addrM regs i) i.size = true then some (regs, { s with mem := storeP s.mem (addrM regs i - 268435456).toNat (rg regs i.b) i.size.toNat }) else none)
 else if i.op = 7 then some (regs.set i.d.toNat ((268435456 + low + slE p.objs i.obj.toNat + i.off) % 4294967296), s)
 else if i.op = 8 then some (regs.set i.d.toNat ((268435456 + (4096 + slE m.globs i.obj.toNat) + i.off) % 4294967296), s)
 else if i.op = 10 then some (regs, { s with out := s.out ++ [rg regs i.a] })
 else if i.op = 11 then some (regs.set i.d.toNat (if s.ins + 1 ≤ (inp.length : Int) then inp.getD s.ins.toNat 0 else 0), { s with ins := s.ins + 1 })
 else some (regs, s)
theorem insM_5 {m : Md} {inp : List Int} {p : Pr} {low : Int} {i : In} {regs : List Int} {s : Oc} (h : i.op = 5) : insM m inp p low i regs s = (if placeF (addrM regs i) i.size = true then some (regs.set i.d.toNat (loadP s.mem (addrM regs i - 268435456).toNat i.size.toNat), s) else none) := by
 unfold insM
 rw [if_neg (by omega), if_neg (by omega), if_neg (by omega), if_neg (by omega), if_pos h]
theorem insM_6 {m : Md} {inp : List Int} {p : Pr} {low : Int} {i : In} {regs : List Int} {s : Oc} (h : i.op = 6) : insM m inp p low i regs s = (if placeF (addrM regs i) i.size = true then some (regs, { s with mem := storeP s.mem (addrM regs i - 268435456).toNat (rg regs i.b) i.size.toNat }) else none) := by
 unfold insM
 rw [if_neg (by omega), if_neg (by omega), if_neg (by omega), if_neg (by omega), if_neg (by omega), if_pos h]
theorem insM_7 {m : Md} {inp : List Int} {p : Pr} {low : Int} {i : In} {regs : List Int} {s : Oc} (h : i.op = 7) : insM m inp p low i regs s = some (regs.set i.d.toNat ((268435456 + low + slE p.objs i.obj.toNat + i.off) % 4294967296), s) := by
 unfold insM
 rw [if_neg (by omega), if_neg (by omega), if_neg (by omega), if_neg (by omega), if_neg (by omega), if_neg (by omega), if_pos h]
theorem insM_8 {m : Md} {inp : List Int} {p : Pr} {low : Int} {i : In} {regs : List Int} {s : Oc} (h : i.op = 8) : insM m inp p low i regs s = some (regs.set i.d.toNat ((268435456 + (4096 + slE m.globs i.obj.toNat) + i.off) % 4294967296), s) := by
 unfold insM
 rw [if_neg (by omega), if_neg (by omega), if_neg (by omega), if_neg (by omega), if_neg (by omega), if_neg (by omega), if_neg (by omega), if_pos h]
theorem insM_10 {m : Md} {inp : List Int} {p : Pr} {low : Int} {i : In} {regs : List Int} {s : Oc} (h : i.op = 10) : insM m inp p low i regs s = some (regs, { s with out := s.out ++ [rg regs i.a] }) := by
 unfold insM
 rw [if_neg (by omega), if_neg (by omega), if_neg (by omega), if_neg (by omega), if_neg (by omega), if_neg (by omega), if_neg (by omega), if_neg (by omega), if_pos h]
theorem insM_11 {m : Md} {inp : List Int} {p : Pr} {low : Int} {i : In} {regs : List Int} {s : Oc} (h : i.op = 11) : insM m inp p low i regs s = some (regs.set i.d.toNat (if s.ins + 1 ≤ (inp.length : Int) then inp.getD s.ins.toNat 0 else 0), { s with ins := s.ins + 1 }) := by
 unfold insM
 rw [if_neg (by omega), if_neg (by omega), if_neg (by omega), if_neg (by omega), if_neg (by omega), if_neg (by omega), if_neg (by omega), if_neg (by omega), if_neg (by omega), if_pos h]
theorem insM_12 {m : Md} {inp : List Int} {p : Pr} {low : Int} {i : In} {regs : List Int} {s : Oc} (h : i.op = 12) : insM m inp p low i regs s = some (regs, s) := by
 unfold insM
 rw [if_neg (by omega), if_neg (by omega), if_neg (by omega), if_neg (by omega), if_neg (by omega), if_neg (by omega), if_neg (by omega), if_neg (by omega), if_neg (by omega), if_neg (by omega)]
/-- a call begins -/
def enterM (m : Md) (K : List Fr) (n : Nat) (args : List Int) (top : Int) (s : Oc) : Ms :=
 if top - longM (pk m n) < enM m ∨ 5000 ≤ K.length then ⟨K, true, { s with e := 8 }⟩
 else ⟨⟨n, args ++ List.replicate ((pk m n).regs.toNat - args.length) 0, top - longM (pk m n), 0, 0⟩ :: K, false, s⟩
/-- a call ends -/
def backM (m : Md) (K : List Fr) (v : Int) (s : Oc) : Ms :=
 match K with
 | [] => ⟨[], false, { s with exit := v % 256 }⟩
 | c :: K' =>
  let d := ((((pk m c.n).blks.getD c.b default).ins).getD (c.i - 1) default).d
  ⟨(if d ≠ -1 then { c with regs := c.regs.set d.toNat v } else c) :: K', false, s⟩
def stepM (m : Md) (inp : List Int) (M : Ms) : Ms :=
 match M.stk with
 | [] => M
 | fr :: K =>
  let b := (pk m fr.n).blks.getD fr.b default
  if fr.i = b.ins.length then
   if b.fin = 3 then backM m K (if b.a ≠ -1 then rg fr.regs b.a else 0) M.s
   else ⟨{ fr with b := (if b.fin = 2 ∧ rg fr.regs b.a = 0 then b.els else b.to).toNat, i := 0 } :: K, false, M.s⟩
  else
   let i := b.ins.getD fr.i default
   if i.op = 9 then enterM m ({ fr with i := fr.i + 1 } :: K) i.obj.toNat (i.args.map (rg fr.regs)) fr.low M.s
   else match insM m inp (pk m fr.n) fr.low i fr.regs M.s with
    | none => ⟨{ fr with i := fr.i + 1 } :: K, true, { M.s with e := 12 }⟩
    | some (regs, s) => ⟨{ fr with regs := regs, i := fr.i + 1 } :: K, false, s⟩
def Ms.fin (M : Ms) : Bool := M.halt || M.stk.isEmpty
def runM (m : Md) (inp : List Int) : Nat → Ms → Oc
 | 0, M => if M.fin = true then M.s else { M.s with e := 16 }
 | f + 1, M => if M.fin = true then M.s else runM m inp f (stepM m inp M)
theorem runM_fin (m : Md) (inp : List Int) (f : Nat) (M : Ms) (h : M.fin = true) : runM m inp f M = M.s := by cases f <;> simp [runM, h]
theorem runM_succ (m : Md) (inp : List Int) (f : Nat) (fr : Fr) (K : List Fr) (s : Oc) : runM m inp (f + 1) ⟨fr :: K, false, s⟩ = runM m inp f (stepM m inp ⟨fr :: K, false, s⟩) := rfl
theorem bitF_bd (b : Bool) : 0 ≤ bitF b ∧ bitF b < 4294967296 := by cases b <;> decide
theorem fnF_bd (fn a b : Int) (h : 0 ≤ a) (h' : a < 4294967296) (h1 : 0 ≤ b) (h1' : b < 4294967296) : 0 ≤ fnF fn a b ∧ fnF fn a b < 4294967296 := by
 have l1 : 0 ≤ lessS a b ∧ lessS a b ≤ 1 := by unfold lessS; split <;> simp
 have l2 : 0 ≤ lessS b a ∧ lessS b a ≤ 1 := by unfold lessS; split <;> simp
 have M : ∀ x : Int, 0 ≤ x % 4294967296 ∧ x % 4294967296 < 4294967296 := fun x => ⟨Int.emod_nonneg _ (by decide), Int.emod_lt_of_pos _ (by decide)⟩
 have d4 : 0 ≤ divS a b ∧ divS a b < 4294967296 := by unfold divS; split; exact ⟨by decide, by decide⟩; exact M _
 have d5 : 0 ≤ remS a b ∧ remS a b < 4294967296 := by unfold remS; split; exact ⟨h, h'⟩; exact M _
 have d9 : 0 ≤ shl32 a b ∧ shl32 a b < 4294967296 := by unfold shl32; exact M _
 have d10 : 0 ≤ sar32 a b ∧ sar32 a b < 4294967296 := by unfold sar32; exact M _
 have hB : 0 ≤ bits .and .u32 a b ∧ bits .and .u32 a b < 4294967296 ∧ 0 ≤ bits .or .u32 a b ∧ bits .or .u32 a b < 4294967296 ∧ 0 ≤ bits .xor .u32 a b ∧ bits .xor .u32 a b < 4294967296 ∧ 0 ≤ bits .xor .u32 IntKind.u32.max a ∧ bits .xor .u32 IntKind.u32.max a < 4294967296 := by
  simp only [bits, IntKind.wrap_u32]
  exact ⟨(M _).1, (M _).2, (M _).1, (M _).2, (M _).1, (M _).2, (M _).1, (M _).2⟩
 obtain ⟨b1, b2, b3, b4, b5, b6, b7, b8⟩ := hB
 unfold fnF
 generalize divS a b = x1 at *
 generalize remS a b = x2 at *
 generalize shl32 a b = x3 at *
 generalize sar32 a b = x4 at *
 generalize bits .and .u32 a b = x5 at *
 generalize bits .or .u32 a b = x6 at *
 generalize bits .xor .u32 a b = x7 at *
 generalize bits .xor .u32 IntKind.u32.max a = x8 at *
 generalize lessS a b = x9 at *
 generalize lessS b a = x10 at *
 have P : ∀ (q : Prop) [Decidable q] (x y : Int), (0 ≤ x ∧ x < 4294967296) → (0 ≤ y ∧ y < 4294967296) → 0 ≤ (if q then x else y) ∧ (if q then x else y) < 4294967296 := fun q _ x y hx hy => by split <;> assumption
 repeat' apply P
 all_goals first
  | exact M _
  | exact bitF_bd _
  | (constructor <;> first | assumption | omega)
/-- data put at a place -/
def putL (mem : List Int) (at' : Nat) (d : List Int) : List Int := mem.take at' ++ (d ++ mem.drop (at' + d.length))
def mem0 (m : Md) : Nat → List Int
 | 0 => List.replicate 65536 0
 | k + 1 => putL (mem0 m k) (4096 + slE m.globs k).toNat (m.data.getD k [])
def playM (m : Md) (inp : List Int) (fuel : Nat) : Oc :=
 if okM m = false then ⟨[], [], 0, 0, 3⟩
 else if 65536 < enM m then ⟨[], [], 0, 0, 8⟩
 else runM m inp fuel (enterM m [] m.main.toNat [] 65536 ⟨mem0 m m.globs.length, [], 0, 0, 0⟩)
end Go.Proofs.YtchoiankeohonaaGreatDoor

set_option linter.all false
namespace Go.Proofs.YtchoiankeohonaaGreatDoor
open Go.ChangeShapes Go.WideShapes Go.ChangeAt Go.RowKit
set_option maxHeartbeats 1000000
set_option linter.unusedVariables false
set_option maxRecDepth 20000

/-- all but the run's own blocks and a call's registers stays -/
structure Kq (k : RK) (bg : Nat) (vo vo' : Value) (w w' : World) : Prop where
 size : w.heap.size ≤ w'.heap.size
 «to» : vo'.ownBlock = vo.ownBlock ∨ ∃ g, vo'.ownBlock = some g ∧ w.heap.size ≤ g
 keep : ∀ b, b < w.heap.size → b ≠ k.br → b ≠ k.bm → some b ≠ vo.ownBlock → b ≠ bg → w'.heap[b]? = w.heap[b]?
theorem Kq.refl (k : RK) (bg : Nat) (vo : Value) (w : World) : Kq k bg vo vo w w := ⟨Nat.le_refl _, .inl rfl, fun _ _ _ _ _ _ => rfl⟩
theorem Kq.trans {k : RK} {bg : Nat} {v1 v2 v3 : Value} {w1 w2 w3 : World} (h : Kq k bg v1 v2 w1 w2) (h' : Kq k bg v2 v3 w2 w3) : Kq k bg v1 v3 w1 w3 := by
 refine ⟨Nat.le_trans h.size h'.size, ?_, fun b hb h1 h2 h3 h4 => ?_⟩
 ·rcases h'.to with e | ⟨g, e, hg⟩
  ·rw [e]; exact h.to
  ·exact .inr ⟨g, e, Nat.le_trans h.size hg⟩
 ·rw [h'.keep b (Nat.lt_of_lt_of_le hb h.size) h1 h2 ?_ h4, h.keep b hb h1 h2 h3 h4]
  rcases h.to with e | ⟨g, e, hg⟩
  ·rw [e]; exact h3
  ·rw [e]; intro e2; simp only [Option.some.injEq] at e2; omega
theorem Kp.q {k : RK} {vo vo' : Value} {w w' : World} (h : Kp k vo vo' w w') (bg : Nat) : Kq k bg vo vo' w w' := ⟨h.size, h.to, fun b hb h1 h2 h3 _ => h.keep b hb h1 h2 h3⟩
/-- what a call made itself may be written: from before it nothing else has turned -/
theorem Kq.p {k : RK} {bg : Nat} {vo vo' : Value} {w w1 w' : World} (hb : Below w.heap.size w w1) (h : Kq k bg vo vo' w1 w') (hg : w.heap.size ≤ bg) : Kp k vo vo' w w' := by
 refine ⟨Nat.le_trans hb.size h.size, ?_, fun b hl h1 h2 h3 => ?_⟩
 ·rcases h.to with e | ⟨g, e, hg⟩
  ·exact .inl e
  ·exact .inr ⟨g, e, Nat.le_trans hb.size hg⟩
 ·rw [h.keep b (Nat.lt_of_lt_of_le hl hb.size) h1 h2 h3 (by omega), hb.block b hl]
theorem Kq.of_below {k : RK} {bg : Nat} {vo : Value} {w w' : World} (h : Below w.heap.size w w') : Kq k bg vo vo w w' := (Kp.of_below h).q bg
theorem Kq.set (k : RK) (bg n : Nat) (vo x : Value) (w : World) : Kq k bg vo vo w (w.setCell ⟨bg, n, none⟩ x) := by
 refine ⟨by simp, .inl rfl, fun b _ _ _ _ h => ?_⟩
 exact heap_setCell_other w ⟨bg, n, none⟩ b x h

/-- a call's frame: its registers and where its objects lie -/
structure Fw (k : RK) (p : Pr) (bf bg c : Nat) (nm : ByteArray) (vob vbl vat : Value) (low : Int) (w : World) (vo : Value) (regs : List Int) : Prop where
 fx : w.ownsRow k.wp.heap.size 102 9 (rowOf bf 1) 1 [.slice (some ⟨bg, 0, none⟩) regs.length c, .string nm, .bool p.void, .int .i64 p.params, .int .i64 p.regs, vob, vbl, vat, .int .i64 low]
 ar : w.ownsRow k.wp.heap.size 3 1 vat p.objs.length ((slL p.objs p.objs.length).map (Value.int .i64))
 rr : w.ownsRow k.wp.heap.size 39 1 (.slice (some ⟨bg, 0, none⟩) regs.length c) regs.length (regs.map (Value.int .u32))
 ne : some bg ≠ vo.ownBlock
 wd : ∀ x ∈ regs, 0 ≤ x ∧ x < 4294967296
 cap : regs.length ≤ c ∧ c ≤ 1000000
section
variable {k : RK} {p : Pr} {bf bg c : Nat} {nm : ByteArray} {vob vbl vat : Value} {low : Int} {w w' : World} {vo vo' : Value} {regs : List Int} {s s' : RS}
theorem Fw.bfLt (h : Fw k p bf bg c nm vob vbl vat low w vo regs) : k.wp.heap.size ≤ bf ∧ bf < w.heap.size := own_lt h.fx rfl
theorem Fw.bgLt (h : Fw k p bf bg c nm vob vbl vat low w vo regs) : k.wp.heap.size ≤ bg ∧ bg < w.heap.size := own_lt h.rr rfl
theorem Fw.neR (h : Fw k p bf bg c nm vob vbl vat low w vo regs) (hr : Rn k w vo s) : bf ≠ k.br ∧ bf ≠ k.bm ∧ some bf ≠ vo.ownBlock ∧ bg ≠ k.br ∧ bg ≠ k.bm ∧ bf ≠ bg := by
 have q : ∀ {a b : Nat} {x y : Value}, x.ownBlock = some a → y.ownBlock = some b → (x.ownBlock = none ∨ x.ownBlock ≠ y.ownBlock) → a ≠ b := fun h1 h2 h3 e => by
  rcases h3 with h | h
  ·rw [h1] at h; cases h
  ·rw [h1, h2, e] at h; exact h rfl
 refine ⟨q rfl rfl (rows_neR h.fx hr.bx (by decide)), q rfl rfl (rows_neR h.fx hr.mm (by decide)), ?_, q rfl rfl (rows_neR h.rr hr.bx (by decide)), q rfl rfl (rows_neR h.rr hr.mm (by decide)), q rfl rfl (rows_neR h.fx h.rr (by decide))⟩
 rcases rows_neR h.fx hr.oo (by decide) with h | h
 ·cases h
 ·exact h
theorem Fw.keep (h : Fw k p bf bg c nm vob vbl vat low w vo regs) (hr : Rn k w vo s) (hk : Kp k vo vo' w w') : Fw k p bf bg c nm vob vbl vat low w' vo' regs := by
 have hn := h.neR hr
 have hvat := rows_neR h.ar hr.bx (by decide)
 have hvam := rows_neR h.ar hr.mm (by decide)
 have hvao := rows_neR h.ar hr.oo (by decide)
 have tr : ∀ {e : TypeId} {z n : Nat} {v : Value} {xs : List Value}, w.ownsRow k.wp.heap.size e z v n xs → (v.ownBlock = none ∨ v.ownBlock ≠ some k.br) → (v.ownBlock = none ∨ v.ownBlock ≠ some k.bm) → (v.ownBlock = none ∨ v.ownBlock ≠ vo.ownBlock) → w'.ownsRow k.wp.heap.size e z v n xs := by
  intro e z n v xs h h1 h2 h3
  obtain ⟨q0, ⟨rfl, q⟩ | ⟨b, cap, cur, rfl, hb, hgg, hrest⟩⟩ := h
  ·exact ⟨q0, .inl ⟨rfl, q⟩⟩
  ·refine ⟨q0, .inr ⟨b, cap, cur, rfl, hb, ?_, hrest⟩⟩
   simp only [Value.ownBlock, reduceCtorEq, false_or, ne_eq, Option.some.injEq] at h1 h2 h3
   rw [hk.keep b (Array.getElem?_eq_some_iff.1 hgg).1 h1 h2 (fun e => h3 e)]
   exact hgg
 refine ⟨tr h.fx (.inr (by simpa [rowOf, Value.ownBlock] using hn.1)) (.inr (by simpa [rowOf, Value.ownBlock] using hn.2.1)) (.inr (by simpa [rowOf, Value.ownBlock] using hn.2.2.1)), tr h.ar hvat hvam hvao,
  tr h.rr (.inr (by simpa [Value.ownBlock] using hn.2.2.2.1)) (.inr (by simpa [Value.ownBlock] using hn.2.2.2.2.1)) (.inr (by simpa [Value.ownBlock] using h.ne)), ?_, h.wd, h.cap⟩
 rcases hk.to with e | ⟨g, e, hg⟩
 ·rw [e]; exact h.ne
 ·rw [e]; have := h.bgLt; intro e2; simp only [Option.some.injEq] at e2; omega
theorem Fw.grow (h : Fw k p bf bg c nm vob vbl vat low w vo regs) (hb : Below w.heap.size w w') : Fw k p bf bg c nm vob vbl vat low w' vo regs :=
 ⟨own_below h.fx hb, own_below h.ar hb, own_below h.rr hb, h.ne, h.wd, h.cap⟩
theorem Fw.cR (h : Fw k p bf bg c nm vob vbl vat low w vo regs) : w.cell? ⟨bf, 0, none⟩ = some (.slice (some ⟨bg, 0, none⟩) regs.length c) := h.fx.cellAt 0 (by decide)
theorem Fw.cA (h : Fw k p bf bg c nm vob vbl vat low w vo regs) : w.cell? ⟨bf, 7, none⟩ = some vat := h.fx.cellAt 7 (by decide)
theorem Fw.cL (h : Fw k p bf bg c nm vob vbl vat low w vo regs) : w.cell? ⟨bf, 8, none⟩ = some (.int .i64 low) := h.fx.cellAt 8 (by decide)
theorem Fw.cX (h : Fw k p bf bg c nm vob vbl vat low w vo regs) (n : Nat) (hn : n < regs.length) : w.cell? ⟨bg, n, none⟩ = some (.int .u32 (regs.getD n 0)) := by
 rw [h.rr.cellAt n (by omega)]
 simp [List.getD, hn]
theorem Fw.fz (h : Fw k p bf bg c nm vob vbl vat low w vo regs) (n : Nat) : w.frozen? ⟨bg, n, none⟩ = false := h.rr.frozenAt n
theorem Fw.word (h : Fw k p bf bg c nm vob vbl vat low w vo regs) (n : Nat) : 0 ≤ regs.getD n 0 ∧ regs.getD n 0 < 4294967296 := by
 by_cases hn : n < regs.length
 ·have : regs.getD n 0 ∈ regs := by simp [List.getD, hn]
  exact h.wd _ this
 ·have : regs.getD n 0 = 0 := by simp [List.getD, Nat.le_of_not_lt hn]
  omega
/-- a register is set -/
theorem Fw.setR (h : Fw k p bf bg c nm vob vbl vat low w vo regs) (hr : Rn k w vo s) (n : Nat) (x : Int) (h0 : 0 ≤ x) (h1 : x < 4294967296) :
  Rn k (w.setCell ⟨bg, n, none⟩ (.int .u32 x)) vo s ∧ Fw k p bf bg c nm vob vbl vat low (w.setCell ⟨bg, n, none⟩ (.int .u32 x)) vo (regs.set n x) ∧ Kq k bg vo vo w (w.setCell ⟨bg, n, none⟩ (.int .u32 x)) := by
 have hn := h.neR hr
 obtain ⟨a, b⟩ := h.rr.stored n (.int .u32 x)
 have hg := h.bgLt
 refine ⟨⟨hr.bx.kept b (.inr (by simpa [rowOf, Value.ownBlock] using Ne.symm hn.2.2.2.1)), hr.mm.kept b (.inr (by simpa [rowOf, Value.ownBlock] using Ne.symm hn.2.2.2.2.1)), hr.oo.kept b (.inr (Ne.symm h.ne)), hr.aa.kept b (rows_neR hr.aa h.rr (by decide)), hr.md, hr.ii, hr.below.setCell (p := ⟨bg, n, none⟩) hg.1 _⟩,
  ⟨?_, h.ar.kept b (rows_neR h.ar h.rr (by decide)), ?_, h.ne, ?_, by simpa using h.cap⟩, Kq.set k bg n vo _ w⟩
 ·have := h.fx.kept b (rows_neR h.fx h.rr (by decide)); simpa using this
 ·have e : (regs.set n x).map (Value.int .u32) = (regs.map (Value.int .u32)).set n (.int .u32 x) := List.map_set
  rw [e, List.length_set]; exact a
 ·intro y hy
  rcases List.mem_or_eq_of_mem_set hy with h2 | rfl
  ·exact h.wd y h2
  ·exact ⟨h0, h1⟩
end
end Go.Proofs.YtchoiankeohonaaGreatDoor

set_option linter.all false
namespace Go.Proofs.YtchoiankeohonaaGreatDoor
open Go.ChangeShapes Go.WideShapes Go.ChangeAt Go.RowKit
set_option maxHeartbeats 1000000
set_option linter.unusedVariables false
set_option maxRecDepth 20000

def vNil : Value := .slice none 0 0
def rowOf' (b n : Nat) : Value := .slice (some ⟨b, 0, none⟩) n n
/-- a row of structs that is known whole -/
theorem own_lit {w : World} {g : Nat} {e : TypeId} {s : Nat} {α : Type} {P : List α} {f : α → List Value} (hf : ∀ a, (f a).length = s) (hp : P.length ≤ 1000000) (h : w.heap[g]? = some (.cells (P.flatMap f).toArray e (0, 0))) : w.ownsRow 0 e s (rowOf' g P.length) P.length (P.flatMap f) := by
 have hl := flat_len f s hf P
 refine ⟨hl, .inr ⟨g, P.length, _, rfl, Nat.zero_le _, h, Nat.le_refl _, by unfold maxLen; omega, by simpa using hl, ?_⟩⟩
 rw [List.toList_toArray]; exact List.take_of_length_le (by omega)
theorem RdI.nil (w : World) : RdI w vNil [] := ⟨none, 0, rfl, Nat.le_refl _, by decide, fun i hi => absurd hi (Nat.not_lt_zero i)⟩
theorem RdSls.nil (w : World) : RdSls w vNil [] := ⟨none, 0, rfl, Nat.le_refl _, by decide, fun i hi => absurd hi (Nat.not_lt_zero i)⟩
theorem RdYs.nil (w : World) : RdYs w vNil [] := ⟨none, 0, rfl, Nat.le_refl _, by decide, fun i hi => absurd hi (Nat.not_lt_zero i)⟩
def inCells (x : In × Value) : List Value := [.int .i64 x.1.op, .int .i64 x.1.d, .int .i64 x.1.a, .int .i64 x.1.b, .int .i64 x.1.fn, .int .i64 x.1.obj, .int .i64 x.1.off, .int .i64 x.1.size, .int .u32 x.1.num, x.2, .bool x.1.log]
theorem RdIns.lit {w : World} {g : Nat} {e : TypeId} (L : List (In × Value)) (hp : L.length ≤ 1000000) (h : w.heap[g]? = some (.cells (L.flatMap inCells).toArray e (0, 0))) (ha : ∀ x ∈ L, RdI w x.2 x.1.args) : RdIns w (rowOf' g L.length) (L.map Prod.fst) := by
 have H := own_flat (α := In × Value) (f := inCells) (by decide : 0 < 11) (fun _ => rfl) (own_lit (fun _ => rfl) hp h)
 have hl : L.length = (L.map Prod.fst).length := by simp
 unfold RdIns
 rw [← hl]
 obtain ⟨a, c, h1, h2, h3, h4⟩ := H
 refine ⟨a, c, h1, h2, h3, fun i hi => ?_⟩
 obtain ⟨b, o, e1, r⟩ := h4 i hi
 have eg : L.getD i default = L[i] := by simp [List.getD, hi]
 have eg2 : (L.map Prod.fst).getD i default = L[i].1 := by simp [List.getD, hi]
 rw [eg] at r
 refine ⟨b, o, e1, ?_⟩
 dsimp only
 rw [eg2]
 exact ⟨r 0 _ rfl, r 1 _ rfl, r 2 _ rfl, r 3 _ rfl, r 4 _ rfl, r 5 _ rfl, r 6 _ rfl, r 7 _ rfl, r 8 _ rfl, ⟨_, r 9 _ rfl, ha _ (List.getElem_mem hi)⟩, r 10 _ rfl⟩
def bkCells (x : Bk × Value) : List Value := [x.2, .int .i64 x.1.fin, .int .i64 x.1.a, .int .i64 x.1.to, .int .i64 x.1.els]
theorem RdBks.lit {w : World} {g : Nat} {e : TypeId} (L : List (Bk × Value)) (hp : L.length ≤ 1000000) (h : w.heap[g]? = some (.cells (L.flatMap bkCells).toArray e (0, 0))) (ha : ∀ x ∈ L, RdIns w x.2 x.1.ins) : RdBks w (rowOf' g L.length) (L.map Prod.fst) := by
 have H := own_flat (α := Bk × Value) (f := bkCells) (by decide : 0 < 5) (fun _ => rfl) (own_lit (fun _ => rfl) hp h)
 have hl : L.length = (L.map Prod.fst).length := by simp
 unfold RdBks
 rw [← hl]
 obtain ⟨a, c, h1, h2, h3, h4⟩ := H
 refine ⟨a, c, h1, h2, h3, fun i hi => ?_⟩
 obtain ⟨b, o, e1, r⟩ := h4 i hi
 have eg : L.getD i default = L[i] := by simp [List.getD, hi]
 have eg2 : (L.map Prod.fst).getD i default = L[i].1 := by simp [List.getD, hi]
 rw [eg] at r
 refine ⟨b, o, e1, ?_⟩
 dsimp only
 rw [eg2]
 exact ⟨⟨_, r 0 _ rfl, ha _ (List.getElem_mem hi)⟩, r 1 _ rfl, r 2 _ rfl, r 3 _ rfl, r 4 _ rfl⟩
def prCells (x : Pr × ByteArray × Value × Value) : List Value := [.string x.2.1, .bool x.1.void, .int .i64 x.1.params, .int .i64 x.1.regs, x.2.2.1, x.2.2.2]
theorem RdPrs.lit {w : World} {g : Nat} {e : TypeId} (L : List (Pr × ByteArray × Value × Value)) (hp : L.length ≤ 1000000) (h : w.heap[g]? = some (.cells (L.flatMap prCells).toArray e (0, 0))) (ha : ∀ x ∈ L, RdSls w x.2.2.1 x.1.objs ∧ RdBks w x.2.2.2 x.1.blks) : RdPrs w (rowOf' g L.length) (L.map Prod.fst) := by
 haveI : Inhabited (Pr × ByteArray × Value × Value) := ⟨(default, ⟨#[]⟩, vNil, vNil)⟩
 have H := own_flat (α := Pr × ByteArray × Value × Value) (f := prCells) (by decide : 0 < 6) (fun _ => rfl) (own_lit (fun _ => rfl) hp h)
 have hl : L.length = (L.map Prod.fst).length := by simp
 unfold RdPrs
 rw [← hl]
 obtain ⟨a, c, h1, h2, h3, h4⟩ := H
 refine ⟨a, c, h1, h2, h3, fun i hi => ?_⟩
 obtain ⟨b, o, e1, r⟩ := h4 i hi
 have eg : L.getD i default = L[i] := by simp [List.getD, hi]
 have eg2 : (L.map Prod.fst).getD i default = L[i].1 := by simp [List.getD, hi]
 rw [eg] at r
 have := ha _ (List.getElem_mem hi)
 refine ⟨b, o, e1, ?_⟩
 dsimp only
 rw [eg2]
 exact ⟨⟨_, r 0 _ rfl⟩, r 1 _ rfl, r 2 _ rfl, r 3 _ rfl, ⟨_, r 4 _ rfl, this.1⟩, ⟨_, r 5 _ rfl, this.2⟩⟩
theorem RdW.lit {w : World} {g : Nat} {e : TypeId} (L : List Int) (hp : L.length ≤ 1000000) (h : w.heap[g]? = some (.cells (L.map (Value.int .u32)).toArray e (0, 0))) : RdW w (rowOf' g L.length) L := by
 refine own_rows (B := 0) (e := e) 0 ⟨by simp, .inr ⟨g, L.length, _, rfl, Nat.zero_le _, h, Nat.le_refl _, by unfold maxLen; omega, by simp, ?_⟩⟩
 rw [Nat.mul_one, List.toList_toArray]; exact List.take_of_length_le (by simp)
theorem RdI.lit {w : World} {g : Nat} {e : TypeId} (L : List Int) (hp : L.length ≤ 1000000) (h : w.heap[g]? = some (.cells (L.map (Value.int .i64)).toArray e (0, 0))) : RdI w (rowOf' g L.length) L := by
 refine own_rows (B := 0) (e := e) 0 ⟨by simp, .inr ⟨g, L.length, _, rfl, Nat.zero_le _, h, Nat.le_refl _, by unfold maxLen; omega, by simp, ?_⟩⟩
 rw [Nat.mul_one, List.toList_toArray]; exact List.take_of_length_le (by simp)
theorem heap_of_alloc (w : World) (c : Array Value) (t : TypeId) {W0 : World} (h : W0 = w.alloc (.cells c t)) : W0.heap[w.heap.size]? = some (.cells c t (0, 0)) := by subst h; exact heap_alloc_new w _
/-- blocks made one behind the other -/
def allocs (w : World) (l : List Obj) : World := l.foldl World.alloc w
theorem allocs_below : ∀ (l : List Obj) (w : World), Below w.heap.size w (allocs w l)
 | [], w => Below.refl _ _
 | o :: l, w => ((Below.refl _ _).alloc (Nat.le_refl _) o).trans ((allocs_below l (w.alloc o)).mono (by simp))
theorem allocs_size : ∀ (l : List Obj) (w : World), (allocs w l).heap.size = w.heap.size + l.length
 | [], w => rfl
 | o :: l, w => by
  show (allocs (w.alloc o) l).heap.size = _
  rw [allocs_size l (w.alloc o)]; simp; omega
theorem allocs_heap : ∀ (l : List Obj) (w : World) (i : Nat), i < l.length → (allocs w l).heap[w.heap.size + i]? = l[i]?
 | [], _, _, h => absurd h (Nat.not_lt_zero _)
 | o :: l, w, 0, _ => by
  show (allocs (w.alloc o) l).heap[w.heap.size]? = some o
  rw [(allocs_below l (w.alloc o)).block w.heap.size (by simp)]
  exact heap_alloc_new w o
 | o :: l, w, i + 1, h => by
  have := allocs_heap l (w.alloc o) i (by simpa using h)
  show (allocs (w.alloc o) l).heap[w.heap.size + (i + 1)]? = l[i]?
  rw [← this]
  congr 1
  simp; omega
end Go.Proofs.YtchoiankeohonaaGreatDoor
