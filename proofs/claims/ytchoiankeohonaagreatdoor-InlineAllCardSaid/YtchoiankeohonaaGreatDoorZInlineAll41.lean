/-
 A module with procedures that stand for the old ones: runs that end have the same outcome, with at most twenty steps for one. Plain.
-/
import Derived.Test.YtchoiankeohonaaGreatDoorZInlineAll40
set_option linter.all false
namespace Go.Proofs.YtchoiankeohonaaGreatDoor
set_option linter.unusedVariables false
set_option maxHeartbeats 2000000

structure MtM (m m' : Md) : Prop where
 globs : m'.globs = m.globs
 data : m'.data = m.data
 main : m'.main = m.main
 p : ∀ n, n < m.procs.length → MtP m (pk m n) (pk m' n)
theorem mem0_eq {m m' : Md} (hg : m'.globs = m.globs) (hd : m'.data = m.data) : ∀ k, mem0 m' k = mem0 m k
 | 0 => rfl
 | k + 1 => by
  show putL (mem0 m' k) (4096 + slE m'.globs k).toNat (m'.data.getD k []) = putL (mem0 m k) (4096 + slE m.globs k).toNat (m.data.getD k [])
  rw [mem0_eq hg hd k, hg, hd]
theorem insM_eq {m m' : Md} {p p' : Pr} (hg : m'.globs = m.globs) (ho : p'.objs = p.objs) (inp : List Int) (low : Int) (i : In) (regs : List Int) (s : Oc) : insM m' inp p' low i regs s = insM m inp p low i regs s := by
 unfold insM; rw [hg, ho]
theorem enM_eq {m m' : Md} (hg : m'.globs = m.globs) : enM m' = enM m := by unfold enM; rw [hg]
theorem longM_eq {p p' : Pr} (ho : p'.objs = p.objs) : longM p' = longM p := by unfold longM; rw [ho]
structure FrN (m m' : Md) (f f' : Fr) : Prop where
 n : f'.n = f.n
 low : f'.low = f.low
 rg : ∀ r : Int, 0 ≤ r → r < (pk m f.n).regs → rg f'.regs r = rg f.regs r
 len : (f'.regs.length : Int) = (pk m' f.n).regs
 mt : Mt m (pk m f.n).regs (pk m' f.n) (fBk m f) ((fBk m f).ins.drop f.i) f'.b f'.i
structure FrW (m m' : Md) (f f' : Fr) : Prop where
 g : FrN m m' f f'
 c : (bq (pk m' f.n) f'.b).ins.getD (f'.i - 1) default = (bq (pk m f.n) f.b).ins.getD (f.i - 1) default
/-- within a small procedure: g's frame over f's, and f' -/
structure InR (m m' : Md) (g f f' : Fr) (G : Int) (c on : Nat) : Prop where
 n : f'.n = f.n
 low : f'.low = f.low
 small : smallP (pk m g.n) = true
 rg : ∀ r : Int, 0 ≤ r → r < (pk m f.n).regs → rg f'.regs r = rg f.regs r
 len : (f'.regs.length : Int) = (pk m' f.n).regs
 lv : ∀ r : Int, 0 ≤ r → r < (pk m g.n).regs → liveP (pk m g.n) g.b g.i r = true → Go.Proofs.YtchoiankeohonaaGreatDoor.rg f'.regs (r + G) = Go.Proofs.YtchoiankeohonaaGreatDoor.rg g.regs r
 hR : (pk m f.n).regs ≤ G
 hQ : G + (pk m g.n).regs ≤ (pk m' f.n).regs
 hv : (fIn m { f with i := f.i - 1 }).d ≠ -1 → (pk m g.n).void = false
 hc : ∀ k, k < (pk m g.n).blks.length → c + k < (pk m' f.n).blks.length ∧ bq (pk m' f.n) (c + k) = movB (bq (pk m g.n) k) G c (fIn m { f with i := f.i - 1 }).d on
 b : f'.b = c + g.b
 i : f'.i = g.i
 mt : Mt m (pk m f.n).regs (pk m' f.n) (fBk m f) ((fBk m f).ins.drop f.i) on 0
def atRet (m : Md) (g : Fr) : Prop := g.i = (fBk m g).ins.length ∧ (fBk m g).fin = 3
inductive RelI (m m' : Md) : Nat → Ms → Ms → Prop
 | done (s : Oc) : RelI m m' 0 ⟨[], false, s⟩ ⟨[], false, s⟩
 | on (f f' : Fr) (K K' : List Fr) (s : Oc) (hi : MIv m ⟨f :: K, false, s⟩) (hk : rowsR (FrW m m') K K') (hf : FrN m m' f f') : RelI m m' 0 ⟨f :: K, false, s⟩ ⟨f' :: K', false, s⟩
 | inn (d : Nat) (g f f' : Fr) (K K' : List Fr) (s : Oc) (G : Int) (c on : Nat) (hi : MIv m ⟨g :: f :: K, false, s⟩) (hk : rowsR (FrW m m') K K') (hI : InR m m' g f f' G c on) (hd : d ≤ 37) (hd2 : atRet m g → d ≤ 18) : RelI m m' d ⟨g :: f :: K, false, s⟩ ⟨f' :: K', false, s⟩
theorem oc_ext : ∀ {a b : Oc}, a.mem = b.mem → a.out = b.out → a.ins = b.ins → a.exit = b.exit → a.e = b.e → a = b
 | ⟨_, _, _, _, _⟩, ⟨_, _, _, _, _⟩, rfl, rfl, rfl, rfl, rfl => rfl
theorem rg_pad (args : List Int) (a b : Nat) (r : Int) : rg (args ++ List.replicate a 0) r = rg (args ++ List.replicate b 0) r := by
 have H : ∀ a, rg (args ++ List.replicate a 0) r = args.getD r.toNat 0 := fun a => by
  unfold rg
  by_cases h : r.toNat < args.length
  ·rw [getD_appL h]
  ·simp only [List.getD]
   rw [List.getElem?_append_right (by omega), List.getElem?_replicate, List.getElem?_eq_none (by omega)]
   split <;> rfl
 rw [H a, H b]
section
variable {m m' : Md} {inp : List Int}
theorem MtM.enterR (H : MtM m m') {K K' : List Fr} {s : Oc} {n : Nat} {args : List Int} {top : Int} (hok : okM m = true) (hn : n < m.procs.length) (hi : MIv m (enterM m K n args top s)) (hh : (enterM m K n args top s).halt = false) (ha : (args.length : Int) = (pk m n).params) (hk : rowsR (FrW m m') K K') : RelI m m' 0 (enterM m K n args top s) (enterM m' K' n args top s) := by
 have hP := H.p n hn
 have hH := okP_head (okM_proc hok hn)
 unfold enterM at hi hh ⊢
 rw [longM_eq hP.objs, enM_eq H.globs, ← rowsR_len hk]
 by_cases hc : top - longM (pk m n) < enM m ∨ 5000 ≤ K.length
 ·rw [if_pos hc] at hh; cases hh
 ·rw [if_neg hc] at hi ⊢
  rw [if_neg hc]
  refine RelI.on _ _ _ _ _ hi hk ⟨rfl, rfl, fun r _ _ => rg_pad _ _ _ _, ?_, ?_⟩
  ·dsimp only
   rw [List.length_append, List.length_replicate]
   have := hH.pr
   have := hH.p0
   have := hP.regs
   omega
  ·have := hP.mt 0 (by have := hH.b1; omega)
   show Mt m (pk m n).regs (pk m' n) (bq (pk m n) 0) ((bq (pk m n) 0).ins.drop 0) 0 0
   rw [List.drop_zero]
   exact this
theorem FrN.set {f f' : Fr} (h : FrN m m' f f') (hl : (f.regs.length : Int) = (pk m f.n).regs) (hr : (pk m f.n).regs ≤ (pk m' f.n).regs) {d v : Int} (h0 : 0 ≤ d) (h1 : d < (pk m f.n).regs) : FrN m m' { f with regs := f.regs.set d.toNat v } { f' with regs := f'.regs.set d.toNat v } :=
 ⟨h.n, h.low, fun r hr0 hr1 => by
   dsimp only
   have hl' := h.len
   by_cases e : r = d
   ·subst e; rw [rg_set_at h0 (by omega), rg_set_at h0 (by omega)]
   ·rw [rg_set_ne _ _ h0 hr0 e, rg_set_ne _ _ h0 hr0 e]; exact h.rg r hr0 hr1, by dsimp only; rw [List.length_set]; exact h.len, h.mt⟩
theorem call_d {f : Fr} (hok : okM m = true) (hu : UFr m f) : (fIn m { f with i := f.i - 1 }).d = -1 ∨ 0 ≤ (fIn m { f with i := f.i - 1 }).d ∧ (fIn m { f with i := f.i - 1 }).d < (pk m f.n).regs := by
 have hG := hu.g
 have h1 := hu.i
 have h2 := hG.i
 have hI := okB_ins (okP_blk (okM_proc hok hG.n) hG.b) (i := f.i - 1) (by omega)
 have hc := okI_call hI hu.c
 exact regF_may hc.2.2.2.1
theorem retF_def (m : Md) (c : Fr) (v : Int) : retF m c v = if (fIn m { c with i := c.i - 1 }).d ≠ -1 then { c with regs := c.regs.set (fIn m { c with i := c.i - 1 }).d.toNat v } else c := rfl
theorem MtM.retN (H : MtM m m') (hok : okM m = true) {f f' : Fr} (h : FrW m m' f f') (hu : UFr m f) (v : Int) : FrN m m' (retF m f v) (retF m' f' v) := by
 have hd := call_d hok hu
 have e : (fIn m' { f' with i := f'.i - 1 }).d = (fIn m { f with i := f.i - 1 }).d := by
  show ((bq (pk m' f'.n) f'.b).ins.getD (f'.i - 1) default).d = _
  rw [h.g.n, h.c]; rfl
 rw [retF_def, retF_def, e]
 by_cases hq : (fIn m { f with i := f.i - 1 }).d = -1
 ·rw [if_neg (fun z => z hq), if_neg (fun z => z hq)]; exact h.g
 ·rw [if_pos hq, if_pos hq]
  rcases hd with hd | hd
  ·exact absurd hd hq
  ·exact h.g.set hu.g.r (H.p _ hu.g.n).regs hd.1 hd.2
theorem MtM.backR (H : MtM m m') (hok : okM m = true) {K K' : List Fr} {s : Oc} {v : Int} (hK : ∀ fr ∈ K, UFr m fr) (hm : MemL s.mem) (hv : 0 ≤ v ∧ v < 4294967296) (hk : rowsR (FrW m m') K K') : RelI m m' 0 (backM m K v s) (backM m' K' v s) := by
 match K, K', hk with
 | [], [], _ => exact RelI.done _
 | [], _ :: _, h => exact h.elim
 | _ :: _, [], h => exact h.elim
 | f :: K1, f' :: K1', hk =>
  obtain ⟨h1, h2⟩ := hk
  rw [backM_cons, backM_cons]
  have hM := MIv.back hv hK hm
  rw [backM_cons] at hM
  exact RelI.on _ _ _ _ _ hM h2 (H.retN hok h1 (hK f List.mem_cons_self) v)
theorem movB_ins (x : Bk) (G c d on : Int) {i : Nat} (h : i < x.ins.length) : i < (movB x G c d on).ins.length ∧ (movB x G c d on).ins.getD i default = movI G (x.ins.getD i default) := by
 have H : (x.ins.map (movI G)).getD i default = movI G (x.ins.getD i default) := by simp [List.getD, h]
 unfold movB
 split
 ·dsimp only
  refine ⟨by rw [List.length_append, List.length_map]; omega, ?_⟩
  rw [getD_appL (by rw [List.length_map]; exact h)]
  exact H
 ·split
  ·exact ⟨by rw [List.length_map]; exact h, H⟩
  ·exact ⟨by rw [List.length_map]; exact h, H⟩
theorem step_next (f f' : Fr) {B' : Bk} (hB : fBk m' f' = B') (hl : f'.i = B'.ins.length) (h3 : B'.fin ≠ 3) (K' : List Fr) (s : Oc) : itM m' inp 1 ⟨f' :: K', false, s⟩ = ⟨{ f' with b := (if B'.fin = 2 ∧ rg f'.regs B'.a = 0 then B'.els else B'.to).toNat, i := 0 } :: K', false, s⟩ := by
 subst hB
 rw [it_one rfl, fs_end hl h3]
 rfl
/-- within a small procedure -/
theorem MtM.stepIn (H : MtM m m') (hok : okM m = true) (hmd : MdOk m) (hiw : ∀ x ∈ inp, 0 ≤ x ∧ x < 4294967296) {d : Nat} {g f f' : Fr} {K K' : List Fr} {s : Oc} {G : Int} {c on : Nat} (hi : MIv m ⟨g :: f :: K, false, s⟩) (hk : rowsR (FrW m m') K K') (hI : InR m m' g f f' G c on) (hd : d ≤ 37) (hd2 : atRet m g → d ≤ 18)
  (hh : (stepM m inp ⟨g :: f :: K, false, s⟩).halt = false) : ∃ k d', d + k ≤ 20 + d' ∧ RelI m m' d' (stepM m inp ⟨g :: f :: K, false, s⟩) (itM m' inp k ⟨f' :: K', false, s⟩) := by
 have hG := hi.fr g List.mem_cons_self
 have hF := hi.up f List.mem_cons_self
 have hM' := MIv.step hok hmd hiw hi hh
 have hP := okM_proc hok hG.n
 have hB := okP_blk hP hG.b
 have hPf := H.p f.n hF.g.n
 obtain ⟨hcl, hcb⟩ := hI.hc g.b hG.b
 have hfb : fBk m' f' = movB (fBk m g) G c (fIn m { f with i := f.i - 1 }).d on := by
  show bq (pk m' f'.n) f'.b = _
  rw [hI.n, hI.b, hcb]; rfl
 by_cases hl : g.i = (fBk m g).ins.length
 ·have hend := end_cases (okB_end hB)
  by_cases h3 : (fBk m g).fin = 3
  ·have hd3 := hd2 ⟨hl, h3⟩
   rw [fs_ret hl h3] at hM' ⊢
   rw [backM_cons] at hM' ⊢
   have hdd := call_d hok hF
   rw [retF_def] at hM' ⊢
   have hmv : fBk m' f' = ⟨(fBk m g).ins.map (movI G) ++ (if (fIn m { f with i := f.i - 1 }).d ≠ -1 then [copI (fIn m { f with i := f.i - 1 }).d ((fBk m g).a + G)] else []), 1, -1, on, (fBk m g).els⟩ := by
    rw [hfb]; unfold movB; rw [if_pos h3]
   have hV := hI.hv
   generalize (fIn m { f with i := f.i - 1 }).d = D at *
   by_cases hq : D = -1
   ·rw [if_neg (fun z => z hq)] at hM' ⊢
    rw [if_neg (fun z => z hq), List.append_nil] at hmv
    refine ⟨1, 0, by omega, ?_⟩
    rw [step_next f f' hmv (by rw [hI.i, hl, List.length_map]) (by dsimp only; omega)]
    refine RelI.on _ _ _ _ _ hM' hk ⟨hI.n, hI.low, hI.rg, hI.len, ?_⟩
    dsimp only
    rw [if_neg (by omega)]
    exact hI.mt
   ·rw [if_pos hq] at hM' ⊢
    rw [if_pos hq] at hmv
    rcases hdd with hdd | hdd
    ·exact absurd hdd hq
    have hvd := hV hq
    have ha : 0 ≤ (fBk m g).a ∧ (fBk m g).a < (pk m g.n).regs := by
     have he := okB_end hB
     have h3' : ((pk m g.n).blks.getD g.b default).fin = 3 := h3
     unfold endF at he
     rw [if_neg (by omega), if_neg (by omega), if_pos h3', hvd] at he
     simp only [Bool.and_eq_true] at he
     exact regF_in he.1
    have hlv : rg f'.regs ((fBk m g).a + G) = rg g.regs (fBk m g).a := by
     refine hI.lv _ ha.1 ha.2 ?_
     rw [hl]
     refine live_fin ?_
     unfold endReads
     have h3' : ((pk m g.n).blks.getD g.b default).fin = 3 := h3
     rw [h3']
     show (_ && (fBk m g).a == (fBk m g).a) = true
     simp
    have hi2 : f'.i = ((fBk m g).ins.map (movI G)).length := by rw [hI.i, hl, List.length_map]
    have hx : fIn m' f' = copI D ((fBk m g).a + G) := by
     unfold fIn
     rw [hmv, hi2]
     dsimp only
     rw [getD_mid]
    have hne : f'.i ≠ (fBk m' f').ins.length := by rw [hmv, hi2]; dsimp only; rw [List.length_append, List.length_singleton]; omega
    have hins : insM m' inp (pk m' f'.n) f'.low (fIn m' f') f'.regs s = some (f'.regs.set D.toNat (rg g.regs (fBk m g).a), s) := by
     rw [hx, ← hlv]
     unfold insM
     rfl
    refine ⟨1 + 1, 0, by omega, ?_⟩
    have step1 : itM m' inp 1 ⟨f' :: K', false, s⟩ = ⟨{ f' with regs := f'.regs.set D.toNat (rg g.regs (fBk m g).a), i := f'.i + 1 } :: K', false, s⟩ := by
     rw [it_one rfl, fs_ins hne (by rw [hx]; show (2 : Int) ≠ 9; decide) hins]
    rw [itM_add, step1]
    have hmv2 : fBk m' { f' with regs := f'.regs.set D.toNat (rg g.regs (fBk m g).a), i := f'.i + 1 } = _ := hmv
    rw [step_next f _ hmv2 (by dsimp only; rw [hi2, List.length_append, List.length_singleton]) (by dsimp only; omega)]
    rw [if_pos (by omega : (fBk m g).a ≠ -1)] at hM' ⊢
    refine RelI.on _ _ _ _ _ hM' hk ?_
    have hN : FrN m m' f { f' with b := on, i := 0 } := ⟨hI.n, hI.low, hI.rg, hI.len, hI.mt⟩
    have := hN.set hF.g.r hPf.regs (v := rg g.regs (fBk m g).a) hdd.1 hdd.2
    dsimp only at this ⊢
    rw [if_neg (by omega)]
    exact this
  ·rw [fs_end hl h3] at hM' ⊢
   have hhe : 0 ≤ (fBk m g).to ∧ ((fBk m g).fin = 2 → 0 ≤ (fBk m g).els ∧ 0 ≤ (fBk m g).a ∧ (fBk m g).a < (pk m g.n).regs) := by
    unfold fBk at *
    rcases hend with ⟨q1, q2, q3⟩ | ⟨q1, q2, q3, q4, q5, q6, q7⟩ | ⟨q1, -⟩
    ·exact ⟨q2, fun z => by omega⟩
    ·exact ⟨q2, fun z => ⟨q4, q6, q7⟩⟩
    ·exact absurd q1 h3
   have hln : ∀ r : Int, liveP (pk m g.n) (fNext m g).b 0 r = true → liveP (pk m g.n) g.b g.i r = true := fun r hr => by
    rw [hl]
    refine live_out (t := if (fBk m g).fin = 2 ∧ rg g.regs (fBk m g).a = 0 then (fBk m g).els else (fBk m g).to) ?_ hr
    exact outs_next (okB_end hB) h3 _ (fun z q => z q.1)
   by_cases h2 : (fBk m g).fin = 2
   ·obtain ⟨e0, e1, e2⟩ := hhe.2 h2
    have hmv : fBk m' f' = ⟨(fBk m g).ins.map (movI G), 2, (fBk m g).a + G, (fBk m g).to + c, (fBk m g).els + c⟩ := by
     rw [hfb]; unfold movB; rw [if_neg h3, if_pos h2]
    have hlv : rg f'.regs ((fBk m g).a + G) = rg g.regs (fBk m g).a := by
     refine hI.lv _ e1 e2 ?_
     rw [hl]
     refine live_fin ?_
     unfold endReads
     have h2' : ((pk m g.n).blks.getD g.b default).fin = 2 := h2
     rw [h2']
     show (_ && (fBk m g).a == (fBk m g).a) = true
     simp
    refine ⟨1, d - 19, by omega, ?_⟩
    rw [step_next f f' hmv (by rw [hI.i, hl, List.length_map]) (by dsimp only; omega)]
    refine RelI.inn _ _ _ _ _ _ _ G c on hM' hk ⟨hI.n, hI.low, hI.small, hI.rg, hI.len, fun r hr0 hr1 hr => hI.lv r hr0 hr1 (hln r hr), hI.hR, hI.hQ, hI.hv, hI.hc, ?_, rfl, hI.mt⟩ (by omega) (fun _ => by omega)
    dsimp only
    rw [hlv]
    unfold fNext
    dsimp only
    rw [h2]
    by_cases hz : rg g.regs (fBk m g).a = 0
    ·rw [if_pos ⟨rfl, hz⟩, if_pos ⟨rfl, hz⟩]; have := hhe.1; omega
    ·rw [if_neg (fun z => hz z.2), if_neg (fun z => hz z.2)]; have := hhe.1; omega
   ·have hmv : fBk m' f' = ⟨(fBk m g).ins.map (movI G), (fBk m g).fin, (fBk m g).a, (fBk m g).to + c, (fBk m g).els⟩ := by
     rw [hfb]; unfold movB; rw [if_neg h3, if_neg h2]
    refine ⟨1, d - 19, by omega, ?_⟩
    rw [step_next f f' hmv (by rw [hI.i, hl, List.length_map]) h3]
    refine RelI.inn _ _ _ _ _ _ _ G c on hM' hk ⟨hI.n, hI.low, hI.small, hI.rg, hI.len, fun r hr0 hr1 hr => hI.lv r hr0 hr1 (hln r hr), hI.hR, hI.hQ, hI.hv, hI.hc, ?_, rfl, hI.mt⟩ (by omega) (fun _ => by omega)
    dsimp only
    rw [if_neg (fun z => h2 z.1)]
    unfold fNext
    dsimp only
    rw [if_neg (fun z => h2 z.1)]
    have := hhe.1
    omega
 ·have hlt : g.i < (fBk m g).ins.length := by have := hG.i; unfold fBk at *; omega
  have hok' : okI m (pk m g.n) (fIn m g) = true := okB_ins hB hlt
  obtain ⟨so, -, s9⟩ := small_ops hI.small
  have h9 : (fIn m g).op ≠ 9 := small_op hI.small (k := g.b) (getD_in hlt)
  have h7 : (fIn m g).op ≠ 7 := fun e => by
   have hm := (okI_regs hok' h9).2.2.2
   unfold moreF at hm
   rw [if_neg (by omega), if_neg (by omega), if_neg (by omega), if_pos e, so] at hm
   simp only [Bool.and_eq_true, decide_eq_true_eq, List.length_nil] at hm
   omega
  cases hX : insM m inp (pk m g.n) g.low (fIn m g) g.regs s with
  | none => rw [fs_bad hl h9 hX] at hh; cases hh
  | some r =>
   rw [fs_ins hl h9 hX] at hM' ⊢
   obtain ⟨q1, q2⟩ := movB_ins (fBk m g) G c (fIn m { f with i := f.i - 1 }).d on hlt
   have hx : fIn m' f' = movI G (fIn m g) := by
    unfold fIn
    rw [hfb, hI.i]
    exact q2
   have hne : f'.i ≠ (fBk m' f').ins.length := by rw [hfb, hI.i]; omega
   obtain ⟨r', e1, e2, e3⟩ := insM_mov (m' := m') (p' := pk m' f'.n) (low' := f'.low) (G := G) (regs' := f'.regs) H.globs hok' h9 h7 hX (fun x hx => by
    have h0 := uses_in hok' hx
    exact hI.lv x h0.1 h0.2 (live_use hlt hx))
   refine ⟨1, d - 19, by omega, ?_⟩
   rw [it_one rfl, fs_ins hne (by rw [hx]; exact h9) (by rw [hx]; exact e1), e2]
   have hFl := hI.len
   have hGl := hG.r
   have hQ := hI.hQ
   have hR := hI.hR
   have hR0 : 0 ≤ (pk m f.n).regs := by have := hF.g.r; omega
   refine RelI.inn _ _ _ _ _ _ _ G c on hM' hk ⟨hI.n, hI.low, hI.small, fun r0 h0 h1 => ?_, ?_, fun r0 h0 (h1 : r0 < (pk m g.n).regs) hlv => ?_, hI.hR, hI.hQ, hI.hv, hI.hc, hI.b, by dsimp only; rw [hI.i], hI.mt⟩ (by omega) (fun _ => by omega)
   ·dsimp only
    rcases e3 with ⟨-, -, e⟩ | ⟨⟨-, d0, -⟩, v, -, e⟩
    ·rw [e]; exact hI.rg r0 h0 h1
    ·rw [e, rg_set_ne _ _ (by omega) h0 (by omega)]; exact hI.rg r0 h0 h1
   ·dsimp only
    rcases e3 with ⟨-, -, e⟩ | ⟨-, v, -, e⟩
    ·rw [e]; exact hI.len
    ·rw [e, List.length_set]; exact hI.len
   ·dsimp only at hlv ⊢
    rcases e3 with ⟨hd0, ea, eb⟩ | ⟨⟨hd0, d0, d1⟩, v, ea, eb⟩
    ·rw [ea, eb]
     refine hI.lv r0 h0 h1 (live_on hlt hlv ?_)
     show defI (fIn m g) ≠ r0
     rw [hd0]; omega
    ·rw [ea, eb]
     by_cases e : r0 = (fIn m g).d
     ·subst e; rw [rg_set_at (by omega) (by omega), rg_set_at (by omega) (by omega)]
     ·rw [rg_set_ne _ _ (by omega) (by omega) (by omega), rg_set_ne _ _ d0 h0 e]
      refine hI.lv r0 h0 h1 (live_on hlt hlv ?_)
      show defI (fIn m g) ≠ r0
      rw [hd0]; omega
/-- one step -/
theorem MtM.step (H : MtM m m') (hok : okM m = true) (hmd : MdOk m) (hiw : ∀ x ∈ inp, 0 ≤ x ∧ x < 4294967296) {d : Nat} {M N : Ms} (hR : RelI m m' d M N) (hfin : M.fin = false) (hh : (stepM m inp M).halt = false) :
  ∃ k d', d + k ≤ 20 + d' ∧ RelI m m' d' (stepM m inp M) (itM m' inp k N) := by
 cases hR with
 | done s => cases hfin
 | inn d g f f' K K' s G c on hi hk hI hd hd2 => exact H.stepIn hok hmd hiw hi hk hI hd hd2 hh
 | on f f' K K' s hi hk hf =>
  have hG := hi.fr f List.mem_cons_self
  have hK : ∀ fr ∈ K, UFr m fr := fun fr hfr => hi.up fr hfr
  have hM' := MIv.step hok hmd hiw hi hh
  have hrg := rg_words hG.w
  have hP := okM_proc hok hG.n
  have hB := okP_blk hP hG.b
  have hQ := H.p f.n hG.n
  have hfb : fBk m' f' = bq (pk m' f.n) f'.b := by show bq (pk m' f'.n) f'.b = _; rw [hf.n]
  have hmt := hf.mt
  by_cases hl : f.i = (fBk m f).ins.length
  ·rw [List.drop_eq_nil_of_le (by omega)] at hmt
   cases hmt with
   | fin _ _ hb hi' hf' ha ht he =>
    rw [← hfb] at hi' hf' ha ht he
    have hend := end_cases (okB_end hB)
    refine ⟨1, 0, by omega, ?_⟩
    rw [it_one rfl]
    by_cases h3 : (fBk m f).fin = 3
    ·rw [fs_ret hl h3, fs_ret hi' (by rw [hf']; exact h3), ha]
     have hav : (fBk m f).a ≠ -1 → 0 ≤ (fBk m f).a ∧ (fBk m f).a < (pk m f.n).regs := fun hne => by
      unfold fBk at *
      rcases hend with ⟨q1, q2, q3⟩ | ⟨q1, q2, q3, q4, q5, q6, q7⟩ | ⟨q1, q2⟩
      ·omega
      ·exact ⟨q6, q7⟩
      ·rcases q2 with q2 | q2
       ·exact absurd q2 hne
       ·exact q2
     have e : (if (fBk m f).a ≠ -1 then rg f'.regs (fBk m f).a else 0) = (if (fBk m f).a ≠ -1 then rg f.regs (fBk m f).a else 0) := by
      by_cases hne : (fBk m f).a ≠ -1
      ·rw [if_pos hne, if_pos hne]; exact hf.rg _ (hav hne).1 (hav hne).2
      ·rw [if_neg hne, if_neg hne]
     rw [e]
     exact H.backR hok hK hi.mem (by split; exact hrg _; exact ⟨by decide, by decide⟩) hk
    ·rw [fs_end hl h3] at hM' ⊢
     rw [fs_end hi' (by rw [hf']; exact h3)]
     have eb : (fNext m' f').b = (fNext m f).b := by
      unfold fNext
      dsimp only
      rw [hf', ha, ht, he]
      by_cases h2 : (fBk m f).fin = 2
      ·have e : rg f'.regs (fBk m f).a = rg f.regs (fBk m f).a := by
        unfold fBk at *
        rcases hend with ⟨q1, q2, q3⟩ | ⟨q1, q2, q3, q4, q5, q6, q7⟩ | ⟨q1, q2⟩
        ·omega
        ·exact hf.rg _ q6 q7
        ·omega
       rw [e]
      ·rw [if_neg (fun z => h2 z.1), if_neg (fun z => h2 z.1)]
     refine RelI.on _ _ _ _ _ hM' hk ⟨hf.n, hf.low, hf.rg, hf.len, ?_⟩
     have hg2 := hM'.fr _ List.mem_cons_self
     have := hQ.mt (fNext m f).b hg2.b
     show Mt m (pk m f.n).regs (pk m' f.n) (bq (pk m f.n) (fNext m f).b) ((bq (pk m f.n) (fNext m f).b).ins.drop 0) (fNext m' f').b 0
     rw [List.drop_zero, eb]
     exact this
  ·have hlt : f.i < (fBk m f).ins.length := by have := hG.i; unfold fBk at *; omega
   have hI : okI m (pk m f.n) (fIn m f) = true := okB_ins hB hlt
   rw [drop_cons _ _ hlt] at hmt
   have hargs : (fIn m f).op = 9 → ∀ x ∈ (fIn m f).args, 0 ≤ x ∧ x < (pk m f.n).regs := fun h9 x hx => (okI_args hI h9 hx).1
   cases hmt with
   | same _ _ _ _ hb hi' hx hr =>
    have hx2 : fIn m' f' = fIn m f := by unfold fIn; rw [hfb]; exact hx
    have hne : f'.i ≠ (fBk m' f').ins.length := by rw [hfb]; omega
    refine ⟨1, 0, by omega, ?_⟩
    rw [it_one rfl]
    by_cases h9 : (fIn m f).op = 9
    ·rw [fs_call hl h9] at hM' hh ⊢
     rw [fs_call hne (by rw [hx2]; exact h9), hx2]
     obtain ⟨c1, c2, hpar, -, -⟩ := okI_call hI h9
     have e : (fIn m f).args.map (rg f'.regs) = (fIn m f).args.map (rg f.regs) := List.map_congr_left fun x hx => hf.rg x (hargs h9 x hx).1 (hargs h9 x hx).2
     rw [e, hf.low]
     refine H.enterR hok (by omega) hM' hh (by rw [List.length_map]; exact hpar) ⟨⟨⟨hf.n, hf.low, hf.rg, hf.len, hr⟩, ?_⟩, hk⟩
     show (bq (pk m' f.n) f'.b).ins.getD (f'.i + 1 - 1) default = (bq (pk m f.n) f.b).ins.getD (f.i + 1 - 1) default
     rw [Nat.add_sub_cancel, Nat.add_sub_cancel]
     exact hx
    ·cases hX : insM m inp (pk m f.n) f.low (fIn m f) f.regs s with
     | none => rw [fs_bad hl h9 hX] at hh; cases hh
     | some r =>
      rw [fs_ins hl h9 hX] at hM' ⊢
      obtain ⟨r', e1, e2, e3, e4, e5, e6, e7⟩ := insM_follow (regs' := f'.regs) (s' := s) hI h9 hX (fun x hx => hf.rg x (uses_in hI hx).1 (uses_in hI hx).2) (fun _ => rfl) rfl rfl rfl rfl
      have hins : insM m' inp (pk m' f'.n) f'.low (fIn m' f') f'.regs s = some r' := by
       rw [hx2, hf.low, hf.n, insM_eq H.globs hQ.objs]; exact e1
      rw [fs_ins hne (by rw [hx2]; exact h9) hins]
      have es : r'.2 = r.2 := by
       have em : r'.2.mem = r.2.mem := by rcases e7 with ⟨-, x1, x2⟩ | ⟨-, x1, x2⟩ <;> rw [x1, x2]
       exact oc_ext em e2 e3 e4 e5
      rw [es]
      refine RelI.on _ _ _ _ _ hM' hk ?_
      rcases e6 with ⟨-, ea, eb⟩ | ⟨⟨hd0, d6, d10, d12⟩, v, ea, eb⟩
      ·exact ⟨hf.n, hf.low, fun r0 h0 h1 => by dsimp only; rw [ea, eb]; exact hf.rg r0 h0 h1, by dsimp only; rw [eb]; exact hf.len, hr⟩
      ·have hdd := okI_d hI ⟨d6, d10, d12, h9⟩
       have := hf.set hG.r hQ.regs (v := v) hdd.1 hdd.2
       exact ⟨hf.n, hf.low, fun r0 h0 h1 => by dsimp only; rw [ea, eb]; exact this.rg r0 h0 h1, by dsimp only; rw [eb]; exact this.len, hr⟩
   | call _ _ _ _ Gr c on hb hi' hs hl' hf' ht hc hR hQ' hr =>
    obtain ⟨h9, hsm⟩ := smallC_9 hs
    have h9 : (fIn m f).op = 9 := h9
    obtain ⟨c1, c2, hpar, hdv, -⟩ := okI_call hI h9
    have hxe : (fBk m f).ins.getD f.i default = fIn m f := rfl
    rw [hxe] at hsm hl' hc hQ'
    have hno : (fIn m f).obj.toNat < m.procs.length := by omega
    have hHq := okP_head (okM_proc hok hno)
    obtain ⟨so, -, -⟩ := small_ops hsm
    have hlq : longM (pk m (fIn m f).obj.toNat) = 0 := by unfold longM; rw [so]; rfl
    rw [fs_call hl h9] at hM' hh ⊢
    unfold enterM at hM' hh ⊢
    by_cases hcc : f.low - longM (pk m (fIn m f).obj.toNat) < enM m ∨ 5000 ≤ (fUp f :: K).length
    ·rw [if_pos hcc] at hh; cases hh
    ·rw [if_neg hcc] at hM' ⊢
     rw [hlq, Int.sub_zero, List.length_map] at hM' ⊢
     have hal : (fIn m f).args.length ≤ 6 := by have := hHq.p6; have : ((fIn m f).args.length : Int) = _ := hpar; omega
     have hlen := hand_53 hsm hHq.b1 hal Gr
     have hrun := it_hand (m' := m') (inp := inp) (s := s) (K' := K') (handL (pk m (fIn m f).obj.toNat) (fIn m f).args Gr) f' hand_ops (by rw [hfb]; exact hl')
     have hlD : f'.i + (handL (pk m (fIn m f).obj.toNat) (fIn m f).args Gr).length = (bq (pk m' f.n) f'.b).ins.length := by
      rw [← hl', List.length_drop]; omega
     obtain ⟨k1, k2⟩ := hand_run (q := pk m (fIn m f).obj.toNat) (args := (fIn m f).args) (g := Gr) (R := (pk m f.n).regs) (regs := f'.regs) (by have := hQ.regs; have := (okP_head hP).pr; have := (okP_head hP).p0; omega) hR (hargs h9) (by rw [hf.len]; exact hQ') hpar hHq.pr
     have eA : (fIn m f).args.map (rg f'.regs) = (fIn m f).args.map (rg f.regs) := List.map_congr_left fun x hx => hf.rg x (hargs h9 x hx).1 (hargs h9 x hx).2
     rw [eA] at k2
     refine ⟨(handL (pk m (fIn m f).obj.toNat) (fIn m f).args Gr).length + 1, (handL (pk m (fIn m f).obj.toNat) (fIn m f).args Gr).length + 1 - 20, by omega, ?_⟩
     rw [itM_add, hrun]
     have hb2 : fBk m' { f' with regs := runL (handL (pk m (fIn m f).obj.toNat) (fIn m f).args Gr) f'.regs, i := f'.i + (handL (pk m (fIn m f).obj.toNat) (fIn m f).args Gr).length } = bq (pk m' f.n) f'.b := hfb
     rw [step_next f _ hb2 hlD (by rw [hf']; omega)]
     have hin1 : fIn m { fUp f with i := (fUp f).i - 1 } = fIn m f := by
      unfold fIn fUp
      dsimp only
      rw [Nat.add_sub_cancel]
     refine RelI.inn _ _ _ _ _ _ _ Gr c on hM' hk ⟨hf.n, hf.low, hsm, fun r h0 h1 => ?_, ?_, fun r h0 h1 hlv => k2 r h0 h1 hlv, hR, hQ', fun hne => ?_, ?_, ?_, rfl, ?_⟩ (by omega) (fun hat => ?_)
     ·dsimp only
      rw [k1 r h0 (by have := hR; have : r < (pk m f.n).regs := h1; omega)]
      exact hf.rg r h0 h1
     ·dsimp only; rw [runL_len]; exact hf.len
     ·rw [hin1] at hne
      cases hvv : (pk m (fIn m f).obj.toNat).void with
      | false => rfl
      | true =>
       rw [hvv] at hdv
       unfold regF at hdv
       simp at hdv
       exact absurd hdv hne
     ·rw [hin1]; exact hc
     ·dsimp only
      rw [hf', if_neg (by omega), ht]
      try omega
     ·exact hr
     ·obtain ⟨a1, a2⟩ := hat
      have a1 : 0 = (bq (pk m (fIn m f).obj.toNat) 0).ins.length := a1
      have a2 : (bq (pk m (fIn m f).obj.toNat) 0).fin = 3 := a2
      have := hand_7 (q := pk m (fIn m f).obj.toNat) (List.eq_nil_of_length_eq_zero a1.symm) a2 hal Gr
      omega
/-- runs that end have the same outcome -/
theorem MtM.play (H : MtM m m') (hok : okM m = true) (hok' : okM m' = true) (hmd : MdOk m) (hiw : ∀ x ∈ inp, 0 ≤ x ∧ x < 4294967296) {f F : Nat} (hF : 20 * f ≤ F) (he : (playM m inp f).e = 0) : SameO (playM m inp f) (playM m' inp F) := by
 have n1 : ¬ okM m = false := by rw [hok]; decide
 have n2 : ¬ okM m' = false := by rw [hok']; decide
 unfold playM at he ⊢
 rw [if_neg n1] at he ⊢
 rw [if_neg n2, enM_eq H.globs]
 by_cases hen : 65536 < enM m
 ·rw [if_pos hen] at he; cases he
 ·rw [if_neg hen] at he ⊢
  rw [if_neg hen]
  have hmain : m.main.toNat < m.procs.length ∧ (pk m m.main.toNat).params = 0 := by
   have h := hok
   unfold okM okHeadM at h
   simp only [Bool.and_eq_true, decide_eq_true_eq, beq_iff_eq] at h
   exact ⟨by omega, h.2.2.1.1⟩
  have hmem : MemL (mem0 m m.globs.length) := ⟨memOk_of (mem0_bytes hmd _), mem0_len hok (by unfold enM at hen; omega) _ (Nat.le_refl _)⟩
  have hen0 : 0 ≤ enM m := by
   have hG := okM_globs hok
   have := (slE_small hG.1 (by have := hG.2.1; omega) m.globs.length (Nat.le_refl _)).1
   unfold enM; omega
  rw [H.globs, H.main, mem0_eq H.globs H.data]
  have hhalt : (enterM m [] m.main.toNat [] 65536 ⟨mem0 m m.globs.length, [], 0, 0, 0⟩).halt = false := by
   unfold enterM at he ⊢
   by_cases hc : 65536 - longM (pk m m.main.toNat) < enM m ∨ 5000 ≤ ([] : List Fr).length
   ·rw [if_pos hc] at he
    rw [runM_fin _ _ _ _ rfl] at he
    cases he
   ·rw [if_neg hc]
  have hI : MIv m (enterM m [] m.main.toNat [] 65536 ⟨mem0 m m.globs.length, [], 0, 0, 0⟩) := by
   unfold enterM at hhalt ⊢
   by_cases hc : 65536 - longM (pk m m.main.toNat) < enM m ∨ 5000 ≤ ([] : List Fr).length
   ·rw [if_pos hc] at hhalt; cases hhalt
   ·rw [if_neg hc]
    have hH := okP_head (okM_proc hok hmain.1)
    refine ⟨fun fr hfr => ?_, fun fr hfr => (by cases hfr), hmem⟩
    rcases List.mem_cons.1 hfr with rfl | hfr
    ·refine ⟨hmain.1, by have := hH.b1; exact this, Nat.zero_le _, ?_, fun x hx => ?_, ?_⟩
     ·simp only [List.nil_append, List.length_replicate, List.length_nil]
      have := hH.p0
      have := hH.pr
      omega
     ·simp only [List.nil_append] at hx
      rw [List.eq_of_mem_replicate hx]; exact ⟨by decide, by decide⟩
     ·have h1 := longM_pos hok hmain.1
      dsimp only
      omega
    ·cases hfr
  have hR0 := H.enterR hok hmain.1 hI hhalt (by rw [hmain.2]; rfl) (K := []) (K' := []) True.intro
  refine sim_outcome (R := fun d M N => RelI m m' d M N) 20 ?_ ?_ hR0 hhalt he hF
  ·intro d M N hR h1 h2 h3
   exact H.step hok hmd hiw hR h2 h3
  ·intro d M N hR h1 h2
   cases hR with
   | done s => exact ⟨rfl, rfl, SameO.refl _⟩
   | on f f' K K' s hi hk hf => cases h2
   | inn d g f f' K K' s G c on hi hk hI hd hd2 => cases h2
end
end Go.Proofs.YtchoiankeohonaaGreatDoor
