/-
 A procedure with small ones in the place of calls: its run and the old one's, side by side. Plain: instructions that hand over, instructions that are moved, how many there are.
-/
import Derived.Test.YtchoiankeohonaaGreatDoorZInlineAll33
set_option linter.all false
namespace Go.Proofs.YtchoiankeohonaaGreatDoor
set_option linter.unusedVariables false
set_option maxHeartbeats 1000000

def runL : List In → List Int → List Int
 | [], regs => regs
 | i :: l, regs => runL l (regs.set i.d.toNat (if i.op = 1 then 0 else rg regs i.a))
theorem runL_app : ∀ (a b : List In) (regs : List Int), runL (a ++ b) regs = runL b (runL a regs)
 | [], _, _ => rfl
 | i :: a, b, regs => by show runL (a ++ b) _ = runL b (runL a _); exact runL_app a b _
theorem runL_len : ∀ (l : List In) (regs : List Int), (runL l regs).length = regs.length
 | [], _ => rfl
 | i :: l, regs => by show (runL l _).length = _; rw [runL_len l, List.length_set]
theorem runL_keep : ∀ (l : List In) (regs : List Int) (r : Int), 0 ≤ r → (∀ i ∈ l, 0 ≤ i.d ∧ i.d ≠ r) → rg (runL l regs) r = rg regs r
 | [], _, _, _, _ => rfl
 | i :: l, regs, r, h0, h => by
  obtain ⟨h1, h2⟩ := h i List.mem_cons_self
  show rg (runL l _) r = _
  rw [runL_keep l _ r h0 (fun j hj => h j (List.mem_cons_of_mem _ hj)), rg_set_ne _ _ h1 h0 (fun q => h2 q.symm)]
theorem rg_set_at {l : List Int} {d v : Int} (h0 : 0 ≤ d) (h1 : d < (l.length : Int)) : rg (l.set d.toNat v) d = v := by rw [rg_set _ _ _ _ h0 h0, if_pos ⟨rfl, by omega⟩]
theorem args_run (args : List Int) (g R : Int) (regs : List Int) (h0 : 0 ≤ R) (hR : R ≤ g) (ha : ∀ x ∈ args, 0 ≤ x ∧ x < R) (hl : g + (args.length : Int) ≤ (regs.length : Int)) : ∀ k, k ≤ args.length →
  (∀ j, j < k → rg (runL ((List.range k).map fun (k : Nat) => copI (g + (k : Int)) (args.getD k 0)) regs) (g + (j : Int)) = rg regs (args.getD j 0)) ∧
  ∀ r : Int, 0 ≤ r → r < g → rg (runL ((List.range k).map fun (k : Nat) => copI (g + (k : Int)) (args.getD k 0)) regs) r = rg regs r
 | 0, _ => ⟨fun _ h => absurd h (Nat.not_lt_zero _), fun _ _ _ => rfl⟩
 | k + 1, hk => by
  obtain ⟨i1, i2⟩ := args_run args g R regs h0 hR ha hl k (by omega)
  have hm := ha (args.getD k 0) (getD_in (by omega))
  rw [List.range_succ, List.map_append, runL_app]
  generalize hX : runL ((List.range k).map fun (k : Nat) => copI (g + (k : Int)) (args.getD k 0)) regs = X at *
  have hlX : X.length = regs.length := by rw [← hX, runL_len]
  have hY : runL ([k].map fun (k : Nat) => copI (g + (k : Int)) (args.getD k 0)) X = X.set (g + (k : Int)).toNat (rg X (args.getD k 0)) := rfl
  rw [hY, i2 _ hm.1 (by omega)]
  refine ⟨fun j hj => ?_, fun r hr hr2 => ?_⟩
  ·by_cases e : j = k
   ·subst e; rw [rg_set_at (by omega) (by rw [hlX]; omega)]
   ·rw [rg_set_ne _ _ (by omega) (by omega) (by omega)]; exact i1 j (by omega)
  ·rw [rg_set_ne _ _ (by omega) hr (by omega)]; exact i2 r hr hr2
theorem zeros_run (g : Int) (h0 : 0 ≤ g) : ∀ (l : List Nat) (regs : List Int) (r : Nat), g + (r : Int) < (regs.length : Int) → (rg regs (g + (r : Int)) = 0 ∨ r ∈ l) → rg (runL (l.map fun (r : Nat) => zroI (g + (r : Int))) regs) (g + (r : Int)) = 0
 | [], regs, r, hl, h => by rcases h with h | h; exact h; cases h
 | x :: l, regs, r, hl, h => by
  show rg (runL (l.map fun (r : Nat) => zroI (g + (r : Int))) (regs.set (g + (x : Int)).toNat 0)) (g + (r : Int)) = 0
  refine zeros_run g h0 l _ r (by rw [List.length_set]; exact hl) ?_
  by_cases e : r = x
  ·subst e; exact .inl (rg_set_at (by omega) hl)
  ·rcases h with h | h
   ·exact .inl (by rw [rg_set_ne _ _ (by omega) (by omega) (by omega)]; exact h)
   ·rcases List.mem_cons.1 h with h | h
    ·exact absurd h e
    ·exact .inr h
theorem it_hand {m' : Md} {inp : List Int} {s : Oc} {K' : List Fr} : ∀ (L : List In) (f' : Fr), (∀ i ∈ L, i.op = 1 ∧ i.num = 0 ∨ i.op = 2) → (fBk m' f').ins.drop f'.i = L →
  itM m' inp L.length ⟨f' :: K', false, s⟩ = ⟨{ f' with regs := runL L f'.regs, i := f'.i + L.length } :: K', false, s⟩
 | [], f', _, _ => rfl
 | x :: l, f', h, hd => by
  have hl : f'.i < (fBk m' f').ins.length := by
   apply Classical.byContradiction
   intro hge
   rw [List.drop_eq_nil_of_le (by omega)] at hd
   cases hd
  have hd2 := hd
  rw [drop_cons _ _ hl] at hd2
  injection hd2 with e1 e2
  have hx : fIn m' f' = x := e1
  have hs : insM m' inp (pk m' f'.n) f'.low (fIn m' f') f'.regs s = some (f'.regs.set x.d.toNat (if x.op = 1 then 0 else rg f'.regs x.a), s) := by
   rw [hx]
   rcases h x List.mem_cons_self with ⟨h1, h2⟩ | h1
   ·unfold insM; rw [if_pos h1, if_pos h1, h2]
   ·unfold insM; rw [if_neg (by omega), if_pos h1, if_neg (by omega)]
  have h9 : (fIn m' f').op ≠ 9 := by
   rw [hx]; rcases h x List.mem_cons_self with ⟨h1, -⟩ | h1 <;> omega
  rw [List.length_cons, itM_succ _ rfl, fs_ins (by omega) h9 hs]
  have := it_hand (m' := m') (inp := inp) (s := s) (K' := K') l { f' with regs := f'.regs.set x.d.toNat (if x.op = 1 then 0 else rg f'.regs x.a), i := f'.i + 1 } (fun i hi => h i (List.mem_cons_of_mem _ hi)) e2
  rw [this]
  show (⟨_ :: K', false, s⟩ : Ms) = ⟨_ :: K', false, s⟩
  rw [show f'.i + 1 + l.length = f'.i + (l.length + 1) by omega]
  rfl
theorem hand_ops {q : Pr} {args : List Int} {g : Int} : ∀ i ∈ handL q args g, i.op = 1 ∧ i.num = 0 ∨ i.op = 2 := fun i h => by
 unfold handL argsL at h
 rcases List.mem_append.1 h with h | h
 ·obtain ⟨k, -, rfl⟩ := List.mem_map.1 h; exact .inr rfl
 ·obtain ⟨k, -, rfl⟩ := List.mem_map.1 h; exact .inl ⟨rfl, rfl⟩
/-- what is handed over -/
theorem hand_run {q : Pr} {args : List Int} {g R : Int} {regs : List Int} (h0 : 0 ≤ R) (hR : R ≤ g) (ha : ∀ x ∈ args, 0 ≤ x ∧ x < R) (hl : g + q.regs ≤ (regs.length : Int)) (hp : (args.length : Int) = q.params) (hq : q.params ≤ q.regs) :
  (∀ r : Int, 0 ≤ r → r < g → rg (runL (handL q args g) regs) r = rg regs r) ∧
  ∀ r : Int, 0 ≤ r → r < q.regs → liveP q 0 0 r = true → rg (runL (handL q args g) regs) (r + g) = rg (args.map (rg regs) ++ List.replicate (q.regs.toNat - args.length) 0) r := by
 obtain ⟨i1, i2⟩ := args_run args g R regs h0 hR ha (by omega) args.length (Nat.le_refl _)
 unfold handL
 rw [runL_app]
 have hX : (runL (argsL args g) regs).length = regs.length := runL_len _ _
 have e : argsL args g = (List.range args.length).map fun (k : Nat) => copI (g + (k : Int)) (args.getD k 0) := rfl
 rw [← e] at i1 i2
 generalize runL (argsL args g) regs = X at *
 refine ⟨fun r hr hr2 => ?_, fun r hr hr2 hlv => ?_⟩
 ·rw [runL_keep _ _ _ hr (fun i hi => ?_)]
  ·exact i2 r hr hr2
  ·obtain ⟨x, -, rfl⟩ := List.mem_map.1 hi
   exact ⟨by show 0 ≤ g + (x : Int); omega, by show g + (x : Int) ≠ r; omega⟩
 ·by_cases h : r < (args.length : Int)
  ·rw [runL_keep _ _ _ (by omega) (fun i hi => ?_)]
   ·have := i1 r.toNat (by omega)
    rw [show g + (r.toNat : Int) = r + g by omega] at this
    rw [this]
    have e2 : rg (args.map (rg regs) ++ List.replicate (q.regs.toNat - args.length) 0) r = (args.map (rg regs) ++ List.replicate (q.regs.toNat - args.length) 0).getD r.toNat 0 := rfl
    rw [e2, getD_appL (by rw [List.length_map]; omega)]
    have hlt : r.toNat < args.length := by omega
    simp [List.getD, hlt]
   ·obtain ⟨x, hx, rfl⟩ := List.mem_map.1 hi
    unfold liveR at hx
    rw [List.mem_filter] at hx
    have hx2 := hx.2
    simp only [Bool.and_eq_true, decide_eq_true_eq] at hx2
    exact ⟨by show 0 ≤ g + (x : Int); omega, by show g + (x : Int) ≠ r + g; omega⟩
  ·have := zeros_run g (by omega) (liveR q) X r.toNat (by omega) (.inr ?_)
   ·rw [show g + (r.toNat : Int) = r + g by omega] at this
    rw [this]
    have e2 : rg (args.map (rg regs) ++ List.replicate (q.regs.toNat - args.length) 0) r = (args.map (rg regs) ++ List.replicate (q.regs.toNat - args.length) 0).getD r.toNat 0 := rfl
    rw [e2]
    simp only [List.getD]
    rw [List.getElem?_append_right (by rw [List.length_map]; omega), List.getElem?_replicate]
    split <;> rfl
   ·unfold liveR
    rw [List.mem_filter]
    refine ⟨List.mem_range.2 (by omega), ?_⟩
    simp only [Bool.and_eq_true, decide_eq_true_eq]
    rw [show ((r.toNat : Nat) : Int) = r by omega]
    exact ⟨hlv, by omega⟩
theorem nodup_le {α : Type} [DecidableEq α] : ∀ (l k : List α), l.Nodup → (∀ x ∈ l, x ∈ k) → l.length ≤ k.length
 | [], _, _, _ => Nat.zero_le _
 | a :: l, k, hn, h => by
  have hk := h a List.mem_cons_self
  rw [List.nodup_cons] at hn
  have := nodup_le l (k.erase a) hn.2 (fun x hx => by
   have hne : x ≠ a := fun e => hn.1 (e ▸ hx)
   exact (List.mem_erase_of_ne hne).2 (h x (List.mem_cons_of_mem _ hx)))
  have h2 := List.length_erase_of_mem hk
  have h3 : 0 < k.length := List.length_pos_of_mem hk
  simp only [List.length_cons]
  omega
/-- all that a procedure reads -/
def allU (q : Pr) : List Int := q.blks.flatMap fun b => b.ins.flatMap usesI ++ [b.a]
theorem within_use {r : Int} : ∀ {l : List In}, withinI r l = 1 → ∃ i ∈ l, hasL (usesI i) r = true
 | [], h => by cases h
 | i :: l, h => by
  unfold withinI at h
  split at h
  ·rename_i hu; exact ⟨i, List.mem_cons_self, hu⟩
  ·split at h
   ·cases h
   ·obtain ⟨j, hj, hu⟩ := within_use h; exact ⟨j, List.mem_cons_of_mem _ hj, hu⟩
theorem live_used {q : Pr} {r : Int} {n : Nat} (h : LvS q r n) : r ∈ allU q := by
 refine h (fun _ => r ∈ allU q) (fun n hw => ?_) (fun n t _ _ ih => ih)
 by_cases hn : n < q.blks.length
 ·unfold allU
  rw [List.mem_flatMap]
  refine ⟨q.blks.getD n default, getD_in hn, ?_⟩
  generalize q.blks.getD n default = b at *
  unfold withinB at hw
  rw [List.drop_zero] at hw
  rw [List.mem_append]
  split at hw
  ·split at hw
   ·rename_i he
    unfold endReads at he
    simp only [Bool.and_eq_true, beq_iff_eq] at he
    exact .inr (by simp [he.2])
   ·cases hw
  ·obtain ⟨i, hi, hu⟩ := within_use hw
   exact .inl (List.mem_flatMap.2 ⟨i, hi, (hasL_mem _ _).1 hu⟩)
 ·have e : q.blks.getD n default = default := by simp [List.getD, Nat.le_of_not_lt hn]
  rw [e] at hw
  unfold withinB at hw
  rw [if_pos (by rfl)] at hw
  split at hw
  ·rename_i he; cases he
  ·cases hw
theorem uses_two {i : In} (h : i.op ≠ 9) : (usesI i).length ≤ 2 := by
 unfold usesI
 rw [if_neg h]
 simp only [List.length_append, List.length_nil]
 split <;> split <;> simp
theorem flat_le {α β : Type} (f : α → List β) (c : Nat) : ∀ (l : List α), (∀ x ∈ l, (f x).length ≤ c) → (l.flatMap f).length ≤ c * l.length
 | [], _ => Nat.zero_le _
 | a :: l, h => by
  have := flat_le f c l fun x hx => h x (List.mem_cons_of_mem _ hx)
  have := h a List.mem_cons_self
  rw [List.flatMap_cons, List.length_append, List.length_cons, Nat.mul_succ]
  omega
theorem allU_len {q : Pr} (h : ∀ b ∈ q.blks, ∀ i ∈ b.ins, i.op ≠ 9) : (allU q).length ≤ 2 * insN q + q.blks.length := by
 unfold allU insN
 generalize q.blks = l at *
 induction l with
 | nil => exact Nat.zero_le _
 | cons b l ih =>
  have := ih fun x hx => h x (List.mem_cons_of_mem _ hx)
  have h2 := flat_le usesI 2 b.ins fun i hi => uses_two (h b List.mem_cons_self i hi)
  rw [List.flatMap_cons, List.length_append, List.length_append, List.map_cons, List.sum_cons, Nat.mul_add]
  simp only [List.length_cons, List.length_nil]
  omega
theorem nodup_filter_map (q : Pr) : ((liveR q).map fun (r : Nat) => (r : Int)).Nodup := by
 unfold liveR
 have h : List.Pairwise (fun a b : Nat => a ≠ b) ((List.range q.regs.toNat).filter fun (r : Nat) => liveP q 0 0 (r : Int) && decide (q.params ≤ (r : Int))) := List.Pairwise.filter _ List.nodup_range
 exact List.pairwise_map.2 (h.imp fun {a b} hne e => hne (Int.ofNat.inj e))
theorem liveR_len {q : Pr} {k : List Int} (h : ∀ r : Int, liveP q 0 0 r = true → r ∈ k) : (liveR q).length ≤ k.length := by
 have := nodup_le _ k (nodup_filter_map q) (fun x hx => by
  obtain ⟨y, hy, rfl⟩ := List.mem_map.1 hx
  unfold liveR at hy
  rw [List.mem_filter] at hy
  have hy2 := hy.2
  simp only [Bool.and_eq_true] at hy2
  exact h _ hy2.1)
 rwa [List.length_map] at this
theorem hand_len (q : Pr) (args : List Int) (g : Int) : (handL q args g).length = args.length + (liveR q).length := by
 unfold handL argsL
 rw [List.length_append, List.length_map, List.length_map, List.length_range]
theorem small_ops {q : Pr} (h : smallP q = true) : q.objs = [] ∧ q.blks.length + insN q ≤ 24 ∧ ∀ b ∈ q.blks, ∀ i ∈ b.ins, i.op ≠ 9 := by
 unfold smallP at h
 simp only [Bool.and_eq_true, List.all_eq_true, decide_eq_true_eq, bne_iff_ne] at h
 exact ⟨List.eq_nil_of_length_eq_zero h.1, h.2.1, h.2.2⟩
theorem hand_53 {q : Pr} (h : smallP q = true) (hb : 1 ≤ q.blks.length) {args : List Int} (ha : args.length ≤ 6) (g : Int) : (handL q args g).length ≤ 53 := by
 obtain ⟨-, h1, h2⟩ := small_ops h
 have := liveR_len (q := q) (k := allU q) fun r hr => live_used ((liveP_0 q 0 r).1 hr)
 have := allU_len h2
 rw [hand_len]
 omega
theorem hand_7 {q : Pr} (hi : (bq q 0).ins = []) (hf : (bq q 0).fin = 3) {args : List Int} (ha : args.length ≤ 6) (g : Int) : (handL q args g).length ≤ 7 := by
 have := liveR_len (q := q) (k := [(bq q 0).a]) fun r hr => by
  rw [liveP_iff] at hr
  unfold bq at *
  rcases hr with hr | ⟨hr, t, ht, -⟩
  ·generalize q.blks.getD 0 default = b at *
   unfold withinB at hr
   rw [hi] at hr
   rw [if_pos (by rfl)] at hr
   split at hr
   ·rename_i he
    unfold endReads at he
    simp only [Bool.and_eq_true, beq_iff_eq] at he
    simp [he.2]
   ·cases hr
  ·exfalso
   unfold outsP outsB at ht
   rw [hf, if_neg (by omega), if_neg (by omega)] at ht
   cases ht
 rw [hand_len]
 simp only [List.length_singleton] at this
 omega
/-- an instruction that is moved -/
theorem insM_mov {m m' : Md} {inp : List Int} {p p' q : Pr} {low low' G : Int} {i : In} {regs regs' : List Int} {s : Oc} {r : List Int × Oc} (hg : m'.globs = m.globs) (hok : okI m q i = true) (h9 : i.op ≠ 9) (h7 : i.op ≠ 7) (h : insM m inp p low i regs s = some r)
  (hu : ∀ x : Int, hasL (usesI i) x = true → rg regs' (x + G) = rg regs x) :
  ∃ r', insM m' inp p' low' (movI G i) regs' s = some r' ∧ r'.2 = r.2 ∧ (defI i = -1 ∧ r.1 = regs ∧ r'.1 = regs' ∨ (defI i = i.d ∧ 0 ≤ i.d ∧ i.d < q.regs) ∧ ∃ v, r.1 = regs.set i.d.toNat v ∧ r'.1 = regs'.set (i.d + G).toNat v) := by
 have hop := ops12 hok
 have hA : (i.op = 2 ∨ i.op = 3 ∨ i.op = 4 ∨ i.op = 5 ∨ i.op = 6 ∨ i.op = 10) → rg regs' (movI G i).a = rg regs i.a := fun z => by
  have h1 := okI_a hok z
  have : (movI G i).a = i.a + G := by show shF i.a G = _; unfold shF; rw [if_neg (by omega)]
  rw [this]; exact hu _ h1.2
 have hB : (i.op = 3 ∨ i.op = 6) → rg regs' (movI G i).b = rg regs i.b := fun z => by
  have h1 := okI_b hok z
  have : (movI G i).b = i.b + G := by show shF i.b G = _; unfold shF; rw [if_neg (by omega)]
  rw [this]; exact hu _ h1.2
 have hD : i.op ≠ 6 ∧ i.op ≠ 10 ∧ i.op ≠ 12 ∧ i.op ≠ 9 → (0 ≤ i.d ∧ i.d < q.regs) ∧ (movI G i).d = i.d + G := fun z => by
  have h1 := okI_d hok z
  exact ⟨h1, by show shF i.d G = _; unfold shF; rw [if_neg (by omega)]⟩
 have hAd : (i.op = 5 ∨ i.op = 6) → addrM regs' (movI G i) = addrM regs i := fun z => by
  unfold addrM; rw [hA (by omega)]; rfl
 have eop : (movI G i).op = i.op := rfl
 have enum : (movI G i).num = i.num := rfl
 have efn : (movI G i).fn = i.fn := rfl
 have esz : (movI G i).size = i.size := rfl
 have eobj : (movI G i).obj = i.obj := rfl
 have eoff : (movI G i).off = i.off := rfl
 have D : ∀ (n : Int), (n = 1 ∨ n = 2 ∨ n = 3 ∨ n = 4 ∨ n = 5 ∨ n = 7 ∨ n = 8 ∨ n = 11) → i.op = n → defI i = i.d := fun n hn e => by
  unfold defI; rw [e]; rcases hn with rfl | rfl | rfl | rfl | rfl | rfl | rfl | rfl <;> rfl
 have D' : ∀ (n : Int), (n = 6 ∨ n = 10 ∨ n = 12) → i.op = n → defI i = -1 := fun n hn e => by
  unfold defI; rw [e]; rcases hn with rfl | rfl | rfl <;> rfl
 have hop : i.op = 1 ∨ i.op = 2 ∨ i.op = 3 ∨ i.op = 4 ∨ i.op = 5 ∨ i.op = 6 ∨ i.op = 8 ∨ i.op = 10 ∨ i.op = 11 ∨ i.op = 12 := by omega
 unfold insM at h ⊢
 rw [eop, enum, efn, esz, eobj, eoff, hg]
 rcases hop with e | e | e | e | e | e | e | e | e | e
 ·rw [if_pos e] at h ⊢
  cases h
  rw [(hD (by omega)).2]
  exact ⟨_, rfl, rfl, .inr ⟨⟨D _ (by decide) e, (hD (by omega)).1⟩, _, rfl, rfl⟩⟩
 ·rw [if_neg (by omega), if_pos e] at h ⊢
  cases h
  rw [hA (by omega), (hD (by omega)).2]
  exact ⟨_, rfl, rfl, .inr ⟨⟨D _ (by decide) e, (hD (by omega)).1⟩, _, rfl, rfl⟩⟩
 ·rw [if_neg (by omega), if_neg (by omega), if_pos e] at h ⊢
  cases h
  rw [hA (by omega), hB (by omega), (hD (by omega)).2]
  exact ⟨_, rfl, rfl, .inr ⟨⟨D _ (by decide) e, (hD (by omega)).1⟩, _, rfl, rfl⟩⟩
 ·rw [if_neg (by omega), if_neg (by omega), if_neg (by omega), if_pos e] at h ⊢
  cases h
  rw [hA (by omega), (hD (by omega)).2]
  exact ⟨_, rfl, rfl, .inr ⟨⟨D _ (by decide) e, (hD (by omega)).1⟩, _, rfl, rfl⟩⟩
 ·rw [if_neg (by omega), if_neg (by omega), if_neg (by omega), if_neg (by omega), if_pos e] at h ⊢
  rw [hAd (by omega), (hD (by omega)).2]
  split at h
  ·cases h
   rename_i hp
   rw [if_pos hp]
   exact ⟨_, rfl, rfl, .inr ⟨⟨D _ (by decide) e, (hD (by omega)).1⟩, _, rfl, rfl⟩⟩
  ·cases h
 ·rw [if_neg (by omega), if_neg (by omega), if_neg (by omega), if_neg (by omega), if_neg (by omega), if_pos e] at h ⊢
  rw [hAd (by omega), hB (by omega)]
  split at h
  ·cases h
   rename_i hp
   rw [if_pos hp]
   exact ⟨_, rfl, rfl, .inl ⟨D' _ (by decide) e, rfl, rfl⟩⟩
  ·cases h
 ·rw [if_neg (by omega), if_neg (by omega), if_neg (by omega), if_neg (by omega), if_neg (by omega), if_neg (by omega), if_neg (by omega), if_pos e] at h ⊢
  cases h
  rw [(hD (by omega)).2]
  exact ⟨_, rfl, rfl, .inr ⟨⟨D _ (by decide) e, (hD (by omega)).1⟩, _, rfl, rfl⟩⟩
 ·rw [if_neg (by omega), if_neg (by omega), if_neg (by omega), if_neg (by omega), if_neg (by omega), if_neg (by omega), if_neg (by omega), if_neg (by omega), if_pos e] at h ⊢
  cases h
  rw [hA (by omega)]
  exact ⟨_, rfl, rfl, .inl ⟨D' _ (by decide) e, rfl, rfl⟩⟩
 ·rw [if_neg (by omega), if_neg (by omega), if_neg (by omega), if_neg (by omega), if_neg (by omega), if_neg (by omega), if_neg (by omega), if_neg (by omega), if_neg (by omega), if_pos e] at h ⊢
  cases h
  rw [(hD (by omega)).2]
  exact ⟨_, rfl, rfl, .inr ⟨⟨D _ (by decide) e, (hD (by omega)).1⟩, _, rfl, rfl⟩⟩
 ·rw [if_neg (by omega), if_neg (by omega), if_neg (by omega), if_neg (by omega), if_neg (by omega), if_neg (by omega), if_neg (by omega), if_neg (by omega), if_neg (by omega), if_neg (by omega)] at h ⊢
  cases h
  exact ⟨_, rfl, rfl, .inl ⟨D' _ (by decide) e, rfl, rfl⟩⟩
end Go.Proofs.YtchoiankeohonaaGreatDoor
