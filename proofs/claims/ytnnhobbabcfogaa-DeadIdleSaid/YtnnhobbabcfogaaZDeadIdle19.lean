/-
  Contracts of the functions of word and of its reference: each returns the number that the plain arithmetic of W1 says, and leaves the world as it is. Conditions: each word lies between 0 and 2^32 - 1.; The game of a drawn region, where lengths and greatest numbers may be taken first too.
-/
import Derived.Test.YtnnhobbabcfogaaRows
import Derived.WalkKit
import Derived.ProofKit
import Derived.OpenShut
import Derived.Outline
import Derived.Lib.Hide
import Derived.Deep.QuietTactic
import Derived.BigQuiet
import Derived.Test.YtnnhobbabcfogaaZDeadIdle18
import Derived.Test.YtnnhobbabcfogaaZDeadIdle07

set_option linter.all false
namespace Go.Proofs.Ytnnhobbabcfogaa
open Go.ChangeShapes Go.WideShapes Go.ChangeAt Go.RowKit
set_option maxHeartbeats 400000
set_option linter.unusedVariables false

theorem ret_int {k : IntKind} {a b : Int} (h : a = b) : Ending.returned (.int k a) = .returned (.int k b) := by rw [h]
theorem ret_bool {a b : Bool} (h : a = b) : Ending.returned (.bool a) = .returned (.bool b) := by rw [h]
theorem ret_int2 {k k' : IntKind} {a b c d : Int} (h : a = b) (h' : c = d) : Ending.returned (.tuple #[.int k a, .int k' c]) = .returned (.tuple #[.int k b, .int k' d]) := by rw [h, h']
theorem wraps_u32 (n : Int) (h₀ : 0 ≤ n) (h₁ : n < 2 ^ 32) : IntKind.u32.wrap n = n := by rw [IntKind.wrap_u32]; omega
theorem u32_and31 (x : Int) (h₀ : 0 ≤ x) (h₁ : x < 4294967296) : bits .and .u32 x 31 = x % 32 := bits_mask .u32 32 (by decide) wraps_u32 5 (by decide) x h₀ h₁
attribute [local go_sem] u32_and31

theorem add_c (a b : Int) (w : World)  :
    Calls Try.prog 146 #[.int .u32 a, .int .u32 b] w fun e w' => e = .returned (.int .u32 ((a + b) % 4294967296)) ∧ w = w' := by
  go_enter Try.func146, Try.ntmps146
  go_wp2
  go_ret
  exact ⟨rfl, rfl⟩

theorem sub_c (a b : Int) (w : World)  :
    Calls Try.prog 147 #[.int .u32 a, .int .u32 b] w fun e w' => e = .returned (.int .u32 ((a - b) % 4294967296)) ∧ w = w' := by
  go_enter Try.func147, Try.ntmps147
  go_wp2
  go_ret
  exact ⟨rfl, rfl⟩

theorem mul_c (a b : Int) (w : World)  :
    Calls Try.prog 148 #[.int .u32 a, .int .u32 b] w fun e w' => e = .returned (.int .u32 ((a * b) % 4294967296)) ∧ w = w' := by
  go_enter Try.func148, Try.ntmps148
  go_wp2
  go_ret
  exact ⟨rfl, rfl⟩

theorem div_c (a b : Int) (w : World) (h : 0 ≤ a) (h' : a < 4294967296) (h1 : 0 ≤ b) (h1' : b < 4294967296) :
    Calls Try.prog 149 #[.int .u32 a, .int .u32 b] w fun e w' => e = .returned (.int .u32 (divS a b)) ∧ w = w' := by
  by_cases hb : b = 0
  · go_enter Try.func149, Try.ntmps149
    go_wp2
    go_ret
    exact ⟨ret_int (by unfold divS; rw [if_pos hb]), rfl⟩
  · have hz := sg_zero b h1 h1'
    have hs : ¬ wrap64 (wrap32 b) = 0 := by
      have hb' := sg_bd b h1 h1'
      rw [wrap32_sg b h1 h1', wrap64_in _ (by omega) (by omega)]; omega
    clear hz
    go_enter Try.func149, Try.ntmps149
    go_wp2
    go_ret
    exact ⟨ret_int (div_eq a b h h' h1 h1' hb), rfl⟩

theorem rem_c (a b : Int) (w : World) (h : 0 ≤ a) (h' : a < 4294967296) (h1 : 0 ≤ b) (h1' : b < 4294967296) :
    Calls Try.prog 150 #[.int .u32 a, .int .u32 b] w fun e w' => e = .returned (.int .u32 (remS a b)) ∧ w = w' := by
  by_cases hb : b = 0
  · go_enter Try.func150, Try.ntmps150
    go_wp2
    go_ret
    exact ⟨ret_int (by unfold remS; rw [if_pos hb]), rfl⟩
  · have hz := sg_zero b h1 h1'
    have hs : ¬ wrap64 (wrap32 b) = 0 := by
      have hb' := sg_bd b h1 h1'
      rw [wrap32_sg b h1 h1', wrap64_in _ (by omega) (by omega)]; omega
    clear hz
    go_enter Try.func150, Try.ntmps150
    go_wp2
    go_ret
    exact ⟨ret_int (rem_eq a b h h' h1 h1' hb), rfl⟩

theorem left_c (a b : Int) (w : World) (h : 0 ≤ a) (h' : a < 4294967296) (h1 : 0 ≤ b) (h1' : b < 4294967296) :
    Calls Try.prog 151 #[.int .u32 a, .int .u32 b] w fun e w' => e = .returned (.int .u32 (shl32 a b)) ∧ w = w' := by
  go_enter Try.func151, Try.ntmps151
  go_wp2
  go_ret
  exact ⟨rfl, rfl⟩

theorem rights_c (a b : Int) (w : World) (h : 0 ≤ a) (h' : a < 4294967296) (h1 : 0 ≤ b) (h1' : b < 4294967296) :
    Calls Try.prog 152 #[.int .u32 a, .int .u32 b] w fun e w' => e = .returned (.int .u32 (sar32 a b)) ∧ w = w' := by
  go_enter Try.func152, Try.ntmps152
  go_wp2
  go_ret
  exact ⟨ret_int (by unfold sar32; rw [← wrap32_sg a h h']), rfl⟩

theorem less_c (a b : Int) (w : World) (h : 0 ≤ a) (h' : a < 4294967296) (h1 : 0 ≤ b) (h1' : b < 4294967296) :
    Calls Try.prog 154 #[.int .u32 a, .int .u32 b] w fun e w' => e = .returned (.int .u32 (lessS a b)) ∧ w = w' := by
  have ea := wrap32_sg a h h'
  have eb := wrap32_sg b h1 h1'
  by_cases hl : wrap32 a < wrap32 b
  all_goals
    have H := Lib.hid ea; clear ea
    have H' := Lib.hid eb; clear eb
    go_enter Try.func154, Try.ntmps154
    go_wp2
    go_ret
    refine ⟨ret_int ?_, rfl⟩
    unfold lessS
    rw [← H.out, ← H'.out]
    simp [hl]

theorem highu_bd (a b : Int) (h : 0 ≤ a) (h' : a < 4294967296) (h1 : 0 ≤ b) (h1' : b < 4294967296) : 0 ≤ highU a b ∧ highU a b < 4294967296 := by
  unfold highU
  have hm := mul_nn a b 4294967295 4294967295 (by omega) (by omega) (by omega) (by omega)
  omega
theorem highsu_bd (a b : Int) : 0 ≤ highSU a b ∧ highSU a b < 4294967296 := by unfold highSU; omega
theorem highs_bd (a b : Int) : 0 ≤ highS a b ∧ highS a b < 4294967296 := by unfold highS; omega

theorem pw_5 (b : Int) (h : 0 ≤ b) : 1 ≤ pw (b % 32).toNat ∧ pw (b % 32).toNat ≤ 2147483648 := ⟨pw_pos _, pw_31 _ (by omega)⟩
theorem pw_quo (k : Nat) (h : k ≤ 32) : 1 ≤ 4294967296 / pw k ∧ 4294967296 / pw k ≤ 4294967296 := by
  obtain ⟨p, q, h1, h2, h3, h4, h5, h6, h7⟩ := pow_split k h
  unfold pw; rw [h1, h2]; omega

theorem rights_eq (x p : Int) (hp : 1 ≤ p) : (if x < 0 ∧ x.tdiv p * p ≠ x then x.tdiv p - 1 else x.tdiv p) = x / p := by
  have h1 := Int.emod_nonneg x (show p ≠ 0 by omega)
  have h2 := Int.emod_lt_of_pos x (show 0 < p by omega)
  have h3 := Int.mul_ediv_add_emod x p
  have h4 := Int.tdiv_eq_ediv (a := x) (b := p)
  by_cases hx : 0 ≤ x
  · rw [if_neg (by omega), Int.tdiv_eq_ediv_of_nonneg hx]
  · by_cases hd : x % p = 0
    · have : p ∣ x := Int.dvd_of_emod_eq_zero hd
      rw [if_pos (Or.inr this), Int.add_zero] at h4
      rw [h4, if_neg]
      rintro ⟨_, h⟩
      apply h
      have := Int.mul_comm (x / p) p
      omega
    · have hn : ¬ p ∣ x := fun h => hd (Int.emod_eq_zero_of_dvd h)
      have hs : p.sign = 1 := Int.sign_eq_one_of_pos (by omega)
      rw [if_neg (by intro h; rcases h with h | h; exact hx h; exact hn h), hs] at h4
      rw [h4, if_pos]
      · omega
      · refine ⟨by omega, ?_⟩
        have := Int.mul_comm (x / p) p
        rw [Int.add_mul]; omega
theorem half_pw (k : Nat) : pw (k + 1) / 2 = pw k := by rw [pw_succ]; omega
end Go.Proofs.Ytnnhobbabcfogaa

set_option linter.all false
namespace Go.Proofs.Ytnnhobbabcfogaa
open Go Go.RowKit

def lookB (o : Oper) : Bool :=
  match o.op with
  | .call c => (match c.callee with | .builtin .len | .builtin .max => true | _ => false)
  | _ => false
theorem lookB_spec {P : Program} {o : Oper} {ρ : Operand → Value} {w : World} {n : Next} {w' : World} (h : lookB o = true) (hr : (execOp ρ o).run P w = .ok n w') : ∃ v, n = .value v := by
  unfold lookB at h
  split at h
  · rename_i c hc
    split at h
    · rename_i hb
      simp only [execOp, hc, resolve, hb, Sem.run_bind, Sem.run_pure, Result.andThen_ok, invoke] at hr
      exact bind_value hr
    · rename_i hb
      simp only [execOp, hc, resolve, hb, Sem.run_bind, Sem.run_pure, Result.andThen_ok, invoke] at hr
      exact bind_value hr
    · cases h
  · cases h
section
variable {P : Program} {ops : Array Oper} {Q : Act → World → Prop} {S : Nat → Prop}
theorem E_mob2 {f : Nat} {listed : Array Bool} {a : Act} {w : World} (i : Nat) (o : Oper) (hio : ops[i]? = some o)
    (hc : (closedB ops listed && (Region.noSelect ops && (Region.ready .any ops listed).contains i && Region.free .any ops listed i && (lookOp o || lookB o))) = true)
    (h : wpQuiet P ops (fun w' => ∃ x, w' = kp S w x) (fun a' => wpE S P ops Q f (listed.setIfInBounds i true) a' w) [o] a) : wpE S P ops Q (f + 1) listed a w := by
  simp only [Bool.and_eq_true] at hc
  obtain ⟨hcl, ⟨⟨hs, hr⟩, hf⟩, hk⟩ := hc
  simp only [wpQuiet] at h
  have hy : ∃ v, YieldsE S P ops w o v a ∧ wpE S P ops Q f (listed.setIfInBounds i true) (a.put o.dst v) w := by
    split at h
    · rename_i hw
      obtain ⟨v, hv, hn⟩ := h
      refine ⟨v, .inl ⟨hw, fun w' hb => ?_⟩, hn⟩
      have h3 := hv w' (keep_kp hb)
      unfold Oper.quietAt at h3
      generalize hrr : (execOp a.eval o).run P w' = r at h3
      cases r with
      | ok n w1 =>
        have hu : ∃ v, n = .value v := by
          rw [Bool.or_eq_true] at hk
          rcases hk with hk | hk
          · exact lookOp_spec hk hrr
          · exact lookB_spec hk hrr
        obtain ⟨u, rfl⟩ := hu
        simp only [Oper.quietUpon] at h3
        obtain ⟨rfl, rfl⟩ := h3
        rfl
      | halt x w1 => simp only [Oper.quietUpon] at h3
    · rename_i hw
      exact ⟨undef, .inr ⟨by simpa using hw, rfl⟩, h⟩
  obtain ⟨v, hy, hn⟩ := hy
  exact wpE_first hio (Region.noSelect_spec hs) f listed a w (Region.free_spec hio hf) (closed_of hcl) (by simpa using hr) hy hn
end
end Go.Proofs.Ytnnhobbabcfogaa
