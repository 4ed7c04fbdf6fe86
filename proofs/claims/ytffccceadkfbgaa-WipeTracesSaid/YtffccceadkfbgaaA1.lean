/- Contracts of the leaves: octet.width, nums.Width. -/
import Derived.Test.YtffccceadkfbgaaProg
import Derived.Test.YtffccceadkfbgaaMem
import Derived.WalkKit
import Derived.LoopTactic
import Derived.KernelRfl
import Derived.Deep.QuietTactic
import Derived.BigQuiet
import Derived.Lib.Hide
namespace Go.Proofs.Ytffccceadkfbgaa
open Go.RowKit


theorem width1 (w : World) : Calls Try.prog 18 #[.int .i64 1] w fun e w' => e = .returned (.bool true) ∧ w = w' := by
  go_enter Try.func18, Try.ntmps18
  go_wp2
  go_ret
  exact ⟨rfl, rfl⟩
theorem width8 (w : World) : Calls Try.prog 18 #[.int .i64 8] w fun e w' => e = .returned (.bool true) ∧ w = w' := by
  go_enter Try.func18, Try.ntmps18
  go_wp2
  go_ret
  exact ⟨rfl, rfl⟩

/-- What is left of a number behind k of the six steps, n bits gone. -/
def WInv (x : Int) (b m : Nat) (n : Nat) (y : Int) : Prop := 0 ≤ y ∧ y < 2 ^ b ∧ n ≤ m ∧ y * 2 ^ n ≤ x ∧ x < (y + 1) * 2 ^ n ∧ (n = 0 ∨ 1 ≤ y)
theorem WInv.yes {x : Int} {b m n : Nat} {y : Int} (h : WInv x (b + b) m n y) (hy : 0 < y / 2 ^ b) : WInv x b (m + b) (n + b) (y / 2 ^ b) := by
  obtain ⟨h0, h1, h2, h3, h4, h5⟩ := h
  have hp : (0 : Int) < 2 ^ b := Int.pow_pos (by omega)
  have hn : (0 : Int) < 2 ^ n := Int.pow_pos (by omega)
  have hdm := Int.mul_ediv_add_emod y (2 ^ b)
  have hm0 := Int.emod_nonneg y (by omega : (2 ^ b : Int) ≠ 0)
  have hm1 := Int.emod_lt_of_pos y hp
  refine ⟨by omega, ?_, by omega, ?_, ?_, by omega⟩
  · rw [Int.pow_add] at h1
    exact Int.ediv_lt_of_lt_mul hp h1
  · rw [Int.pow_add, ← Int.mul_assoc]
    refine Int.le_trans ?_ h3
    rw [Int.mul_right_comm]
    exact Int.mul_le_mul_of_nonneg_right (by have := Int.mul_comm (2 ^ b) (y / 2 ^ b); omega) (by omega)
  · rw [Int.pow_add, ← Int.mul_assoc]
    refine Int.lt_of_lt_of_le h4 ?_
    rw [Int.mul_right_comm]
    exact Int.mul_le_mul_of_nonneg_right (by rw [Int.add_mul, Int.mul_comm (y / 2 ^ b)]; omega) (by omega)
theorem WInv.no {x : Int} {b m n : Nat} {y : Int} (h : WInv x (b + b) m n y) (hy : ¬ 0 < y / 2 ^ b) : WInv x b (m + b) n y := by
  obtain ⟨h0, h1, h2, h3, h4, h5⟩ := h
  have hp : (0 : Int) < 2 ^ b := Int.pow_pos (by omega)
  have hdm := Int.mul_ediv_add_emod y (2 ^ b)
  have hm1 := Int.emod_lt_of_pos y hp
  have hz : y / 2 ^ b = 0 := by
    have : 0 ≤ y / 2 ^ b := Int.ediv_nonneg h0 (by omega)
    omega
  refine ⟨h0, ?_, by omega, h3, h4, h5⟩
  rw [hz] at hdm; omega
theorem WInv.last {x : Int} {n : Nat} {y : Int} (h : WInv x 1 63 n y) : ∃ r : Nat, (n : Int) + y = r ∧ r ≤ 64 ∧ x < 2 ^ r ∧ (r = 0 ∨ 2 ^ (r - 1) ≤ x) := by
  obtain ⟨h0, h1, h2, h3, h4, h5⟩ := h
  have h1' : y < 2 := by simpa using h1
  rcases (show y = 0 ∨ y = 1 by omega) with rfl | rfl
  · have : n = 0 := by omega
    subst this
    exact ⟨0, by simp, by omega, by simpa using h4, .inl rfl⟩
  · refine ⟨n + 1, by simp, by omega, ?_, .inr ?_⟩
    · rw [Int.pow_succ]; omega
    · simpa using h3

def WRel (x : Int) (s7 s3 s0 : Value) : Prop := ∃ k n : Nat, ∃ y : Int, k ≤ 6 ∧ s7 = .int .i64 k ∧ s3 = .int .i64 n ∧ s0 = .int .u64 y ∧ WInv x (64 >>> k) (64 - 64 >>> k) n y

theorem WRel.yes {x : Int} {n : Nat} {y : Int} (k b m : Nat) (c : Int) (hk : k < 6) (hb : 64 >>> k = b + b) (hb' : 64 >>> (k + 1) = b) (hm : 64 - 64 >>> k = m) (hm' : 64 - 64 >>> (k + 1) = m + b) (hc : (2 : Int) ^ b = c) (j nb : Int) (hj : j = (k : Int) + 1) (hnb : nb = (n : Int) + b)
    (h : WInv x (64 >>> k) (64 - 64 >>> k) n y) (hy : 0 < y / c) : WRel x (.int .i64 j) (.int .i64 nb) (.int .u64 (y / c)) := by
  subst hj hnb hc
  rw [hm, hb] at h
  exact ⟨k + 1, n + b, _, by omega, rfl, by simp, rfl, by rw [hm', hb']; exact h.yes hy⟩
theorem WRel.no {x : Int} {n : Nat} {y : Int} (k b m : Nat) (c : Int) (hk : k < 6) (hb : 64 >>> k = b + b) (hb' : 64 >>> (k + 1) = b) (hm : 64 - 64 >>> k = m) (hm' : 64 - 64 >>> (k + 1) = m + b) (hc : (2 : Int) ^ b = c) (j : Int) (hj : j = (k : Int) + 1)
    (h : WInv x (64 >>> k) (64 - 64 >>> k) n y) (hy : y / c ≤ 0) : WRel x (.int .i64 j) (.int .i64 n) (.int .u64 y) := by
  subst hj hc
  rw [hm, hb] at h
  exact ⟨k + 1, n, _, by omega, rfl, rfl, rfl, by rw [hm', hb']; exact h.no (by omega)⟩

def steps : Value := .agg #[.int .u64 32, .int .u64 16, .int .u64 8, .int .u64 4, .int .u64 2, .int .u64 1]
theorem ix0 (w : World) : (Instr.index 50 steps (.int .i64 0)).run Try.prog w = .ok (.int .u64 32) w := by kernel_rfl
theorem ix1 (w : World) : (Instr.index 50 steps (.int .i64 1)).run Try.prog w = .ok (.int .u64 16) w := by kernel_rfl
theorem ix2 (w : World) : (Instr.index 50 steps (.int .i64 2)).run Try.prog w = .ok (.int .u64 8) w := by kernel_rfl
theorem ix3 (w : World) : (Instr.index 50 steps (.int .i64 3)).run Try.prog w = .ok (.int .u64 4) w := by kernel_rfl
theorem ix4 (w : World) : (Instr.index 50 steps (.int .i64 4)).run Try.prog w = .ok (.int .u64 2) w := by kernel_rfl
theorem ix5 (w : World) : (Instr.index 50 steps (.int .i64 5)).run Try.prog w = .ok (.int .u64 1) w := by kernel_rfl

set_option maxHeartbeats 800000 in
theorem width_any (x : Int) (w : World) (h0 : 0 ≤ x) (h1 : x < 18446744073709551616) : Calls Try.prog 19 #[.int .u64 x] w fun e w' => (∃ n : Nat, e = .returned (.int .i64 n) ∧ n ≤ 64 ∧ x < 2 ^ n ∧ (n = 0 ∨ 2 ^ (n - 1) ≤ x)) ∧ w = w' := by
  have hst : WInv x 64 0 0 x := ⟨h0, by simpa using h1, by omega, by simp, by simp; omega, .inl rfl⟩
  have g0 := ix0 w
  have g1 := ix1 w
  have g2 := ix2 w
  have g3 := ix3 w
  have g4 := ix4 w
  have g5 := ix5 w
  unfold steps at g0 g1 g2 g3 g4 g5
  go_enter Try.func19, Try.ntmps19
  go_wp2
  go_loop [7, 3, 0] (fun i n y => WRel x i n y) (fun i _ _ => 6 - (intOf i).toNat)
  case atStart => exact ⟨0, 0, x, by omega, rfl, rfl, rfl, hst⟩
  case round =>
    obtain ⟨k, n, y, hk, rfl, rfl, rfl, hi⟩ := hrel
    clear hst h0 h1
    have hn : n ≤ 64 := Nat.le_trans hi.2.2.1 (Nat.sub_le _ _)
    have hy0 : 0 ≤ y := hi.1
    have hy1 : y ≤ 18446744073709551615 := by
      obtain ⟨_, h, _⟩ := hi
      have : (2 : Int) ^ (64 >>> k) ≤ 2 ^ 64 := by
        rcases (show k = 0 ∨ k = 1 ∨ k = 2 ∨ k = 3 ∨ k = 4 ∨ k = 5 ∨ k = 6 by omega) with rfl | rfl | rfl | rfl | rfl | rfl | rfl <;> decide
      omega
    rcases (show k = 0 ∨ k = 1 ∨ k = 2 ∨ k = 3 ∨ k = 4 ∨ k = 5 ∨ k = 6 by omega) with rfl | rfl | rfl | rfl | rfl | rfl | rfl
    · go_wp2
      · exact ⟨WRel.yes 0 32 0 4294967296 (by decide) rfl rfl rfl rfl (by decide) 1 _ (by decide) rfl hi ‹_›, by simp [intOf]⟩
      · exact ⟨WRel.no 0 32 0 4294967296 (by decide) rfl rfl rfl rfl (by decide) 1 (by decide) hi ‹_›, by simp [intOf]⟩
    · go_wp2
      · exact ⟨WRel.yes 1 16 32 65536 (by decide) rfl rfl rfl rfl (by decide) 2 _ (by decide) rfl hi ‹_›, by simp [intOf]⟩
      · exact ⟨WRel.no 1 16 32 65536 (by decide) rfl rfl rfl rfl (by decide) 2 (by decide) hi ‹_›, by simp [intOf]⟩
    · go_wp2
      · exact ⟨WRel.yes 2 8 48 256 (by decide) rfl rfl rfl rfl (by decide) 3 _ (by decide) rfl hi ‹_›, by simp [intOf]⟩
      · exact ⟨WRel.no 2 8 48 256 (by decide) rfl rfl rfl rfl (by decide) 3 (by decide) hi ‹_›, by simp [intOf]⟩
    · go_wp2
      · exact ⟨WRel.yes 3 4 56 16 (by decide) rfl rfl rfl rfl (by decide) 4 _ (by decide) rfl hi ‹_›, by simp [intOf]⟩
      · exact ⟨WRel.no 3 4 56 16 (by decide) rfl rfl rfl rfl (by decide) 4 (by decide) hi ‹_›, by simp [intOf]⟩
    · go_wp2
      · exact ⟨WRel.yes 4 2 60 4 (by decide) rfl rfl rfl rfl (by decide) 5 _ (by decide) rfl hi ‹_›, by simp [intOf]⟩
      · exact ⟨WRel.no 4 2 60 4 (by decide) rfl rfl rfl rfl (by decide) 5 (by decide) hi ‹_›, by simp [intOf]⟩
    · go_wp2
      · exact ⟨WRel.yes 5 1 62 2 (by decide) rfl rfl rfl rfl (by decide) 6 _ (by decide) rfl hi ‹_›, by simp [intOf]⟩
      · exact ⟨WRel.no 5 1 62 2 (by decide) rfl rfl rfl rfl (by decide) 6 (by decide) hi ‹_›, by simp [intOf]⟩
    · obtain ⟨r, hr, hr64, hr1, hr2⟩ := WInv.last hi
      have Hr := Lib.hid hr
      clear hr
      have hy2 : y < 2 := hi.2.1
      clear hi g0 g1 g2 g3 g4 g5
      go_wp2
      go_ret
      exact ⟨⟨r, ret_int Hr.out, hr64, hr1, hr2⟩, rfl⟩
end Go.Proofs.Ytffccceadkfbgaa
