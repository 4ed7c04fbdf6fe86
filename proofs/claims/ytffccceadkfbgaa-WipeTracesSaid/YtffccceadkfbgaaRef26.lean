/- catacombref26.Int: a signed number's eight bytes, as a string. -/
import Derived.Test.YtffccceadkfbgaaOct
namespace Go.Proofs.Ytffccceadkfbgaa
open Go.RowKit

theorem ofNat_mod (n : Nat) : UInt8.ofNat (n % 256) = UInt8.ofNat n := by apply UInt8.toNat_inj.1; simp

def R26Rel (x : Int) (w : World) (o i : Value) (wr : World) : Prop :=
  ∃ k : Nat, k ≤ 8 ∧ i = .int .i64 k ∧ o = .string (bstr ((be 8 (u64of x)).take k)) ∧ Only none' w wr

theorem R26Rel.next {x : Int} {w wr w2 : World} (k m : Nat) (hk : k + m = 7) (c : Int) (hc : c = IntKind.u64.wrap x / ((256 ^ m : Nat) : Int) % 256) (t : ByteArray) (ht : t = bstr ((be 8 (u64of x)).take k) ++ bstr [UInt8.ofNat c.toNat]) (j : Int) (hj : j = (k : Int) + 1) (ho : Only none' w wr) (h2 : Only none' wr w2) :
    R26Rel x w (.string t) (.int .i64 j) w2 := by
  have e : c.toNat = u64of x / 256 ^ m % 256 := by
    rw [hc, ← u64of_wrap, show (256 : Int) = ((256 : Nat) : Int) from rfl, ← Int.natCast_ediv, ← Int.natCast_emod, Int.toNat_natCast]
  subst hj ht
  rw [e]
  refine ⟨k + 1, by omega, rfl, ?_, ho.trans h2 (fun _ _ h => h)⟩
  rw [bstr_append]
  congr 2
  clear e hc
  obtain rfl : m = 7 - k := by omega
  rcases (show k = 0 ∨ k = 1 ∨ k = 2 ∨ k = 3 ∨ k = 4 ∨ k = 5 ∨ k = 6 ∨ k = 7 by omega) with rfl | rfl | rfl | rfl | rfl | rfl | rfl | rfl <;> simp [be, ofNat_mod]

set_option maxHeartbeats 4000000 in
theorem ref26_int (x : Int) (w : World) :
    Calls Try.prog 5 #[.int .i64 x] w fun e w' => e = .returned (.string (bstr (be 8 (u64of x)))) ∧ Only none' w w' := by
  have hX : 0 ≤ IntKind.u64.wrap x := by rw [← u64of_wrap]; omega
  go_enter Try.func5, Try.ntmps5
  go_wp2
  go_loopw [3, 4] (fun o i wr => R26Rel x w o i wr) (fun _ i _ => 8 - (intOf i).toNat)
  case atStart => exact ⟨0, by omega, rfl, rfl, Only.refl _ _⟩
  case round =>
    obtain ⟨k, hk, rfl, rfl, ho⟩ := hrel
    rcases (show k = 0 ∨ k = 1 ∨ k = 2 ∨ k = 3 ∨ k = 4 ∨ k = 5 ∨ k = 6 ∨ k = 7 ∨ k = 8 by omega) with rfl | rfl | rfl | rfl | rfl | rfl | rfl | rfl | rfl
    · have c1 := conv_one wr (IntKind.u64.wrap x / 72057594037927936 % 256) (by omega) (by omega)
      go_wp2
      exact ⟨R26Rel.next 0 7 rfl _ rfl _ rfl _ (by simp) ho ((Only.refl _ _).alloc _), by simp [intOf]⟩
    · have c1 := conv_one wr (IntKind.u64.wrap x / 281474976710656 % 256) (by omega) (by omega)
      go_wp2
      exact ⟨R26Rel.next 1 6 rfl _ rfl _ rfl _ (by simp) ho ((Only.refl _ _).alloc _), by simp [intOf]⟩
    · have c1 := conv_one wr (IntKind.u64.wrap x / 1099511627776 % 256) (by omega) (by omega)
      go_wp2
      exact ⟨R26Rel.next 2 5 rfl _ rfl _ rfl _ (by simp) ho ((Only.refl _ _).alloc _), by simp [intOf]⟩
    · have c1 := conv_one wr (IntKind.u64.wrap x / 4294967296 % 256) (by omega) (by omega)
      go_wp2
      exact ⟨R26Rel.next 3 4 rfl _ rfl _ rfl _ (by simp) ho ((Only.refl _ _).alloc _), by simp [intOf]⟩
    · have c1 := conv_one wr (IntKind.u64.wrap x / 16777216 % 256) (by omega) (by omega)
      go_wp2
      exact ⟨R26Rel.next 4 3 rfl _ rfl _ rfl _ (by simp) ho ((Only.refl _ _).alloc _), by simp [intOf]⟩
    · have c1 := conv_one wr (IntKind.u64.wrap x / 65536 % 256) (by omega) (by omega)
      go_wp2
      exact ⟨R26Rel.next 5 2 rfl _ rfl _ rfl _ (by simp) ho ((Only.refl _ _).alloc _), by simp [intOf]⟩
    · have c1 := conv_one wr (IntKind.u64.wrap x / 256 % 256) (by omega) (by omega)
      go_wp2
      exact ⟨R26Rel.next 6 1 rfl _ rfl _ rfl _ (by simp) ho ((Only.refl _ _).alloc _), by simp [intOf]⟩
    · have c1 := conv_one wr (IntKind.u64.wrap x % 256) (by omega) (by omega)
      go_wp2
      exact ⟨R26Rel.next 7 0 rfl _ (by simp) _ rfl _ (by simp) ho ((Only.refl _ _).alloc _), by simp [intOf]⟩
    · go_wp2
      go_ret
      refine ⟨?_, ho⟩
      show Ending.returned (.string (bstr (List.take 8 (be 8 (u64of x))))) = _
      rw [List.take_of_length_le (by simp [be])]
end Go.Proofs.Ytffccceadkfbgaa
