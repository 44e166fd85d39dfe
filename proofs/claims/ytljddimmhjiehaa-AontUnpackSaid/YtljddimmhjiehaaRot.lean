/- math/bits: the turns of words. -/
import Derived.Test.YtljddimmhjiehaaRows
import Derived.Test.YtljddimmhjiehaaBase
namespace Go.Proofs.Ytljddimmhjiehaa
open Go.RowKit

theorem and31 (k : Nat) : k % 18446744073709551616 &&& 31 = k % 32 := by
  rw [show (31 : Nat) = 2 ^ 5 - 1 from rfl, Nat.and_two_pow_sub_one_eq_mod]; omega
theorem and63 (k : Nat) : k % 18446744073709551616 &&& 63 = k % 64 := by
  rw [show (63 : Nat) = 2 ^ 6 - 1 from rfl, Nat.and_two_pow_sub_one_eq_mod]; omega
theorem and7 (k : Nat) : k % 18446744073709551616 &&& 7 = k % 8 := by
  rw [show (7 : Nat) = 2 ^ 3 - 1 from rfl, Nat.and_two_pow_sub_one_eq_mod]; omega
theorem rot_core32 (x : BitVec 32) (k : Nat) : x <<< (k % 18446744073709551616 &&& 31) |||
            x >>> ((18446744073709551616 - (k % 18446744073709551616 &&& 31) + 32) % 18446744073709551616) = x.rotateLeft k := by
  rw [and31]
  have : (18446744073709551616 - k % 32 + 32) % 18446744073709551616 = 32 - k % 32 := by omega
  rw [this]; rfl
theorem rot_core64 (x : BitVec 64) (k : Nat) : x <<< (k % 18446744073709551616 &&& 63) |||
            x >>> ((18446744073709551616 - (k % 18446744073709551616 &&& 63) + 64) % 18446744073709551616) = x.rotateLeft k := by
  rw [and63]
  have : (18446744073709551616 - k % 64 + 64) % 18446744073709551616 = 64 - k % 64 := by omega
  rw [this]; rfl
theorem rot_core8 (x : BitVec 8) (k : Nat) : x <<< (k % 18446744073709551616 &&& 7) |||
            x >>> ((18446744073709551616 - (k % 18446744073709551616 &&& 7) + 8) % 18446744073709551616) = x.rotateLeft k := by
  rw [and7]
  have : (18446744073709551616 - k % 8 + 8) % 18446744073709551616 = 8 - k % 8 := by omega
  rw [this]; rfl
theorem ret_W32 {a b : BitVec 32} (h : a = b) : Ending.returned (W32 a) = .returned (W32 b) := by rw [h]
theorem ret_W64 {a b : BitVec 64} (h : a = b) : Ending.returned (W64 a) = .returned (W64 b) := by rw [h]
theorem ret_W8 {a b : BitVec 8} (h : a = b) : Ending.returned (W8 a) = .returned (W8 b) := by rw [h]

set_option maxHeartbeats 400000 in
theorem rot32_any (x : BitVec 32) (k : Int) (w : World) (h : 0 ≤ k) :
    Calls Try.prog 72 #[W32 x, .int .i64 k] w fun e w' => e = .returned (W32 (x.rotateLeft k.toNat)) ∧ w = w' := by
  obtain ⟨n, rfl⟩ := Int.eq_ofNat_of_zero_le h
  rw [Int.toNat_natCast]
  go_enter Try.func72, Try.ntmps72
  go_wp2
  go_ret
  exact ⟨ret_W32 (rot_core32 x n), rfl⟩
set_option maxHeartbeats 400000 in
theorem rot64_any (x : BitVec 64) (k : Int) (w : World) (h : 0 ≤ k) :
    Calls Try.prog 71 #[W64 x, .int .i64 k] w fun e w' => e = .returned (W64 (x.rotateLeft k.toNat)) ∧ w = w' := by
  obtain ⟨n, rfl⟩ := Int.eq_ofNat_of_zero_le h
  rw [Int.toNat_natCast]
  go_enter Try.func71, Try.ntmps71
  go_wp2
  go_ret
  exact ⟨ret_W64 (rot_core64 x n), rfl⟩
set_option maxHeartbeats 400000 in
theorem rot8_any (x : BitVec 8) (k : Int) (w : World) (h : 0 ≤ k) :
    Calls Try.prog 39 #[W8 x, .int .i64 k] w fun e w' => e = .returned (W8 (x.rotateLeft k.toNat)) ∧ w = w' := by
  obtain ⟨n, rfl⟩ := Int.eq_ofNat_of_zero_le h
  rw [Int.toNat_natCast]
  go_enter Try.func39, Try.ntmps39
  go_wp2
  go_ret
  exact ⟨ret_W8 (rot_core8 x n), rfl⟩
def twice (b : BitVec 8) : BitVec 8 := if b &&& 128#8 = 0#8 then b <<< 1 else b <<< 1 ^^^ 27#8
set_option maxHeartbeats 400000 in
theorem twice_any (b : BitVec 8) (w : World) :
    Calls Try.prog 38 #[W8 b] w fun e w' => e = .returned (W8 (twice b)) ∧ w = w' := by
  by_cases h : (b &&& 128#8 = 0#8)
  · have h2 : ((b &&& 128#8) != 0#8) = false := by simp [h]
    go_enter Try.func38, Try.ntmps38
    go_wp2
    go_ret
    exact ⟨ret_W8 (by simp [twice, h]), rfl⟩
  · have h2 : ((b &&& 128#8) != 0#8) = true := by simp [h]
    go_enter Try.func38, Try.ntmps38
    go_wp2
    go_ret
    exact ⟨ret_W8 (by simp [twice, h]), rfl⟩
end Go.Proofs.Ytljddimmhjiehaa
