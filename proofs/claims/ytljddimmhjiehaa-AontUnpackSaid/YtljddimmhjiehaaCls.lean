/- aont: classes and sizes. -/
import Derived.Test.YtljddimmhjiehaaKit
namespace Go.Proofs.Ytljddimmhjiehaa
open Go.RowKit

def IsCls (c : Int) : Prop := c = 32 ∨ c = 64 ∨ c = 128 ∨ c = 256 ∨ c = 512 ∨ c = 1024
instance (c : Int) : Decidable (IsCls c) := by unfold IsCls; infer_instance
def classN (n : Nat) : Nat := if n + 2 ≤ 32 then 32 else if n + 2 ≤ 64 then 64 else if n + 2 ≤ 128 then 128 else if n + 2 ≤ 256 then 256 else if n + 2 ≤ 512 then 512 else 1024
theorem classN_spec (n : Nat) (h : n ≤ 1000) : IsCls (classN n) ∧ n + 2 ≤ classN n ∧ (classN n = 32 ∨ classN n < 2 * (n + 2)) := by
  unfold classN IsCls
  split
  · omega
  · split
    · omega
    · split
      · omega
      · split
        · omega
        · split
          · omega
          · omega
set_option maxHeartbeats 1000000 in
set_option maxRecDepth 100000 in
theorem class_in (n : Nat) (w : World) (h : n ≤ 1000) :
    Calls Try.prog 8 #[.int .i64 (n : Int)] w fun e w' => e = .returned (.tuple #[.int .i64 (classN n : Int), .int .i64 0]) ∧ w = w' := by
  obtain ⟨hc, h1, h2⟩ := classN_spec n h
  generalize classN n = cl at *
  have HC := hid hc
  clear hc
  go_enter Try.func8, Try.ntmps8
  go_wp2_with fail
  go_loop [4] (fun v => ∃ c : Nat, IsCls c ∧ v = .int .i64 c ∧ c ≤ cl) (fun v => 1024 - (intOf v).toNat)
  case atStart => exact ⟨32, .inl rfl, rfl, by have := HC.out; unfold IsCls at this; omega⟩
  case round =>
    obtain ⟨c, hcc, rfl, hle⟩ := hrel
    unfold IsCls at hcc
    have hcc2 : c = 32 ∨ c = 64 ∨ c = 128 ∨ c = 256 ∨ c = 512 ∨ c = 1024 := by omega
    clear hcc
    have hcl : cl = 32 ∨ cl = 64 ∨ cl = 128 ∨ cl = 256 ∨ cl = 512 ∨ cl = 1024 := by have := HC.out; unfold IsCls at this; omega
    have HCL := hid hcl
    clear hcl
    by_cases hlt : c < n + 2
    · have hle' : 2 * c ≤ cl := by have := HCL.out; omega
      have hcc3 : c = 32 ∨ c = 64 ∨ c = 128 ∨ c = 256 ∨ c = 512 := by omega
      rcases hcc3 with rfl | rfl | rfl | rfl | rfl
      all_goals
        go_wp2_with fail
        go_round
        case rel =>
          first
          | exact ⟨64, by unfold IsCls; omega, rfl, by omega⟩
          | exact ⟨128, by unfold IsCls; omega, rfl, by omega⟩
          | exact ⟨256, by unfold IsCls; omega, rfl, by omega⟩
          | exact ⟨512, by unfold IsCls; omega, rfl, by omega⟩
          | exact ⟨1024, by unfold IsCls; omega, rfl, by omega⟩
        case measure => simp [intOf]
    · have hceq : c = cl := by have := HCL.out; omega
      subst hceq
      go_wp2_with fail
      go_ret2
      exact ⟨rfl, rfl⟩
set_option maxHeartbeats 1000000 in
theorem class_out (n : Int) (w : World) (h : n < 0 ∨ 1000 < n) :
    Calls Try.prog 8 #[.int .i64 n] w fun e w' => e = .returned (.tuple #[.int .i64 0, .int .i64 3]) ∧ w = w' := by
  go_enter Try.func8, Try.ntmps8
  rcases h with h | h
  · go_wp2_with fail
    go_ret2
    exact ⟨rfl, rfl⟩
  · go_wp2_with fail
    go_ret2
    exact ⟨rfl, rfl⟩
set_option maxHeartbeats 1000000 in
set_option maxRecDepth 100000 in
theorem isClass_any (c : Int) (w : World) (h1 : -9223372036854775808 ≤ c) (h2 : c ≤ 9223372036854775807) :
    Calls Try.prog 41 #[.int .i64 c] w fun e w' => e = .returned (.bool (decide (IsCls c))) ∧ w = w' := by
  go_enter Try.func41, Try.ntmps41
  go_wp2_with fail
  go_loop [4] (fun v => ∃ k : Nat, k ≤ 6 ∧ v = .int .i64 k ∧ ∀ j, j < k → c ≠ 32 * 2 ^ j) (fun v => (6 - intOf v).toNat)
  case atStart => exact ⟨0, by omega, rfl, fun j hj => by omega⟩
  case round =>
    obtain ⟨k, hk, rfl, hno⟩ := hrel
    have hk2 : k = 0 ∨ k = 1 ∨ k = 2 ∨ k = 3 ∨ k = 4 ∨ k = 5 ∨ k = 6 := by omega
    rcases hk2 with rfl | rfl | rfl | rfl | rfl | rfl | rfl
    · by_cases hce : c = 32
      · subst hce
        have hD : decide (IsCls 32) = true := by decide
        clear hno
        have HD := hid hD
        clear hD
        go_wp2_with fail
        go_ret
        exact ⟨by rw [HD.out]; rfl, rfl⟩
      · have hne := hid hno
        clear hno
        go_wp2_with fail
        go_round
        case rel =>
          refine ⟨1, by omega, rfl, fun j hj => ?_⟩
          by_cases hj2 : j < 0
          · exact hne.out j hj2
          · obtain rfl : j = 0 := by omega
            simpa using hce
        case measure => simp [intOf]
    · by_cases hce : c = 64
      · subst hce
        have hD : decide (IsCls 64) = true := by decide
        clear hno
        have HD := hid hD
        clear hD
        go_wp2_with fail
        go_ret
        exact ⟨by rw [HD.out]; rfl, rfl⟩
      · have hne := hid hno
        clear hno
        go_wp2_with fail
        go_round
        case rel =>
          refine ⟨2, by omega, rfl, fun j hj => ?_⟩
          by_cases hj2 : j < 1
          · exact hne.out j hj2
          · obtain rfl : j = 1 := by omega
            simpa using hce
        case measure => simp [intOf]
    · by_cases hce : c = 128
      · subst hce
        have hD : decide (IsCls 128) = true := by decide
        clear hno
        have HD := hid hD
        clear hD
        go_wp2_with fail
        go_ret
        exact ⟨by rw [HD.out]; rfl, rfl⟩
      · have hne := hid hno
        clear hno
        go_wp2_with fail
        go_round
        case rel =>
          refine ⟨3, by omega, rfl, fun j hj => ?_⟩
          by_cases hj2 : j < 2
          · exact hne.out j hj2
          · obtain rfl : j = 2 := by omega
            simpa using hce
        case measure => simp [intOf]
    · by_cases hce : c = 256
      · subst hce
        have hD : decide (IsCls 256) = true := by decide
        clear hno
        have HD := hid hD
        clear hD
        go_wp2_with fail
        go_ret
        exact ⟨by rw [HD.out]; rfl, rfl⟩
      · have hne := hid hno
        clear hno
        go_wp2_with fail
        go_round
        case rel =>
          refine ⟨4, by omega, rfl, fun j hj => ?_⟩
          by_cases hj2 : j < 3
          · exact hne.out j hj2
          · obtain rfl : j = 3 := by omega
            simpa using hce
        case measure => simp [intOf]
    · by_cases hce : c = 512
      · subst hce
        have hD : decide (IsCls 512) = true := by decide
        clear hno
        have HD := hid hD
        clear hD
        go_wp2_with fail
        go_ret
        exact ⟨by rw [HD.out]; rfl, rfl⟩
      · have hne := hid hno
        clear hno
        go_wp2_with fail
        go_round
        case rel =>
          refine ⟨5, by omega, rfl, fun j hj => ?_⟩
          by_cases hj2 : j < 4
          · exact hne.out j hj2
          · obtain rfl : j = 4 := by omega
            simpa using hce
        case measure => simp [intOf]
    · by_cases hce : c = 1024
      · subst hce
        have hD : decide (IsCls 1024) = true := by decide
        clear hno
        have HD := hid hD
        clear hD
        go_wp2_with fail
        go_ret
        exact ⟨by rw [HD.out]; rfl, rfl⟩
      · have hne := hid hno
        clear hno
        go_wp2_with fail
        go_round
        case rel =>
          refine ⟨6, by omega, rfl, fun j hj => ?_⟩
          by_cases hj2 : j < 5
          · exact hne.out j hj2
          · obtain rfl : j = 5 := by omega
            simpa using hce
        case measure => simp [intOf]
    · have hn : ¬ IsCls c := by
        have a0 := hno 0 (by omega); have a1 := hno 1 (by omega); have a2 := hno 2 (by omega); have a3 := hno 3 (by omega); have a4 := hno 4 (by omega); have a5 := hno 5 (by omega)
        unfold IsCls; simp at a0 a1 a2 a3 a4 a5; omega
      have hD : decide (IsCls c) = false := by simp [hn]
      clear hn hno
      have HD := hid hD
      clear hD
      go_wp2_with fail
      go_ret
      exact ⟨by rw [HD.out]; rfl, rfl⟩
def sizeN (c k : Nat) : Nat := (c + 48 + k - 1) / k
set_option maxHeartbeats 1000000 in
theorem whole_any (c : Int) (w : World) (h1 : 0 ≤ c) (h2 : c ≤ 1024) :
    Calls Try.prog 34 #[.int .i64 c] w fun e w' => e = .returned (.int .i64 (c + 16 + 32)) ∧ w = w' := by
  go_enter Try.func34, Try.ntmps34
  go_wp2_with fail
  go_ret
  exact ⟨rfl, rfl⟩
set_option maxHeartbeats 1000000 in
theorem size_in (c k : Nat) (w : World) (h : IsCls c) (h1 : 1 ≤ k) (h2 : k ≤ 255) :
    Calls Try.prog 21 #[.int .i64 (c : Int), .int .i64 (k : Int)] w fun e w' => e = .returned (.tuple #[.int .i64 (sizeN c k : Int), .int .i64 0]) ∧ w = w' := by
  have hc : (c : Int) ≤ 1024 := by unfold IsCls at h; omega
  have HD : Hid (decide (IsCls (c : Int)) = true) := hid (by simpa using h)
  clear h
  have hq1 : ((c : Int) + 16 + 32 + (k : Int) - 1) / (k : Int) = (sizeN c k : Int) := by
    have e : (c : Int) + 16 + 32 + (k : Int) - 1 = ((c + 48 + k - 1 : Nat) : Int) := by omega
    rw [e]
    exact (Int.natCast_ediv _ _).symm
  have hq2 : sizeN c k ≤ c + 48 := by
    unfold sizeN
    rw [Nat.div_le_iff_le_mul_add_pred (by omega)]
    have := Nat.mul_le_mul_right (c + 48) h1
    rw [Nat.one_mul] at this
    omega
  have HQ := hid hq1
  clear hq1
  generalize sizeN c k = sz at *
  go_enter Try.func21, Try.ntmps21
  go_upto_region 2 with (go_at_call 41; refine (isClass_any _ _ (by omega) (by omega)).mono ?_; rintro e w' ⟨rfl, rfl⟩; rw [HD.out])
  go_wp2_with (go_at_call 34; refine (whole_any _ _ (by omega) (by omega)).mono ?_; rintro e w' ⟨rfl, rfl⟩)
  go_ret2
  exact ⟨by rw [← HQ.out]; rfl, rfl⟩
set_option maxHeartbeats 1000000 in
theorem size_out (c k : Int) (w : World) (h : ¬ (IsCls c ∧ 1 ≤ k ∧ k ≤ 255)) (h1 : -9223372036854775808 ≤ c) (h2 : c ≤ 9223372036854775807) :
    Calls Try.prog 21 #[.int .i64 c, .int .i64 k] w fun e w' => e = .returned (.tuple #[.int .i64 0, .int .i64 14]) ∧ w = w' := by
  by_cases hc : IsCls c
  · have HD : Hid (decide (IsCls c) = true) := hid (by simpa using hc)
    by_cases hk : k < 1
    · clear h hc
      go_enter Try.func21, Try.ntmps21
      go_wp2_with (go_at_call 41; refine (isClass_any _ _ (by omega) (by omega)).mono ?_; rintro e w' ⟨rfl, rfl⟩; rw [HD.out])
      go_ret2
      exact ⟨rfl, rfl⟩
    · have hk2 : 255 < k := by
        by_cases h3 : 255 < k
        · exact h3
        · exact absurd ⟨hc, by omega, by omega⟩ h
      clear h hc
      go_enter Try.func21, Try.ntmps21
      go_wp2_with (go_at_call 41; refine (isClass_any _ _ (by omega) (by omega)).mono ?_; rintro e w' ⟨rfl, rfl⟩; rw [HD.out])
      go_ret2
      exact ⟨rfl, rfl⟩
  · have HD : Hid (decide (IsCls c) = false) := hid (by simpa using hc)
    clear h hc
    go_enter Try.func21, Try.ntmps21
    go_wp2_with (go_at_call 41; refine (isClass_any _ _ (by omega) (by omega)).mono ?_; rintro e w' ⟨rfl, rfl⟩; rw [HD.out])
    go_ret2
    exact ⟨rfl, rfl⟩
end Go.Proofs.Ytljddimmhjiehaa
