/- The reference of layer 5: two bytes of the field multiplied. -/
import Derived.Test.YtljddimmhjiehaaLawAll
namespace Go.Proofs.Ytljddimmhjiehaa
open Go.RowKit

def tmX (a : Nat) : Nat → Nat
  | 0 => a
  | k + 1 => if 2 * tmX a k > 255 then (2 * tmX a k) ^^^ 283 else 2 * tmX a k
def tmO (a b : Nat) : Nat → Nat
  | 0 => 0
  | k + 1 => if b / 2 ^ k % 2 = 1 then tmO a b k ^^^ tmX a k else tmO a b k
theorem tm_facts : ∀ a, a < 256 → (tmX a 1 < 256 ∧ tmO a 2 1 < 256 ∧ tmO a 3 1 < 256) ∧ BitVec.ofNat 8 (tmO a 2 1 ^^^ tmX a 1) = twice (BitVec.ofNat 8 a) ∧ BitVec.ofNat 8 (tmO a 3 1 ^^^ tmX a 1) = BitVec.ofNat 8 a ^^^ twice (BitVec.ofNat 8 a) := by decide +kernel
theorem i64_xor_nat (a b : Nat) (ha : a < 9223372036854775808) (hb : b < 9223372036854775808) : bits .xor .i64 (a : Int) (b : Int) = ((a ^^^ b : Nat) : Int) := by
  have hx : a ^^^ b < 2 ^ 63 := Nat.xor_lt_two_pow (by omega) (by omega)
  have e : ∀ n : Nat, n < 9223372036854775808 → (BitVec.ofInt 64 (n : Int)).toNat = n := fun n hn => by
    rw [BitVec.ofInt_natCast, BitVec.toNat_ofNat]; exact Nat.mod_eq_of_lt (by omega)
  show IntKind.i64.wrap ((BitVec.ofInt 64 (a : Int) ^^^ BitVec.ofInt 64 (b : Int)).toNat : Int) = _
  rw [BitVec.toNat_xor, e a ha, e b hb, IntKind.wrap_i64]
  omega
theorem xor_dbl (X Y : Nat) (h : X < 1000) (e : Y = (2 * X) ^^^ 283) : bits .xor .i64 (2 * (X : Int)) 283 = (Y : Int) := by
  have hq := i64_xor_nat (2 * X) 283 (by omega) (by omega)
  rw [e, ← hq]
  rfl
theorem xor_zero (X Y : Nat) (h : X < 1000) (e : Y = X) : bits .xor .i64 0 (X : Int) = (Y : Int) := by
  have hq := i64_xor_nat 0 X (by omega) (by omega)
  rw [Nat.zero_xor] at hq
  rw [e]
  exact hq
set_option maxHeartbeats 1000000 in
theorem times2_core (a : BitVec 8) (X0 X1 X2 O1 O2 : Nat) (out : BitVec 8) (w : World) (h0 : a.toNat = X0) (h1 : tmX X0 1 = X1) (h2 : tmX X1 1 = X2) (ho1 : tmO X0 2 1 = O1) (ho2 : O1 ^^^ X1 = O2) (ho : BitVec.ofNat 8 O2 = out) (hb0 : X0 < 256) (hb1 : X1 < 256) (hb2 : O1 < 256) :
    Calls Try.prog 65 #[W8 a, .int .u8 2] w fun e w' => e = .returned (W8 out) ∧ w = w' := by
  have HO := hid ho
  have H0 := hid h0
  have H1 := hid h1
  have H2 := hid h2
  have HO1 := hid ho1
  have HO2 := hid ho2
  have HX1 := hid (i64_xor_nat O1 X1 (by omega) (by omega))
  have HX0 := hid (i64_xor_nat 0 X0 (by omega) (by omega))
  clear ho h0 h1 h2 ho1 ho2
  go_enter Try.func65, Try.ntmps65
  go_wp2_with fail
  go_loop [5, 6, 7] (fun vx vo vn => (vx = .int .i64 (X0 : Int) ∧ vo = .int .i64 0 ∧ vn = .int .i64 2) ∨ (vx = .int .i64 (X1 : Int) ∧ vo = .int .i64 (O1 : Int) ∧ vn = .int .i64 1) ∨ (vx = .int .i64 (X2 : Int) ∧ vo = .int .i64 (O2 : Int) ∧ vn = .int .i64 0)) (fun _ _ vn => (intOf vn).toNat)
  case atStart => exact .inl ⟨by rw [← H0.out], rfl, rfl⟩
  case round =>
    rcases hrel with ⟨rfl, rfl, rfl⟩ | ⟨rfl, rfl, rfl⟩ | ⟨rfl, rfl, rfl⟩
    · by_cases h : 255 < 2 * X0
      · have hq := i64_xor_nat (2 * X0) 283 (by omega) (by omega)
        have e : X1 = (2 * X0) ^^^ 283 := by rw [← H1.out]; exact if_pos h
        have HE := hid e
        clear e
        skip
        go_wp2_with fail
        go_round
        case rel => exact .inr (.inl ⟨by rw [xor_dbl _ _ (by omega) HE.out], by rw [← HO1.out]; rfl, rfl⟩)
        case measure => simp [intOf]
      · have e : X1 = 2 * X0 := by rw [← H1.out]; exact if_neg h
        have HE := hid e
        clear e
        skip
        go_wp2_with fail
        go_round
        case rel => exact .inr (.inl ⟨by rw [HE.out]; go_num, by rw [← HO1.out]; rfl, rfl⟩)
        case measure => simp [intOf]
    · have hx1 := HX1.out
      rw [HO2.out] at hx1
      by_cases h : 255 < 2 * X1
      · have hq := i64_xor_nat (2 * X1) 283 (by omega) (by omega)
        have e : X2 = (2 * X1) ^^^ 283 := by rw [← H2.out]; exact if_pos h
        have HE := hid e
        clear e
        go_wp2_with fail
        go_round
        case rel => exact .inr (.inr ⟨by rw [xor_dbl _ _ (by omega) HE.out], rfl, rfl⟩)
        case measure => simp [intOf]
      · have e : X2 = 2 * X1 := by rw [← H2.out]; exact if_neg h
        have HE := hid e
        clear e
        go_wp2_with fail
        go_round
        case rel => exact .inr (.inr ⟨by rw [HE.out]; go_num, rfl, rfl⟩)
        case measure => simp [intOf]
    · go_wp2_with fail
      go_ret
      exact ⟨ret_W8 (by rw [← HO.out]), rfl⟩
set_option maxHeartbeats 1000000 in
theorem times3_core (a : BitVec 8) (X0 X1 X2 O1 O2 : Nat) (out : BitVec 8) (w : World) (h0 : a.toNat = X0) (h1 : tmX X0 1 = X1) (h2 : tmX X1 1 = X2) (ho1 : tmO X0 3 1 = O1) (ho2 : O1 ^^^ X1 = O2) (ho : BitVec.ofNat 8 O2 = out) (hb0 : X0 < 256) (hb1 : X1 < 256) (hb2 : O1 < 256) :
    Calls Try.prog 65 #[W8 a, .int .u8 3] w fun e w' => e = .returned (W8 out) ∧ w = w' := by
  have HO := hid ho
  have H0 := hid h0
  have H1 := hid h1
  have H2 := hid h2
  have HO1 := hid ho1
  have HO2 := hid ho2
  have HX1 := hid (i64_xor_nat O1 X1 (by omega) (by omega))
  have HX0 := hid (i64_xor_nat 0 X0 (by omega) (by omega))
  have eo : O1 = X0 := by rw [← ho1]; exact (if_pos rfl).trans (Nat.zero_xor X0)
  have HEO := hid eo
  clear ho h0 h1 h2 ho1 ho2 eo
  go_enter Try.func65, Try.ntmps65
  go_wp2_with fail
  go_loop [5, 6, 7] (fun vx vo vn => (vx = .int .i64 (X0 : Int) ∧ vo = .int .i64 0 ∧ vn = .int .i64 3) ∨ (vx = .int .i64 (X1 : Int) ∧ vo = .int .i64 (O1 : Int) ∧ vn = .int .i64 1) ∨ (vx = .int .i64 (X2 : Int) ∧ vo = .int .i64 (O2 : Int) ∧ vn = .int .i64 0)) (fun _ _ vn => (intOf vn).toNat)
  case atStart => exact .inl ⟨by rw [← H0.out], rfl, rfl⟩
  case round =>
    rcases hrel with ⟨rfl, rfl, rfl⟩ | ⟨rfl, rfl, rfl⟩ | ⟨rfl, rfl, rfl⟩
    · by_cases h : 255 < 2 * X0
      · have hq := i64_xor_nat (2 * X0) 283 (by omega) (by omega)
        have e : X1 = (2 * X0) ^^^ 283 := by rw [← H1.out]; exact if_pos h
        have HE := hid e
        clear e
        have hx0 := HX0.out
        go_wp2_with fail
        go_round
        case rel => exact .inr (.inl ⟨by rw [xor_dbl _ _ (by omega) HE.out], by rw [xor_zero _ _ (by omega) HEO.out], rfl⟩)
        case measure => simp [intOf]
      · have e : X1 = 2 * X0 := by rw [← H1.out]; exact if_neg h
        have HE := hid e
        clear e
        have hx0 := HX0.out
        go_wp2_with fail
        go_round
        case rel => exact .inr (.inl ⟨by rw [HE.out]; go_num, by rw [xor_zero _ _ (by omega) HEO.out], rfl⟩)
        case measure => simp [intOf]
    · have hx1 := HX1.out
      rw [HO2.out] at hx1
      by_cases h : 255 < 2 * X1
      · have hq := i64_xor_nat (2 * X1) 283 (by omega) (by omega)
        have e : X2 = (2 * X1) ^^^ 283 := by rw [← H2.out]; exact if_pos h
        have HE := hid e
        clear e
        go_wp2_with fail
        go_round
        case rel => exact .inr (.inr ⟨by rw [xor_dbl _ _ (by omega) HE.out], rfl, rfl⟩)
        case measure => simp [intOf]
      · have e : X2 = 2 * X1 := by rw [← H2.out]; exact if_neg h
        have HE := hid e
        clear e
        go_wp2_with fail
        go_round
        case rel => exact .inr (.inr ⟨by rw [HE.out]; go_num, rfl, rfl⟩)
        case measure => simp [intOf]
    · go_wp2_with fail
      go_ret
      exact ⟨ret_W8 (by rw [← HO.out]), rfl⟩
theorem times2_any (a : BitVec 8) (w : World) : Calls Try.prog 65 #[W8 a, .int .u8 2] w fun e w' => e = .returned (W8 (twice a)) ∧ w = w' := by
  have h := tm_facts a.toNat a.isLt
  exact times2_core a _ _ _ _ _ _ w rfl rfl rfl rfl rfl (by rw [h.2.1, BitVec.ofNat_toNat, BitVec.setWidth_eq]) a.isLt h.1.1 h.1.2.1
theorem times3_any (a : BitVec 8) (w : World) : Calls Try.prog 65 #[W8 a, .int .u8 3] w fun e w' => e = .returned (W8 (a ^^^ twice a)) ∧ w = w' := by
  have h := tm_facts a.toNat a.isLt
  exact times3_core a _ _ _ _ _ _ w rfl rfl rfl rfl rfl (by rw [h.2.2, BitVec.ofNat_toNat, BitVec.setWidth_eq]) a.isLt h.1.1 h.1.2.2
end Go.Proofs.Ytljddimmhjiehaa
