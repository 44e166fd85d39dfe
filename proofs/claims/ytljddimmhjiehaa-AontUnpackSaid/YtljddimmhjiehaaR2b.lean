/- The reference of layer 2: the words of its tables. -/
import Derived.Test.YtljddimmhjiehaaR2a
namespace Go.Proofs.Ytljddimmhjiehaa
open Go.RowKit

def strB (s : ByteArray) (k : Nat) : BitVec 8 := match s[k]? with | some b => b.toBitVec | none => 0#8
@[go_sem ↓ high] theorem run_index_str (w : World) (s : ByteArray) (kk : IntKind) (k : Int) (h0 : 0 ≤ k) (h : k < (s.size : Int)) : (Instr.index 9 (.string s) (.int kk k)).run Try.prog w = .ok (W8 (strB s k.toNat)) w := by
  have hu : Try.prog.underlying 9 = some .string := Try.underlying9
  have hk : k.toNat < s.size := by omega
  have hg : s[k.toNat]? = some s[k.toNat] := getElem?_pos s k.toNat hk
  have hs : strB s k.toNat = s[k.toNat].toBitVec := by unfold strB; rw [hg]
  rw [hs]
  simp [Instr.index, run_underlying hu, asIntOf, h0, hg]
  rfl
def wrdStep (n : BitVec 32) (b : BitVec 8) : BitVec 32 := if 97 ≤ b.toNat then 16#32 * n + (b - 97#8).setWidth 32 + 10#32 else 16#32 * n + (b - 48#8).setWidth 32
def wrdTo (s : ByteArray) (p : Nat) : Nat → BitVec 32
  | 0 => 0#32
  | j + 1 => wrdStep (wrdTo s p j) (strB s (p + j))
def wrdB (s : ByteArray) (i : Nat) : BitVec 32 := wrdTo s (8 * i) 8
set_option maxHeartbeats 1000000 in
theorem word_any (s : ByteArray) (i : Nat) (w : World) (h : 8 * i + 8 ≤ s.size) (hs : s.size ≤ 100000) :
    Calls Try.prog 27 #[.string s, .int .i64 (i : Int)] w fun e w' => e = .returned (W32 (wrdB s i)) ∧ w = w' := by
  have HE := hid (show wrdB s i = wrdTo s (8 * i) 8 from rfl)
  generalize wrdB s i = out at *
  go_enter Try.func27, Try.ntmps27
  go_wp2_with fail
  go_loop [5, 6] (fun v5 v6 => ∃ j : Nat, j ≤ 8 ∧ v5 = W32 (wrdTo s (8 * i) j) ∧ v6 = .int .i64 (8 * (i : Int) + (j : Int))) (fun _ v6 => (8 * (i : Int) + 8 - intOf v6).toNat)
  case atStart => exact ⟨0, by omega, rfl, by simp⟩
  case round =>
    obtain ⟨j, hj, rfl, rfl⟩ := hrel
    by_cases hlt : j < 8
    · have hst : wrdTo s (8 * i) (j + 1) = wrdStep (wrdTo s (8 * i) j) (strB s (8 * i + j)) := rfl
      have e1 : (8 * (i : Int) + (j : Int)).toNat = 8 * i + j := by omega
      generalize wrdTo s (8 * i) j = n at *
      generalize hb : strB s (8 * i + j) = b at *
      have HST := hid hst
      clear hst
      have hq : ∀ (hh : 8 * i + j < s.size), s[8 * i + j].toNat = b.toNat := fun hh => by rw [← hb]; unfold strB; rw [getElem?_pos s _ hh]; rfl
      have HQ := hid hq
      clear hq
      by_cases h97 : 97 ≤ b.toNat
      · have hs2 : wrdStep n b = 16#32 * n + (b - 97#8).setWidth 32 + 10#32 := if_pos h97
        have HS2 := hid hs2
        clear hs2
        go_wp2_with fail
        all_goals
          first
          | (exfalso; have := HQ.out (by omega); omega)
          | (go_round
             case rel => exact ⟨j + 1, by omega, by rw [HST.out, HS2.out], by go_num⟩
             case measure => simp [intOf]; omega)
      · have hs2 : wrdStep n b = 16#32 * n + (b - 48#8).setWidth 32 := if_neg h97
        have HS2 := hid hs2
        clear hs2
        go_wp2_with fail
        all_goals
          first
          | (exfalso; have := HQ.out (by omega); omega)
          | (go_round
             case rel => exact ⟨j + 1, by omega, by rw [HST.out, HS2.out], by go_num⟩
             case measure => simp [intOf]; omega)
    · obtain rfl : j = 8 := by omega
      go_wp2_with fail
      go_ret
      exact ⟨ret_W32 HE.out.symm, rfl⟩
@[irreducible] def beginsS : ByteArray := ⟨#[54, 97, 48, 57, 101, 54, 54, 55, 98, 98, 54, 55, 97, 101, 56, 53, 51, 99, 54, 101, 102, 51, 55, 50, 97, 53, 52, 102, 102, 53, 51, 97, 53, 49, 48, 101, 53, 50, 55, 102, 57, 98, 48, 53, 54, 56, 56, 99, 49, 102, 56, 51, 100, 57, 97, 98, 53, 98, 101, 48, 99, 100, 49, 57]⟩
theorem begins_any (w : World) : Calls Try.prog 28 #[] w fun e w' => e = .returned (.string beginsS) ∧ w = w' := by
  go_enter Try.func28, Try.ntmps28
  go_wp2_with fail
  go_ret
  exact ⟨by unfold beginsS; rfl, rfl⟩
@[irreducible] def roundsS0 : ByteArray := ⟨#[52, 50, 56, 97, 50, 102, 57, 56, 55, 49, 51, 55, 52, 52, 57, 49, 98, 53, 99, 48, 102, 98, 99, 102, 101, 57, 98, 53, 100, 98, 97, 53, 51, 57, 53, 54, 99, 50, 53, 98, 53, 57, 102, 49, 49, 49, 102, 49, 57, 50, 51, 102, 56, 50, 97, 52, 97, 98, 49, 99, 53, 101, 100, 53, 100, 56, 48, 55, 97, 97, 57, 56, 49, 50, 56, 51, 53, 98, 48, 49, 50, 52, 51, 49, 56, 53, 98, 101, 53, 53, 48, 99, 55, 100, 99, 51, 55, 50, 98, 101, 53, 100, 55, 52, 56, 48, 100, 101, 98, 49, 102, 101, 57, 98, 100, 99, 48, 54, 97, 55, 99, 49, 57, 98, 102, 49, 55, 52]⟩
@[irreducible] def roundsS1 : ByteArray := ⟨#[101, 52, 57, 98, 54, 57, 99, 49, 101, 102, 98, 101, 52, 55, 56, 54, 48, 102, 99, 49, 57, 100, 99, 54, 50, 52, 48, 99, 97, 49, 99, 99, 50, 100, 101, 57, 50, 99, 54, 102, 52, 97, 55, 52, 56, 52, 97, 97, 53, 99, 98, 48, 97, 57, 100, 99, 55, 54, 102, 57, 56, 56, 100, 97, 57, 56, 51, 101, 53, 49, 53, 50, 97, 56, 51, 49, 99, 54, 54, 100, 98, 48, 48, 51, 50, 55, 99, 56, 98, 102, 53, 57, 55, 102, 99, 55, 99, 54, 101, 48, 48, 98, 102, 51, 100, 53, 97, 55, 57, 49, 52, 55, 48, 54, 99, 97, 54, 51, 53, 49, 49, 52, 50, 57, 50, 57, 54, 55]⟩
@[irreducible] def roundsS2 : ByteArray := ⟨#[50, 55, 98, 55, 48, 97, 56, 53, 50, 101, 49, 98, 50, 49, 51, 56, 52, 100, 50, 99, 54, 100, 102, 99, 53, 51, 51, 56, 48, 100, 49, 51, 54, 53, 48, 97, 55, 51, 53, 52, 55, 54, 54, 97, 48, 97, 98, 98, 56, 49, 99, 50, 99, 57, 50, 101, 57, 50, 55, 50, 50, 99, 56, 53, 97, 50, 98, 102, 101, 56, 97, 49, 97, 56, 49, 97, 54, 54, 52, 98, 99, 50, 52, 98, 56, 98, 55, 48, 99, 55, 54, 99, 53, 49, 97, 51, 100, 49, 57, 50, 101, 56, 49, 57, 100, 54, 57, 57, 48, 54, 50, 52, 102, 52, 48, 101, 51, 53, 56, 53, 49, 48, 54, 97, 97, 48, 55, 48]⟩
@[irreducible] def roundsS3 : ByteArray := ⟨#[49, 57, 97, 52, 99, 49, 49, 54, 49, 101, 51, 55, 54, 99, 48, 56, 50, 55, 52, 56, 55, 55, 52, 99, 51, 52, 98, 48, 98, 99, 98, 53, 51, 57, 49, 99, 48, 99, 98, 51, 52, 101, 100, 56, 97, 97, 52, 97, 53, 98, 57, 99, 99, 97, 52, 102, 54, 56, 50, 101, 54, 102, 102, 51, 55, 52, 56, 102, 56, 50, 101, 101, 55, 56, 97, 53, 54, 51, 54, 102, 56, 52, 99, 56, 55, 56, 49, 52, 56, 99, 99, 55, 48, 50, 48, 56, 57, 48, 98, 101, 102, 102, 102, 97, 97, 52, 53, 48, 54, 99, 101, 98, 98, 101, 102, 57, 97, 51, 102, 55, 99, 54, 55, 49, 55, 56, 102, 50]⟩
@[irreducible] def roundsS : ByteArray := roundsS0 ++ roundsS1 ++ roundsS2 ++ roundsS3
theorem rounds_any (w : World) : Calls Try.prog 47 #[] w fun e w' => e = .returned (.string roundsS) ∧ w = w' := by
  go_enter Try.func47, Try.ntmps47
  go_wp2_with fail
  go_ret
  exact ⟨by unfold roundsS roundsS0 roundsS1 roundsS2 roundsS3; rfl, rfl⟩
theorem begins_size : beginsS.size = 64 := by decide +kernel
theorem rounds_size : roundsS.size = 512 := by decide +kernel
theorem begins_F : ∀ i, i < 8 → wrdB beginsS i = F0 i := by decide +kernel
theorem rounds_K : ∀ i, i < 64 → wrdB roundsS i = K0 i := by decide +kernel
end Go.Proofs.Ytljddimmhjiehaa
