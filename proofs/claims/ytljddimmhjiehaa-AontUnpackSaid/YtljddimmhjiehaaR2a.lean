/- The reference of layer 2: words, turns. -/
import Derived.Test.YtljddimmhjiehaaR1
import Derived.BigQuiet
namespace Go.Proofs.Ytljddimmhjiehaa
open Go.RowKit

def gOf (a b c : Nat) : Nat → Nat := fun j => if j = 0 then a else if j = 1 then b else c
def threeTo (x : BitVec 32) (g : Nat → Nat) : Nat → BitVec 32
  | 0 => 0#32
  | j + 1 => threeTo x g j ^^^ (x >>> g j ||| x <<< (32 - g j))
def three32 (x : BitVec 32) (a b c : Nat) : BitVec 32 := threeTo x (gOf a b c) 3
def two32' (x : BitVec 32) (a b c : Nat) : BitVec 32 := three32 x a b c ^^^ x <<< (32 - c)
set_option maxHeartbeats 1000000 in
set_option maxRecDepth 100000 in
theorem three_any (x : BitVec 32) (a b c : Nat) (w : World) (ha : a ≤ 31) (hb : b ≤ 31) (hc : c ≤ 31) :
    Calls Try.prog 48 #[W32 x, .agg #[.int .i64 (a : Int), .int .i64 (b : Int), .int .i64 (c : Int)]] w fun e w' => e = .returned (W32 (three32 x a b c)) ∧ Frm Nil w w' := by
  have hrow := Row.new w 85 3 (fun j => .int .i64 ((gOf a b c j : Nat) : Int))
  have ea : rowOf 3 (fun j => Value.int .i64 ((gOf a b c j : Nat) : Int)) = #[.int .i64 (a : Int), .int .i64 (b : Int), .int .i64 (c : Int)] := rfl
  have hg : ∀ j, gOf a b c j ≤ 31 := fun j => by unfold gOf; split <;> (try split) <;> omega
  rw [ea] at hrow
  have HE := hid (show three32 x a b c = threeTo x (gOf a b c) 3 from rfl)
  generalize three32 x a b c = out at *
  go_enter Try.func48, Try.ntmps48
  have hf := ((Frm.refl Nil w).alloc (.cells #[.int .i64 (a : Int), .int .i64 (b : Int), .int .i64 (c : Int)] 85))
  go_wp2_with fail
  generalize w.alloc (.cells #[.int .i64 (a : Int), .int .i64 (b : Int), .int .i64 (c : Int)] 85) = w0 at hf hrow ⊢
  generalize gOf a b c = g at *
  have HR := hid hrow
  have HF := hid hf
  clear hrow hf ea
  go_loopw [5, 6] (fun v5 v6 wr => Row wr w.heap.size 85 3 (fun j => .int .i64 ((g j : Nat) : Int)) ∧ Frm Nil w wr ∧ ∃ j : Nat, j ≤ 3 ∧ v5 = W32 (threeTo x g j) ∧ v6 = .int .i64 (j : Int)) (fun _ v6 _ => 3 - (intOf v6).toNat)
  case atStart => exact ⟨HR.out, HF.out, 0, by omega, rfl, rfl⟩
  case round =>
    clear HR HF
    obtain ⟨hr, hf, j, hj, rfl, rfl⟩ := hrel
    have HR := hid hr
    have HF := hid hf
    clear hr hf
    by_cases hlt : j < 3
    · have c1 := HR.out.cell j hlt
      have hgj := hg j
      have hst : threeTo x g (j + 1) = threeTo x g j ^^^ (x >>> g j ||| x <<< (32 - g j)) := rfl
      generalize threeTo x g j = s at *
      generalize g j = q at *
      have HST := hid hst
      clear hst
      have e1 : ((32 : Int) - (q : Int)).toNat = 32 - q := by omega
      go_upto_region 5 with fail
      go_quiet (fail)
      go_wp2_with fail
      go_roundw
      case rel => exact ⟨HR.out, HF.out.drewN _, j + 1, by omega, by rw [HST.out, Nat.mod_eq_of_lt (show q < 18446744073709551616 by omega), Nat.mod_eq_of_lt (show 32 - q < 18446744073709551616 by omega)], by go_num⟩
      case measure => simp [intOf]; omega
    · obtain rfl : j = 3 := by omega
      go_wp2_with fail
      go_ret
      exact ⟨ret_W32 HE.out.symm, HF.out⟩
set_option maxHeartbeats 1000000 in
set_option maxRecDepth 100000 in
theorem two_any' (x : BitVec 32) (a b c : Nat) (w : World) (ha : a ≤ 31) (hb : b ≤ 31) (hc : c ≤ 31) :
    Calls Try.prog 62 #[W32 x, .agg #[.int .i64 (a : Int), .int .i64 (b : Int), .int .i64 (c : Int)]] w fun e w' => e = .returned (W32 (two32' x a b c)) ∧ Frm Nil w w' := by
  have hrow := Row.new w 85 3 (fun j => .int .i64 ((gOf a b c j : Nat) : Int))
  have ea : rowOf 3 (fun j => Value.int .i64 ((gOf a b c j : Nat) : Int)) = #[.int .i64 (a : Int), .int .i64 (b : Int), .int .i64 (c : Int)] := rfl
  rw [ea] at hrow
  have HE := hid (show two32' x a b c = three32 x a b c ^^^ x <<< (32 - c) from rfl)
  generalize two32' x a b c = out at *
  go_enter Try.func62, Try.ntmps62
  have hf := ((Frm.refl Nil w).alloc (.cells #[.int .i64 (a : Int), .int .i64 (b : Int), .int .i64 (c : Int)] 85))
  go_upto_region 1 with fail
  generalize w.alloc (.cells #[.int .i64 (a : Int), .int .i64 (b : Int), .int .i64 (c : Int)] 85) = w0 at hf hrow ⊢
  have c2 : w0.cell? ⟨w.heap.size, 2, none⟩ = some (.int .i64 (c : Int)) := hrow.cell 2 (by omega)
  have HC : Hid (∀ i, i < 3 → w0.cell? ⟨w.heap.size, 0 + i, none⟩ = some (.int .i64 ((gOf a b c i : Nat) : Int))) := fun i hi => by rw [Nat.zero_add]; exact hrow.cell i hi
  have e1 : ((32 : Int) - (c : Int)).toNat = 32 - c := by omega
  have HF := hid hf
  have HEA := hid ea
  clear hf hrow ea
  go_wp2_with (refine wpList_load_fn rfl 85 _ rfl w.heap.size 0 3 (fun j => .int .i64 ((gOf a b c j : Nat) : Int)) rfl _ HC.out Try.underlying85 rfl (by kernel_rfl) ?_)
  rw [HEA.out]
  refine (three_any x a b c w0 ha hb hc).mono ?_
  rintro e w1 ⟨rfl, hf1⟩
  have HF1 := hid (HF.out.trans hf1 (fun _ _ h => h))
  clear hf1
  go_wp2_with fail
  go_ret
  exact ⟨ret_W32 (by rw [Nat.mod_eq_of_lt (show 32 - c < 18446744073709551616 by omega)]; exact HE.out.symm), HF1.out⟩
end Go.Proofs.Ytljddimmhjiehaa
