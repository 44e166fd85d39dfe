/- ctr: a number of sixteen bytes and another one. -/
import Derived.Test.YtljddimmhjiehaaAes3
namespace Go.Proofs.Ytljddimmhjiehaa
open Go.RowKit

def cntStep (s : (Nat → BitVec 8) × BitVec 64) (i : Nat) : (Nat → BitVec 8) × BitVec 64 :=
  (upd s.1 i (((s.1 i).setWidth 64 + (s.2 &&& 255#64)).setWidth 8), s.2 >>> 8 + ((s.1 i).setWidth 64 + (s.2 &&& 255#64)) >>> 8)
def cntTo (x : Nat → BitVec 8) (n : BitVec 64) : Nat → (Nat → BitVec 8) × BitVec 64
  | 0 => (x, n)
  | k + 1 => cntStep (cntTo x n k) (15 - k)
def countB (x : Nat → BitVec 8) (n : BitVec 64) : Nat → BitVec 8 := (cntTo x n 16).1
set_option maxHeartbeats 1000000 in
set_option maxRecDepth 100000 in
theorem count_core (x out : Nat → BitVec 8) (n : BitVec 64) (w : World) (he : countB x n = out) :
    Calls Try.prog 44 #[.agg (rowOf 16 (w8 x)), W64 n] w fun e w' => e = .returned (.agg (rowOf 16 (w8 out))) ∧ Frm Nil w w' := by
  have HE := hid he
  clear he
  go_enter Try.func44, Try.ntmps44
  have hx0 := (Row.new w 57 16 (w8 x)).alloc (.cells (rowOf 16 (w8 fun _ => 0#8)) 57)
  have hr0 := Row.new (w.alloc (.cells (rowOf 16 (w8 x)) 57)) 57 16 (w8 fun _ => 0#8)
  rw [World.size_alloc] at hr0
  have hf0 := ((Frm.refl Nil w).alloc (.cells (rowOf 16 (w8 x)) 57)).alloc (.cells (rowOf 16 (w8 fun _ => 0#8)) 57)
  have HX0 := hid hx0
  have HR0 := hid hr0
  have HF0 := hid hf0
  clear hx0 hr0 hf0
  go_wp2_with fail
  rw [zero8_16]
  generalize (w.alloc (.cells (rowOf 16 (w8 x)) 57)).alloc (.cells (rowOf 16 (w8 fun _ => 0#8)) 57) = w0 at HX0 HR0 HF0 ⊢
  go_loopw [5, 6] (fun c v wr => ∃ k : Nat, k ≤ 16 ∧ v = .int .i64 (15 - (k : Int)) ∧ c = W64 (cntTo x n k).2 ∧ Row wr w.heap.size 57 16 (w8 (cntTo x n k).1) ∧ Row wr (w.heap.size + 1) 57 16 (w8 fun _ => 0#8) ∧ Frm Nil w wr) (fun _ v _ => (intOf v + 1).toNat)
  case atStart => exact ⟨0, by omega, rfl, rfl, HX0.out, HR0.out, HF0.out⟩
  case round =>
    clear HX0 HR0 HF0
    obtain ⟨k, hk, rfl, rfl, hx1, hr1, hf1⟩ := hrel
    by_cases hlt : k < 16
    · have hst : cntTo x n (k + 1) = cntStep (cntTo x n k) (15 - k) := rfl
      generalize cntTo x n k = s at *
      have HST := hid hst
      clear hst
      have c1 := hx1.cell8 (15 - k) (by omega)
      have c1f := hx1.free (15 - k)
      have e1 : ((15 : Int) - (k : Int)).toNat = 15 - k := by omega
      have HX1 := hid hx1
      have HR1 := hid hr1
      have HF1 := hid hf1
      clear hx1 hr1 hf1
      go_wp2_with fail
      go_roundw
      case rel =>
        have h1 := HX1.out.set (15 - k) (W8 (((s.1 (15 - k)).setWidth 64 + (s.2 &&& 255#64)).setWidth 8))
        rw [upd_w8] at h1
        refine ⟨k + 1, by omega, by go_num, ?_, ?_, HR1.out.other _ _ (by simp), HF1.out.set _ _ (by simp)⟩
        · rw [HST.out]; rfl
        · rw [HST.out]; exact h1
      case measure => simp [intOf]; omega
    · obtain rfl : k = 16 := by omega
      have hb : (cntTo x n 16).1 = out := HE.out
      rw [hb] at hx1
      clear hb
      have HC : Hid (∀ i, i < 16 → wr.cell? ⟨w.heap.size, 0 + i, none⟩ = some (w8 out i)) := fun i hi => by rw [Nat.zero_add]; exact hx1.cell i hi
      have HR1 := hid hr1
      have HF1 := hid hf1
      clear hx1 hr1 hf1
      go_wp2_with (first | (refine wpList_load_fn rfl 57 _ rfl w.heap.size 0 16 (w8 out) rfl _ HC.out Try.underlying57 rfl (by kernel_rfl) ?_) | (refine wpList_store_fn rfl 57 _ _ rfl rfl (w.heap.size + 1) 0 16 16 _ _ (w8 out) rfl rfl HR1.out (by kernel_rfl) (by omega) (fun _ _ => rfl) ?_))
      exact bodyPost_cell rfl (w.heap.size + 1) 16 _ _ _ rfl (HR1.out.over _) Try.underlying57 rfl (by kernel_rfl) rfl ⟨rfl, HF1.out.setRow _ _ (fun h => by omega)⟩
theorem count_any (x : Nat → BitVec 8) (n : BitVec 64) (w : World) :
    Calls Try.prog 44 #[.agg (rowOf 16 (w8 x)), W64 n] w fun e w' => e = .returned (.agg (rowOf 16 (w8 (countB x n)))) ∧ Frm Nil w w' := count_core x _ n w rfl
end Go.Proofs.Ytljddimmhjiehaa
