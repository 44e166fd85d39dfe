/- aes: one block. -/
import Derived.Test.YtljddimmhjiehaaAes2
namespace Go.Proofs.Ytljddimmhjiehaa
open Go.RowKit

def stB (t ks x : Nat → BitVec 8) : Nat → Nat → BitVec 8
  | 0 => addB ks x 0
  | r + 1 => addB ks (mixTo (rowsB t (stB t ks x r)) 4) (r + 1)
def blockB (t ks x : Nat → BitVec 8) : Nat → BitVec 8 := addB ks (rowsB t (stB t ks x 13)) 14
set_option maxHeartbeats 1000000 in
set_option maxRecDepth 100000 in
theorem block_core (B : Nat) (t ks x out : Nat → BitVec 8) (w : World) (hB : Row w B 95 496 (w8 (boxF t ks))) (he : blockB t ks x = out) :
    Calls Try.prog 43 #[.pointer (some ⟨B, 0, none⟩), .agg (rowOf 16 (w8 x))] w fun e w' => e = .returned (.agg (rowOf 16 (w8 out))) ∧ Frm Nil w w' := by
  have HB := hid hB
  have HE := hid he
  clear hB he
  go_enter Try.func43, Try.ntmps43
  have hx0 := (Row.new w 57 16 (w8 x)).alloc (.cells (rowOf 16 (w8 fun _ => 0#8)) 57)
  have hr0 := Row.new (w.alloc (.cells (rowOf 16 (w8 x)) 57)) 57 16 (w8 fun _ => 0#8)
  rw [World.size_alloc] at hr0
  have hf0 := ((Frm.refl Nil w).alloc (.cells (rowOf 16 (w8 x)) 57)).alloc (.cells (rowOf 16 (w8 fun _ => 0#8)) 57)
  have HX0 := hid hx0
  have HR0 := hid hr0
  have HF0 := hid hf0
  clear hx0 hr0 hf0
  go_upto_region 3 with (fail)
  rw [zero8_16]
  generalize (w.alloc (.cells (rowOf 16 (w8 x)) 57)).alloc (.cells (rowOf 16 (w8 fun _ => 0#8)) 57) = w0 at HX0 HR0 HF0 ⊢
  have HC0 : Hid (∀ i, i < 16 → w0.cell? ⟨w.heap.size, 0 + i, none⟩ = some (w8 x i)) := fun i hi => by rw [Nat.zero_add]; exact HX0.out.cell i hi
  go_wp2_with (refine wpList_load_fn rfl 57 _ rfl w.heap.size 0 16 (w8 x) rfl _ HC0.out Try.underlying57 rfl (by kernel_rfl) ?_)
  refine (add_any B t ks x 0 w0 (by omega) (HF0.out.row HB.out (by simp [Nil]))).mono ?_
  rintro e w1 ⟨rfl, hf1⟩
  have HX1 := hid (hf1.row HX0.out (by simp [Nil]))
  have HR1 := hid (hf1.row HR0.out (by simp [Nil]))
  have HF1 := hid (HF0.out.trans hf1 (fun _ _ h => h))
  clear hf1 HX0 HR0 HF0 HC0
  go_wp2_with (refine wpList_store_fn rfl 57 _ _ rfl rfl w.heap.size 0 16 16 _ _ (w8 (addB ks x 0)) rfl rfl HX1.out (by kernel_rfl) (by omega) (fun _ _ => rfl) ?_)
  have hx2 := HX1.out.over (w8 (addB ks x 0))
  have hr2 := HR1.out.setRow_other (g := w.heap.size) (by simp) (rowOf 16 (splice (w8 x) 0 16 (w8 (addB ks x 0))))
  have hf2 := HF1.out.setRow w.heap.size (rowOf 16 (splice (w8 x) 0 16 (w8 (addB ks x 0)))) (fun h => by omega)
  generalize w1.setRow w.heap.size (rowOf 16 (splice (w8 x) 0 16 (w8 (addB ks x 0)))) = w2 at hx2 hr2 hf2 ⊢
  clear HX1 HR1 HF1
  go_loopw [12] (fun v wr => ∃ k : Nat, k ≤ 13 ∧ v = .int .i64 k ∧ Row wr w.heap.size 57 16 (w8 (stB t ks x k)) ∧ Row wr (w.heap.size + 1) 57 16 (w8 fun _ => 0#8) ∧ Frm Nil w wr) (fun v _ => 13 - (intOf v).toNat)
  case atStart => exact ⟨0, by omega, rfl, hx2, hr2, hf2⟩
  case round =>
    clear hx2 hr2 hf2
    obtain ⟨k, hk, rfl, hx1, hr1, hf1⟩ := hrel
    by_cases hlt : k < 13
    · have hst : stB t ks x (k + 1) = addB ks (mixTo (rowsB t (stB t ks x k)) 4) (k + 1) := rfl
      generalize stB t ks x k = s at *
      have HST := hid hst
      clear hst
      have HC0 : Hid (∀ i, i < 16 → wr.cell? ⟨w.heap.size, 0 + i, none⟩ = some (w8 s i)) := fun i hi => by rw [Nat.zero_add]; exact hx1.cell i hi
      have HX1 := hid hx1
      have HR1 := hid hr1
      have HF1 := hid hf1
      clear hx1 hr1 hf1
      go_wp2_with (refine wpList_load_fn rfl 57 _ rfl w.heap.size 0 16 (w8 s) rfl _ HC0.out Try.underlying57 rfl (by kernel_rfl) ?_)
      refine (rows_any B t ks s wr (HF1.out.row HB.out (by simp [Nil]))).mono ?_
      rintro e w3 ⟨rfl, hf3⟩
      have HF3 := hid hf3
      clear hf3
      go_wp2_with fail
      refine (mix_any (rowsB t s) w3).mono ?_
      rintro e w4 ⟨rfl, hf4⟩
      have HF4 := hid (HF3.out.trans hf4 (fun _ _ h => h))
      clear hf4
      go_wp2_with fail
      rw [show ((k : Int) + 1) = ((k + 1 : Nat) : Int) from by omega]
      refine (add_any B t ks (mixTo (rowsB t s) 4) (k + 1) w4 (by omega) ((HF1.out.trans HF4.out (fun _ _ h => h)).row HB.out (by simp [Nil]))).mono ?_
      rintro e w5 ⟨rfl, hf5⟩
      have HF5 := hid (HF4.out.trans hf5 (fun _ _ h => h))
      clear hf5
      rw [← HST.out]
      have HX5 := hid (HF5.out.row HX1.out (by simp [Nil]))
      have HR5 := hid (HF5.out.row HR1.out (by simp [Nil]))
      have HFF := hid (HF1.out.trans HF5.out (fun _ _ h => h))
      generalize hs2 : stB t ks x (k + 1) = s2 at *
      have HS2 := hid hs2
      clear hs2
      go_wp2_with (refine wpList_store_fn rfl 57 _ _ rfl rfl w.heap.size 0 16 16 _ _ (w8 s2) rfl rfl HX5.out (by kernel_rfl) (by omega) (fun _ _ => rfl) ?_)
      go_roundw
      case rel =>
        refine ⟨k + 1, by omega, by go_num, ?_, HR5.out.setRow_other (g := w.heap.size) (by simp) _, HFF.out.setRow _ _ (fun h => by omega)⟩
        rw [HS2.out]; exact HX5.out.over _
      case measure => simp [intOf]; omega
    · obtain rfl : k = 13 := by omega
      have hbl : blockB t ks x = addB ks (rowsB t (stB t ks x 13)) 14 := rfl
      rw [HE.out] at hbl
      generalize stB t ks x 13 = s at *
      have HBL := hid hbl
      clear hbl
      have HC0 : Hid (∀ i, i < 16 → wr.cell? ⟨w.heap.size, 0 + i, none⟩ = some (w8 s i)) := fun i hi => by rw [Nat.zero_add]; exact hx1.cell i hi
      have HR1 := hid hr1
      have HF1 := hid hf1
      clear hx1 hr1 hf1
      go_wp2_with (refine wpList_load_fn rfl 57 _ rfl w.heap.size 0 16 (w8 s) rfl _ HC0.out Try.underlying57 rfl (by kernel_rfl) ?_)
      refine (rows_any B t ks s wr (HF1.out.row HB.out (by simp [Nil]))).mono ?_
      rintro e w3 ⟨rfl, hf3⟩
      have HF3 := hid hf3
      clear hf3
      go_wp2_with fail
      refine (add_any B t ks (rowsB t s) 14 w3 (by omega) ((HF1.out.trans HF3.out (fun _ _ h => h)).row HB.out (by simp [Nil]))).mono ?_
      rintro e w5 ⟨rfl, hf5⟩
      have HF5 := hid (HF3.out.trans hf5 (fun _ _ h => h))
      clear hf5
      rw [← HBL.out]
      have HR5 := hid (HF5.out.row HR1.out (by simp [Nil]))
      have HFF := hid (HF1.out.trans HF5.out (fun _ _ h => h))
      go_wp2_with (refine wpList_store_fn rfl 57 _ _ rfl rfl (w.heap.size + 1) 0 16 16 _ _ (w8 out) rfl rfl HR5.out (by kernel_rfl) (by omega) (fun _ _ => rfl) ?_)
      exact bodyPost_cell rfl (w.heap.size + 1) 16 _ _ _ rfl (HR5.out.over _) Try.underlying57 rfl (by kernel_rfl) rfl ⟨rfl, HFF.out.setRow _ _ (fun h => by omega)⟩
theorem block_any (B : Nat) (t ks x : Nat → BitVec 8) (w : World) (hB : Row w B 95 496 (w8 (boxF t ks))) :
    Calls Try.prog 43 #[.pointer (some ⟨B, 0, none⟩), .agg (rowOf 16 (w8 x))] w fun e w' => e = .returned (.agg (rowOf 16 (w8 (blockB t ks x)))) ∧ Frm Nil w w' := block_core B t ks x _ w hB rfl
end Go.Proofs.Ytljddimmhjiehaa
