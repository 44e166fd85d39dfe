/- aes: bytes go through the table; columns are mixed. -/
import Derived.Test.YtljddimmhjiehaaAes1
import Derived.Deep.RegionLaw
namespace Go.Proofs.Ytljddimmhjiehaa
open Go.RowKit

def toF (g f : Nat → BitVec 8) (k : Nat) : Nat → BitVec 8 := fun i => if i < k then g i else f i
theorem upd_toF (g f : Nat → BitVec 8) (k : Nat) : upd (toF g f k) k (g k) = toF g f (k + 1) := by
  funext i
  by_cases e : i = k
  · subst e; rw [upd_same]; simp [toF]
  · rw [upd_other _ _ _ _ e]; simp only [toF]
    by_cases h : i < k
    · rw [if_pos h, if_pos (by omega)]
    · rw [if_neg h, if_neg (by omega)]
theorem toF_zero (g f : Nat → BitVec 8) : toF g f 0 = f := by funext i; simp [toF]
theorem toF_lt (g f : Nat → BitVec 8) (k i : Nat) (h : i < k) : toF g f k i = g i := by simp [toF, h]
theorem toF_ge (g f : Nat → BitVec 8) (k i : Nat) (h : k ≤ i) : toF g f k i = f i := by simp only [toF]; rw [if_neg (by omega)]
def rowsB (t x : Nat → BitVec 8) : Nat → BitVec 8 := fun i => t (x ((i + 4 * (i % 4)) % 16)).toNat

set_option maxHeartbeats 1000000 in
set_option maxRecDepth 100000 in
theorem rows_any (B : Nat) (t ks x : Nat → BitVec 8) (w : World) (hB : Row w B 95 496 (w8 (boxF t ks))) :
    Calls Try.prog 59 #[.pointer (some ⟨B, 0, none⟩), .agg (rowOf 16 (w8 x))] w fun e w' => e = .returned (.agg (rowOf 16 (w8 (rowsB t x)))) ∧ Frm Nil w w' := by
  have HB := hid hB
  clear hB
  go_enter Try.func59, Try.ntmps59
  go_wp2_with fail
  rw [zero8_16]
  have hx0 := ((Row.new w 57 16 (w8 x)).alloc (.cells (rowOf 16 (w8 fun _ => 0#8)) 57)).alloc (.cells (rowOf 16 (w8 fun _ => 0#8)) 57)
  have hr0 := (Row.new (w.alloc (.cells (rowOf 16 (w8 x)) 57)) 57 16 (w8 fun _ => 0#8)).alloc (.cells (rowOf 16 (w8 fun _ => 0#8)) 57)
  have ho0 := Row.new ((w.alloc (.cells (rowOf 16 (w8 x)) 57)).alloc (.cells (rowOf 16 (w8 fun _ => 0#8)) 57)) 57 16 (w8 fun _ => 0#8)
  rw [World.size_alloc] at hr0 ho0
  rw [World.size_alloc] at ho0
  have hf0 := (((Frm.refl Nil w).alloc (.cells (rowOf 16 (w8 x)) 57)).alloc (.cells (rowOf 16 (w8 fun _ => 0#8)) 57)).alloc (.cells (rowOf 16 (w8 fun _ => 0#8)) 57)
  generalize ((w.alloc (.cells (rowOf 16 (w8 x)) 57)).alloc (.cells (rowOf 16 (w8 fun _ => 0#8)) 57)).alloc (.cells (rowOf 16 (w8 fun _ => 0#8)) 57) = w0 at hx0 hr0 ho0 hf0 ⊢
  go_loopw [7] (fun v wr => ∃ k : Nat, k ≤ 16 ∧ v = .int .i64 k ∧ Row wr w.heap.size 57 16 (w8 x) ∧ Row wr (w.heap.size + 1) 57 16 (w8 fun _ => 0#8) ∧
    Row wr (w.heap.size + 1 + 1) 57 16 (w8 (toF (rowsB t x) (fun _ => 0#8) k)) ∧ Frm Nil w wr) (fun v _ => 16 - (intOf v).toNat)
  case atStart => exact ⟨0, by omega, rfl, hx0, hr0, by rw [toF_zero]; exact ho0, hf0⟩
  case round =>
    clear hx0 hr0 ho0 hf0
    obtain ⟨k, hk, rfl, hx1, hr1, ho1, hf1⟩ := hrel
    by_cases hlt : k < 16
    · have c1 := hx1.cell8 ((k + 4 * (k % 4)) % 16) (by omega)
      have c2 := ho1.cell8 k hlt
      have c2f := ho1.free k
      have c3 : wr.cell? ⟨B, (x ((k + 4 * (k % 4)) % 16)).toNat, none⟩ = some (W8 (rowsB t x k)) := by
        have := (x ((k + 4 * (k % 4)) % 16)).isLt
        rw [(hf1.row HB.out (by simp [Nil])).cell _ (by omega)]; simp only [w8, boxF]; rw [if_pos (by omega)]; rfl
      have c4 : (x ((k + 4 * (k % 4)) % 16)).toNat < 256 := (x ((k + 4 * (k % 4)) % 16)).isLt
      have HX1 := hid hx1
      have HR1 := hid hr1
      have HO1 := hid ho1
      have HF1 := hid hf1
      clear hx1 hr1 ho1 hf1
      generalize x ((k + 4 * (k % 4)) % 16) = xk at c1 c3 c4
      go_wp2_with fail
      go_region
      go_wp2_with fail
      go_roundw
      case rel =>
        have h1 := HO1.out.set k (W8 (rowsB t x k))
        rw [upd_w8, upd_toF] at h1
        exact ⟨k + 1, by omega, by go_num, (HX1.out.other _ _ (fun h => by simp at h <;> omega)).drew, (HR1.out.other _ _ (fun h => by simp at h <;> omega)).drew, h1.drew, (HF1.out.set _ _ (fun h => by simp at h; omega)).drew⟩
      case measure => simp [intOf]; omega
    · obtain rfl : k = 16 := by omega
      have HC : Hid (∀ i, i < 16 → wr.cell? ⟨w.heap.size + 1 + 1, 0 + i, none⟩ = some (w8 (rowsB t x) i)) := fun i hi => by
        rw [Nat.zero_add, ho1.cell i hi]; simp only [w8]; rw [toF_lt _ _ _ _ hi]
      have HR1 := hid hr1
      have HF1 := hid hf1
      clear hx1 hr1 ho1 hf1
      go_wp2_with (first | (refine wpList_load_fn rfl 57 _ rfl (w.heap.size + 1 + 1) 0 16 (w8 (rowsB t x)) rfl _ HC.out Try.underlying57 rfl (by kernel_rfl) ?_) | (refine wpList_store_fn rfl 57 _ _ rfl rfl (w.heap.size + 1) 0 16 16 _ _ (w8 (rowsB t x)) rfl rfl HR1.out (by kernel_rfl) (by omega) (fun _ _ => rfl) ?_))
      exact bodyPost_cell rfl (w.heap.size + 1) 16 _ _ _ rfl (HR1.out.over _) Try.underlying57 rfl (by kernel_rfl) rfl ⟨rfl, HF1.out.setRow _ _ (fun h => by omega)⟩

/-- One column's bytes, mixed one behind the other. -/
def mixAt (x : Nat → BitVec 8) (c k : Nat) (all first : BitVec 8) : Nat → BitVec 8 :=
  upd x (c + k) (x (c + k) ^^^ (all ^^^ twice (x (c + k) ^^^ (if k < 3 then x (c + k + 1) else first))))
def mixCol (x : Nat → BitVec 8) (c : Nat) (all first : BitVec 8) : Nat → Nat → BitVec 8
  | 0 => x
  | k + 1 => mixAt (mixCol x c all first k) c k all first
def mixTo (x : Nat → BitVec 8) : Nat → Nat → BitVec 8
  | 0 => x
  | c + 1 => mixCol (mixTo x c) (4 * c) (mixTo x c (4 * c) ^^^ mixTo x c (4 * c + 1) ^^^ mixTo x c (4 * c + 2) ^^^ mixTo x c (4 * c + 3)) (mixTo x c (4 * c)) 4
set_option maxHeartbeats 1000000 in
set_option maxRecDepth 100000 in
theorem mix_any (x : Nat → BitVec 8) (w : World) :
    Calls Try.prog 58 #[.agg (rowOf 16 (w8 x))] w fun e w' => e = .returned (.agg (rowOf 16 (w8 (mixTo x 4)))) ∧ Frm Nil w w' := by
  go_enter Try.func58, Try.ntmps58
  go_wp2_with fail
  rw [zero8_16]
  have hx0 := (Row.new w 57 16 (w8 x)).alloc (.cells (rowOf 16 (w8 fun _ => 0#8)) 57)
  have hr0 := Row.new (w.alloc (.cells (rowOf 16 (w8 x)) 57)) 57 16 (w8 fun _ => 0#8)
  rw [World.size_alloc] at hr0
  have hf0 := ((Frm.refl Nil w).alloc (.cells (rowOf 16 (w8 x)) 57)).alloc (.cells (rowOf 16 (w8 fun _ => 0#8)) 57)
  generalize (w.alloc (.cells (rowOf 16 (w8 x)) 57)).alloc (.cells (rowOf 16 (w8 fun _ => 0#8)) 57) = w0 at hx0 hr0 hf0 ⊢
  go_loopw [3] (fun v wr => ∃ k : Nat, k ≤ 4 ∧ v = .int .i64 (4 * (k : Int)) ∧ Row wr w.heap.size 57 16 (w8 (mixTo x k)) ∧ Row wr (w.heap.size + 1) 57 16 (w8 fun _ => 0#8) ∧ Frm Nil w wr) (fun v _ => 16 - (intOf v).toNat)
  case atStart => exact ⟨0, by omega, rfl, hx0, hr0, hf0⟩
  case round =>
    clear hx0 hr0 hf0
    obtain ⟨c, hk, rfl, hx1, hr1, hf1⟩ := hrel
    by_cases hlt : c < 4
    · have hm : mixTo x (c + 1) = mixCol (mixTo x c) (4 * c) (mixTo x c (4 * c) ^^^ mixTo x c (4 * c + 1) ^^^ mixTo x c (4 * c + 2) ^^^ mixTo x c (4 * c + 3)) (mixTo x c (4 * c)) 4 := rfl
      generalize hy : mixTo x c = y at *
      have HM := hid hm
      have HY := hid hy
      clear hm hy
      have hd9 : decide (4 * (c : Int) < 16) = true := by simp; omega
      have c0 := hx1.cell8 (4 * c) (by omega)
      have c1 := hx1.cell8 (4 * c + 1) (by omega)
      have c2 := hx1.cell8 (4 * c + 2) (by omega)
      have c3 := hx1.cell8 (4 * c + 3) (by omega)
      have HX1 := hid hx1
      have HR1 := hid hr1
      have HF1 := hid hf1
      clear hx1 hr1 hf1
      go_wp2_with fail
      go_quiet (fail)
      go_wp2_with fail
      have hx2 : Row (wr.drewN nq) w.heap.size 57 16 (w8 y) := HX1.out
      have hr2 : Row (wr.drewN nq) (w.heap.size + 1) 57 16 (w8 fun _ => 0#8) := HR1.out
      have hf2 := HF1.out.drewN nq
      clear c0 c1 c2 c3 HX1 HR1 HF1
      generalize wr.drewN nq = w2 at hx2 hr2 hf2 ⊢
      obtain ⟨wo, rfl⟩ : ∃ wo : World, wo = wr := ⟨_, rfl⟩
      generalize hA : y (4 * c) ^^^ y (4 * c + 1) ^^^ y (4 * c + 2) ^^^ y (4 * c + 3) = A at *
      generalize hF : y (4 * c) = F at *
      have HA := hid hA
      have HFF := hid hF
      clear hA hF
      go_loopw [33] (fun v wi => ∃ k : Nat, k ≤ 4 ∧ v = .int .i64 k ∧ Row wi w.heap.size 57 16 (w8 (mixCol y (4 * c) A F k)) ∧ Row wi (w.heap.size + 1) 57 16 (w8 fun _ => 0#8) ∧ Frm Nil w wi) (fun v _ => 4 - (intOf v).toNat)
      case atStart => exact ⟨0, by omega, rfl, hx2, hr2, hf2⟩
      case round =>
        clear hx2 hr2 hf2
        obtain ⟨k, hk2, rfl, hx3, hr3, hf3⟩ := hrel
        by_cases hlt2 : k < 4
        · have hmc : mixCol y (4 * c) A F (k + 1) = mixAt (mixCol y (4 * c) A F k) (4 * c) k A F := rfl
          generalize hz : mixCol y (4 * c) A F k = z at *
          have HMC := hid hmc
          have HZ := hid hz
          clear hmc hz
          have d0 := hx3.cell8 (4 * c + k) (by omega)
          have d0f := hx3.free (4 * c + k)
          have HX3 := hid hx3
          have HR3 := hid hr3
          have HF3 := hid hf3
          clear hx3 hr3 hf3
          by_cases h3 : k < 3
          case' pos =>
            have d1 := HX3.out.cell8 (4 * c + k + 1) (by omega)
            go_wp2_with fail
            clear d1
            generalize hnx : z (4 * c + k + 1) = nx
            have HNX : Hid ((if k < 3 then z (4 * c + k + 1) else F) = nx) := by show (if k < 3 then z (4 * c + k + 1) else F) = nx; rw [if_pos h3]; exact hnx
            clear hnx
          case' neg =>
            go_wp2_with fail
            have HNX : Hid ((if k < 3 then z (4 * c + k + 1) else F) = F) := if_neg h3
          all_goals
            have b1 : (0 : Int) ≤ 4 * (c : Int) + (k : Int) := by omega
            have b2 : 4 * (c : Int) + (k : Int) < 16 := by omega
            have e1 : IntKind.i64.wrap (4 * (c : Int) + (k : Int)) = 4 * (c : Int) + (k : Int) := IntWalk.i64_in _ (by omega)
            have e3 : (4 * (c : Int) + (k : Int)).toNat = 4 * c + k := by omega
            go_region_law (first | (go_simp; go_at_call 38; refine (twice_any _ _).mono ?_; rintro e w' ⟨rfl, rfl⟩))
            all_goals
              clear e1 e3
              go_wp2_with fail
              go_roundw
              case rel =>
                refine ⟨k + 1, by omega, by go_num, ?_, ?_, ?_⟩
                · rw [HMC.out, mixAt, HNX.out, ← upd_w8]; exact (HX3.out.set _ _).drew
                · exact (HR3.out.other _ _ (by simp)).drew
                · exact (HF3.out.set _ _ (by simp)).drew
              case measure => simp [intOf]; omega
        · obtain rfl : k = 4 := by omega
          have HX3 := hid hx3
          have HR3 := hid hr3
          have HF3 := hid hf3
          clear hx3 hr3 hf3
          go_wp2_with fail
          go_roundw
          case rel =>
            refine ⟨c + 1, by omega, by go_num, ?_, HR3.out, HF3.out⟩
            rw [HM.out]; exact HX3.out
          case measure => simp [intOf]; omega
    · obtain rfl : c = 4 := by omega
      have HC : Hid (∀ i, i < 16 → wr.cell? ⟨w.heap.size, 0 + i, none⟩ = some (w8 (mixTo x 4) i)) := fun i hi => by
        rw [Nat.zero_add, hx1.cell i hi]
      have HR1 := hid hr1
      have HF1 := hid hf1
      clear hx1 hr1 hf1
      go_wp2_with (first | (refine wpList_load_fn rfl 57 _ rfl w.heap.size 0 16 (w8 (mixTo x 4)) rfl _ HC.out Try.underlying57 rfl (by kernel_rfl) ?_) | (refine wpList_store_fn rfl 57 _ _ rfl rfl (w.heap.size + 1) 0 16 16 _ _ (w8 (mixTo x 4)) rfl rfl HR1.out (by kernel_rfl) (by omega) (fun _ _ => rfl) ?_))
      exact bodyPost_cell rfl (w.heap.size + 1) 16 _ _ _ rfl (HR1.out.over _) Try.underlying57 rfl (by kernel_rfl) rfl ⟨rfl, HF1.out.setRow _ _ (fun h => by omega)⟩
end Go.Proofs.Ytljddimmhjiehaa
