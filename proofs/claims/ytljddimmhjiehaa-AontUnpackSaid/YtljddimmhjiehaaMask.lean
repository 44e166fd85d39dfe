/- aont: a key under the sum of a text; slices.Clone. -/
import Derived.Test.YtljddimmhjiehaaHide
namespace Go.Proofs.Ytljddimmhjiehaa
open Go.RowKit

def xorB (s key : Nat → BitVec 8) : Nat → BitVec 8 := fun i => s i ^^^ key i
def partF {α : Type} (s t : Nat → α) (k : Nat) : Nat → α := fun i => if i < k then t i else s i
theorem upd_partF {α : Type} (s t : Nat → α) (k : Nat) : upd (partF s t k) k (t k) = partF s t (k + 1) := by
  funext i
  unfold upd partF
  by_cases h : i = k
  · subst h; simp
  · by_cases h2 : i < k
    · simp [h, h2]; omega
    · have : ¬ i < k + 1 := by omega
      simp [h, h2, this]
theorem partF_at {α : Type} (s t : Nat → α) (k : Nat) : partF s t k k = s k := by simp [partF]
theorem partF_zero {α : Type} (s t : Nat → α) : partF s t 0 = s := by funext i; simp [partF]
theorem partF_full {α : Type} (s t : Nat → α) (k i : Nat) (h : i < k) : partF s t k i = t i := by simp [partF, h]
set_option maxHeartbeats 1000000 in
set_option maxRecDepth 100000 in
theorem masked_core (key s out : Nat → BitVec 8) (l : List (BitVec 8)) (sv : Value) (w : World) (hs : Seg w sv (l.map W8)) (hl : l.length ≤ 4611686018427387904) (hsha : shaOf l = s) (he : xorB s key = out) :
    Calls Try.prog 23 #[.agg (rowOf 32 (w8 key)), sv] w fun e w' => e = .returned (.agg (rowOf 32 (w8 out))) ∧ Frm Nil w w' := by
  have HE := hid he
  have HSH := hid hsha
  have HX : Hid (∀ i, s i ^^^ key i = out i) := fun i => congrFun he i
  clear he hsha
  go_enter Try.func23, Try.ntmps23
  have hk0 := (Row.new w 26 32 (w8 key)).alloc (.cells (rowOf 32 (w8 fun _ => 0#8)) 26)
  have hr0 := Row.new (w.alloc (.cells (rowOf 32 (w8 key)) 26)) 26 32 (w8 fun _ => 0#8)
  rw [World.size_alloc] at hr0
  have hf0 := ((Frm.refl Nil w).alloc (.cells (rowOf 32 (w8 key)) 26)).alloc (.cells (rowOf 32 (w8 fun _ => 0#8)) 26)
  have hs0 := hs.frm hf0 (by simp [Nil])
  have HK0 := hid hk0
  have HR0 := hid hr0
  have HF0 := hid hf0
  have HS0 := hid hs0
  clear hk0 hr0 hf0 hs0 hs
  go_upto_region 1 with (fail)
  rw [zero8x32]
  generalize (w.alloc (.cells (rowOf 32 (w8 key)) 26)).alloc (.cells (rowOf 32 (w8 fun _ => 0#8)) 26) = w0 at HK0 HR0 HF0 HS0 ⊢
  go_wp2_with fail
  refine (sum_any l sv w0 HS0.out hl).mono ?_
  rintro e w1 ⟨rfl, hf1⟩
  rw [HSH.out]
  have HK1 := hid (hf1.row HK0.out (by simp [Nil]))
  have HR1 := hid (hf1.row HR0.out (by simp [Nil]))
  have HF1 := hid (HF0.out.trans hf1 (fun _ _ h => h))
  have hz : w.heap.size + 2 ≤ w1.heap.size := by have := HR1.out.lt; omega
  clear hf1 HK0 HR0 HF0 HS0
  go_upto_region 2 with (refine wpList_store_fn rfl 26 _ _ rfl rfl w1.heap.size 0 32 32 26 (w8 fun _ => 0#8) (w8 s) rfl rfl (Row.new w1 26 32 (w8 fun _ => 0#8)) (by kernel_rfl) (by omega) (fun _ _ => rfl) ?_)
  rw [zero8x32]
  have hl4 := (Row.new w1 26 32 (w8 fun _ => 0#8)).over (w8 s)
  have hF4 := (HF1.out.alloc (.cells (rowOf 32 (w8 fun _ => 0#8)) 26)).setRow w1.heap.size (rowOf 32 (splice (w8 fun _ => 0#8) 0 32 (w8 s))) (fun h => by omega)
  have hk4 := (HK1.out.alloc (.cells (rowOf 32 (w8 fun _ => 0#8)) 26)).setRow_other (g := w1.heap.size) (by omega) (rowOf 32 (splice (w8 fun _ => 0#8) 0 32 (w8 s)))
  have hr4 := (HR1.out.alloc (.cells (rowOf 32 (w8 fun _ => 0#8)) 26)).setRow_other (g := w1.heap.size) (by omega) (rowOf 32 (splice (w8 fun _ => 0#8) 0 32 (w8 s)))
  generalize (w1.alloc (.cells (rowOf 32 (w8 fun _ => 0#8)) 26)).setRow w1.heap.size (rowOf 32 (splice (w8 fun _ => 0#8) 0 32 (w8 s))) = w4 at hl4 hF4 hk4 hr4 ⊢
  clear HK1 HR1 HF1
  generalize w1.heap.size = B at *
  have HK4 := hid hk4
  have HR4 := hid hr4
  have HF4 := hid hF4
  have HL4 := hid hl4
  clear hk4 hr4 hF4 hl4
  go_wp2_with fail
  go_loopw [9] (fun v wr => ∃ k : Nat, k ≤ 32 ∧ v = .int .i64 (k : Int) ∧ Row wr w.heap.size 26 32 (w8 key) ∧ Row wr (w.heap.size + 1) 26 32 (w8 fun _ => 0#8) ∧ Row wr B 26 32 (w8 (partF s out k)) ∧ Frm Nil w wr) (fun v _ => 32 - (intOf v).toNat)
  case atStart => exact ⟨0, by omega, rfl, HK4.out, HR4.out, by rw [partF_zero]; exact HL4.out, HF4.out⟩
  case round =>
    clear HK4 HR4 HF4 HL4
    obtain ⟨k, hk, rfl, hk1, hr1, hl1, hf1⟩ := hrel
    by_cases hlt : k < 32
    · have c1 := hk1.cell8 k hlt
      have c2 := hl1.cell8 k hlt
      rw [partF_at] at c2
      have c2f := hl1.free k
      have HK1 := hid hk1
      have HR1 := hid hr1
      have HL1 := hid hl1
      have HF1 := hid hf1
      clear hk1 hr1 hl1 hf1
      go_upto_region 5 with (fail)
      go_region
      all_goals
        go_wp2_with fail
        go_roundw
        case rel =>
          have h1 := HL1.out.set k (W8 (s k ^^^ key k))
          rw [HX.out, upd_w8, upd_partF] at h1
          exact ⟨k + 1, by omega, by go_num, HK1.out.other _ _ (by simp; omega), HR1.out.other _ _ (by simp; omega), (by first | (rw [HX.out]; exact h1) | exact h1), (HF1.out.set _ _ (by simp; omega)).drew⟩
        case measure => simp [intOf]; omega
    · obtain rfl : k = 32 := by omega
      have HC : Hid (∀ i, i < 32 → wr.cell? ⟨B, 0 + i, none⟩ = some (w8 out i)) := fun i hi => by rw [Nat.zero_add, hl1.cell i hi, w8, partF_full _ _ _ _ hi]; rfl
      have HR1 := hid hr1
      have HF1 := hid hf1
      clear hr1 hf1 hk1 hl1
      go_wp2_with (first | (refine wpList_load_fn rfl 26 _ rfl B 0 32 (w8 out) rfl _ HC.out Try.underlying26 rfl (by kernel_rfl) ?_) | (refine wpList_store_fn rfl 26 _ _ rfl rfl (w.heap.size + 1) 0 32 32 _ _ (w8 out) rfl rfl HR1.out (by kernel_rfl) (by omega) (fun _ _ => rfl) ?_))
      exact bodyPost_cell rfl (w.heap.size + 1) 32 _ _ _ rfl (HR1.out.over _) Try.underlying26 rfl (by kernel_rfl) rfl ⟨rfl, HF1.out.setRow _ _ (fun h => by omega)⟩
theorem masked_any (key : Nat → BitVec 8) (l : List (BitVec 8)) (sv : Value) (w : World) (hs : Seg w sv (l.map W8)) (hl : l.length ≤ 4611686018427387904) :
    Calls Try.prog 23 #[.agg (rowOf 32 (w8 key)), sv] w fun e w' => e = .returned (.agg (rowOf 32 (w8 (xorB (shaOf l) key)))) ∧ Frm Nil w w' := masked_core key _ _ l sv w hs hl rfl rfl

theorem equalIn_nil8 (w : World) (d : Nat) (a : Option Addr) (l c : Nat) : (Op.equalIn (d + 1) 22 (.slice a l c) (.slice none 0 0)).run Try.prog w = .ok a.isNone w := by
  have h : Try.prog.underlying 22 = some (.slice 5) := Try.underlying22
  cases a <;> simp [Op.equalIn, run_underlying h]
theorem equal_nil8 (w : World) (a : Option Addr) (l c : Nat) : (Op.equal 22 (.slice a l c) (.slice none 0 0)).run Try.prog w = .ok a.isNone w := equalIn_nil8 w 9999 a l c
@[go_sem] theorem run_eql_nil8 (w : World) (a : Option Addr) (l c : Nat) : (binOp .eql 22 (.slice a l c) (.slice none 0 0)).run Try.prog w = .ok (.bool a.isNone) w := by
  simp [binOp, equal_nil8]
/-- A copy of a text: nil from nil. -/
def ClonePost (l : List (BitVec 8)) (sv : Value) (w : World) (e : Ending) (w' : World) : Prop :=
  ∃ v, e = .returned v ∧ Own w' 5 v (l.map W8) ∧ Frm Nil w w' ∧ (∀ g, v.ownBlock = some g → w.heap.size ≤ g) ∧ (v = .slice none 0 0 ↔ sv = .slice none 0 0)
set_option maxHeartbeats 1000000 in
set_option maxRecDepth 100000 in
theorem clone_any (l : List (BitVec 8)) (sv : Value) (w : World) (hs : Seg w sv (l.map W8)) (hl : l.length ≤ 70368744177664) :
    Calls Try.prog 24 #[sv] w fun e w' => ClonePost l sv w e w' := by
  have HS := hid hs
  obtain ⟨ao, cp, rfl, h0, hc⟩ := hs
  have H0 := hid h0
  have HCC := hid hc
  rw [List.length_map] at HS ⊢
  clear h0 hc
  cases ao with
  | none =>
    have hl0 := (H0.out rfl).1
    have hl1 := (H0.out rfl).2
    clear HS HCC H0
    simp at hl0
    subst hl0
    subst hl1
    go_enter Try.func24, Try.ntmps24
    go_wp2_with fail
    go_ret
    exact ⟨_, rfl, Own.nil _ _, Frm.refl _ _, (fun g hg => by simp [Value.ownBlock] at hg), by simp⟩
  | some a =>
    go_enter Try.func24, Try.ntmps24
    go_upto_region 3 with fail
    have ho0 : Own (w.alloc (.cells #[] 5)) 5 (.slice (some ⟨w.heap.size, 0, none⟩) 0 0) [] := Own.of_row w 5 0 #[] rfl (by unfold maxLen; omega)
    have HO0 := hid ho0
    clear ho0
    have HF0 := hid ((Frm.refl Nil w).alloc (.cells #[] 5))
    have HS0 := hid (HS.out.frm HF0.out (by simp [Nil]))
    go_wp2_with (at_builtin; refine wpList_append_seg _ rfl _ _ 22 rfl 5 (.int .u8 0) 1 Try.underlying22 info_u8 rfl (.slice (some ⟨w.heap.size, 0, none⟩) 0 0) [] rfl (.slice (some a) l.length cp) (l.map W8) rfl HO0.out HS0.out (ones_W8 l) (by rw [List.length_map]; unfold maxLen; simp only [List.length_nil]; omega) (by rw [List.length_map]; simp only [List.length_nil]; omega) ?_)
    intro v w2 ho2 hf2 hv2 hn2
    go_wp2_with fail
    go_ret
    refine ⟨v, rfl, by simpa using ho2, HF0.out.trans hf2 (fun i hi h => by simp [Value.ownBlock] at h; omega), fun g hg => ?_, ⟨fun h => (hn2 h).elim, fun h => by simp at h⟩⟩
    rcases hv2 with h | ⟨g', h1, h2⟩
    · rw [hg] at h; simp [Value.ownBlock] at h; omega
    · rw [hg] at h1; cases h1; (try simp at h2); omega
end Go.Proofs.Ytljddimmhjiehaa
