/- aes: a round's key is added; bytes go through the table; columns are mixed. -/
import Derived.Test.YtljddimmhjiehaaTab
namespace Go.Proofs.Ytljddimmhjiehaa
open Go.RowKit

theorem Row.over {w : World} {g n : Nat} {T : TypeId} {f0 : Nat → Value} (h : Row w g T n f0) (f : Nat → Value) : Row (w.setRow g (rowOf n (splice f0 0 n f))) g T n f :=
  (h.setRow (splice f0 0 n f)).congr (fun i hi => by simp only [splice]; rw [if_pos (by omega)]; rfl)
theorem bodyPost_cell {P : Program} {fn : Func} {R : Ending → World → Prop} {a : Act} {w : World} {p : Tmp} {ty : TypeId} (h : fn.results = #[.cell p ty]) (g n : Nat) (f : Nat → Value) (d : TypeDesc) (T : TypeId)
    (hp : a.tmps.getD p undef = .pointer (some ⟨g, 0, none⟩)) (hR : Row w g T n f) (hu : P.underlying ty = some d) (hd : (match d with | .struct _ | .array _ _ => true | _ => false) = true)
    (hi : (P.info? ty).map (·.size) = some n) (hdef : a.defers = []) (hr : R (.returned (.agg (rowOf n f))) w) : bodyPost P fn R .ret a w :=
  bodyPost_ret (results_cell_fn h a.tmps w g n f d hp hR.cells hu hd hi) hdef hr
theorem zero8_16 : #[Value.int .u8 0, .int .u8 0, .int .u8 0, .int .u8 0, .int .u8 0, .int .u8 0, .int .u8 0, .int .u8 0, .int .u8 0, .int .u8 0, .int .u8 0, .int .u8 0, .int .u8 0, .int .u8 0, .int .u8 0, .int .u8 0] = rowOf 16 (w8 fun _ => 0#8) := by rfl
/-- A box's bytes: the table, behind it the rounds' keys. -/
def boxF (t ks : Nat → BitVec 8) : Nat → BitVec 8 := fun i => if i < 256 then t i else ks (i - 256)
def addB (ks x : Nat → BitVec 8) (r : Nat) : Nat → BitVec 8 := fun i => x i ^^^ ks (16 * r + i)
def addTo (ks x : Nat → BitVec 8) (r k : Nat) : Nat → BitVec 8 := fun i => if i < k then addB ks x r i else x i
theorem upd_addTo (ks x : Nat → BitVec 8) (r k : Nat) : upd (addTo ks x r k) k (addB ks x r k) = addTo ks x r (k + 1) := by
  funext i
  by_cases e : i = k
  · subst e; rw [upd_same]; simp [addTo]
  · rw [upd_other _ _ _ _ e]; simp only [addTo]
    by_cases h : i < k
    · rw [if_pos h, if_pos (by omega)]
    · rw [if_neg h, if_neg (by omega)]

set_option maxHeartbeats 1000000 in
set_option maxRecDepth 100000 in
theorem add_any (B : Nat) (t ks x : Nat → BitVec 8) (r : Nat) (w : World) (hr : r < 15) (hB : Row w B 95 496 (w8 (boxF t ks))) :
    Calls Try.prog 57 #[.pointer (some ⟨B, 0, none⟩), .agg (rowOf 16 (w8 x)), .int .i64 (r : Int)] w fun e w' => e = .returned (.agg (rowOf 16 (w8 (addB ks x r)))) ∧ Frm Nil w w' := by
  have HB := hid hB
  clear hB
  go_enter Try.func57, Try.ntmps57
  go_wp2_with fail
  rw [zero8_16]
  have hx0 := (Row.new w 57 16 (w8 x)).alloc (.cells (rowOf 16 (w8 fun _ => 0#8)) 57)
  have hr0 := Row.new (w.alloc (.cells (rowOf 16 (w8 x)) 57)) 57 16 (w8 fun _ => 0#8)
  rw [World.size_alloc] at hr0
  have hf0 := ((Frm.refl Nil w).alloc (.cells (rowOf 16 (w8 x)) 57)).alloc (.cells (rowOf 16 (w8 fun _ => 0#8)) 57)
  generalize (w.alloc (.cells (rowOf 16 (w8 x)) 57)).alloc (.cells (rowOf 16 (w8 fun _ => 0#8)) 57) = w0 at hx0 hr0 hf0 ⊢
  go_loopw [8] (fun v wr => ∃ k : Nat, k ≤ 16 ∧ v = .int .i64 k ∧ Row wr w.heap.size 57 16 (w8 (addTo ks x r k)) ∧ Row wr (w.heap.size + 1) 57 16 (w8 fun _ => 0#8) ∧ Frm Nil w wr) (fun v _ => 16 - (intOf v).toNat)
  case atStart => exact ⟨0, by omega, rfl, hx0.congr (fun i _ => by simp [w8, addTo]), hr0, hf0⟩
  case round =>
    clear hx0 hr0 hf0
    obtain ⟨k, hk, rfl, hx1, hr1, hf1⟩ := hrel
    by_cases hlt : k < 16
    · have c1 : wr.cell? ⟨w.heap.size, k, none⟩ = some (W8 (x k)) := by
        rw [hx1.cell k hlt]; simp [w8, addTo]
      have c1f := hx1.free k
      have c2 : wr.cell? ⟨B, 256 + r * 16 + k, none⟩ = some (W8 (ks (16 * r + k))) := by
        rw [(hf1.row HB.out (by simp [Nil])).cell _ (by omega)]; simp only [w8, boxF]; rw [if_neg (by omega)]; congr 3; omega
      have HX1 := hid hx1
      have HR1 := hid hr1
      have HF1 := hid hf1
      clear hx1 hr1 hf1
      go_wp2_with fail
      go_region
      go_wp2_with fail
      go_roundw
      case rel =>
        have h1 := HX1.out.set k (W8 (addB ks x r k))
        rw [upd_w8, upd_addTo] at h1
        exact ⟨k + 1, by omega, by go_num, h1.drew, (HR1.out.other _ _ (by simp)).drew, (HF1.out.set _ _ (by simp)).drew⟩
      case measure => simp [intOf]; omega
    · obtain rfl : k = 16 := by omega
      have HC : Hid (∀ i, i < 16 → wr.cell? ⟨w.heap.size, 0 + i, none⟩ = some (w8 (addB ks x r) i)) := fun i hi => by
        rw [Nat.zero_add, hx1.cell i hi]; simp only [w8, addTo]; rw [if_pos hi]
      have HR1 := hid hr1
      have HF1 := hid hf1
      clear hx1 hr1 hf1
      go_wp2_with (first | (refine wpList_load_fn rfl 57 _ rfl w.heap.size 0 16 (w8 (addB ks x r)) rfl _ HC.out Try.underlying57 rfl (by kernel_rfl) ?_) | (refine wpList_store_fn rfl 57 _ _ rfl rfl (w.heap.size + 1) 0 16 16 _ _ (w8 (addB ks x r)) rfl rfl HR1.out (by kernel_rfl) (by omega) (fun _ _ => rfl) ?_))
      exact bodyPost_cell rfl (w.heap.size + 1) 16 _ _ _ rfl (HR1.out.over _) Try.underlying57 rfl (by kernel_rfl) rfl ⟨rfl, HF1.out.setRow _ _ (fun h => by omega)⟩
end Go.Proofs.Ytljddimmhjiehaa
