/- aes: the table of bytes. -/
import Derived.Test.YtljddimmhjiehaaKit
namespace Go.Proofs.Ytljddimmhjiehaa
open Go.RowKit

def q3 (q : BitVec 8) : BitVec 8 :=
  let a := q ^^^ q <<< 1
  let b := a ^^^ a <<< 2
  b ^^^ b <<< 4
def qNext (q : BitVec 8) : BitVec 8 := if q3 q &&& 128#8 = 0#8 then q3 q else q3 q ^^^ 9#8
def boxOf (q : BitVec 8) : BitVec 8 := q ^^^ q.rotateLeft 1 ^^^ q.rotateLeft 2 ^^^ q.rotateLeft 3 ^^^ q.rotateLeft 4 ^^^ 99#8
def pNext (p : BitVec 8) : BitVec 8 := p ^^^ twice p
def pq : Nat → BitVec 8 × BitVec 8
  | 0 => (1#8, 1#8)
  | k + 1 => (pNext (pq k).1, qNext (pq k).2)
def tabTo : Nat → Nat → BitVec 8
  | 0 => fun _ => 0#8
  | k + 1 => upd (tabTo k) (pq (k + 1)).1.toNat (boxOf (pq (k + 1)).2)
def tabF : Nat → BitVec 8 := upd (tabTo 255) 0 99#8
/-- The list of all (p, q), made once. -/
def pqL : Nat → BitVec 8 × BitVec 8 → List (BitVec 8 × BitVec 8)
  | 0, _ => []
  | n + 1, s => s :: pqL n (pNext s.1, qNext s.2)
theorem pqL_get : ∀ (n j k : Nat), k < n → (pqL n (pq j))[k]? = some (pq (j + k))
  | n + 1, j, 0, _ => rfl
  | n + 1, j, k + 1, h => by
    have : (pqL (n + 1) (pq j))[k + 1]? = (pqL n (pq (j + 1)))[k]? := rfl
    rw [this, pqL_get n (j + 1) k (by omega), show j + 1 + k = j + (k + 1) by omega]
theorem p_last : (pq 255).1 = 1#8 := by
  have h := pqL_get 256 0 255 (by omega)
  have h2 : ((pqL 256 (pq 0))[255]?).map (·.1) = some 1#8 := by decide +kernel
  rw [h] at h2; simpa using h2
theorem p_not : ∀ k, 1 ≤ k → k < 255 → (pq k).1 ≠ 1#8 := by
  have h2 : (((pqL 256 (pq 0)).drop 1).take 254).all (fun x => x.1 != 1#8) = true := by decide +kernel
  intro k h0 hk e
  rw [List.all_eq_true] at h2
  have hm : pq k ∈ ((pqL 256 (pq 0)).drop 1).take 254 := by
    rw [List.mem_iff_getElem?]
    refine ⟨k - 1, ?_⟩
    rw [List.getElem?_take, if_pos (by omega), List.getElem?_drop]
    have := pqL_get 256 0 k (by omega)
    rw [Nat.zero_add] at this
    rw [show 1 + (k - 1) = k by omega]; exact this
  have := h2 _ hm
  simp [e] at this
theorem zero8_256 : Try.zeroCells47 = rowOf 256 (w8 fun _ => 0#8) := by kernel_rfl

set_option maxHeartbeats 1000000 in
set_option maxRecDepth 100000 in
theorem table_any (w : World) :
    Calls Try.prog 17 #[] w fun e w' => e = .returned (.agg (rowOf 256 (w8 tabF))) ∧ Frm Nil w w' := by
  go_enter Try.func17, Try.ntmps17
  go_wp2_with fail
  rw [zero8_256]
  have hr0 := (Row.new w 47 256 (w8 fun _ => 0#8)).alloc (.cells (rowOf 256 (w8 fun _ => 0#8)) 47)
  have ht0 := Row.new (w.alloc (.cells (rowOf 256 (w8 fun _ => 0#8)) 47)) 47 256 (w8 fun _ => 0#8)
  rw [World.size_alloc] at ht0
  have hf0 := ((Frm.refl Nil w).alloc (.cells (rowOf 256 (w8 fun _ => 0#8)) 47)).alloc (.cells (rowOf 256 (w8 fun _ => 0#8)) 47)
  generalize (w.alloc (.cells (rowOf 256 (w8 fun _ => 0#8)) 47)).alloc (.cells (rowOf 256 (w8 fun _ => 0#8)) 47) = w0 at hr0 ht0 hf0 ⊢
  go_loopg [2, 3] 254 (fun gk p q wr => ∃ k : Nat, k + gk = 254 ∧ p = W8 (pq k).1 ∧ q = W8 (pq k).2 ∧ Row wr w.heap.size 47 256 (w8 fun _ => 0#8) ∧ Row wr (w.heap.size + 1) 47 256 (w8 (tabTo k)) ∧ Frm Nil w wr)
  case atStart => exact ⟨0, rfl, rfl, rfl, hr0, ht0, hf0⟩
  case round =>
    clear hr0 ht0 hf0
    obtain ⟨k, hk, rfl, rfl, hr1, ht1, hf1⟩ := hrel
    have hp1 : (pq (k + 1)).1 = pNext (pq k).1 := rfl
    have hq1 : (pq (k + 1)).2 = qNext (pq k).2 := rfl
    have htab : tabTo (k + 1) = upd (tabTo k) (pNext (pq k).1).toNat (boxOf (qNext (pq k).2)) := rfl
    have hlast := p_last
    have hnot := p_not (k + 1) (by omega)
    rw [hp1] at hnot
    have HP := hid hp1
    have HQ := hid hq1
    have HT := hid htab
    have HNOT := hid hnot
    clear hp1 hq1 htab hlast hnot
    have HPQ : Hid ((pq (k + 1)).1 = pNext (pq k).1) := HP
    generalize hpp : (pq k).1 = p at *
    generalize hqq : (pq k).2 = q at *
    have HPP := hid hpp
    have HQQ := hid hqq
    clear hpp hqq
    have HR1 := hid hr1
    have HT1 := hid ht1
    have HF1 := hid hf1
    have HK := hid hk
    clear hr1 ht1 hf1 hk
    go_upto_region 4 with (go_at_call 38; refine (twice_any _ _).mono ?_; rintro e w' ⟨rfl, rfl⟩)
    generalize hp1 : p ^^^ twice p = p1 at *
    have HP1 := hid hp1
    clear hp1
    go_upto_region 7 with (fail)
    generalize hq1 : (q ^^^ q <<< 1 ^^^ (q ^^^ q <<< 1) <<< 2 ^^^ (q ^^^ q <<< 1 ^^^ (q ^^^ q <<< 1) <<< 2) <<< 4) = q1 at *
    have HQ1 : Hid (q3 q = q1) := hq1
    clear hq1
    have ec := HT1.out.cell8 p1.toNat p1.isLt
    have ef := HT1.out.free p1.toNat
    have elt : p1.toNat < 256 := p1.isLt
    by_cases hb : q1 &&& 128#8 = 0#8
    case' pos =>
      have hb2 : ((q1 &&& 128#8) != 0#8) = false := by rw [hb]; rfl
      have HB := hid hb
      clear hb
      go_upto_region 9 with (fail)
      have HQN : Hid (qNext q = q1) := by show qNext q = q1; rw [qNext, HQ1.out, if_pos HB.out]
      clear hb2
      obtain ⟨q2, rfl⟩ : ∃ q2 : BitVec 8, q2 = q1 := ⟨_, rfl⟩
      clear HQ1 HB
    case' neg =>
      have hb2 : ((q1 &&& 128#8) != 0#8) = true := by simp [hb]
      have HB := hid hb
      clear hb
      go_upto_region 9 with (fail)
      have HQN : Hid (qNext q = q1 ^^^ 9#8) := by show qNext q = _; rw [qNext, HQ1.out, if_neg HB.out]
      clear hb2
      generalize q1 ^^^ 9#8 = q2 at *
      clear HQ1 HB
    all_goals
      go_upto_region 10 with (go_at_call 39; refine (rot8_any _ _ _ (by decide)).mono ?_; rintro e w' ⟨rfl, rfl⟩)
      have hT2 := HT1.out.set p1.toNat (W8 (boxOf q2))
      rw [upd_w8] at hT2
      have eT : upd (tabTo k) p1.toNat (boxOf q2) = tabTo (k + 1) := by rw [HT.out, ← HQN.out]; rw [show pNext p = p1 from HP1.out]
      rw [eT] at hT2
      have hR2 := HR1.out.other ⟨w.heap.size + 1, p1.toNat, none⟩ (W8 (boxOf q2)) (by simp)
      have hF2 := HF1.out.set ⟨w.heap.size + 1, p1.toNat, none⟩ (W8 (boxOf q2)) (fun h => by simp at h; omega)
      clear eT ec ef
      have eb : q2 ^^^ q2.rotateLeft 1 ^^^ q2.rotateLeft 2 ^^^ q2.rotateLeft 3 ^^^ q2.rotateLeft 4 ^^^ 99#8 = boxOf q2 := rfl
      rw [eb]
      clear eb
      generalize wr.setCell ⟨w.heap.size + 1, p1.toNat, none⟩ (W8 (boxOf q2)) = w2 at hT2 hR2 hF2 ⊢
      have c0 := hT2.cell8 0 (by omega)
      have c0f := hT2.free 0
      have HT2 := hid hT2
      have HR2 := hid hR2
      have HF2 := hid hF2
      clear hT2 hR2 hF2
      by_cases hgk : gk = 0
      case pos =>
        have hk2 : k = 254 := by have := HK.out; omega
        have ep : p1 = 1#8 := by
          have h := p_last
          rw [← HP1.out]; show pNext p = 1#8; rw [show pNext p = (pq 255).1 from by rw [show (255 : Nat) = k + 1 by omega]; exact HPQ.out.symm]; exact h
        have ept : (p1 == 1#8) = true := by rw [ep]; rfl
        have HEP := hid ep
        have HK2 := hid hk2
        clear ep hk2 hgk
        go_upto_region 12 with (fail)
        have hT3 := HT2.out.set 0 (W8 99#8)
        rw [upd_w8, HK2.out] at hT3
        have hR3 := HR2.out.other ⟨w.heap.size + 1, 0, none⟩ (W8 99#8) (by simp)
        have hF3 := HF2.out.set ⟨w.heap.size + 1, 0, none⟩ (W8 99#8) (fun h => by simp at h; omega)
        have hT3' : Row (w2.setCell ⟨w.heap.size + 1, 0, none⟩ (.int .u8 99)) (w.heap.size + 1) 47 256 (w8 tabF) := hT3
        have hR3' : Row (w2.setCell ⟨w.heap.size + 1, 0, none⟩ (.int .u8 99)) w.heap.size 47 256 (w8 fun _ => 0#8) := hR3
        have hF3' : Frm Nil w (w2.setCell ⟨w.heap.size + 1, 0, none⟩ (.int .u8 99)) := hF3
        clear hT3 hR3 hF3 c0 c0f
        generalize w2.setCell ⟨w.heap.size + 1, 0, none⟩ (.int .u8 99) = w3 at hT3' hR3' hF3' ⊢
        have HC3 : Hid (∀ i, i < 256 → w3.cell? ⟨w.heap.size + 1, 0 + i, none⟩ = some (w8 tabF i)) := fun i hi => by rw [Nat.zero_add]; exact hT3'.cell i hi
        have HR3 := hid hR3'
        have HF3 := hid hF3'
        clear hT3' hR3' hF3'
        go_wp2_with (first | (refine wpList_load_fn rfl 47 _ rfl (w.heap.size + 1) 0 256 (w8 tabF) rfl _ HC3.out Try.underlying47 rfl (by kernel_rfl) ?_) | (refine wpList_store_fn rfl 47 _ _ rfl rfl w.heap.size 0 256 256 _ _ (w8 tabF) rfl rfl HR3.out (by kernel_rfl) (by omega) (fun _ _ => rfl) ?_))
        have hR4 := HR3.out.setRow (splice (w8 fun _ => 0#8) 0 256 (w8 tabF))
        have hF4 := HF3.out.setRow w.heap.size (rowOf 256 (splice (w8 fun _ => 0#8) 0 256 (w8 tabF))) (fun h => by omega)
        refine bodyPost_ret (v := .agg (rowOf 256 (w8 tabF))) (results_cell_fn rfl _ _ w.heap.size 256 (w8 tabF) _ rfl ?_ Try.underlying47 rfl (by kernel_rfl)) rfl ⟨rfl, hF4⟩
        intro i hi
        rw [hR4.cell i hi]; simp only [splice]; rw [if_pos (by omega)]; rfl
      case neg =>
        have ept : (p1 == 1#8) = false := by
          have h := HNOT.out (by have := HK.out; omega)
          rw [show pNext p = p1 from HP1.out] at h
          simp [h]
        go_wp2_with fail
        go_roundg (gk - 1)
        case measure => omega
        case rel =>
          refine ⟨k + 1, by have := HK.out; omega, ?_, ?_, HR2.out, HT2.out, HF2.out⟩
          · rw [HPQ.out, show pNext p = p1 from HP1.out]
          · rw [HQ.out, HQN.out]
end Go.Proofs.Ytljddimmhjiehaa
