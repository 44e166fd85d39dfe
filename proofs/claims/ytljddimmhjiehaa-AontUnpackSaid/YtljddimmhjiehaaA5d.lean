/- The reference of layer 6: a number of sixteen bytes and another one; a text hidden. -/
import Derived.Test.YtljddimmhjiehaaA5c
namespace Go.Proofs.Ytljddimmhjiehaa
open Go.RowKit

def rcSt (x : Nat → BitVec 8) (n : BitVec 64) : Nat → (Nat → BitVec 8) × BitVec 64 × BitVec 64
  | 0 => (x, n, 0#64)
  | k + 1 =>
    let s := ((rcSt x n k).1 (15 - k)).setWidth 64 + ((rcSt x n k).2.1.setWidth 8).setWidth 64 + (rcSt x n k).2.2
    (upd (rcSt x n k).1 (15 - k) (s.setWidth 8), (rcSt x n k).2.1 >>> 8, s >>> 8)
def rcF (x : Nat → BitVec 8) (n : BitVec 64) : Nat → BitVec 8 := (rcSt x n 16).1
set_option maxHeartbeats 1000000 in
set_option maxRecDepth 100000 in
theorem rc_core (x out : Nat → BitVec 8) (n : BitVec 64) (w : World) (ho : rcF x n = out) :
    Calls Try.prog 54 #[.agg (rowOf 16 (w8 x)), W64 n] w fun e w' => e = .returned (.agg (rowOf 16 (w8 out))) ∧ Frm Nil w w' := by
  have HO := hid ho
  clear ho
  go_enter Try.func54, Try.ntmps54
  have hx0 := (Row.new w 57 16 (w8 x)).alloc (.cells (rowOf 16 (w8 fun _ => 0#8)) 57)
  have hr0 := Row.new (w.alloc (.cells (rowOf 16 (w8 x)) 57)) 57 16 (w8 fun _ => 0#8)
  rw [World.size_alloc] at hr0
  have hf0 := ((Frm.refl Nil w).alloc (.cells (rowOf 16 (w8 x)) 57)).alloc (.cells (rowOf 16 (w8 fun _ => 0#8)) 57)
  have HX0 := hid hx0
  have HR0 := hid hr0
  have HF0 := hid hf0
  clear hx0 hr0 hf0
  go_upto_region 1 with fail
  rw [zero8_16]
  generalize (w.alloc (.cells (rowOf 16 (w8 x)) 57)).alloc (.cells (rowOf 16 (w8 fun _ => 0#8)) 57) = w0 at HX0 HR0 HF0 ⊢
  generalize hT : w.heap.size = T at *
  go_wp2_with fail
  go_loopw [1, 5, 6] (fun vn vc vk wr => ∃ k : Nat, k ≤ 16 ∧ vk = .int .i64 (k : Int) ∧ vn = W64 (rcSt x n k).2.1 ∧ vc = W64 (rcSt x n k).2.2 ∧ Row wr T 57 16 (w8 (rcSt x n k).1) ∧ Row wr (T + 1) 57 16 (w8 fun _ => 0#8) ∧ Frm Nil w wr) (fun _ _ vk _ => 16 - (intOf vk).toNat)
  case atStart => exact ⟨0, by omega, rfl, rfl, rfl, HX0.out, HR0.out, HF0.out⟩
  case round =>
    clear HX0 HR0 HF0
    obtain ⟨k, hk, rfl, rfl, rfl, hx, hr, hf⟩ := hrel
    by_cases hlt : k < 16
    · have hst : rcSt x n (k + 1) = (upd (rcSt x n k).1 (15 - k) ((((rcSt x n k).1 (15 - k)).setWidth 64 + ((rcSt x n k).2.1.setWidth 8).setWidth 64 + (rcSt x n k).2.2).setWidth 8), (rcSt x n k).2.1 >>> 8, (((rcSt x n k).1 (15 - k)).setWidth 64 + ((rcSt x n k).2.1.setWidth 8).setWidth 64 + (rcSt x n k).2.2) >>> 8) := rfl
      have p0 := hx.cell8 (15 - k) (by omega)
      have p1 := hx.free (15 - k)
      generalize (rcSt x n k).1 = f at *
      generalize (rcSt x n k).2.1 = m at *
      generalize (rcSt x n k).2.2 = c at *
      generalize f (15 - k) = b at *
      have e1 : ((15 : Int) - (k : Int)).toNat = 15 - k := by omega
      have HST := hid hst
      have HX := hid hx
      have HR := hid hr
      have HF := hid hf
      clear hst hx hr hf
      go_wp2_with fail
      go_roundw
      case rel =>
        have h1 := HX.out.set (15 - k) (W8 ((b.setWidth 64 + (m.setWidth 8).setWidth 64 + c).setWidth 8))
        rw [upd_w8] at h1
        refine ⟨k + 1, by omega, by go_num, by rw [HST.out], by rw [HST.out], ?_, HR.out.other _ _ (show T + 1 ≠ T by omega), HF.out.set _ _ (fun h => by have h2 : T < w.heap.size := h; omega)⟩
        rw [HST.out]
        first | exact h1 | (rw [setWidth_there]; exact h1)
      case measure => simp [intOf]; omega
    · have hx2 : Row wr T 57 16 (w8 out) := by
        have e : (rcSt x n k).1 = out := by rw [← HO.out, rcF, show k = 16 by omega]
        rw [e] at hx; exact hx
      have HC : Hid (∀ j, j < 16 → wr.cell? ⟨T, 0 + j, none⟩ = some (w8 out j)) := fun j hj => by rw [Nat.zero_add]; exact hx2.cell j hj
      have HR := hid hr
      have HF := hid hf
      clear hx hr hf hx2
      go_wp2_with (first | (refine wpList_load_fn rfl 57 _ rfl T 0 16 (w8 out) rfl _ HC.out Try.underlying57 rfl (by kernel_rfl) ?_) | (refine wpList_store_fn rfl 57 _ _ rfl rfl (T + 1) 0 16 16 _ _ (w8 out) rfl rfl HR.out (by kernel_rfl) (by omega) (fun _ _ => rfl) ?_))
      exact bodyPost_cell rfl (T + 1) 16 _ _ _ rfl (HR.out.over _) Try.underlying57 rfl (by kernel_rfl) rfl ⟨rfl, HF.out.setRow _ _ (fun h => by omega)⟩
/-- A block's bytes under the counter. -/
def bF (t ks x : Nat → BitVec 8) (j : Nat) : Nat → BitVec 8 := blk t ks (rcF x (BitVec.ofNat 64 j)) 14
def bPrev (t ks x : Nat → BitVec 8) (i : Nat) : Nat → BitVec 8 := if i = 0 then fun _ => 0#8 else bF t ks x ((i - 1) / 16)
def fastTo (t ks x : Nat → BitVec 8) (l : List (BitVec 8)) : Nat → List (BitVec 8)
  | 0 => []
  | i + 1 => fastTo t ks x l i ++ [l.getD i 0#8 ^^^ bF t ks x (i / 16) (i % 16)]
theorem fastTo_len (t ks x : Nat → BitVec 8) (l : List (BitVec 8)) : ∀ n, (fastTo t ks x l n).length = n
  | 0 => rfl
  | n + 1 => by rw [fastTo, List.length_append, fastTo_len t ks x l n]; rfl
set_option maxHeartbeats 4000000 in
set_option maxRecDepth 100000 in
theorem fast_core (t key ks x : Nat → BitVec 8) (l out : List (BitVec 8)) (sv : Value) (w : World) (hs : Seg w sv (l.map W8)) (hl : l.length ≤ 1000000) (hks : keysOf t key = ks) (ho : fastTo t ks x l l.length = out) :
    Calls Try.prog 35 #[.agg (rowOf 256 (w8 t)), .agg (rowOf 32 (w8 key)), .agg (rowOf 16 (w8 x)), sv] w fun e w' => Fresh8 out w e w' := by
  have HO := hid ho
  have HWD := hid (fun w => words_core t key ks w hks)
  obtain ⟨ao, cp, hv, h0, hc⟩ := hs
  rw [List.length_map] at hv
  subst hv
  have HC : Hid (∀ i, i < l.length → ∃ a, ao = some a ∧ w.cell? (a.add i) = some (W8 (l.getD i 0#8))) := fun i hi => by
    cases ao with
    | none => have := (h0 rfl).1; simp at this; subst this; simp at hi
    | some a => exact ⟨a, rfl, hc a rfl i _ (by rw [List.getElem?_map, List.getD_eq_getElem?_getD, List.getElem?_eq_getElem hi]; rfl)⟩
  clear hc h0 ho hks
  go_enter Try.func35, Try.ntmps35
  have ht0 := ((Row.new w 47 256 (w8 t)).alloc (.cells (rowOf 32 (w8 key)) 26)).alloc (.cells (rowOf 16 (w8 x)) 57)
  have hk0 := (Row.new (w.alloc (.cells (rowOf 256 (w8 t)) 47)) 26 32 (w8 key)).alloc (.cells (rowOf 16 (w8 x)) 57)
  have hx0 := Row.new ((w.alloc (.cells (rowOf 256 (w8 t)) 47)).alloc (.cells (rowOf 32 (w8 key)) 26)) 57 16 (w8 x)
  rw [World.size_alloc] at hk0
  rw [World.size_alloc, World.size_alloc] at hx0
  have hf0 := (((Frm.refl Nil w).alloc (.cells (rowOf 256 (w8 t)) 47)).alloc (.cells (rowOf 32 (w8 key)) 26)).alloc (.cells (rowOf 16 (w8 x)) 57)
  have hz0 : (((w.alloc (.cells (rowOf 256 (w8 t)) 47)).alloc (.cells (rowOf 32 (w8 key)) 26)).alloc (.cells (rowOf 16 (w8 x)) 57)).heap.size = w.heap.size + 3 := by simp
  have HT0 := hid ht0
  have HX0 := hid hx0
  have HF0 := hid hf0
  have HK0 := hid hk0
  have HZ0 := hid hz0
  clear ht0 hk0 hx0 hf0 hz0
  go_upto_region 1 with fail
  generalize ((w.alloc (.cells (rowOf 256 (w8 t)) 47)).alloc (.cells (rowOf 32 (w8 key)) 26)).alloc (.cells (rowOf 16 (w8 x)) 57) = w0 at HT0 HX0 HF0 HK0 HZ0 ⊢
  have HC1 : Hid (∀ j, j < 256 → w0.cell? ⟨w.heap.size, 0 + j, none⟩ = some (w8 t j)) := fun j hj => by rw [Nat.zero_add]; exact HT0.out.cell j hj
  have HC2 : Hid (∀ j, j < 32 → w0.cell? ⟨w.heap.size + 1, 0 + j, none⟩ = some (w8 key j)) := fun j hj => by rw [Nat.zero_add]; exact HK0.out.cell j hj
  go_wp2_with (first | (refine wpList_load_fn rfl 47 _ rfl w.heap.size 0 256 (w8 t) rfl _ HC1.out Try.underlying47 rfl (by kernel_rfl) ?_) | (refine wpList_load_fn rfl 26 _ rfl (w.heap.size + 1) 0 32 (w8 key) rfl _ HC2.out Try.underlying26 rfl (by kernel_rfl) ?_))
  refine (HWD.out w0).mono ?_
  rintro e w1 ⟨G, rfl, hG, hf1, hGl⟩
  rw [HZ0.out] at hGl
  have HT1 := hid (hf1.row HT0.out (by simp [Nil]))
  have HX1 := hid (hf1.row HX0.out (by simp [Nil]))
  have HG1 := hid hG
  have HF1 := hid (HF0.out.trans hf1 (fun _ _ h => h))
  have hGlt := hG.lt
  clear hf1 hG HT0 HX0 HF0 HK0 HZ0 HC1 HC2
  go_upto_region 4 with (refine wpList_store_fn rfl 57 _ _ rfl rfl w1.heap.size 0 16 16 57 (w8 fun _ => 0#8) (w8 fun _ => 0#8) rfl (congrArg Value.agg zero8_16) (Row.new w1 57 16 (w8 fun _ => 0#8)) (by kernel_rfl) (by omega) (fun _ _ => rfl) ?_)
  rw [zero8_16]
  have hb2 := (Row.new w1 57 16 (w8 fun _ => 0#8)).over (w8 fun _ => 0#8)
  have hf2 : Frm Nil w1 ((w1.alloc (.cells (rowOf 16 (w8 fun _ => 0#8)) 57)).setRow w1.heap.size (rowOf 16 (splice (w8 fun _ => 0#8) 0 16 (w8 fun _ => 0#8)))) :=
    ((Frm.refl Nil w1).alloc (.cells (rowOf 16 (w8 fun _ => 0#8)) 57)).setRow w1.heap.size _ (fun h => by omega)
  generalize (w1.alloc (.cells (rowOf 16 (w8 fun _ => 0#8)) 57)).setRow w1.heap.size (rowOf 16 (splice (w8 fun _ => 0#8) 0 16 (w8 fun _ => 0#8))) = w2 at hb2 hf2 ⊢
  generalize hB : w1.heap.size = B at *
  have HB2 := hid hb2
  have HT2 := hid (hf2.row HT1.out (by simp [Nil]))
  have HX2 := hid (hf2.row HX1.out (by simp [Nil]))
  have HG2 := hid (hf2.row HG1.out (by simp [Nil]))
  have HF2 := hid (HF1.out.trans hf2 (fun _ _ h => h))
  clear hb2 hf2 hB HT1 HX1 HG1 HF1
  generalize hT : w.heap.size = T at *
  have hzb : B + 1 ≤ w2.heap.size := by have := HB2.out.lt; omega
  have HBQ := hid (show Row w2 B 57 16 (w8 (bPrev t ks x 0)) from HB2.out)
  clear HB2
  go_wp2_with fail
  go_loopw [10, 12] (fun vo vi wr => ∃ (i : Nat) (q : Value), q = vo ∧ i ≤ l.length ∧ vi = .int .i64 (i : Int) ∧ New w wr 5 vo ((fastTo t ks x l i).map W8) ∧ (∀ g, vo.ownBlock = some g → B + 1 ≤ g) ∧ Row wr B 57 16 (w8 (bPrev t ks x i)) ∧ Row wr T 47 256 (w8 t) ∧ Row wr (T + 2) 57 16 (w8 x) ∧ Row wr G 5 240 (w8 ks) ∧ B + 1 ≤ wr.heap.size) (fun _ vi _ => l.length - (intOf vi).toNat)
  case atStart => exact ⟨0, _, rfl, by omega, rfl, New.nil _ HF2.out, (fun g hg => by simp [Value.ownBlock] at hg), HBQ.out, HT2.out, HX2.out, HG2.out, hzb⟩
  case round =>
    clear HF2 HBQ HT2 HX2 HG2 hzb
    obtain ⟨i, q, rfl, hi, rfl, hn, hq, hb, ht, hx, hg, hz⟩ := hrel
    by_cases hlt : i < l.length
    · have hst : fastTo t ks x l (i + 1) = fastTo t ks x l i ++ [l.getD i 0#8 ^^^ bF t ks x (i / 16) (i % 16)] := rfl
      have hpn : bPrev t ks x (i + 1) = bF t ks x (i / 16) := by unfold bPrev; rw [if_neg (by omega), Nat.add_sub_cancel]
      have hlen := fastTo_len t ks x l i
      obtain ⟨a, rfl, hca⟩ := HC.out i hlt
      generalize fastTo t ks x l i = s at *
      have HST := hid hst
      have HPN := hid hpn
      have HLEN := hid hlen
      have HN := hid hn
      have HQ := hid hq
      have HB := hid hb
      have HT := hid ht
      have HX := hid hx
      have HG := hid hg
      have HCA := hid hca
      clear hst hpn hlen hn hq hb ht hx hg hca
      go_upto_if 25 with (fail)
      go_cut [] (fun wc => New w wc 5 q (s.map W8) ∧ Row wc B 57 16 (w8 (bF t ks x (i / 16))) ∧ Row wc T 47 256 (w8 t) ∧ Row wc (T + 2) 57 16 (w8 x) ∧ Row wc G 5 240 (w8 ks) ∧ B + 1 ≤ wc.heap.size)
      case first =>
        by_cases h16 : i % 16 = 0
        · have hb0 : (((i : Int) % 16) == 0) = true := by simp; omega
          have hcn : rcF x (BitVec.ofInt 64 ((i : Int) / 16)) = rcF x (BitVec.ofNat 64 (i / 16)) := by
            congr 1
          have hbk : blk t ks (rcF x (BitVec.ofNat 64 (i / 16))) 14 = bF t ks x (i / 16) := rfl
          generalize bF t ks x (i / 16) = b2 at *
          generalize rcF x (BitVec.ofNat 64 (i / 16)) = F at *
          have HCN := hid hcn
          have HBK := hid hbk
          clear hcn hbk h16
          go_upto_region 8 with fail
          refine wp_region_later_tail 8 (by kernel_rfl) (by kernel_rfl) ?_
          simp only [List.take_succ_cons, List.take_zero, List.drop_succ_cons, List.drop_zero]
          have HCT := hid (later_cells HT.out)
          have HCX := hid (later_cells HX.out)
          refine wpQuiet_load_fn rfl 47 _ rfl T 0 256 (w8 t) rfl _ HCT.out Try.underlying47 rfl (by kernel_rfl) ?_
          simp only [Act.put, List.setIfInBounds_toArray, List.set_cons_succ, List.set_cons_zero]
          repeat (go_big_quiet_step (fail))
          refine wpQuiet_load_fn rfl 57 _ rfl (T + 2) 0 16 (w8 x) rfl _ HCX.out Try.underlying57 rfl (by kernel_rfl) ?_
          simp only [Act.put, List.setIfInBounds_toArray, List.set_cons_succ, List.set_cons_zero]
          repeat (go_big_quiet_step (first | (go_at_call 54; refine later_of (rc_core x F _ _ HCN.out)) | (go_at_call 53; refine later_of (blk_core t ks F b2 G _ ((frm_later _ _ _).row HG.out (by simp [Nil])) HBK.out))))
          refine wpQuiet_nil ?_
          intro w6 hf6
          have HN6 := hid (HN.out.later hf6)
          have HB6 := hid (hf6.row HB.out (by simp [Nil]))
          have HT6 := hid (hf6.row HT.out (by simp [Nil]))
          have HX6 := hid (hf6.row HX.out (by simp [Nil]))
          have HG6 := hid (hf6.row HG.out (by simp [Nil]))
          have hz6 : B + 1 ≤ w6.heap.size := by have := hf6.size; omega
          clear hf6 HN HB HT HX HG HCT HCX
          go_wp2_with (refine wpList_store_fn rfl 57 _ _ rfl rfl B 0 16 16 _ _ (w8 b2) rfl rfl HB6.out (by kernel_rfl) (by omega) (fun _ _ => rfl) ?_)
          go_meet
          case rel => exact ⟨HN6.out.besides ((Frm.refl (fun k => k = B) w6).setRow _ _ (fun _ => rfl)) (fun g hg h => by have := HQ.out g hg; omega) (fun g h => by omega), HB6.out.over _, HT6.out.setRow_other (by omega) _, HX6.out.setRow_other (by omega) _, HG6.out.setRow_other (by omega) _, by simp; omega⟩
        · have hb0 : (((i : Int) % 16) == 0) = false := by simp; omega
          have HE := hid (show bPrev t ks x i = bF t ks x (i / 16) by unfold bPrev; rw [if_neg (by omega)]; congr 1; omega)
          clear h16
          go_wp2_with fail
          go_meet
          case rel => exact ⟨HN.out, by rw [← HE.out]; exact HB.out, HT.out, HX.out, HG.out, hz⟩
      case rest =>
        clear HN HB HT HX HG hz
        obtain ⟨hn, hb, ht, hx, hg, hz⟩ := hcut
        have hst := HST.out
        have hpn := HPN.out
        have c1 := fun d os => cell_regrown (hn.frm.cell HCA.out (by simp [Nil])) d os
        have c2 := run_later hb (i % 16) (by omega)
        generalize bF t ks x (i / 16) = b2 at *
        generalize b2 (i % 16) = bv at *
        generalize l.getD i 0#8 = lv at *
        have e1 : ((i : Int) % 16).toNat = i % 16 := by omega
        have HST2 := hid hst
        have HPN2 := hid hpn
        have HN := hid hn
        have HB := hid hb
        have HT := hid ht
        have HX := hid hx
        have HG := hid hg
        clear HST HPN HCA hst hpn hn hb ht hx hg
        go_upto_region 9 with fail
        refine wp_region_later_mtail (x := .tmp 10) 9 (by kernel_rfl) rfl rfl (by kernel_rfl) (by kernel_rfl) (by kernel_rfl) (fun _ _ _ _ h => h) ?_
        simp only [List.take_succ_cons, List.take_zero, List.drop_succ_cons, List.drop_zero, Act.put, Act.eval]
        simp only [Array.getD_eq_getD_getElem?, List.getElem?_toArray, List.getElem?_cons_succ, List.getElem?_cons_zero, Option.getD_some, List.setIfInBounds_toArray, List.set_cons_succ, List.set_cons_zero]
        repeat (go_big_quiet_step (fail))
        refine wpQuiet_nil ?_
        intro w6 hf6
        have HN6 := hid (HN.out.later hf6)
        have HB6 := hid (hf6.row HB.out (by simp [Nil]))
        have HT6 := hid (hf6.row HT.out (by simp [Nil]))
        have HX6 := hid (hf6.row HX.out (by simp [Nil]))
        have HG6 := hid (hf6.row HG.out (by simp [Nil]))
        have hz6 : B + 1 ≤ w6.heap.size := by have := hf6.size; omega
        clear hf6 HN HB HT HX HG c1 c2
        go_wp2_with (at_builtin; go_loud (refine push8 HN6.out _ (by rw [HLEN.out]; omega) rfl _ _ rfl (by rfl) (by rfl) ?_))
        intro q2 w7 hn7 hf7 hv7
        have HN7 : Hid (New w w7 5 q2 ((s ++ [lv ^^^ bv]).map W8)) := by
          rw [List.map_append]; exact hn7
        have hnb : ∀ g, q.ownBlock = some g → B + 1 ≤ g := HQ.out
        have HQ7 : Hid (∀ g, q2.ownBlock = some g → B + 1 ≤ g) := fun g hg => by
          rcases hv7 with h | ⟨g', h, hl⟩
          · rw [h] at hg; exact hnb g hg
          · rw [h] at hg; cases hg; omega
        have HB7 := hid (hf7.row HB6.out (fun h => by have := hnb _ h; omega))
        have HT7 := hid (hf7.row HT6.out (fun h => by have := hnb _ h; omega))
        have HX7 := hid (hf7.row HX6.out (fun h => by have := hnb _ h; omega))
        have HG7 := hid (hf7.row HG6.out (fun h => by have := hnb _ h; omega))
        have hz7 : B + 1 ≤ w7.heap.size := by have := hf7.size; omega
        clear hn7 hf7 hv7 HN6 HB6 HT6 HX6 HG6 HQ hnb
        go_wp2_with fail
        go_roundw
        case rel => exact ⟨i + 1, _, rfl, by omega, by go_num, by rw [HST2.out]; exact HN7.out, HQ7.out, by rw [HPN2.out]; exact HB7.out, HT7.out, HX7.out, HG7.out, hz7⟩
        case measure => simp [intOf]; omega
    · have HN := hid (show New w wr 5 q (out.map W8) by
        have e : fastTo t ks x l i = out := by rw [← HO.out, show i = l.length by omega]
        rw [e] at hn; exact hn)
      clear hn hq hb ht hx hg
      go_wp2_with fail
      go_ret
      exact ⟨_, rfl, HN.out⟩
end Go.Proofs.Ytljddimmhjiehaa
