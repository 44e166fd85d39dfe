/- The reference of layer 5: a block. -/
import Derived.Test.YtljddimmhjiehaaA5b
namespace Go.Proofs.Ytljddimmhjiehaa
open Go.RowKit

def mixB (y : Nat → BitVec 8) : Nat → BitVec 8 := fun i => twice (y i) ^^^ (y (4 * (i / 4) + (i % 4 + 1) % 4) ^^^ twice (y (4 * (i / 4) + (i % 4 + 1) % 4))) ^^^ y (4 * (i / 4) + (i % 4 + 2) % 4) ^^^ y (4 * (i / 4) + (i % 4 + 3) % 4)
def mixR (r : Nat) (y : Nat → BitVec 8) : Nat → BitVec 8 := if r < 14 then mixB y else y
def blk (t ks x : Nat → BitVec 8) : Nat → Nat → BitVec 8
  | 0 => addB ks x 0
  | r + 1 => addB ks (mixR (r + 1) (rowsB t (blk t ks x r))) (r + 1)
theorem run_later {w : World} {b n : Nat} {T : TypeId} {f : Nat → BitVec 8} (h : Row w b T n (w8 f)) (i : Nat) (hi : i < n) : ∀ (d : Nat) (os : Array Obj), (Sort.grow (redrawn w d) os).cell? ⟨b, i, none⟩ = some (W8 (f i)) := fun d os => cell_regrown (h.cell8 i hi) d os
set_option maxHeartbeats 4000000 in
set_option maxRecDepth 100000 in
theorem blk_core (t ks x out : Nat → BitVec 8) (G : Nat) (w : World) (hG : Row w G 5 240 (w8 ks)) (ho : blk t ks x 14 = out) :
    Calls Try.prog 53 #[.agg (rowOf 256 (w8 t)), .slice (some ⟨G, 0, none⟩) 240 240, .agg (rowOf 16 (w8 x))] w fun e w' => e = .returned (.agg (rowOf 16 (w8 out))) ∧ Frm Nil w w' := by
  have HO := hid ho
  clear ho
  go_enter Try.func53, Try.ntmps53
  have ht0 := ((Row.new w 47 256 (w8 t)).alloc (.cells (rowOf 16 (w8 x)) 57)).alloc (.cells (rowOf 16 (w8 fun _ => 0#8)) 57)
  have hx0 := (Row.new (w.alloc (.cells (rowOf 256 (w8 t)) 47)) 57 16 (w8 x)).alloc (.cells (rowOf 16 (w8 fun _ => 0#8)) 57)
  have hr0 := Row.new ((w.alloc (.cells (rowOf 256 (w8 t)) 47)).alloc (.cells (rowOf 16 (w8 x)) 57)) 57 16 (w8 fun _ => 0#8)
  rw [World.size_alloc] at hx0
  rw [World.size_alloc, World.size_alloc] at hr0
  have hf0 := (((Frm.refl Nil w).alloc (.cells (rowOf 256 (w8 t)) 47)).alloc (.cells (rowOf 16 (w8 x)) 57)).alloc (.cells (rowOf 16 (w8 fun _ => 0#8)) 57)
  have hg0 := hf0.row hG (by simp [Nil])
  have HT0 := hid ht0
  have HX0 := hid hx0
  have HR0 := hid hr0
  have HF0 := hid hf0
  have HG0 := hid hg0
  have hz0 : (((w.alloc (.cells (rowOf 256 (w8 t)) 47)).alloc (.cells (rowOf 16 (w8 x)) 57)).alloc (.cells (rowOf 16 (w8 fun _ => 0#8)) 57)).heap.size = w.heap.size + 3 := by simp
  have hGlt : G < w.heap.size := hG.lt
  clear ht0 hx0 hr0 hf0 hg0 hG
  go_upto_region 1 with fail
  rw [zero8_16]
  generalize ((w.alloc (.cells (rowOf 256 (w8 t)) 47)).alloc (.cells (rowOf 16 (w8 x)) 57)).alloc (.cells (rowOf 16 (w8 fun _ => 0#8)) 57) = w0 at HT0 HX0 HR0 HF0 HG0 hz0 ⊢
  have HC0 : Hid (∀ j, j < 16 → w0.cell? ⟨w.heap.size + 1, 0 + j, none⟩ = some (w8 x j)) := fun j hj => by rw [Nat.zero_add]; exact HX0.out.cell j hj
  have HZ0 := hid hz0
  clear hz0
  go_upto_region 2 with (first | (refine wpList_load_fn rfl 57 _ rfl (w.heap.size + 1) 0 16 (w8 x) rfl _ HC0.out Try.underlying57 rfl (by kernel_rfl) ?_) | (refine wpList_store_fn rfl 57 _ _ rfl rfl w0.heap.size 0 16 16 57 (w8 fun _ => 0#8) (w8 x) rfl rfl (Row.new w0 57 16 (w8 fun _ => 0#8)) (by kernel_rfl) (by omega) (fun _ _ => rfl) ?_))
  rw [zero8_16]
  have hs1 := (Row.new w0 57 16 (w8 fun _ => 0#8)).over (w8 x)
  have hf1 : Frm Nil w0 ((w0.alloc (.cells (rowOf 16 (w8 fun _ => 0#8)) 57)).setRow w0.heap.size (rowOf 16 (splice (w8 fun _ => 0#8) 0 16 (w8 x)))) :=
    ((Frm.refl Nil w0).alloc (.cells (rowOf 16 (w8 fun _ => 0#8)) 57)).setRow w0.heap.size _ (fun h => by omega)
  generalize (w0.alloc (.cells (rowOf 16 (w8 fun _ => 0#8)) 57)).setRow w0.heap.size (rowOf 16 (splice (w8 fun _ => 0#8) 0 16 (w8 x))) = w1 at hs1 hf1 ⊢
  rw [HZ0.out] at hs1 ⊢
  have HT1 := hid (hf1.row HT0.out (by simp [Nil]))
  have HR1 := hid (hf1.row HR0.out (by simp [Nil]))
  have HG1 := hid (hf1.row HG0.out (by simp [Nil]))
  have HF1 := hid (HF0.out.trans hf1 (fun _ _ h => h))
  have HS1 := hid (show Row w1 (w.heap.size + 3) 57 16 (w8 (partF x (addB ks x 0) 0)) by rw [partF_zero]; exact hs1)
  clear hs1 hf1 HC0 HT0 HX0 HR0 HF0 HG0 HZ0
  generalize hT : w.heap.size = T at *
  go_wp2_with fail
  go_loopw [8] (fun vi wr => ∃ i : Nat, i ≤ 16 ∧ vi = .int .i64 (i : Int) ∧ Row wr (T + 3) 57 16 (w8 (partF x (addB ks x 0) i)) ∧ Row wr T 47 256 (w8 t) ∧ Row wr (T + 2) 57 16 (w8 fun _ => 0#8) ∧ Row wr G 5 240 (w8 ks) ∧ Frm Nil w wr) (fun vi _ => 16 - (intOf vi).toNat)
  case atStart => exact ⟨0, by omega, rfl, HS1.out, HT1.out, HR1.out, HG1.out, HF1.out⟩
  case round =>
    clear HS1 HT1 HR1 HG1 HF1
    obtain ⟨i, hi, rfl, hs, ht, hr, hg, hf⟩ := hrel
    by_cases hlt : i < 16
    · have p0 := run_later hs i hlt
      rw [partF_at] at p0
      have p1 := run_later hg i (by omega)
      have HUP := hid (partF_step x (addB ks x 0) i (x i ^^^ ks i) (by simp [addB]))
      have HS := hid hs
      have HT := hid ht
      have HR := hid hr
      have HG := hid hg
      have HF := hid hf
      clear hs ht hr hg hf
      go_upto_region 5 with fail
      refine wp_region_later_tail 10 (by kernel_rfl) (by kernel_rfl) ?_
      simp only [List.take_succ_cons, List.take_zero, List.drop_succ_cons, List.drop_zero]
      repeat (go_big_quiet_step (fail))
      refine wpQuiet_nil ?_
      intro w6 hf6
      have HS6 := hid (hf6.row HS.out (by simp [Nil]))
      have HT6 := hid (hf6.row HT.out (by simp [Nil]))
      have HR6 := hid (hf6.row HR.out (by simp [Nil]))
      have HG6 := hid (hf6.row HG.out (by simp [Nil]))
      have HF6 := hid (HF.out.trans hf6 (fun _ _ h => h))
      clear hf6 HS HT HR HG HF p0 p1
      have p2 := HS6.out.cell8 i hlt
      have p3 := HS6.out.free i
      go_wp2_with fail
      go_roundw
      case rel =>
        have h1 := HS6.out.set i (W8 (x i ^^^ ks i))
        rw [upd_w8, HUP.out] at h1
        exact ⟨i + 1, by omega, by go_num, h1, HT6.out.other _ _ (show T ≠ T + 3 by omega), HR6.out.other _ _ (show T + 2 ≠ T + 3 by omega), HG6.out.other _ _ (show G ≠ T + 3 by omega), HF6.out.set _ _ (fun h => by have h2 : T + 3 < w.heap.size := h; omega)⟩
      case measure => simp [intOf]; omega
    · have HS := hid (show Row wr (T + 3) 57 16 (w8 (blk t ks x 0)) from hs.congr fun j hj => by simp only [w8]; rw [partF_full _ _ _ _ (by omega)]; rfl)
      have HT := hid ht
      have HR := hid hr
      have HG := hid hg
      have HF := hid hf
      have hzr : T + 4 ≤ wr.heap.size := by have := hs.lt; omega
      clear hs ht hr hg hf
      go_wp2_with fail
      obtain ⟨wo, rfl⟩ : ∃ wo : World, wo = wr := ⟨_, rfl⟩
      go_loopw [9] (fun vr wr => ∃ r : Nat, 1 ≤ r ∧ r ≤ 15 ∧ vr = .int .i64 (r : Int) ∧ Row wr (T + 3) 57 16 (w8 (blk t ks x (r - 1))) ∧ Row wr T 47 256 (w8 t) ∧ Row wr (T + 2) 57 16 (w8 fun _ => 0#8) ∧ Row wr G 5 240 (w8 ks) ∧ Frm Nil w wr ∧ T + 4 ≤ wr.heap.size) (fun vr _ => 15 - (intOf vr).toNat)
      case atStart => exact ⟨1, by omega, by omega, rfl, HS.out, HT.out, HR.out, HG.out, HF.out, hzr⟩
      case round =>
        clear HS HT HR HG HF hzr
        obtain ⟨r, hr1, hr2, rfl, hs, ht, hr, hg, hf, hz⟩ := hrel
        by_cases hlt : r < 15
        · have hst : blk t ks x (r + 1 - 1) = addB ks (mixR r (rowsB t (blk t ks x (r - 1)))) r := by
            obtain ⟨q, rfl⟩ : ∃ q, r = q + 1 := ⟨r - 1, by omega⟩
            rfl
          generalize blk t ks x (r - 1) = s at *
          have HST := hid hst
          have HS := hid hs
          have HT := hid ht
          have HR := hid hr
          have HG := hid hg
          have HF := hid hf
          clear hst hs ht hr hg hf
          go_upto_region 10 with (refine wpList_store_fn rfl 57 _ _ rfl rfl wr.heap.size 0 16 16 57 (w8 fun _ => 0#8) (w8 fun _ => 0#8) rfl (congrArg Value.agg zero8_16) (Row.new wr 57 16 (w8 fun _ => 0#8)) (by kernel_rfl) (by omega) (fun _ _ => rfl) ?_)
          rw [zero8_16]
          have hy0 := (Row.new wr 57 16 (w8 fun _ => 0#8)).over (w8 fun _ => 0#8)
          have hfy : Frm Nil wr ((wr.alloc (.cells (rowOf 16 (w8 fun _ => 0#8)) 57)).setRow wr.heap.size (rowOf 16 (splice (w8 fun _ => 0#8) 0 16 (w8 fun _ => 0#8)))) :=
            ((Frm.refl Nil wr).alloc (.cells (rowOf 16 (w8 fun _ => 0#8)) 57)).setRow wr.heap.size _ (fun h => by omega)
          generalize (wr.alloc (.cells (rowOf 16 (w8 fun _ => 0#8)) 57)).setRow wr.heap.size (rowOf 16 (splice (w8 fun _ => 0#8) 0 16 (w8 fun _ => 0#8))) = wy at hy0 hfy ⊢
          have hzy : wr.heap.size + 1 ≤ wy.heap.size := by have := hy0.lt; omega
          generalize hYe : wr.heap.size = Y at *
          clear hYe
          have HY1 := hid (show Row wy Y 57 16 (w8 (partF (fun _ => 0#8) (rowsB t s) (4 * 0))) by rw [Nat.mul_zero, partF_zero]; exact hy0)
          have HS1 := hid (hfy.row HS.out (by simp [Nil]))
          have HT1 := hid (hfy.row HT.out (by simp [Nil]))
          have HR1 := hid (hfy.row HR.out (by simp [Nil]))
          have HG1 := hid (hfy.row HG.out (by simp [Nil]))
          have HF1 := hid (HF.out.trans hfy (fun _ _ h => h))
          clear hy0 hfy HS HT HR HG HF
          go_wp2_with fail
          obtain ⟨wp, rfl⟩ : ∃ wp : World, wp = wr := ⟨_, rfl⟩
          go_loopw [11] (fun vc wi => ∃ c : Nat, c ≤ 4 ∧ vc = .int .i64 (c : Int) ∧ Row wi Y 57 16 (w8 (partF (fun _ => 0#8) (rowsB t s) (4 * c))) ∧ Row wi (T + 3) 57 16 (w8 s) ∧ Row wi T 47 256 (w8 t) ∧ Row wi (T + 2) 57 16 (w8 fun _ => 0#8) ∧ Row wi G 5 240 (w8 ks) ∧ Frm Nil w wi ∧ Y + 1 ≤ wi.heap.size) (fun vc _ => 4 - (intOf vc).toNat)
          case atStart => exact ⟨0, by omega, rfl, HY1.out, HS1.out, HT1.out, HR1.out, HG1.out, HF1.out, hzy⟩
          case round =>
            clear HY1 HS1 HT1 HR1 HG1 HF1 hzy
            obtain ⟨c, hc, rfl, hy, hs, ht, hr, hg, hf, hzi⟩ := hrel
            by_cases hltc : c < 4
            · have HY := hid hy
              have HS := hid hs
              have HT := hid ht
              have HR := hid hr
              have HG := hid hg
              have HF := hid hf
              clear hy hs ht hr hg hf
              go_wp2_with fail
              obtain ⟨wq, rfl⟩ : ∃ wq : World, wq = wr := ⟨_, rfl⟩
              go_loopw [12] (fun vk wi => ∃ k : Nat, k ≤ 4 ∧ vk = .int .i64 (k : Int) ∧ Row wi Y 57 16 (w8 (partF (fun _ => 0#8) (rowsB t s) (4 * c + k))) ∧ Row wi (T + 3) 57 16 (w8 s) ∧ Row wi T 47 256 (w8 t) ∧ Row wi (T + 2) 57 16 (w8 fun _ => 0#8) ∧ Row wi G 5 240 (w8 ks) ∧ Frm Nil w wi ∧ Y + 1 ≤ wi.heap.size) (fun vk _ => 4 - (intOf vk).toNat)
              case atStart => exact ⟨0, by omega, rfl, HY.out, HS.out, HT.out, HR.out, HG.out, HF.out, hzi⟩
              case round =>
                clear HY HS HT HR HG HF hzi
                obtain ⟨k, hk, rfl, hy, hs, ht, hr, hg, hf, hzi⟩ := hrel
                by_cases hltk : k < 4
                · have p0 := hs.cell8 (4 * ((c + k) % 4) + k) (by omega)
                  have hro : rowsB t s (4 * c + k) = t (s (4 * ((c + k) % 4) + k)).toNat := by
                    unfold rowsB
                    rw [show (4 * c + k + 4 * ((4 * c + k) % 4)) % 16 = 4 * ((c + k) % 4) + k by omega]
                  generalize s (4 * ((c + k) % 4) + k) = sv at p0 hro
                  have hsv : sv.toNat < 256 := sv.isLt
                  have p1 := ht.cell8 sv.toNat hsv
                  have p2 := hy.cell8 (4 * c + k) (by omega)
                  have p3 := hy.free (4 * c + k)
                  have HUP := hid (partF_step (fun _ => 0#8) (rowsB t s) (4 * c + k) _ hro)
                  have e1 : (4 * (((c : Int) + (k : Int)) % 4) + (k : Int)).toNat = 4 * ((c + k) % 4) + k := by
                    rw [show ((c : Int) + (k : Int)) % 4 = (((c + k) % 4 : Nat) : Int) by norm_cast]; omega
                  have e2 : (4 * (c : Int) + (k : Int)).toNat = 4 * c + k := by omega
                  have HY := hid hy
                  have HS := hid hs
                  have HT := hid ht
                  have HR := hid hr
                  have HG := hid hg
                  have HF := hid hf
                  clear hy hs ht hr hg hf hro
                  go_wp2_with fail
                  go_roundw
                  case rel =>
                    have h1 := HY.out.set (4 * c + k) (W8 (t sv.toNat))
                    rw [upd_w8, HUP.out] at h1
                    exact ⟨k + 1, by omega, by go_num, h1, HS.out.other _ _ (show T + 3 ≠ Y by omega), HT.out.other _ _ (show T ≠ Y by omega), HR.out.other _ _ (show T + 2 ≠ Y by omega), HG.out.other _ _ (show G ≠ Y by omega), HF.out.set _ _ (fun h => by have h2 : Y < w.heap.size := h; omega), by simp; omega⟩
                  case measure => simp [intOf]; omega
                · have HY := hid (show Row wr Y 57 16 (w8 (partF (fun _ => 0#8) (rowsB t s) (4 * (c + 1)))) by rw [show 4 * (c + 1) = 4 * c + k by omega]; exact hy)
                  have HS := hid hs
                  have HT := hid ht
                  have HR := hid hr
                  have HG := hid hg
                  have HF := hid hf
                  clear hy hs ht hr hg hf
                  go_wp2_with fail
                  go_roundw
                  case rel => exact ⟨c + 1, by omega, by go_num, HY.out, HS.out, HT.out, HR.out, HG.out, HF.out, hzi⟩
                  case measure => simp [intOf]; omega
            · have HY := hid (show Row wr Y 57 16 (w8 (rowsB t s)) from hy.congr fun j hj => by simp only [w8]; rw [partF_full _ _ _ _ (by omega)])
              have HS := hid hs
              have HT := hid ht
              have HR := hid hr
              have HG := hid hg
              have HF := hid hf
              clear hy hs ht hr hg hf
              generalize rowsB t s = y at *
              go_upto_if 62 with (fail)
              go_cut [] (fun wc => Row wc Y 57 16 (w8 (mixR r y)) ∧ Row wc (T + 3) 57 16 (w8 s) ∧ Row wc T 47 256 (w8 t) ∧ Row wc (T + 2) 57 16 (w8 fun _ => 0#8) ∧ Row wc G 5 240 (w8 ks) ∧ Frm Nil w wc ∧ Y + 1 ≤ wc.heap.size)
              case first =>
                by_cases h14 : r < 14
                · have HM := hid (show mixR r y = mixB y by unfold mixR; rw [if_pos h14])
                  have hd : decide ((r : Int) < 14) = true := by simp; omega
                  go_upto_region 19 with (refine wpList_store_fn rfl 57 _ _ rfl rfl wr.heap.size 0 16 16 57 (w8 fun _ => 0#8) (w8 fun _ => 0#8) rfl (congrArg Value.agg zero8_16) (Row.new wr 57 16 (w8 fun _ => 0#8)) (by kernel_rfl) (by omega) (fun _ _ => rfl) ?_)
                  rw [zero8_16]
                  have hz0 := (Row.new wr 57 16 (w8 fun _ => 0#8)).over (w8 fun _ => 0#8)
                  have hfz : Frm Nil wr ((wr.alloc (.cells (rowOf 16 (w8 fun _ => 0#8)) 57)).setRow wr.heap.size (rowOf 16 (splice (w8 fun _ => 0#8) 0 16 (w8 fun _ => 0#8)))) :=
                    ((Frm.refl Nil wr).alloc (.cells (rowOf 16 (w8 fun _ => 0#8)) 57)).setRow wr.heap.size _ (fun h => by omega)
                  generalize (wr.alloc (.cells (rowOf 16 (w8 fun _ => 0#8)) 57)).setRow wr.heap.size (rowOf 16 (splice (w8 fun _ => 0#8) 0 16 (w8 fun _ => 0#8))) = wz at hz0 hfz ⊢
                  have hzz : wr.heap.size + 1 ≤ wz.heap.size := by have := hz0.lt; omega
                  generalize hZe : wr.heap.size = Z at *
                  clear hZe
                  have HZ1 := hid (show Row wz Z 57 16 (w8 (partF (fun _ => 0#8) (mixB y) (4 * 0))) by rw [Nat.mul_zero, partF_zero]; exact hz0)
                  have HY1 := hid (hfz.row HY.out (by simp [Nil]))
                  have HS1 := hid (hfz.row HS.out (by simp [Nil]))
                  have HT1 := hid (hfz.row HT.out (by simp [Nil]))
                  have HR1 := hid (hfz.row HR.out (by simp [Nil]))
                  have HG1 := hid (hfz.row HG.out (by simp [Nil]))
                  have HF1 := hid (HF.out.trans hfz (fun _ _ h => h))
                  clear hz0 hfz HY HS HT HR HG HF
                  go_wp2_with fail
                  obtain ⟨wm, rfl⟩ : ∃ wm : World, wm = wr := ⟨_, rfl⟩
                  go_loopw [14] (fun vc wi => ∃ c : Nat, c ≤ 4 ∧ vc = .int .i64 (c : Int) ∧ Row wi Z 57 16 (w8 (partF (fun _ => 0#8) (mixB y) (4 * c))) ∧ Row wi Y 57 16 (w8 y) ∧ Row wi (T + 3) 57 16 (w8 s) ∧ Row wi T 47 256 (w8 t) ∧ Row wi (T + 2) 57 16 (w8 fun _ => 0#8) ∧ Row wi G 5 240 (w8 ks) ∧ Frm Nil w wi ∧ Z + 1 ≤ wi.heap.size) (fun vc _ => 4 - (intOf vc).toNat)
                  case atStart => exact ⟨0, by omega, rfl, HZ1.out, HY1.out, HS1.out, HT1.out, HR1.out, HG1.out, HF1.out, hzz⟩
                  case round =>
                    clear HZ1 HY1 HS1 HT1 HR1 HG1 HF1 hzz
                    obtain ⟨c, hc, rfl, hzr, hy, hs, ht, hr, hg, hf, hzi2⟩ := hrel
                    by_cases hltc : c < 4
                    · have HZ := hid hzr
                      have HY := hid hy
                      have HS := hid hs
                      have HT := hid ht
                      have HR := hid hr
                      have HG := hid hg
                      have HF := hid hf
                      clear hzr hy hs ht hr hg hf
                      go_wp2_with fail
                      obtain ⟨wq, rfl⟩ : ∃ wq : World, wq = wr := ⟨_, rfl⟩
                      go_loopw [15] (fun vk wi => ∃ k : Nat, k ≤ 4 ∧ vk = .int .i64 (k : Int) ∧ Row wi Z 57 16 (w8 (partF (fun _ => 0#8) (mixB y) (4 * c + k))) ∧ Row wi Y 57 16 (w8 y) ∧ Row wi (T + 3) 57 16 (w8 s) ∧ Row wi T 47 256 (w8 t) ∧ Row wi (T + 2) 57 16 (w8 fun _ => 0#8) ∧ Row wi G 5 240 (w8 ks) ∧ Frm Nil w wi ∧ Z + 1 ≤ wi.heap.size) (fun vk _ => 4 - (intOf vk).toNat)
                      case atStart => exact ⟨0, by omega, rfl, HZ.out, HY.out, HS.out, HT.out, HR.out, HG.out, HF.out, hzi2⟩
                      case round =>
                        clear HZ HY HS HT HR HG HF hzi2
                        obtain ⟨k, hk, rfl, hzr, hy, hs, ht, hr, hg, hf, hzi2⟩ := hrel
                        by_cases hltk : k < 4
                        · have p0 := run_later hy (4 * c + k) (by omega)
                          have p1 := run_later hy (4 * c + (k + 1) % 4) (by omega)
                          have p2 := run_later hy (4 * c + (k + 2) % 4) (by omega)
                          have p3 := run_later hy (4 * c + (k + 3) % 4) (by omega)
                          have hmx : mixB y (4 * c + k) = twice (y (4 * c + k)) ^^^ (y (4 * c + (k + 1) % 4) ^^^ twice (y (4 * c + (k + 1) % 4))) ^^^ y (4 * c + (k + 2) % 4) ^^^ y (4 * c + (k + 3) % 4) := by
                            unfold mixB
                            rw [show (4 * c + k) / 4 = c by omega, show (4 * c + k) % 4 = k by omega]
                          generalize y (4 * c + k) = a0 at p0 hmx
                          generalize y (4 * c + (k + 1) % 4) = a1 at p1 hmx
                          generalize y (4 * c + (k + 2) % 4) = a2 at p2 hmx
                          generalize y (4 * c + (k + 3) % 4) = a3 at p3 hmx
                          have HUP := hid (partF_step (fun _ => 0#8) (mixB y) (4 * c + k) _ hmx)
                          have e0 : (4 * (c : Int) + (k : Int)).toNat = 4 * c + k := by omega
                          have e1 : (4 * (c : Int) + ((k : Int) + 1) % 4).toNat = 4 * c + (k + 1) % 4 := by
                            rw [show ((k : Int) + 1) % 4 = (((k + 1) % 4 : Nat) : Int) by norm_cast]; omega
                          have e2 : (4 * (c : Int) + ((k : Int) + 2) % 4).toNat = 4 * c + (k + 2) % 4 := by
                            rw [show ((k : Int) + 2) % 4 = (((k + 2) % 4 : Nat) : Int) by norm_cast]; omega
                          have e3 : (4 * (c : Int) + ((k : Int) + 3) % 4).toNat = 4 * c + (k + 3) % 4 := by
                            rw [show ((k : Int) + 3) % 4 = (((k + 3) % 4 : Nat) : Int) by norm_cast]; omega
                          have HZ := hid hzr
                          have HY := hid hy
                          have HS := hid hs
                          have HT := hid ht
                          have HR := hid hr
                          have HG := hid hg
                          have HF := hid hf
                          clear hzr hy hs ht hr hg hf hmx
                          go_upto_region 25 with fail
                          refine wp_region_later_tail 40 (by kernel_rfl) (by kernel_rfl) ?_
                          simp only [List.take_succ_cons, List.take_zero, List.drop_succ_cons, List.drop_zero]
                          repeat (go_big_quiet_step (first | (go_at_call_of 65 (W8 a0); refine later_of_same (times2_any _ _)) | (go_at_call 65; refine later_of_same (times3_any _ _))))
                          refine wpQuiet_nil ?_
                          intro w6 hf6
                          have HZ6 := hid (hf6.row HZ.out (by simp [Nil]))
                          have HY6 := hid (hf6.row HY.out (by simp [Nil]))
                          have HS6 := hid (hf6.row HS.out (by simp [Nil]))
                          have HT6 := hid (hf6.row HT.out (by simp [Nil]))
                          have HR6 := hid (hf6.row HR.out (by simp [Nil]))
                          have HG6 := hid (hf6.row HG.out (by simp [Nil]))
                          have HF6 := hid (HF.out.trans hf6 (fun _ _ h => h))
                          have hz6 : Z + 1 ≤ w6.heap.size := by have := hf6.size; omega
                          clear hf6 HZ HY HS HT HR HG HF p0 p1 p2 p3
                          have q2 := HZ6.out.cell8 (4 * c + k) (by omega)
                          have q3 := HZ6.out.free (4 * c + k)
                          go_wp2_with fail
                          go_roundw
                          case rel =>
                            have h1 := HZ6.out.set (4 * c + k) (W8 (twice a0 ^^^ (a1 ^^^ twice a1) ^^^ a2 ^^^ a3))
                            rw [upd_w8, HUP.out] at h1
                            exact ⟨k + 1, by omega, by go_num, h1, HY6.out.other _ _ (show Y ≠ Z by omega), HS6.out.other _ _ (show T + 3 ≠ Z by omega), HT6.out.other _ _ (show T ≠ Z by omega), HR6.out.other _ _ (show T + 2 ≠ Z by omega), HG6.out.other _ _ (show G ≠ Z by omega), HF6.out.set _ _ (fun h => by have h2 : Z < w.heap.size := h; omega), by simp; omega⟩
                          case measure => simp [intOf]; omega
                        · have HZ := hid (show Row wr Z 57 16 (w8 (partF (fun _ => 0#8) (mixB y) (4 * (c + 1)))) by rw [show 4 * (c + 1) = 4 * c + k by omega]; exact hzr)
                          have HY := hid hy
                          have HS := hid hs
                          have HT := hid ht
                          have HR := hid hr
                          have HG := hid hg
                          have HF := hid hf
                          clear hzr hy hs ht hr hg hf
                          go_wp2_with fail
                          go_roundw
                          case rel => exact ⟨c + 1, by omega, by go_num, HZ.out, HY.out, HS.out, HT.out, HR.out, HG.out, HF.out, hzi2⟩
                          case measure => simp [intOf]; omega
                    · have HC : Hid (∀ j, j < 16 → wr.cell? ⟨Z, 0 + j, none⟩ = some (w8 (mixB y) j)) := fun j hj => by rw [Nat.zero_add, hzr.cell j hj, w8, partF_full _ _ _ _ (by omega)]; rfl
                      have HY := hid hy
                      have HS := hid hs
                      have HT := hid ht
                      have HR := hid hr
                      have HG := hid hg
                      have HF := hid hf
                      clear hzr hy hs ht hr hg hf
                      go_wp2_with (first | (refine wpList_load_fn rfl 57 _ rfl Z 0 16 (w8 (mixB y)) rfl _ HC.out Try.underlying57 rfl (by kernel_rfl) ?_) | (refine wpList_store_fn rfl 57 _ _ rfl rfl Y 0 16 16 _ _ (w8 (mixB y)) rfl rfl HY.out (by kernel_rfl) (by omega) (fun _ _ => rfl) ?_))
                      go_meet
                      case rel => exact ⟨by rw [HM.out]; exact HY.out.over _, HS.out.setRow_other (by omega) _, HT.out.setRow_other (by omega) _, HR.out.setRow_other (by omega) _, HG.out.setRow_other (by omega) _, HF.out.setRow _ _ (fun h => by omega), by simp; omega⟩
                · have HM := hid (show mixR r y = y by unfold mixR; rw [if_neg h14])
                  go_wp2_with fail
                  go_meet
                  case rel => exact ⟨by rw [HM.out]; exact HY.out, HS.out, HT.out, HR.out, HG.out, HF.out, hzi⟩
              case rest =>
                clear HY HS HT HR HG HF hzi
                obtain ⟨hy, hs, ht, hr, hg, hf, hzi⟩ := hcut
                have hst := HST.out
                generalize mixR r y = z at *
                have HST2 := hid hst
                clear HST hst
                go_wp2_with fail
                obtain ⟨wq, rfl⟩ : ∃ wq : World, wq = wr := ⟨_, rfl⟩
                go_loopw [16] (fun vi wi => ∃ i : Nat, i ≤ 16 ∧ vi = .int .i64 (i : Int) ∧ Row wi (T + 3) 57 16 (w8 (partF s (addB ks z r) i)) ∧ Row wi Y 57 16 (w8 z) ∧ Row wi T 47 256 (w8 t) ∧ Row wi (T + 2) 57 16 (w8 fun _ => 0#8) ∧ Row wi G 5 240 (w8 ks) ∧ Frm Nil w wi ∧ Y + 1 ≤ wi.heap.size) (fun vi _ => 16 - (intOf vi).toNat)
                case atStart => exact ⟨0, by omega, rfl, by rw [partF_zero]; exact hs, hy, ht, hr, hg, hf, hzi⟩
                case round =>
                  clear hy hs ht hr hg hf hzi
                  obtain ⟨i, hi, rfl, hs, hy, ht, hr, hg, hf, hzi⟩ := hrel
                  by_cases hlti : i < 16
                  · have p0 := run_later hy i hlti
                    have p1 := run_later hg (16 * r + i) (by omega)
                    have HUP := hid (partF_step s (addB ks z r) i (z i ^^^ ks (16 * r + i)) rfl)
                    have e1 : (16 * (r : Int) + (i : Int)).toNat = 16 * r + i := by omega
                    have HY := hid hy
                    have HS := hid hs
                    have HT := hid ht
                    have HR := hid hr
                    have HG := hid hg
                    have HF := hid hf
                    clear hy hs ht hr hg hf
                    go_upto_region 30 with fail
                    refine wp_region_later_tail 13 (by kernel_rfl) (by kernel_rfl) ?_
                    simp only [List.take_succ_cons, List.take_zero, List.drop_succ_cons, List.drop_zero]
                    repeat (go_big_quiet_step (fail))
                    refine wpQuiet_nil ?_
                    intro w6 hf6
                    have HY6 := hid (hf6.row HY.out (by simp [Nil]))
                    have HS6 := hid (hf6.row HS.out (by simp [Nil]))
                    have HT6 := hid (hf6.row HT.out (by simp [Nil]))
                    have HR6 := hid (hf6.row HR.out (by simp [Nil]))
                    have HG6 := hid (hf6.row HG.out (by simp [Nil]))
                    have HF6 := hid (HF.out.trans hf6 (fun _ _ h => h))
                    have hz6 : Y + 1 ≤ w6.heap.size := by have := hf6.size; omega
                    clear hf6 HY HS HT HR HG HF p0 p1
                    have p2 := HS6.out.cell8 i hlti
                    have p3 := HS6.out.free i
                    go_wp2_with fail
                    go_roundw
                    case rel =>
                      have h1 := HS6.out.set i (W8 (z i ^^^ ks (16 * r + i)))
                      rw [upd_w8, HUP.out] at h1
                      exact ⟨i + 1, by omega, by go_num, h1, HY6.out.other _ _ (show Y ≠ T + 3 by omega), HT6.out.other _ _ (show T ≠ T + 3 by omega), HR6.out.other _ _ (show T + 2 ≠ T + 3 by omega), HG6.out.other _ _ (show G ≠ T + 3 by omega), HF6.out.set _ _ (fun h => by have h2 : T + 3 < w.heap.size := h; omega), by simp; omega⟩
                    case measure => simp [intOf]; omega
                  · have HS := hid (show Row wr (T + 3) 57 16 (w8 (addB ks z r)) from hs.congr fun j hj => by simp only [w8]; rw [partF_full _ _ _ _ (by omega)])
                    have HT := hid ht
                    have HR := hid hr
                    have HG := hid hg
                    have HF := hid hf
                    clear hy hs ht hr hg hf
                    go_wp2_with fail
                    go_roundw
                    case rel => exact ⟨r + 1, by omega, by omega, by go_num, by rw [HST2.out]; exact HS.out, HT.out, HR.out, HG.out, HF.out, by omega⟩
                    case measure => simp [intOf]; omega
        · have HS := hid (show Row wr (T + 3) 57 16 (w8 out) by
            have e : blk t ks x (r - 1) = out := by rw [← HO.out, show r - 1 = 14 by omega]
            rw [e] at hs; exact hs)
          have HC : Hid (∀ j, j < 16 → wr.cell? ⟨T + 3, 0 + j, none⟩ = some (w8 out j)) := fun j hj => by rw [Nat.zero_add]; exact HS.out.cell j hj
          have HR := hid hr
          have HF := hid hf
          clear hs ht hr hg hf
          go_wp2_with (first | (refine wpList_load_fn rfl 57 _ rfl (T + 3) 0 16 (w8 out) rfl _ HC.out Try.underlying57 rfl (by kernel_rfl) ?_) | (refine wpList_store_fn rfl 57 _ _ rfl rfl (T + 2) 0 16 16 _ _ (w8 out) rfl rfl HR.out (by kernel_rfl) (by omega) (fun _ _ => rfl) ?_))
          exact bodyPost_cell rfl (T + 2) 16 _ _ _ rfl (HR.out.over _) Try.underlying57 rfl (by kernel_rfl) rfl ⟨rfl, HF.out.setRow _ _ (fun h => by omega)⟩
theorem blk_any (t ks x : Nat → BitVec 8) (G : Nat) (w : World) (hG : Row w G 5 240 (w8 ks)) :
    Calls Try.prog 53 #[.agg (rowOf 256 (w8 t)), .slice (some ⟨G, 0, none⟩) 240 240, .agg (rowOf 16 (w8 x))] w fun e w' => e = .returned (.agg (rowOf 16 (w8 (blk t ks x 14)))) ∧ Frm Nil w w' := blk_core t ks x _ G w hG rfl
end Go.Proofs.Ytljddimmhjiehaa
