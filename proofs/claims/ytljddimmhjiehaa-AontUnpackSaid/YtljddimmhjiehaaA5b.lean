/- The reference of layer 5: a key's words. -/
import Derived.Test.YtljddimmhjiehaaA5a
namespace Go.Proofs.Ytljddimmhjiehaa
open Go.RowKit

def x1F (t W : Nat → BitVec 8) (more : BitVec 8) (i : Nat) : Nat → BitVec 8 :=
  if i % 8 = 0 then (fun k => if k = 0 then t (W (4 * (i - 1) + 1)).toNat ^^^ more else if k = 1 then t (W (4 * (i - 1) + 2)).toNat else if k = 2 then t (W (4 * (i - 1) + 3)).toNat else t (W (4 * (i - 1) + 0)).toNat) else fun k => W (4 * (i - 1) + k)
theorem xOf_eq (t W : Nat → BitVec 8) (more : BitVec 8) (i : Nat) : xOf t W more i = if i % 8 = 4 then (fun k => t (x1F t W more i k).toNat) else x1F t W more i := by
  unfold xOf x1F
  by_cases h0 : i % 8 = 0
  · rw [if_pos h0, if_pos h0, if_neg (by omega)]
  · by_cases h4 : i % 8 = 4
    · rw [if_neg h0, if_pos h4, if_neg h0, if_pos h4]
    · rw [if_neg h0, if_neg h4, if_neg h0, if_neg h4]
theorem zero8_4 : #[Value.int .u8 0, .int .u8 0, .int .u8 0, .int .u8 0] = rowOf 4 (w8 fun _ => 0#8) := by rfl
set_option maxHeartbeats 4000000 in
set_option maxRecDepth 100000 in
theorem words_core (t key ks : Nat → BitVec 8) (w : World) (hks : keysOf t key = ks) :
    Calls Try.prog 52 #[.agg (rowOf 256 (w8 t)), .agg (rowOf 32 (w8 key))] w fun e w' => ∃ g, e = .returned (.slice (some ⟨g, 0, none⟩) 240 240) ∧ Row w' g 5 240 (w8 ks) ∧ Frm Nil w w' ∧ w.heap.size ≤ g := by
  have HKS := hid hks
  clear hks
  obtain ⟨i0, hi, hiz, his, hib⟩ := info_parts info_u8
  go_enter Try.func52, Try.ntmps52
  have ht0 := (Row.new w 47 256 (w8 t)).alloc (.cells (rowOf 32 (w8 key)) 26)
  have hk0 := Row.new (w.alloc (.cells (rowOf 256 (w8 t)) 47)) 26 32 (w8 key)
  rw [World.size_alloc] at hk0
  have hf0 := ((Frm.refl Nil w).alloc (.cells (rowOf 256 (w8 t)) 47)).alloc (.cells (rowOf 32 (w8 key)) 26)
  have HT0 := hid ht0
  have HK0 := hid hk0
  have HF0 := hid hf0
  have hz0 : ((w.alloc (.cells (rowOf 256 (w8 t)) 47)).alloc (.cells (rowOf 32 (w8 key)) 26)).heap.size = w.heap.size + 2 := by simp
  clear ht0 hk0 hf0
  go_upto_region 1 with fail
  generalize (w.alloc (.cells (rowOf 256 (w8 t)) 47)).alloc (.cells (rowOf 32 (w8 key)) 26) = w0 at HT0 HK0 HF0 hz0 ⊢
  go_wp2_with (at_make; refine wpList_make_full _ rfl _ _ 22 rfl 0 5 i0 (.int .u8 0) 1 Try.underlying22 hi hiz his .i64 .i64 240 240 240 rfl rfl rfl rfl ?b2 ?b3 (Nat.zero_le _) ?_)
  case b2 => first | omega | (rw [hib]; omega)
  case b3 => unfold maxLen; omega
  intro w2 ho2 hg2
  rw [madeCells_u8] at ho2
  generalize hT : w.heap.size = T at *
  have ho3 : Own w2 5 (.slice (some ⟨T + 2, 0, none⟩) 240 240) ((List.range 240).map (w8 fun _ => 0#8)) := Own.of_base ho2 (by simp)
  have hr2 : Row w2 (T + 2) 5 240 (w8 fun _ => 0#8) := Row.of_own ho3 _ (fun i hi => by simp [List.getElem?_range hi])
  have hf2 := Frm.of_grown hg2
  have HW2 : Hid (Row w2 (T + 2) 5 240 (w8 (partF (fun _ => 0#8) key 0))) := by rw [partF_zero]; exact hr2
  have HT2 := hid (hf2.row HT0.out (by simp [Nil]))
  have HK2 := hid (hf2.row HK0.out (by simp [Nil]))
  have HF2 := hid (HF0.out.trans hf2 (fun _ _ h => h))
  clear ho2 ho3 hr2 hf2 hg2 hi hiz his hib HT0 HK0 HF0 hz0
  go_wp2_with fail
  go_loopw [6] (fun vi wr => ∃ i : Nat, i ≤ 32 ∧ vi = .int .i64 (i : Int) ∧ Row wr (T + 2) 5 240 (w8 (partF (fun _ => 0#8) key i)) ∧ Row wr T 47 256 (w8 t) ∧ Row wr (T + 1) 26 32 (w8 key) ∧ Frm Nil w wr) (fun vi _ => 32 - (intOf vi).toNat)
  case atStart => exact ⟨0, by omega, rfl, HW2.out, HT2.out, HK2.out, HF2.out⟩
  case round =>
    clear HW2 HT2 HK2 HF2
    obtain ⟨i, hi, rfl, hw, ht, hk, hf⟩ := hrel
    by_cases hlt : i < 32
    · have c1 := hk.cell8 i hlt
      have c2 := hw.cell8 i (by omega)
      have c2f := hw.free i
      have HW := hid hw
      have HT := hid ht
      have HK := hid hk
      have HF := hid hf
      clear hw ht hk hf
      go_wp2_with fail
      go_roundw
      case rel =>
        have h1 := HW.out.set i (W8 (key i))
        rw [upd_w8, upd_partF] at h1
        exact ⟨i + 1, by omega, by go_num, h1, HT.out.other _ _ (by simp), HK.out.other _ _ (by simp), HF.out.set _ _ (by simp; omega)⟩
      case measure => simp [intOf]; omega
    · have HW := hid (show Row wr (T + 2) 5 240 (w8 (wordsTo t key 0).1) from hw.congr fun j _ => by
        show W8 (if j < i then key j else 0#8) = W8 (if j < 4 * 8 then key j else 0#8)
        congr 1
        by_cases h : j < 32
        · rw [if_pos (by omega), if_pos (by omega)]
        · rw [if_neg (by omega), if_neg (by omega)])
      have HT := hid ht
      have HF := hid hf
      have hzr : T + 3 ≤ wr.heap.size := by have := hw.lt; omega
      clear hw ht hk hf
      go_wp2_with fail
      obtain ⟨wo, rfl⟩ : ∃ wo : World, wo = wr := ⟨_, rfl⟩
      go_loopw [7, 8] (fun vm v wr => ∃ i : Nat, 8 ≤ i ∧ i ≤ 60 ∧ v = .int .i64 i ∧ vm = W8 (wordsTo t key (i - 8)).2 ∧ Row wr T 47 256 (w8 t) ∧ Row wr (T + 2) 5 240 (w8 (wordsTo t key (i - 8)).1) ∧ Frm Nil w wr ∧ T + 3 ≤ wr.heap.size) (fun _ v _ => 60 - (intOf v).toNat)
      case atStart => exact ⟨8, by omega, by omega, rfl, rfl, HT.out, HW.out, HF.out, hzr⟩
      case round =>
        clear HT HW HF hzr
        obtain ⟨i, hi8, hi60, rfl, rfl, hb1, hw1, hf1, hz1⟩ := hrel
        by_cases hlt : i < 60
        · have hstep : wordsTo t key (i + 1 - 8) = (wordTo (wordsTo t key (i - 8)).1 (xOf t (wordsTo t key (i - 8)).1 (wordsTo t key (i - 8)).2 i) i 4, moreOf (wordsTo t key (i - 8)).2 i) := by
            obtain ⟨n, rfl⟩ : ∃ n, i = n + 8 := ⟨i - 8, by omega⟩
            rw [show n + 8 + 1 - 8 = n + 1 by omega, Nat.add_sub_cancel]; rfl
          generalize (wordsTo t key (i - 8)).1 = W at *
          generalize (wordsTo t key (i - 8)).2 = more at *
          have HSTEP := hid hstep
          clear hstep
          have HB1 := hid hb1
          have HW1 := hid hw1
          have HF1 := hid hf1
          clear hb1 hw1 hf1
          go_upto_region 11 with (fail)
          rw [zero8_4]
          have hx2 := Row.new wr 96 4 (w8 fun _ => 0#8)
          have hb2 := HB1.out.alloc (.cells (rowOf 4 (w8 fun _ => 0#8)) 96)
          have hw2 := HW1.out.alloc (.cells (rowOf 4 (w8 fun _ => 0#8)) 96)
          have hf2 := HF1.out.alloc (.cells (rowOf 4 (w8 fun _ => 0#8)) 96)
          have hz2 : wr.heap.size + 1 ≤ (wr.alloc (.cells (rowOf 4 (w8 fun _ => 0#8)) 96)).heap.size := by simp
          generalize wr.alloc (.cells (rowOf 4 (w8 fun _ => 0#8)) 96) = w3 at hx2 hb2 hw2 hf2 hz2 ⊢
          generalize hX : wr.heap.size = X at *
          clear hX HB1 HW1 HF1
          have HX2 := hid (show Row w3 X 96 4 (w8 (partF (fun _ => 0#8) (fun k => W (4 * (i - 1) + k)) 0)) by rw [partF_zero]; exact hx2)
          have HB2 := hid hb2
          have HW2 := hid hw2
          have HF2 := hid hf2
          clear hx2 hb2 hw2 hf2
          go_wp2_with fail
          obtain ⟨wx, rfl⟩ : ∃ wx : World, wx = wr := ⟨_, rfl⟩
          go_loopw [10] (fun v wi => ∃ k : Nat, k ≤ 4 ∧ v = .int .i64 k ∧ Row wi X 96 4 (w8 (partF (fun _ => 0#8) (fun k => W (4 * (i - 1) + k)) k)) ∧ Row wi T 47 256 (w8 t) ∧ Row wi (T + 2) 5 240 (w8 W) ∧ Frm Nil w wi ∧ X + 1 ≤ wi.heap.size) (fun v _ => 4 - (intOf v).toNat)
          case atStart => exact ⟨0, by omega, rfl, HX2.out, HB2.out, HW2.out, HF2.out, hz2⟩
          case round =>
            clear HX2 HB2 HW2 HF2 hz2
            obtain ⟨k, hk, rfl, hx3, hb3, hw3, hf3, hz3⟩ := hrel
            by_cases hlt2 : k < 4
            · have p0 := hx3.cell8 k hlt2
              have p1 := hx3.free k
              have q0 : wr.cell? ⟨T + 2, 4 * i - 4 + k, none⟩ = some (W8 (W (4 * (i - 1) + k))) := by
                rw [hw3.cell8 _ (by omega)]; congr 3; omega
              have e1 : (4 * (i : Int) - 4 + (k : Int)).toNat = 4 * i - 4 + k := by omega
              have HUP := hid (upd_partF (fun _ => 0#8) (fun k => W (4 * (i - 1) + k)) k)
              generalize hyk : W (4 * (i - 1) + k) = yk at *
              have HX3 := hid hx3
              have HB3 := hid hb3
              have HW3 := hid hw3
              have HF3 := hid hf3
              clear hx3 hb3 hw3 hf3 hyk
              go_wp2_with fail
              go_roundw
              case rel =>
                have h1 := HX3.out.set k (W8 yk)
                rw [upd_w8, HUP.out] at h1
                exact ⟨k + 1, by omega, by go_num, h1, HB3.out.other _ _ (show T ≠ X by omega), HW3.out.other _ _ (show T + 2 ≠ X by omega), HF3.out.set _ _ (fun h => by have h2 : X < w.heap.size := h; omega), by simp; omega⟩
              case measure => simp [intOf]; omega
            · have HX3 := hid (show Row wr X 96 4 (w8 fun k => W (4 * (i - 1) + k)) from hx3.congr fun j hj => by simp only [w8]; rw [partF_full _ _ _ _ (by omega)])
              have HB3 := hid hb3
              have HW3 := hid hw3
              have HF3 := hid hf3
              clear hx3 hb3 hw3 hf3
              go_upto_if 46 with (fail)
              go_cut [7] (fun vm wc => vm = W8 (moreOf more i) ∧ Row wc X 96 4 (w8 (x1F t W more i)) ∧ Row wc T 47 256 (w8 t) ∧ Row wc (T + 2) 5 240 (w8 W) ∧ Frm Nil w wc ∧ X + 1 ≤ wc.heap.size)
              case first =>
                by_cases h0 : i % 8 = 0
                · have E0 := hid (show x1F t W more i = fun k => if k = 0 then t (W (4 * (i - 1) + 1)).toNat ^^^ more else if k = 1 then t (W (4 * (i - 1) + 2)).toNat else if k = 2 then t (W (4 * (i - 1) + 3)).toNat else t (W (4 * (i - 1) + 0)).toNat by unfold x1F; rw [if_pos h0])
                  have E1 := hid (show moreOf more i = twice more by rw [moreOf, if_pos h0])
                  have hb0 : (((i : Int) % 8) == 0) = true := by simp; omega
                  have HC : Hid (∀ j, j < 4 → wr.cell? ⟨X, 0 + j, none⟩ = some (w8 (fun k => W (4 * (i - 1) + k)) j)) := fun j hj => by rw [Nat.zero_add]; exact HX3.out.cell j hj
                  clear h0
                  go_upto_region 17 with (first | (refine wpList_load_fn rfl 96 _ rfl X 0 4 (w8 fun k => W (4 * (i - 1) + k)) rfl _ HC.out Try.underlying96 rfl (by kernel_rfl) ?_) | (refine wpList_store_fn rfl 96 _ _ rfl rfl wr.heap.size 0 4 4 96 (w8 fun _ => 0#8) (w8 fun k => W (4 * (i - 1) + k)) rfl rfl (Row.new wr 96 4 (w8 fun _ => 0#8)) (by kernel_rfl) (by omega) (fun _ _ => rfl) ?_))
                  rw [zero8_4]
                  have hy4 := (Row.new wr 96 4 (w8 fun _ => 0#8)).over (w8 fun k => W (4 * (i - 1) + k))
                  have hf4 : Frm Nil wr ((wr.alloc (.cells (rowOf 4 (w8 fun _ => 0#8)) 96)).setRow wr.heap.size (rowOf 4 (splice (w8 fun _ => 0#8) 0 4 (w8 fun k => W (4 * (i - 1) + k))))) :=
                    ((Frm.refl Nil wr).alloc (.cells (rowOf 4 (w8 fun _ => 0#8)) 96)).setRow wr.heap.size _ (fun h => by omega)
                  generalize (wr.alloc (.cells (rowOf 4 (w8 fun _ => 0#8)) 96)).setRow wr.heap.size (rowOf 4 (splice (w8 fun _ => 0#8) 0 4 (w8 fun k => W (4 * (i - 1) + k)))) = w4 at hy4 hf4 ⊢
                  have hY : X < wr.heap.size := by omega
                  generalize hYe : wr.heap.size = Y at *
                  clear hYe HC
                  have HX4 := hid (hf4.row HX3.out (by simp [Nil]))
                  have HB4 := hid (hf4.row HB3.out (by simp [Nil]))
                  have HW4 := hid (hf4.row HW3.out (by simp [Nil]))
                  have HF4 := hid (HF3.out.trans hf4 (fun _ _ h => h))
                  have hz4 : X + 1 ≤ w4.heap.size := by have := hy4.lt; omega
                  clear hf4 HX3 HB3 HW3 HF3
                  have x0 := hy4.cell8 0 (by omega)
                  have x1 := hy4.cell8 1 (by omega)
                  have x2 := hy4.cell8 2 (by omega)
                  have x3 := hy4.cell8 3 (by omega)
                  have z0 := HX4.out.cell8 0 (by omega)
                  have z1 := HX4.out.cell8 1 (by omega)
                  have z2 := HX4.out.cell8 2 (by omega)
                  have z3 := HX4.out.cell8 3 (by omega)
                  clear hy4
                  generalize W (4 * (i - 1) + 0) = y0 at *
                  generalize W (4 * (i - 1) + 1) = y1 at *
                  generalize W (4 * (i - 1) + 2) = y2 at *
                  generalize W (4 * (i - 1) + 3) = y3 at *
                  have f0 := HX4.out.free 0
                  have f1 := HX4.out.free 1
                  have f2 := HX4.out.free 2
                  have f3 := HX4.out.free 3
                  have l0 : y0.toNat < 256 := y0.isLt
                  have l1 : y1.toNat < 256 := y1.isLt
                  have l2 : y2.toNat < 256 := y2.isLt
                  have l3 : y3.toNat < 256 := y3.isLt
                  have t0 := HB4.out.cell8 y0.toNat l0
                  have t1 := HB4.out.cell8 y1.toNat l1
                  have t2 := HB4.out.cell8 y2.toNat l2
                  have t3 := HB4.out.cell8 y3.toNat l3
                  have d1 : X ≠ Y := by omega
                  have d2 : Y ≠ X := by omega
                  have d3 : T ≠ X := by omega
                  go_wp2_with fail
                  refine (times2_any more _).mono ?_
                  rintro e w' ⟨rfl, rfl⟩
                  go_wp2_with fail
                  go_meet
                  case rel =>
                    refine ⟨by rw [E1.out], ?_, ?_, ?_, ?_, ?_⟩
                    · rw [E0.out]
                      exact Row.congr ((((HX4.out.set 0 _).set 1 _).set 2 _).set 3 _) (fun i hi => by
                        match i, hi with
                        | 0, _ => rfl
                        | 1, _ => rfl
                        | 2, _ => rfl
                        | 3, _ => rfl)
                    · exact (((HB4.out.other _ _ (show T ≠ X by omega)).other _ _ (show T ≠ X by omega)).other _ _ (show T ≠ X by omega)).other _ _ (show T ≠ X by omega)
                    · exact (((HW4.out.other _ _ (show T + 2 ≠ X by omega)).other _ _ (show T + 2 ≠ X by omega)).other _ _ (show T + 2 ≠ X by omega)).other _ _ (show T + 2 ≠ X by omega)
                    · exact (((HF4.out.set _ _ (fun h => by have h2 : X < w.heap.size := h; omega)).set _ _ (fun h => by have h2 : X < w.heap.size := h; omega)).set _ _ (fun h => by have h2 : X < w.heap.size := h; omega)).set _ _ (fun h => by have h2 : X < w.heap.size := h; omega)
                    · simp; omega
                · have E0 := hid (show x1F t W more i = fun k => W (4 * (i - 1) + k) by unfold x1F; rw [if_neg h0])
                  have E1 := hid (show moreOf more i = more by rw [moreOf, if_neg h0])
                  have hb0 : (((i : Int) % 8) == 0) = false := by simp; omega
                  clear h0
                  go_wp2_with fail
                  go_meet
                  case rel => exact ⟨by rw [E1.out], by rw [E0.out]; exact HX3.out, HB3.out, HW3.out, HF3.out, hz3⟩
              case rest =>
                clear HX3 HB3 HW3 HF3 hz3
                obtain ⟨rfl, hx4, hb4, hw4, hf4, hz4⟩ := hcut
                have HX4 := hid hx4
                have HB4 := hid hb4
                have HW4 := hid hw4
                have HF4 := hid hf4
                clear hx4 hb4 hw4 hf4
                go_upto_if 74 with (fail)
                go_cut [] (fun wc => Row wc X 96 4 (w8 (xOf t W more i)) ∧ Row wc T 47 256 (w8 t) ∧ Row wc (T + 2) 5 240 (w8 W) ∧ Frm Nil w wc ∧ X + 1 ≤ wc.heap.size)
                case first =>
                  have hxo := xOf_eq t W more i
                  by_cases h4 : i % 8 = 4
                  · rw [if_pos h4] at hxo
                    have hb4' : (((i : Int) % 8) == 4) = true := by simp; omega
                    have E0 := hid hxo
                    clear h4 hxo
                    generalize x1F t W more i = x1 at *
                    go_wp2_with fail
                    obtain ⟨wy, rfl⟩ : ∃ wy : World, wy = wr := ⟨_, rfl⟩
                    go_loopw [12] (fun v wi => ∃ k : Nat, k ≤ 4 ∧ v = .int .i64 k ∧ Row wi X 96 4 (w8 (toF (fun k => t (x1 k).toNat) x1 k)) ∧ Row wi T 47 256 (w8 t) ∧ Row wi (T + 2) 5 240 (w8 W) ∧ Frm Nil w wi ∧ X + 1 ≤ wi.heap.size) (fun v _ => 4 - (intOf v).toNat)
                    case atStart => exact ⟨0, by omega, rfl, by rw [toF_zero]; exact HX4.out, HB4.out, HW4.out, HF4.out, hz4⟩
                    case round =>
                      clear HX4 HB4 HW4 HF4 hz4
                      obtain ⟨k, hk, rfl, hx5, hb5, hw5, hf5, hz5⟩ := hrel
                      by_cases hlt3 : k < 4
                      · have p0 : wr.cell? ⟨X, k, none⟩ = some (W8 (x1 k)) := by rw [hx5.cell8 k hlt3, toF_ge _ _ _ _ (Nat.le_refl _)]
                        have p1 := hx5.free k
                        have HUP := hid (upd_toF (fun k => t (x1 k).toNat) x1 k)
                        have HX5 := hid hx5
                        clear hx5
                        generalize hyk : x1 k = yk at *
                        have HYK := hid hyk
                        clear hyk
                        have l0 : yk.toNat < 256 := yk.isLt
                        have t0 := hb5.cell8 yk.toNat l0
                        have HB5 := hid hb5
                        have HW5 := hid hw5
                        have HF5 := hid hf5
                        clear hb5 hw5 hf5
                        go_wp2_with fail
                        go_roundw
                        case rel =>
                          have h1 := HX5.out.set k (W8 (t yk.toNat))
                          rw [upd_w8, HUP.out] at h1
                          exact ⟨k + 1, by omega, by go_num, h1, HB5.out.other _ _ (show T ≠ X by omega), HW5.out.other _ _ (show T + 2 ≠ X by omega), HF5.out.set _ _ (fun h => by have h2 : X < w.heap.size := h; omega), by simp; omega⟩
                        case measure => simp [intOf]; omega
                      · have HX5 := hid (show Row wr X 96 4 (w8 fun k => t (x1 k).toNat) from hx5.congr fun j hj => by simp only [w8]; rw [toF_lt _ _ _ _ (by omega)])
                        have HB5 := hid hb5
                        have HW5 := hid hw5
                        have HF5 := hid hf5
                        clear hx5 hb5 hw5 hf5
                        go_wp2_with fail
                        go_meet
                        case rel => exact ⟨by rw [E0.out]; exact HX5.out, HB5.out, HW5.out, HF5.out, hz5⟩
                  · rw [if_neg h4] at hxo
                    have hb4' : (((i : Int) % 8) == 4) = false := by simp; omega
                    have E0 := hid hxo
                    clear h4 hxo
                    go_wp2_with fail
                    go_meet
                    case rel => exact ⟨by rw [E0.out]; exact HX4.out, HB4.out, HW4.out, HF4.out, hz4⟩
                case rest =>
                  clear HX4 HB4 HW4 HF4 hz4
                  obtain ⟨hx4, hb4, hw4, hf4, hz4⟩ := hcut
                  generalize hxe : xOf t W more i = x at *
                  have HXE := hid hxe
                  clear hxe
                  generalize hme : moreOf more i = more2 at *
                  have HME := hid hme
                  clear hme
                  go_wp2_with fail
                  obtain ⟨wy, rfl⟩ : ∃ wy : World, wy = wr := ⟨_, rfl⟩
                  go_loopw [13] (fun v wi => ∃ k : Nat, k ≤ 4 ∧ v = .int .i64 k ∧ Row wi X 96 4 (w8 x) ∧ Row wi T 47 256 (w8 t) ∧ Row wi (T + 2) 5 240 (w8 (wordTo W x i k)) ∧ Frm Nil w wi ∧ X + 1 ≤ wi.heap.size) (fun v _ => 4 - (intOf v).toNat)
                  case atStart => exact ⟨0, by omega, rfl, hx4, hb4, hw4.congr (fun j hj => by simp only [w8, wordTo]; rw [if_neg (by omega)]), hf4, hz4⟩
                  case round =>
                    clear hx4 hb4 hw4 hf4 hz4
                    obtain ⟨k, hk, rfl, hx5, hb5, hw5, hf5, hz5⟩ := hrel
                    by_cases hlt2 : k < 4
                    · have p0 := fun d os => cell_regrown (hx5.cell8 k hlt2) d os
                      have q1 : wr.cell? ⟨T + 2, 4 * i - 32 + k, none⟩ = some (W8 (W (4 * i + k - 32))) := by
                        rw [hw5.cell8 _ (by omega)]; simp only [wordTo]; rw [if_neg (by omega), show 4 * i - 32 + k = 4 * i + k - 32 by omega]
                      have p1 := fun d os => cell_regrown q1 d os
                      have e1 : (4 * (i : Int) - 32 + (k : Int)).toNat = 4 * i - 32 + k := by omega
                      have e2 : (4 * (i : Int) + (k : Int)).toNat = 4 * i + k := by omega
                      have HX5 := hid hx5
                      have HB5 := hid hb5
                      have HW5 := hid hw5
                      have HF5 := hid hf5
                      clear hx5 hb5 hw5 hf5 q1
                      go_upto_region 30 with fail
                      refine wp_region_later_tail 18 (by kernel_rfl) (by kernel_rfl) ?_
                      simp only [List.take_succ_cons, List.take_zero, List.drop_succ_cons, List.drop_zero]
                      repeat (go_big_quiet_step (fail))
                      refine wpQuiet_nil ?_
                      intro w6 hf6
                      have HX6 := hid (hf6.row HX5.out (by simp [Nil]))
                      have HB6 := hid (hf6.row HB5.out (by simp [Nil]))
                      have HW6 := hid (hf6.row HW5.out (by simp [Nil]))
                      have HF6 := hid (HF5.out.trans hf6 (fun _ _ h => h))
                      have hz6 : X + 1 ≤ w6.heap.size := by have := hf6.size; omega
                      clear hf6 HX5 HB5 HW5 HF5 p0 p1
                      have p2 := HW6.out.cell8 (4 * i + k) (by omega)
                      have p3 := HW6.out.free (4 * i + k)
                      go_wp2_with fail
                      go_roundw
                      case rel =>
                        have h1 := HW6.out.set (4 * i + k) (W8 (W (4 * i + k - 32) ^^^ x k))
                        have e1 : upd (wordTo W x i k) (4 * i + k) (W (4 * i + k - 32) ^^^ x k) = wordTo W x i (k + 1) := by
                          funext j
                          by_cases e : j = 4 * i + k
                          · subst e; rw [upd_same]; simp only [wordTo]; rw [if_pos (by omega), show 4 * i + k - 4 * i = k by omega]
                          · rw [upd_other _ _ _ _ e]; simp only [wordTo]
                            by_cases h : 4 * i ≤ j ∧ j < 4 * i + k
                            · rw [if_pos h, if_pos (by omega)]
                            · rw [if_neg h, if_neg (by omega)]
                        rw [upd_w8, e1] at h1
                        exact ⟨k + 1, by omega, by go_num, HX6.out.other _ _ (show X ≠ T + 2 by omega), HB6.out.other _ _ (show T ≠ T + 2 by omega), h1, HF6.out.set _ _ (fun h => by have h2 : T + 2 < w.heap.size := h; omega), by simp; omega⟩
                      case measure => simp [intOf]; omega
                    · have HW5 := hid (show Row wr (T + 2) 5 240 (w8 (wordTo W x i 4)) from hw5.congr fun j hj => by rw [show k = 4 by omega])
                      have HB5 := hid hb5
                      have HF5 := hid hf5
                      clear hx5 hb5 hw5 hf5
                      go_wp2_with fail
                      go_roundw
                      case rel =>
                        refine ⟨i + 1, by omega, by omega, by go_num, ?_, HB5.out, ?_, HF5.out, by omega⟩
                        · rw [HSTEP.out]
                        · rw [HSTEP.out]; exact HW5.out
                      case measure => simp [intOf]; omega
        · have HW := hid (show Row wr (T + 2) 5 240 (w8 ks) by
            have e : (wordsTo t key (i - 8)).1 = ks := by rw [← HKS.out, keysOf, show i - 8 = 52 by omega]
            rw [e] at hw1; exact hw1)
          have HF := hid hf1
          clear hb1 hw1 hf1
          go_wp2_with fail
          go_ret
          exact ⟨T + 2, rfl, HW.out, HF.out, by omega⟩
end Go.Proofs.Ytljddimmhjiehaa
