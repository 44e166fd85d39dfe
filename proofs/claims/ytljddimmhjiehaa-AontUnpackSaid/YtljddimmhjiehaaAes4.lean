/- aes: a key's box. -/
import Derived.Test.YtljddimmhjiehaaAes4a
namespace Go.Proofs.Ytljddimmhjiehaa
open Go.RowKit

def NewPost (t ks : Nat → BitVec 8) (w : World) (e : Ending) (w' : World) : Prop :=
  ∃ B, e = .returned (.pointer (some ⟨B, 0, none⟩)) ∧ Row w' B 95 496 (w8 (boxF t ks)) ∧ Frm Nil w w' ∧ w.heap.size ≤ B
set_option maxHeartbeats 4000000 in
set_option maxRecDepth 100000 in
theorem new_core (t key ks : Nat → BitVec 8) (w : World) (ht : tabF = t) (hks : keysOf t key = ks) :
    Calls Try.prog 42 #[.agg (rowOf 32 (w8 key))] w fun e w' => NewPost t ks w e w' := by
  have HT := hid ht
  have HKS := hid hks
  clear ht hks
  go_enter Try.func42, Try.ntmps42
  have hk0 := Row.new w 26 32 (w8 key)
  have hf0 := (Frm.refl Nil w).alloc (.cells (rowOf 32 (w8 key)) 26)
  have HK0 := hid hk0
  have HF0 := hid hf0
  clear hk0 hf0
  go_wp2_with fail
  refine (table_any (w.alloc (.cells (rowOf 32 (w8 key)) 26))).mono ?_
  rintro e w1 ⟨rfl, hf1⟩
  have HK1 := hid (hf1.row HK0.out (by simp [Nil]))
  have HF1 := hid (HF0.out.trans hf1 (fun _ _ h => h))
  have hz1 : w.heap.size + 1 ≤ w1.heap.size := by have := hf1.size; simp at this; exact this
  clear hf1 HK0 HF0
  rw [HT.out]
  go_wp2_with (refine wpList_build_one rfl 95 0 _ rfl (.agg (rowOf 256 (w8 t))) rfl (rowOf 496 (w8 (boxF t fun _ => 0#8))) (built_box t) ?_)
  rw [zero8_240]
  have hb2 := (Row.new w1 95 496 (w8 (boxF t fun _ => 0#8))).alloc (.cells (rowOf 240 (w8 fun _ => 0#8)) 97)
  have hw2 := Row.new (w1.alloc (.cells (rowOf 496 (w8 (boxF t fun _ => 0#8))) 95)) 97 240 (w8 fun _ => 0#8)
  rw [World.size_alloc] at hw2
  have hk2 := (HK1.out.alloc (.cells (rowOf 496 (w8 (boxF t fun _ => 0#8))) 95)).alloc (.cells (rowOf 240 (w8 fun _ => 0#8)) 97)
  have hf2 := (HF1.out.alloc (.cells (rowOf 496 (w8 (boxF t fun _ => 0#8))) 95)).alloc (.cells (rowOf 240 (w8 fun _ => 0#8)) 97)
  have hz2 : w1.heap.size + 2 ≤ ((w1.alloc (.cells (rowOf 496 (w8 (boxF t fun _ => 0#8))) 95)).alloc (.cells (rowOf 240 (w8 fun _ => 0#8)) 97)).heap.size := by simp
  generalize (w1.alloc (.cells (rowOf 496 (w8 (boxF t fun _ => 0#8))) 95)).alloc (.cells (rowOf 240 (w8 fun _ => 0#8)) 97) = w2 at hb2 hw2 hk2 hf2 hz2 ⊢
  clear HK1 HF1
  generalize w1.heap.size = B at *
  go_loopw [16] (fun v wr => ∃ k : Nat, k ≤ 8 ∧ v = .int .i64 k ∧ Row wr w.heap.size 26 32 (w8 key) ∧ Row wr B 95 496 (w8 (boxF t fun _ => 0#8)) ∧ Row wr (B + 1) 97 240 (w8 (keyTo key k)) ∧ Frm Nil w wr ∧ B + 2 ≤ wr.heap.size) (fun v _ => 8 - (intOf v).toNat)
  case atStart => exact ⟨0, by omega, rfl, hk2, hb2, hw2.congr (fun i _ => by simp [w8, keyTo]), hf2, hz2⟩
  case round =>
    clear hk2 hb2 hw2 hf2 hz2
    obtain ⟨k, hk, rfl, hk1, hb1, hw1, hf1, hz1⟩ := hrel
    by_cases hlt : k < 8
    · have HC : Hid (∀ i, i < 4 → wr.cell? ⟨w.heap.size, 4 * k + i, none⟩ = some ((w8 fun i => key (4 * k + i)) i)) := fun i hi => hk1.cell8 (4 * k + i) (by omega)
      have HK1 := hid hk1
      have HB1 := hid hb1
      have HW1 := hid hw1
      have HF1 := hid hf1
      clear hk1 hb1 hw1 hf1
      have hsl : ∀ W, (Instr.sliceAt 26 (.pointer (some ⟨w.heap.size, 0, none⟩)) (some (.int .i64 (4 * (k : Int)))) (some (.int .i64 (4 * (k : Int) + 4))) none).run Try.prog W = .ok (.slice (some ⟨w.heap.size, 4 * k, none⟩) 4 (32 - 4 * k)) W := fun W => by
        have hal : Try.prog.arrayLen 26 = 32 := by simp [Program.arrayLen, Try.underlying26]
        have hel : Try.prog.elem 26 = 5 := by simp [Program.elem, Try.underlying26]
        rw [run_sliceAt_array_lh W 26 _ (by rw [hal, hel]; exact Try.underlying26) .i64 .i64 _ _ (by omega) (by omega) (by rw [hal]; omega), hel, Try.sizeOf5, hal]
        have e1 : (4 * (k : Int)).toNat = 4 * k := by omega
        have e2 : (4 * (k : Int) + 4).toNat = 4 * k + 4 := by omega
        simp only [Result.andThen_ok, slicedAt, e1, e2, Nat.mul_one, Nat.add_sub_cancel_left]
        rw [if_neg (by omega), Addr.add_lit, Nat.zero_add]
      have harr : ∀ W, (Instr.arrayAt 96 (.slice (some ⟨w.heap.size, 4 * k, none⟩) 4 (32 - 4 * k))).run Try.prog W = .ok (.pointer (some ⟨w.heap.size, 4 * k, none⟩)) W := fun W => run_arrayAt _ _ _ _ _ _ _ Try.underlying96 (by omega)
      go_wp2_with (first | (refine wpList_store_fn rfl 96 _ _ rfl rfl (B + 1) (k * 4) 240 4 _ _ (w8 fun i => key (4 * k + i)) rfl rfl HW1.out (by kernel_rfl) (by omega) (fun _ _ => rfl) ?_) | (refine wpList_load_fn rfl 96 _ rfl w.heap.size (4 * k) 4 (w8 fun i => key (4 * k + i)) rfl _ HC.out Try.underlying96 rfl (by kernel_rfl) ?_))
      go_roundw
      case rel =>
        have h1 := HW1.out.setRow (splice (w8 (keyTo key k)) (k * 4) 4 (w8 fun i => key (4 * k + i)))
        rw [splice_key] at h1
        refine ⟨k + 1, by omega, by go_num, HK1.out.setRow_other (g := B + 1) (by omega) _, HB1.out.setRow_other (g := B + 1) (by omega) _, ?_, HF1.out.setRow _ _ (fun h => by omega), by simp; omega⟩
        rw [splice_key]; exact h1
      case measure => simp [intOf]; omega
    · obtain rfl : k = 8 := by omega
      have HB1 := hid hb1
      have HW1 := hid hw1
      have HF1 := hid hf1
      clear hk1 hb1 hw1 hf1
      go_wp2_with fail
      obtain ⟨wo, rfl⟩ : ∃ wo : World, wo = wr := ⟨_, rfl⟩
      go_loopw [6, 7] (fun vm v wr => ∃ i : Nat, 8 ≤ i ∧ i ≤ 60 ∧ v = .int .i64 i ∧ vm = W8 (wordsTo t key (i - 8)).2 ∧ Row wr B 95 496 (w8 (boxF t fun _ => 0#8)) ∧
        Row wr (B + 1) 97 240 (w8 (wordsTo t key (i - 8)).1) ∧ Frm Nil w wr ∧ B + 2 ≤ wr.heap.size) (fun _ v _ => 60 - (intOf v).toNat)
      case atStart => exact ⟨8, by omega, by omega, rfl, rfl, HB1.out, HW1.out, HF1.out, hz1⟩
      case round =>
        clear HB1 HW1 HF1 hz1
        obtain ⟨i, hi8, hi60, rfl, rfl, hb1, hw1, hf1, hz1⟩ := hrel
        by_cases hlt : i < 60
        · have hstep : wordsTo t key (i + 1 - 8) = (wordTo (wordsTo t key (i - 8)).1 (xOf t (wordsTo t key (i - 8)).1 (wordsTo t key (i - 8)).2 i) i 4, moreOf (wordsTo t key (i - 8)).2 i) := by
            obtain ⟨n, rfl⟩ : ∃ n, i = n + 8 := ⟨i - 8, by omega⟩
            rw [show n + 8 + 1 - 8 = n + 1 by omega, Nat.add_sub_cancel]; rfl
          generalize (wordsTo t key (i - 8)).1 = W at *
          generalize (wordsTo t key (i - 8)).2 = more at *
          have HSTEP := hid hstep
          clear hstep
          have c0 : wr.cell? ⟨B + 1, (i - 1) * 4, none⟩ = some (W8 (W (4 * (i - 1) + 0))) := by
            rw [hw1.cell8 _ (by omega)]; congr 3; omega
          have c1 : wr.cell? ⟨B + 1, (i - 1) * 4 + 1, none⟩ = some (W8 (W (4 * (i - 1) + 1))) := by
            rw [hw1.cell8 _ (by omega)]; congr 3; omega
          have c2 : wr.cell? ⟨B + 1, (i - 1) * 4 + 2, none⟩ = some (W8 (W (4 * (i - 1) + 2))) := by
            rw [hw1.cell8 _ (by omega)]; congr 3; omega
          have c3 : wr.cell? ⟨B + 1, (i - 1) * 4 + 3, none⟩ = some (W8 (W (4 * (i - 1) + 3))) := by
            rw [hw1.cell8 _ (by omega)]; congr 3; omega
          have hd31 : decide ((i : Int) < 60) = true := by simp; omega
          have HB1 := hid hb1
          have HW1 := hid hw1
          have HF1 := hid hf1
          clear hb1 hw1 hf1
          go_upto_region 13 with (fail)
          have hlit : #[W8 (W (4 * (i - 1))), W8 (W (4 * (i - 1) + 1)), W8 (W (4 * (i - 1) + 2)), W8 (W (4 * (i - 1) + 3))] = rowOf 4 (w8 fun k => W (4 * (i - 1) + k)) := by rfl
          rw [hlit]
          clear hlit
          have hx2 := Row.new wr 96 4 (w8 fun k => W (4 * (i - 1) + k))
          have hb2 := HB1.out.alloc (.cells (rowOf 4 (w8 fun k => W (4 * (i - 1) + k))) 96)
          have hw2 := HW1.out.alloc (.cells (rowOf 4 (w8 fun k => W (4 * (i - 1) + k))) 96)
          have hf2 := HF1.out.alloc (.cells (rowOf 4 (w8 fun k => W (4 * (i - 1) + k))) 96)
          have hz2 : wr.heap.size + 1 ≤ (wr.alloc (.cells (rowOf 4 (w8 fun k => W (4 * (i - 1) + k))) 96)).heap.size := by simp
          generalize wr.alloc (.cells (rowOf 4 (w8 fun k => W (4 * (i - 1) + k))) 96) = w3 at hx2 hb2 hw2 hf2 hz2 ⊢
          generalize hX : wr.heap.size = X at *
          clear hX c0 c1 c2 c3 HB1 HW1 HF1
          have HX2 := hid hx2
          have HB2 := hid hb2
          have HW2 := hid hw2
          have HF2 := hid hf2
          clear hx2 hb2 hw2 hf2
          go_upto_block 4 with (fail)
          go_cut [6] (fun vm wc => vm = W8 (moreOf more i) ∧ Row wc X 96 4 (w8 (xOf t W more i)) ∧ Row wc B 95 496 (w8 (boxF t fun _ => 0#8)) ∧ Row wc (B + 1) 97 240 (w8 W) ∧ Frm Nil w wc ∧ X + 1 ≤ wc.heap.size)
          case first =>
            by_cases h0 : i % 8 = 0
            · have e0 : xOf t W more i = fun k => if k = 0 then t (W (4 * (i - 1) + 1)).toNat ^^^ more else if k = 1 then t (W (4 * (i - 1) + 2)).toNat else if k = 2 then t (W (4 * (i - 1) + 3)).toNat else t (W (4 * (i - 1) + 0)).toNat := by
                simp only [xOf]; rw [if_pos h0]
              have e1 : moreOf more i = twice more := by rw [moreOf, if_pos h0]
              have hb0 : (((i : Int) % 8) == 0) = true := by simp; omega
              have E0 := hid e0
              have E1 := hid e1
              have x0 := HX2.out.cell8 0 (by omega)
              have x1 := HX2.out.cell8 1 (by omega)
              have x2 := HX2.out.cell8 2 (by omega)
              have x3 := HX2.out.cell8 3 (by omega)
              generalize W (4 * (i - 1) + 0) = y0 at *
              generalize W (4 * (i - 1) + 1) = y1 at *
              generalize W (4 * (i - 1) + 2) = y2 at *
              generalize W (4 * (i - 1) + 3) = y3 at *
              clear h0 e0 e1
              have f0 := HX2.out.free 0
              have f1 := HX2.out.free 1
              have f2 := HX2.out.free 2
              have f3 := HX2.out.free 3
              have l0 : y0.toNat < 256 := y0.isLt
              have l1 : y1.toNat < 256 := y1.isLt
              have l2 : y2.toNat < 256 := y2.isLt
              have l3 : y3.toNat < 256 := y3.isLt
              have tb : ∀ y : BitVec 8, w3.cell? ⟨B, y.toNat, none⟩ = some (W8 (t y.toNat)) := fun y => by
                have := y.isLt
                rw [HB2.out.cell8 _ (by omega)]; simp only [boxF]; rw [if_pos (by omega)]
              have t0 := tb y0
              have t1 := tb y1
              have t2 := tb y2
              have t3 := tb y3
              clear tb
              -- SLOW-BEGIN
              go_wp2_with fail
              go_region
              go_wp2_with (go_at_call 38; refine (twice_any _ _).mono ?_; rintro e w' ⟨rfl, rfl⟩)
              go_meet
              case rel =>
                refine ⟨by rw [E1.out], ?_, ?_, ?_, ?_, ?_⟩
                · rw [E0.out]
                  exact Row.congr (((((HX2.out.set 0 _).set 1 _).set 2 _).set 3 _).drew) (fun i hi => by
                    match i, hi with
                    | 0, _ => rfl
                    | 1, _ => rfl
                    | 2, _ => rfl
                    | 3, _ => rfl)
                · exact ((((HB2.out.other _ _ (show B ≠ X by omega)).other _ _ (show B ≠ X by omega)).other _ _ (show B ≠ X by omega)).other _ _ (show B ≠ X by omega)).drew
                · exact ((((HW2.out.other _ _ (show B + 1 ≠ X by omega)).other _ _ (show B + 1 ≠ X by omega)).other _ _ (show B + 1 ≠ X by omega)).other _ _ (show B + 1 ≠ X by omega)).drew
                · exact ((((HF2.out.set _ _ (fun h => by have h2 : X < w.heap.size := h; omega)).set _ _ (fun h => by have h2 : X < w.heap.size := h; omega)).set _ _ (fun h => by have h2 : X < w.heap.size := h; omega)).set _ _ (fun h => by have h2 : X < w.heap.size := h; omega)).drew
                · simp; omega
              -- SLOW-END
            · by_cases h4 : i % 8 = 4
              · have e0 : xOf t W more i = fun k => t (W (4 * (i - 1) + k)).toNat := by
                  simp only [xOf]; rw [if_neg h0, if_pos h4]
                have e1 : moreOf more i = more := by rw [moreOf, if_neg h0]
                have hb0 : (((i : Int) % 8) == 0) = false := by simp; omega
                have hb4 : (((i : Int) % 8) == 4) = true := by simp; omega
                have E0 := hid e0
                have E1 := hid e1
                clear h0 h4 e0 e1
                go_wp2_with fail
                obtain ⟨wx, rfl⟩ : ∃ wx : World, wx = wr := ⟨_, rfl⟩
                go_loopw [77] (fun v wi => ∃ k : Nat, k ≤ 4 ∧ v = .int .i64 k ∧ Row wi X 96 4 (w8 (toF (fun k => t (W (4 * (i - 1) + k)).toNat) (fun k => W (4 * (i - 1) + k)) k)) ∧ Row wi B 95 496 (w8 (boxF t fun _ => 0#8)) ∧ Row wi (B + 1) 97 240 (w8 W) ∧ Frm Nil w wi ∧ X + 1 ≤ wi.heap.size) (fun v _ => 4 - (intOf v).toNat)
                case atStart => exact ⟨0, by omega, rfl, by rw [toF_zero]; exact HX2.out, HB2.out, HW2.out, HF2.out, hz2⟩
                case round =>
                  clear HX2 HB2 HW2 HF2 hz2
                  obtain ⟨k, hk, rfl, hx3, hb3, hw3, hf3, hz3⟩ := hrel
                  by_cases hlt2 : k < 4
                  · have p0 : wr.cell? ⟨X, k, none⟩ = some (W8 (W (4 * (i - 1) + k))) := by rw [hx3.cell8 k hlt2, toF_ge _ _ _ _ (Nat.le_refl _)]
                    have p1 := hx3.free k
                    generalize hyk : W (4 * (i - 1) + k) = yk at *
                    have HYK := hid hyk
                    clear hyk
                    have l0 : yk.toNat < 256 := yk.isLt
                    have t0 : wr.cell? ⟨B, yk.toNat, none⟩ = some (W8 (t yk.toNat)) := by
                      rw [hb3.cell8 _ (by omega)]; simp only [boxF]; rw [if_pos (by omega)]
                    have HX3 := hid hx3
                    have HB3 := hid hb3
                    have HW3 := hid hw3
                    have HF3 := hid hf3
                    clear hx3 hb3 hw3 hf3
                    go_wp2_with fail
                    go_region
                    go_wp2_with fail
                    go_roundw
                    case rel =>
                      have h1 := HX3.out.set k (W8 (t (W (4 * (i - 1) + k)).toNat))
                      rw [upd_w8, upd_toF (fun k => t (W (4 * (i - 1) + k)).toNat)] at h1
                      rw [HYK.out] at h1
                      exact ⟨k + 1, by omega, by go_num, h1.drew, (HB3.out.other _ _ (show B ≠ X by omega)).drew, (HW3.out.other _ _ (show B + 1 ≠ X by omega)).drew, (HF3.out.set _ _ (fun h => by have h2 : X < w.heap.size := h; omega)).drew, by simp; omega⟩
                    case measure => simp [intOf]; omega
                  · obtain rfl : k = 4 := by omega
                    have HX3 := hid hx3
                    have HB3 := hid hb3
                    have HW3 := hid hw3
                    have HF3 := hid hf3
                    clear hx3 hb3 hw3 hf3
                    go_wp2_with fail
                    go_meet
                    case rel =>
                      refine ⟨by rw [E1.out], ?_, HB3.out, HW3.out, HF3.out, hz3⟩
                      rw [E0.out]; exact HX3.out.congr (fun i hi => by simp only [w8]; rw [toF_lt _ _ _ _ hi])
              · have e0 : xOf t W more i = fun k => W (4 * (i - 1) + k) := by
                  simp only [xOf]; rw [if_neg h0, if_neg h4]
                have e1 : moreOf more i = more := by rw [moreOf, if_neg h0]
                have hb0 : (((i : Int) % 8) == 0) = false := by simp; omega
                have hb4 : (((i : Int) % 8) == 4) = false := by simp; omega
                have E0 := hid e0
                have E1 := hid e1
                clear h0 h4 e0 e1
                go_wp2_with fail
                go_meet
                case rel =>
                  refine ⟨by rw [E1.out], ?_, HB2.out, HW2.out, HF2.out, hz2⟩
                  rw [E0.out]; exact HX2.out
          case rest =>
            clear HX2 HB2 HW2 HF2 hz2
            obtain ⟨rfl, hx4, hb4, hw4, hf4, hz4⟩ := hcut
            generalize hxe : xOf t W more i = x at *
            generalize hme : moreOf more i = more2 at *
            have HXE := hid hxe
            have HME := hid hme
            clear hxe hme
            go_wp2_with fail
            obtain ⟨wx, rfl⟩ : ∃ wx : World, wx = wr := ⟨_, rfl⟩
            go_loopw [91] (fun v wi => ∃ k : Nat, k ≤ 4 ∧ v = .int .i64 k ∧ Row wi X 96 4 (w8 x) ∧ Row wi B 95 496 (w8 (boxF t fun _ => 0#8)) ∧ Row wi (B + 1) 97 240 (w8 (wordTo W x i k)) ∧ Frm Nil w wi ∧ X + 1 ≤ wi.heap.size) (fun v _ => 4 - (intOf v).toNat)
            case atStart => exact ⟨0, by omega, rfl, hx4, hb4, hw4.congr (fun j hj => by simp only [w8, wordTo]; rw [if_neg (by omega)]), hf4, hz4⟩
            case round =>
              clear hx4 hb4 hw4 hf4 hz4
              obtain ⟨k, hk, rfl, hx5, hb5, hw5, hf5, hz5⟩ := hrel
              by_cases hlt2 : k < 4
              · have p0 := hx5.cell8 k hlt2
                have p1 : wr.cell? ⟨B + 1, (i - 8) * 4 + k, none⟩ = some (W8 (W (4 * i + k - 32))) := by
                  rw [hw5.cell8 _ (by omega)]; simp only [wordTo]; rw [if_neg (by omega), show (i - 8) * 4 + k = 4 * i + k - 32 by omega]
                have p2 := hw5.cell8 (i * 4 + k) (by omega)
                have p3 := hw5.free (i * 4 + k)
                have p4 : X ≠ B + 1 := by omega
                have p5 : B + 1 ≠ X := by omega
                have HX5 := hid hx5
                have HB5 := hid hb5
                have HW5 := hid hw5
                have HF5 := hid hf5
                clear hx5 hb5 hw5 hf5
                go_wp2_with fail
                go_region
                go_wp2_with fail
                go_roundw
                case rel =>
                  have h1 := HW5.out.set (i * 4 + k) (W8 (W (4 * i + k - 32) ^^^ x k))
                  have e1 : upd (wordTo W x i k) (i * 4 + k) (W (4 * i + k - 32) ^^^ x k) = wordTo W x i (k + 1) := by
                    funext j
                    by_cases e : j = i * 4 + k
                    · subst e; rw [upd_same]; simp only [wordTo]; rw [if_pos (by omega), show i * 4 + k - 32 = 4 * i + k - 32 by omega, show i * 4 + k - 4 * i = k by omega]
                    · rw [upd_other _ _ _ _ e]; simp only [wordTo]
                      by_cases h : 4 * i ≤ j ∧ j < 4 * i + k
                      · rw [if_pos h, if_pos (by omega)]
                      · rw [if_neg h, if_neg (by omega)]
                  rw [upd_w8, e1] at h1
                  exact ⟨k + 1, by omega, by go_num, (HX5.out.other _ _ (show X ≠ B + 1 by omega)).drew, (HB5.out.other _ _ (show B ≠ B + 1 by omega)).drew, h1.drew, (HF5.out.set _ _ (fun h => by have h2 : B + 1 < w.heap.size := h; omega)).drew, by simp; omega⟩
                case measure => simp [intOf]; omega
              · obtain rfl : k = 4 := by omega
                have HX5 := hid hx5
                have HB5 := hid hb5
                have HW5 := hid hw5
                have HF5 := hid hf5
                clear hx5 hb5 hw5 hf5
                go_wp2_with fail
                go_roundw
                case rel =>
                  refine ⟨i + 1, by omega, by omega, by go_num, ?_, HB5.out, ?_, HF5.out, by omega⟩
                  · rw [HSTEP.out]
                  · rw [HSTEP.out]; exact HW5.out
                case measure => simp [intOf]; omega
        · obtain rfl : i = 60 := by omega
          have hW : (wordsTo t key (60 - 8)).1 = ks := HKS.out
          rw [hW] at hw1
          clear hW
          have HB1 := hid hb1
          have HW1 := hid hw1
          have HF1 := hid hf1
          clear hb1 hw1 hf1
          go_wp2_with fail
          obtain ⟨wx, rfl⟩ : ∃ wx : World, wx = wr := ⟨_, rfl⟩
          go_loopw [109] (fun v wi => ∃ r : Nat, r ≤ 15 ∧ v = .int .i64 r ∧ Row wi B 95 496 (w8 (boxF t (toF ks (fun _ => 0#8) (16 * r)))) ∧ Row wi (B + 1) 97 240 (w8 ks) ∧ Frm Nil w wi) (fun v _ => 15 - (intOf v).toNat)
          case atStart => exact ⟨0, by omega, rfl, by rw [toF_zero]; exact HB1.out, HW1.out, HF1.out⟩
          case round =>
            clear HB1 HW1 HF1
            obtain ⟨r, hr, rfl, hb2, hw2, hf2⟩ := hrel
            by_cases hlt2 : r < 15
            · have HB2 := hid hb2
              have HW2 := hid hw2
              have HF2 := hid hf2
              clear hb2 hw2 hf2
              have hd : decide ((r : Int) < 15) = true := by simp; omega
              go_wp2_with fail
              obtain ⟨wy, rfl⟩ : ∃ wy : World, wy = wr := ⟨_, rfl⟩
              go_loopw [112] (fun v wi => ∃ k : Nat, k ≤ 16 ∧ v = .int .i64 k ∧ Row wi B 95 496 (w8 (boxF t (toF ks (fun _ => 0#8) (16 * r + k)))) ∧ Row wi (B + 1) 97 240 (w8 ks) ∧ Frm Nil w wi) (fun v _ => 16 - (intOf v).toNat)
              case atStart => exact ⟨0, by omega, rfl, HB2.out, HW2.out, HF2.out⟩
              case round =>
                clear HB2 HW2 HF2
                obtain ⟨k, hk, rfl, hb3, hw3, hf3⟩ := hrel
                by_cases hlt3 : k < 16
                · have p0 : wr.cell? ⟨B + 1, (4 * r + k / 4) * 4 + k % 4, none⟩ = some (W8 (ks (16 * r + k))) := by
                    rw [hw3.cell8 _ (by omega), show (4 * r + k / 4) * 4 + k % 4 = 16 * r + k by omega]
                  have p1 := hb3.cell8 (256 + r * 16 + k) (by omega)
                  have p2 := hb3.free (256 + r * 16 + k)
                  have HB3 := hid hb3
                  have HW3 := hid hw3
                  have HF3 := hid hf3
                  clear hb3 hw3 hf3
                  go_wp2_with fail
                  go_region
                  go_wp2_with fail
                  go_roundw
                  case rel =>
                    have h1 := HB3.out.set (256 + r * 16 + k) (W8 (ks (16 * r + k)))
                    have e1 : upd (boxF t (toF ks (fun _ => 0#8) (16 * r + k))) (256 + r * 16 + k) (ks (16 * r + k)) = boxF t (toF ks (fun _ => 0#8) (16 * r + (k + 1))) := by
                      funext j
                      by_cases e : j = 256 + r * 16 + k
                      · subst e; rw [upd_same]; simp only [boxF]; rw [if_neg (by omega), toF_lt _ _ _ _ (by omega), show 256 + r * 16 + k - 256 = 16 * r + k by omega]
                      · rw [upd_other _ _ _ _ e]; simp only [boxF]
                        by_cases h : j < 256
                        · rw [if_pos h, if_pos h]
                        · rw [if_neg h, if_neg h]
                          by_cases h2 : j - 256 < 16 * r + k
                          · rw [toF_lt _ _ _ _ h2, toF_lt _ _ _ _ (by omega)]
                          · rw [toF_ge _ _ _ _ (by omega), toF_ge _ _ _ _ (by omega)]
                    rw [upd_w8, e1] at h1
                    exact ⟨k + 1, by omega, by go_num, h1.drew, (HW3.out.other _ _ (show B + 1 ≠ B by omega)).drew, (HF3.out.set _ _ (fun h => by have h2 : B < w.heap.size := h; omega)).drew⟩
                  case measure => simp [intOf]; omega
                · obtain rfl : k = 16 := by omega
                  have HB3 := hid hb3
                  have HW3 := hid hw3
                  have HF3 := hid hf3
                  clear hb3 hw3 hf3
                  go_wp2_with fail
                  go_roundw
                  case rel => exact ⟨r + 1, by omega, by go_num, by rw [show 16 * (r + 1) = 16 * r + 16 by omega]; exact HB3.out, HW3.out, HF3.out⟩
                  case measure => simp [intOf]; omega
            · obtain rfl : r = 15 := by omega
              have hfin : Row wr B 95 496 (w8 (boxF t ks)) := hb2.congr (fun j hj => by
                simp only [w8, boxF]
                by_cases h : j < 256
                · rw [if_pos h, if_pos h]
                · rw [if_neg h, if_neg h, toF_lt _ _ _ _ (by omega)])
              have HFIN := hid hfin
              have HF2 := hid hf2
              clear hb2 hw2 hf2 hfin
              go_wp2_with fail
              go_ret
              exact ⟨B, rfl, HFIN.out, HF2.out, by omega⟩
theorem new_any (key : Nat → BitVec 8) (w : World) :
    Calls Try.prog 42 #[.agg (rowOf 32 (w8 key))] w fun e w' => NewPost tabF (keysOf tabF key) w e w' := new_core tabF key _ w rfl rfl
end Go.Proofs.Ytljddimmhjiehaa
