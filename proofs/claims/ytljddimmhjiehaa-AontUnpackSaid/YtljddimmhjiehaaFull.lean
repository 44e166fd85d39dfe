/- sha: one block. -/
import Derived.Test.YtljddimmhjiehaaMem
import Derived.Test.YtljddimmhjiehaaRot
import Derived.Test.YtljddimmhjiehaaRing
import Derived.Deep.RegionHeld3
namespace Go.Proofs.Ytljddimmhjiehaa
open Go.RowKit

def ringTo (m : Nat → BitVec 8) : Nat → Nat → BitVec 32
  | 0 => fun _ => 0#32
  | k + 1 => upd (ringTo m k) (k / 4) ((ringTo m k (k / 4)) <<< 8 ||| (m k).setWidth 32)
theorem zero32 : #[Value.int .u32 0, .int .u32 0, .int .u32 0, .int .u32 0, .int .u32 0, .int .u32 0, .int .u32 0, .int .u32 0, .int .u32 0, .int .u32 0, .int .u32 0, .int .u32 0, .int .u32 0, .int .u32 0, .int .u32 0, .int .u32 0] = rowOf 16 (w32 fun _ => 0#32) := by rfl
theorem eight32 (h : Nat → BitVec 32) : #[W32 (h 0), W32 (h 1), W32 (h 2), W32 (h 3), W32 (h 4), W32 (h 5), W32 (h 6), W32 (h 7)] = rowOf 8 (w32 h) := by rfl

/-- One round's words: t, the h's that stand one place further back at each round, a round's word, the ring's. -/
def one32 (K : Nat → BitVec 32) (i : Nat) (h : Nat → BitVec 32) (rv : BitVec 32) : BitVec 32 :=
  let a := fun n => h ((n + 64 - i) % 8)
  a 7 + ((a 4).rotateLeft 26 ^^^ (a 4).rotateLeft 21 ^^^ (a 4).rotateLeft 7) + (a 6 ^^^ a 4 &&& (a 5 ^^^ a 6)) + K i + rv
def two32 (i : Nat) (h : Nat → BitVec 32) : BitVec 32 :=
  let a := fun n => h ((n + 64 - i) % 8)
  (a 0).rotateLeft 30 ^^^ (a 0).rotateLeft 19 ^^^ (a 0).rotateLeft 10
def most32 (i : Nat) (h : Nat → BitVec 32) : BitVec 32 :=
  let a := fun n => h ((n + 64 - i) % 8)
  a 0 &&& a 1 ||| a 2 &&& (a 0 ||| a 1)
def stepH (K : Nat → BitVec 32) (i : Nat) (h : Nat → BitVec 32) (rv : BitVec 32) : Nat → BitVec 32 :=
  upd (upd h ((67 - i) % 8) (h ((67 - i) % 8) + one32 K i h rv)) ((71 - i) % 8) (one32 K i h rv + two32 i h + most32 i h)
def roundsTo (K : Nat → BitVec 32) (h : Nat → BitVec 32) (m : Nat → BitVec 8) : Nat → (Nat → BitVec 32) × (Nat → BitVec 32)
  | 0 => (h, ringTo m 64)
  | i + 1 => (stepH K i (roundsTo K h m i).1 (ringNext (roundsTo K h m i).2 i (i % 16)), ringNext (roundsTo K h m i).2 i)
def fullH (K : Nat → BitVec 32) (h : Nat → BitVec 32) (m : Nat → BitVec 8) : Nat → BitVec 32 := fun j => if j < 8 then h j + (roundsTo K h m 64).1 j else h j

def digV (S : Nat) (h : Nat → BitVec 32) (wait : Value) (long : BitVec 64) : Nat → Value := fun i =>
  if i = 0 then .pointer (some ⟨S, 0, none⟩) else if i ≤ 8 then W32 (h (i - 1)) else if i = 9 then wait else if i = 10 then W64 long else undef
def sumsV (F K : Nat → BitVec 32) : Nat → Value := fun i => if i < 8 then W32 (F i) else W32 (K (i - 8))

def partH (g h : Nat → BitVec 32) (k : Nat) : Nat → BitVec 32 := fun j => if j < k then h j + g j else h j
theorem upd_partH (S : Nat) (g h : Nat → BitVec 32) (k : Nat) (wait : Value) (long : BitVec 64) (hk : k < 8) :
    upd (digV S (partH g h k) wait long) (1 + k) (W32 (h k + g k)) = digV S (partH g h (k + 1)) wait long := by
  funext i
  by_cases e : i = 1 + k
  · subst e
    rw [upd_same]; simp only [digV, partH]
    rw [if_neg (by omega), if_pos (by omega), show 1 + k - 1 = k by omega, if_pos (by omega)]
  · rw [upd_other _ _ _ _ e]; simp only [digV, partH]
    by_cases h0 : i = 0
    · rw [if_pos h0, if_pos h0]
    · rw [if_neg h0, if_neg h0]
      by_cases h8 : i ≤ 8
      · rw [if_pos h8, if_pos h8]; congr 1
        by_cases h1 : i - 1 < k
        · rw [if_pos h1, if_pos (by omega)]
        · rw [if_neg h1, if_neg (by omega)]
      · rw [if_neg h8, if_neg h8]
set_option maxHeartbeats 400000 in
theorem at_any (n : Int) (b b2 k : Nat) (h : Nat → BitVec 32) (w : World) (h0 : 0 ≤ n) (h1 : n ≤ 7) (hk : k ≤ 63)
    (hci : Hid (w.cell? ⟨b2, 0, none⟩ = some (.int .i64 (k : Int)))) (hr : Hid (Row w b 109 8 (w32 h))) :
    Calls Try.prog 73 #[.int .i64 n, .pointer (some ⟨b, 0, none⟩), .pointer (some ⟨b2, 0, none⟩)] w fun e w' => e = .returned (W32 (h ((n.toNat + 64 - k) % 8))) ∧ w = w' := by
  obtain ⟨m, rfl⟩ := Int.eq_ofNat_of_zero_le h0
  rw [Int.toNat_natCast]
  have hc := hci.out
  have hh := hr.out.cell32 ((m + 64 - k) % 8) (by omega)
  clear hci hr
  go_enter Try.func73, Try.ntmps73
  go_wp2
  go_ret
  exact ⟨rfl, rfl⟩

theorem ring_any (R k : Nat) (r : Nat → BitVec 32) (w : World) (hk : k < 64) (hR : Row w R 122 16 (w32 r)) :
    Calls Try.prog 74 #[.pointer (some ⟨R, 0, none⟩), .int .i64 (k : Int)] w fun e w' => e = .returned (W32 (ringNext r k (k % 16))) ∧
      Row w' R 122 16 (w32 (ringNext r k)) ∧ Frm (· = R) w w' ∧ w'.heap.size = w.heap.size := by
  by_cases h : 16 ≤ k
  · exact ring_high R k r w h hk hR
  · have e : ringNext r k = r := by rw [ringNext, if_neg h]
    rw [e]
    refine (ring_low R k r w (by omega) hR).mono ?_
    rintro e w' ⟨h1, rfl⟩
    exact ⟨h1, hR, Frm.refl _ _, rfl⟩

set_option maxHeartbeats 1000000 in
set_option maxRecDepth 100000 in
theorem full_any (D S B cap : Nat) (F K h : Nat → BitVec 32) (m : Nat → BitVec 8) (wait : Value) (long : BitVec 64) (w : World)
    (hD : Row w D 114 11 (digV S h wait long)) (hS : Row w S 112 72 (sumsV F K))
    (hB : ∀ i, i < 64 → w.cell? ⟨B, i, none⟩ = some (W8 (m i))) :
    Calls Try.prog 70 #[.pointer (some ⟨D, 0, none⟩), .slice (some ⟨B, 0, none⟩) 64 cap] w fun e w' => e = .returned (.tuple #[]) ∧
      Row w' D 114 11 (digV S (fullH K h m) wait long) ∧ Frm (· = D) w w' := by
  have hDlt := hD.lt
  have hSlt := hS.lt
  have HB := hid hB
  have HD := hid hD
  have HS := hid hS
  clear hB hD hS
  go_enter Try.func70, Try.ntmps70
  go_wp2
  rw [zero32]
  go_loopw [18] (fun v wr => ∃ k : Nat, k ≤ 64 ∧ v = .int .i64 k ∧ Row wr w.heap.size 122 16 (w32 (ringTo m k)) ∧ wr.heap.size = w.heap.size + 1 ∧ Frm Nil w wr) (fun v _ => 64 - (intOf v).toNat)
  case atStart => exact ⟨0, by omega, rfl, Row.new _ _ _ _, by simp, (Frm.refl _ _).alloc _⟩
  case round =>
    obtain ⟨k, hk, rfl, hr, hz, hf⟩ := hrel
    by_cases hlt : k < 64
    · have hc := hr.cell32 (k / 4) (by omega)
      have hfr := hr.free (k / 4)
      have hb := hf.cell (HB.out k hlt) (by simp [Nil])
      have HR := hid hr
      have HF := hid hf
      have HZ := hid hz
      clear hr hf hz
      go_wp2
      go_roundw
      case rel =>
        have h1 := HR.out.set (k / 4) (W32 ((ringTo m k (k / 4)) <<< 8 ||| (m k).setWidth 32))
        rw [upd_w32] at h1
        exact ⟨k + 1, by omega, by go_num, h1, by simp [HZ.out], HF.out.set _ _ (by simp)⟩
      case measure => simp [intOf]; omega
    · obtain rfl : k = 64 := by omega
      have hDr := hf.row HD.out (by simp [Nil])
      have hSr := hf.row HS.out (by simp [Nil])
      have d0 : wr.cell? ⟨D, 0, none⟩ = some (.pointer (some ⟨S, 0, none⟩)) := hDr.cell 0 (by omega)
      have d1 : wr.cell? ⟨D, 1, none⟩ = some (W32 (h 0)) := hDr.cell 1 (by omega)
      have d2 : wr.cell? ⟨D, 2, none⟩ = some (W32 (h 1)) := hDr.cell 2 (by omega)
      have d3 : wr.cell? ⟨D, 3, none⟩ = some (W32 (h 2)) := hDr.cell 3 (by omega)
      have d4 : wr.cell? ⟨D, 4, none⟩ = some (W32 (h 3)) := hDr.cell 4 (by omega)
      have d5 : wr.cell? ⟨D, 5, none⟩ = some (W32 (h 4)) := hDr.cell 5 (by omega)
      have d6 : wr.cell? ⟨D, 6, none⟩ = some (W32 (h 5)) := hDr.cell 6 (by omega)
      have d7 : wr.cell? ⟨D, 7, none⟩ = some (W32 (h 6)) := hDr.cell 7 (by omega)
      have d8 : wr.cell? ⟨D, 8, none⟩ = some (W32 (h 7)) := hDr.cell 8 (by omega)
      have HR := hid hr
      have HF := hid hf
      have HZ := hid hz
      have HDr := hid hDr
      have HSr := hid hSr
      clear hr hf hz hDr hSr
      have hDl : D < wr.heap.size := by have := HZ.out; omega
      have hSl : S < wr.heap.size := by have := HZ.out; omega
      have hK : ∀ i, i < 64 → wr.cell? ⟨S, 8 + i, none⟩ = some (w32 K i) := fun i hi => by
        rw [HSr.out.cell (8 + i) (by omega)]; simp only [sumsV, w32]; rw [if_neg (by omega), Nat.add_sub_cancel_left]
      have HK := hid hK
      clear hK
      go_wp2_with (refine wpList_load_fn rfl 110 _ rfl S 8 64 (w32 K) rfl _ ?hcK Try.underlying110 rfl (by kernel_rfl) ?_)
      case hcK =>
        intro i hi
        rw [World.cell?_alloc_lt _ _ _ (by exact hSl)]; exact HK.out i hi
      go_wp2_with fail
      rw [eight32]
      have hrA := HR.out.alloc (.cells (rowOf 8 (w32 h)) 109)
      have hrB := Row.new wr 109 8 (w32 h)
      have hrF := HF.out.alloc (.cells (rowOf 8 (w32 h)) 109)
      have hrZ : wr.heap.size + 1 ≤ (wr.alloc (.cells (rowOf 8 (w32 h)) 109)).heap.size := by simp
      have hN : wr.heap.size = w.heap.size + 1 := HZ.out
      generalize wr.alloc (.cells (rowOf 8 (w32 h)) 109) = w2 at hrA hrB hrF hrZ ⊢
      have HN := hid hN
      clear hN
      clear d0 d1 d2 d3 d4 d5 d6 d7 d8 HR HF HZ HDr HSr HK
      generalize wr.heap.size = N1 at *
      go_loopw [46] (fun v wi => ∃ k : Nat, k ≤ 64 ∧ v = .int .i64 k ∧ Row wi w.heap.size 122 16 (w32 (roundsTo K h m k).2) ∧ Row wi N1 109 8 (w32 (roundsTo K h m k).1) ∧ N1 + 1 ≤ wi.heap.size ∧ Frm Nil w wi) (fun v _ => 64 - (intOf v).toNat)
      case atStart => exact ⟨0, by omega, rfl, hrA, hrB, hrZ, hrF⟩
      case round =>
        clear hrA hrB hrF hrZ
        obtain ⟨k, hk, rfl, hr, hh, hz, hf⟩ := hrel
        by_cases hlt : k < 64
        · -- ROUND-BEGIN
          have HR := hid hr
          have HH := hid hh
          have HF := hid hf
          clear hr hh hf
          generalize hrr : (roundsTo K h m k).2 = r at *
          generalize hhh : (roundsTo K h m k).1 = g at *
          have HRR := hid hrr
          have HHH := hid hhh
          clear hrr hhh
          go_wp2_with fail
          have hI : (wr.alloc (.cells #[.int .i64 (k : Int)] 3)).cell? ⟨wr.heap.size, 0, none⟩ = some (.int .i64 (k : Int)) := by simp
          have hR3 := HR.out.alloc (.cells #[.int .i64 (k : Int)] 3)
          have hH3 := HH.out.alloc (.cells #[.int .i64 (k : Int)] 3)
          have hF3 := HF.out.alloc (.cells #[.int .i64 (k : Int)] 3)
          have hZ3 : wr.heap.size + 1 ≤ (wr.alloc (.cells #[.int .i64 (k : Int)] 3)).heap.size := by simp
          clear HR HH HF
          generalize wr.alloc (.cells #[.int .i64 (k : Int)] 3) = w3 at hI hR3 hH3 hF3 hZ3 ⊢
          generalize wr.heap.size = NI at *
          have HI := hid hI
          have HR3 := hid hR3
          have HH3 := hid hH3
          have HF3 := hid hF3
          clear hI hR3 hH3 hF3
          go_wp2_with (first | (go_at_call 73; refine (at_any _ _ _ k g _ (by decide) (by decide) (by omega) HI HH3).mono ?_; rintro e w' ⟨rfl, rfl⟩) | (go_at_call 72; refine (rot32_any _ _ _ (by decide)).mono ?_; rintro e w' ⟨rfl, rfl⟩))
          have hI := HI.out
          go_region_held3 (fun w' => w'.cell? ⟨NI, 0, none⟩ = some (.int .i64 (k : Int))) (first | exact HI.out | exact hfq.cell HI.out (show ¬ NI = w.heap.size by have := HN.out; omega))
            ((first | (go_at_call 73; refine (at_any _ _ _ k g _ (by decide) (by decide) (by omega) ?_ ?_).mono ?_; exact HI; exact HH3; rintro e w' ⟨rfl, rfl⟩) | (go_at_call 74; refine (ring_any _ k r _ (by omega) ?_).mono ?_; exact HR3.out; rintro e wq ⟨rfl, hrq, hfq, hzq⟩)))
          have hF4 : Frm Nil w wq := HF3.out.drew.trans hfq (fun i hi he => by have he' : i = w.heap.size := he; omega)
          have hH4 : Row wq N1 109 8 (w32 g) := hfq.row HH3.out.drew (show ¬ N1 = w.heap.size by have := HN.out; omega)
          have hI4 : wq.cell? ⟨NI, 0, none⟩ = some (.int .i64 (k : Int)) := hfq.cell (w := w3.drew) HI.out (show ¬ NI = w.heap.size by have := HN.out; omega)
          have hZ4 : NI + 1 ≤ wq.heap.size := by have : wq.heap.size = w3.heap.size := hzq; have := hZ3; omega
          clear hfq hzq hI
          have HI4 := hid hI4
          have HR4 := hid hrq
          have HH4 := hid hH4
          have HF4 := hid hF4
          clear hrq hH4 hF4
          have g1 := HH4.out.cell32 ((67 - k) % 8) (by omega)
          have g2 := HH4.out.free ((67 - k) % 8)
          have g3 := HH4.out.cell32 ((71 - k) % 8) (by omega)
          have g4 := HH4.out.free ((71 - k) % 8)
          have g5 : (67 - k) % 8 ≠ (71 - k) % 8 := by omega
          have g6 : (71 - k) % 8 ≠ (67 - k) % 8 := by omega
          have g7 : NI ≠ N1 := by omega
          have g8 : N1 ≠ NI := by omega
          go_wp2_with (first | (go_at_call 73; refine (at_any _ _ _ k g _ (by decide) (by decide) (by omega) HI4 HH4).mono ?_; rintro e w' ⟨rfl, rfl⟩) | (go_at_call 72; refine (rot32_any _ _ _ (by decide)).mono ?_; rintro e w' ⟨rfl, rfl⟩))
          go_roundw
          case rel =>
            have h1 := (HH4.out.set ((67 - k) % 8) (W32 (g ((67 - k) % 8) + one32 K k g (ringNext r k (k % 16))))).set ((71 - k) % 8) (W32 (one32 K k g (ringNext r k (k % 16)) + two32 k g + most32 k g))
            rw [upd_w32, upd_w32] at h1
            refine ⟨k + 1, by omega, by go_num, ?_, ?_, ?_, ?_⟩
            · have := (HR4.out.other ⟨N1, (67 - k) % 8, none⟩ (W32 (g ((67 - k) % 8) + one32 K k g (ringNext r k (k % 16)))) (by have := HN.out; show w.heap.size ≠ N1; omega)).other ⟨N1, (71 - k) % 8, none⟩ (W32 (one32 K k g (ringNext r k (k % 16)) + two32 k g + most32 k g)) (by have := HN.out; show w.heap.size ≠ N1; omega)
              rw [roundsTo]; simp only [HRR.out]; exact this
            · rw [roundsTo]; simp only [HRR.out, HHH.out]; exact h1
            · simp; omega
            · exact (HF4.out.set _ _ (by have := HN.out; intro h; exfalso; change N1 < _ at h; omega)).set _ _ (by have := HN.out; intro h; exfalso; change N1 < _ at h; omega)
          case measure => simp [intOf]; omega
        -- ROUND-END
        · obtain rfl : k = 64 := by omega
          have hDr := hf.row HD.out (by simp [Nil])
          have hF := hf.mono (Q := (· = D)) (fun i _ hi => False.elim hi)
          have HR := hid hr
          clear hr hf
          go_wp2_with fail
          generalize hgg : (roundsTo K h m 64).1 = g at *
          have HG := hid hgg
          clear hgg
          obtain ⟨wp, rfl⟩ : ∃ wp : World, wp = wr := ⟨_, rfl⟩
          go_loopw [127] (fun v wi => ∃ k : Nat, k ≤ 8 ∧ v = .int .i64 k ∧ Row wi D 114 11 (digV S (partH g h k) wait long) ∧ Row wi N1 109 8 (w32 g) ∧ Frm (· = D) w wi) (fun v _ => 8 - (intOf v).toNat)
          case atStart =>
            refine ⟨0, by omega, rfl, ?_, hh, hF⟩
            have : partH g h 0 = h := by funext j; simp [partH]
            rw [this]; exact hDr
          case round =>
            clear hDr hF hh
            obtain ⟨k, hk, rfl, hr, hh, hf⟩ := hrel
            by_cases hlt : k < 8
            · have c1 : wr.cell? ⟨D, 1 + k, none⟩ = some (W32 (h k)) := by
                rw [hr.cell (1 + k) (by omega)]; simp only [digV, partH]
                rw [if_neg (by omega), if_pos (by omega), Nat.add_sub_cancel_left, if_neg (by omega)]
              have c2 := hr.free (1 + k)
              have c3 := hh.cell32 k (by omega)
              have c4 : D ≠ N1 := by have := HN.out; omega
              have HR3 := hid hr
              have HH3 := hid hh
              have HF3 := hid hf
              clear hr hh hf
              go_wp2_with fail
              go_region
              go_wp2_with fail
              go_roundw
              case rel =>
                have h1 := HR3.out.set (1 + k) (W32 (h k + g k))
                rw [upd_partH S g h k wait long hlt] at h1
                exact ⟨k + 1, by omega, by go_num, h1.drew, (HH3.out.other _ _ (Ne.symm c4)).drew, (HF3.out.set _ _ (fun _ => rfl)).drew⟩
              case measure => simp [intOf]; omega
            · obtain rfl : k = 8 := by omega
              go_wp2_with fail
              go_end0
              have e : partH g h 8 = fullH K h m := by
                funext j; simp only [partH, fullH, HG.out]
              rw [e] at hr
              exact ⟨rfl, hr, hf⟩
end Go.Proofs.Ytljddimmhjiehaa
