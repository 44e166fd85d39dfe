/- The reference of layer 11: the class; a secret's package; texts one behind the other. -/
import Derived.Test.YtljddimmhjiehaaAesEq
namespace Go.Proofs.Ytljddimmhjiehaa
open Go.RowKit

set_option maxHeartbeats 1000000 in
theorem rJoin_any (a b : List (BitVec 8)) (av bv : Value) (w : World) (ha : Seg w av (a.map W8)) (hb : Seg w bv (b.map W8)) (hl : a.length + b.length ≤ 100000000) :
    Calls Try.prog 55 #[av, bv] w fun e w' => Fresh8 (a ++ b) w e w' := by
  have HA := hid ha
  have HB := hid hb
  obtain ⟨ao, ac, rfl⟩ := ha.open8
  obtain ⟨bo, bc, rfl⟩ := hb.open8
  clear ha hb
  go_enter Try.func55, Try.ntmps55
  have HN0 : Hid (New w w 5 (.slice none 0 0) (([] : List (BitVec 8)).map W8)) := New.nil _ (Frm.refl _ _)
  go_wp2_with (at_builtin; go_loud (refine app8 HN0.out HA.out (by rw [List.length_nil]; omega) rfl _ _ rfl (by rfl) (by rfl) ?_))
  intro q w1 hn1 hf1 _
  have HN1 : Hid (New w w1 5 q (a.map W8)) := hid (by simpa using hn1)
  have HB1 := hid (HB.out.frm (HN1.out.frm) (by simp [Nil]))
  clear hn1 hf1 HA HB HN0
  go_wp2_with (at_builtin; go_loud (refine app8 HN1.out HB1.out (by omega) rfl _ _ rfl (by rfl) (by rfl) ?_))
  intro q2 w2 hn2 _ _
  have HN2 : Hid (New w w2 5 q2 ((a ++ b).map W8)) := hid (by rw [List.map_append]; simpa using hn2)
  clear hn2 HN1 HB1
  go_wp2_with fail
  go_ret
  exact ⟨_, rfl, HN2.out⟩
set_option maxHeartbeats 1000000 in
set_option maxRecDepth 100000 in
theorem rBytes_any (s : Nat → BitVec 8) (w : World) :
    Calls Try.prog 56 #[.agg (rowOf 32 (w8 s))] w fun e w' => ∃ g, e = .returned (.slice (some ⟨g, 0, none⟩) 32 32) ∧ Row w' g 5 32 (w8 s) ∧ Frm Nil w w' ∧ w.heap.size ≤ g := by
  obtain ⟨i0, hi, hiz, his, hib⟩ := info_parts info_u8
  go_enter Try.func56, Try.ntmps56
  have HS0 := hid (Row.new w 26 32 (w8 s))
  have HF0 := hid ((Frm.refl Nil w).alloc (.cells (rowOf 32 (w8 s)) 26))
  have hz0 : (w.alloc (.cells (rowOf 32 (w8 s)) 26)).heap.size = w.heap.size + 1 := by simp
  go_upto_region 1 with fail
  generalize w.alloc (.cells (rowOf 32 (w8 s)) 26) = w0 at HS0 HF0 hz0 ⊢
  go_wp2_with (at_make; refine wpList_make_full _ rfl _ _ 22 rfl 0 5 i0 (.int .u8 0) 1 Try.underlying22 hi hiz his .i64 .i64 32 32 32 rfl rfl rfl rfl ?b2 ?b3 (Nat.zero_le _) ?_)
  case b2 => first | omega | (rw [hib]; omega)
  case b3 => unfold maxLen; omega
  intro w2 ho2 hg2
  rw [madeCells_u8] at ho2
  generalize hT : w.heap.size = T at *
  have ho3 : Own w2 5 (.slice (some ⟨T + 1, 0, none⟩) 32 32) ((List.range 32).map (w8 fun _ => 0#8)) := Own.of_base (by first | exact ho2 | (rw [hz0] at ho2; exact ho2)) (by simp)
  have hr2 : Row w2 (T + 1) 5 32 (w8 fun _ => 0#8) := Row.of_own ho3 _ (fun i hi => by simp [List.getElem?_range hi])
  have hf2 := Frm.of_grown hg2
  have HW2 : Hid (Row w2 (T + 1) 5 32 (w8 (partF (fun _ => 0#8) s 0))) := by rw [partF_zero]; exact hr2
  have HS2 := hid (hf2.row HS0.out (by simp [Nil]))
  have HF2 := hid (HF0.out.trans hf2 (fun _ _ h => h))
  clear ho2 ho3 hr2 hf2 hg2 hi hiz his hib HS0 HF0 hz0
  go_wp2_with fail
  go_loopw [4] (fun vi wr => ∃ i : Nat, i ≤ 32 ∧ vi = .int .i64 (i : Int) ∧ Row wr (T + 1) 5 32 (w8 (partF (fun _ => 0#8) s i)) ∧ Row wr T 26 32 (w8 s) ∧ Frm Nil w wr) (fun vi _ => 32 - (intOf vi).toNat)
  case atStart => exact ⟨0, by omega, rfl, HW2.out, HS2.out, HF2.out⟩
  case round =>
    clear HW2 HS2 HF2
    obtain ⟨i, hi, rfl, hw, hs, hf⟩ := hrel
    by_cases hlt : i < 32
    · have c1 := hs.cell8 i hlt
      have c2 := hw.cell8 i hlt
      have c2f := hw.free i
      have HW := hid hw
      have HS := hid hs
      have HF := hid hf
      clear hw hs hf
      go_wp2_with fail
      go_roundw
      case rel =>
        have h1 := HW.out.set i (W8 (s i))
        rw [upd_w8, upd_partF] at h1
        exact ⟨i + 1, by omega, by go_num, h1, HS.out.other _ _ (by simp), HF.out.set _ _ (by simp; omega)⟩
      case measure => simp [intOf]; omega
    · have HW := hid (show Row wr (T + 1) 5 32 (w8 s) from hw.congr fun j hj => by simp only [w8]; rw [partF_full _ _ _ _ (by omega)])
      have HF := hid hf
      clear hw hs hf
      go_wp2_with fail
      go_ret
      exact ⟨T + 1, rfl, HW.out, HF.out, by omega⟩
set_option maxHeartbeats 1000000 in
theorem rClass_in (n c : Nat) (w : World) (h : n ≤ 1000) (hc : classN n = c) :
    Calls Try.prog 36 #[.int .i64 (n : Int)] w fun e w' => e = .returned (.tuple #[.int .i64 (c : Int), .int .i64 0]) ∧ w = w' := by
  obtain ⟨h0, h1, h2⟩ := classN_spec n h
  rw [hc] at h0 h1 h2
  have hlow : ∀ m : Nat, (m = 32 ∨ m = 64 ∨ m = 128 ∨ m = 256 ∨ m = 512 ∨ m = 1024) → m ≤ c → m ≠ c → m < n + 2 ∧ 2 * m ≤ c := by
    unfold IsCls at h0
    omega
  have hcl : c = 32 ∨ c = 64 ∨ c = 128 ∨ c = 256 ∨ c = 512 ∨ c = 1024 := by unfold IsCls at h0; omega
  have HL := hid hlow
  have HCL := hid hcl
  have HC := hid hc
  clear hlow hcl hc h0 h2
  have e0 : decide ((n : Int) < 0) = false := by simp
  have e1 : decide ((n : Int) > 1000) = false := by simp; omega
  go_enter Try.func36, Try.ntmps36
  go_wp2_with fail
  go_loop [4] (fun v => ∃ m : Nat, (m = 32 ∨ m = 64 ∨ m = 128 ∨ m = 256 ∨ m = 512 ∨ m = 1024) ∧ m ≤ c ∧ v = .int .i64 (m : Int)) (fun v => 2000 - (intOf v).toNat)
  case atStart => exact ⟨32, by omega, by have := HCL.out; omega, rfl⟩
  case round =>
    obtain ⟨m, hm1, hm2, rfl⟩ := hrel
    have hm3 : 32 ≤ m ∧ m ≤ 1024 := by omega
    have HM := hid hm1
    obtain ⟨hm3, hm4⟩ := hm3
    clear hm1
    by_cases hlt : m = c
    · subst hlt
      have ht : decide ((m : Int) - 2 < (n : Int)) = false := by simp; omega
      go_wp2_with fail
      go_ret2
      exact ⟨rfl, rfl⟩
    · have hh := HL.out m HM.out hm2 hlt
      obtain ⟨hh1, hh2⟩ := hh
      have ht : decide ((m : Int) - 2 < (n : Int)) = true := by simp; omega
      have HNE := hid hlt
      have HNX := hid (show 2 * m = 32 ∨ 2 * m = 64 ∨ 2 * m = 128 ∨ 2 * m = 256 ∨ 2 * m = 512 ∨ 2 * m = 1024 by have := HM.out; have := HCL.out; omega)
      clear hlt
      go_wp2_with fail
      go_round
      case rel => exact ⟨2 * m, HNX.out, hh2, by go_num⟩
      case measure => simp [intOf]; omega
set_option maxHeartbeats 1000000 in
theorem rClass_out (n : Int) (w : World) (h : n < 0 ∨ 1000 < n) :
    Calls Try.prog 36 #[.int .i64 n] w fun e w' => e = .returned (.tuple #[.int .i64 0, .int .i64 3]) ∧ w = w' := by
  by_cases hn : n < 0
  · have e0 : decide (n < 0) = true := by simpa using hn
    go_enter Try.func36, Try.ntmps36
    go_wp2_with fail
    go_ret2
    exact ⟨rfl, rfl⟩
  · have e0 : decide (n < 0) = false := by simpa using hn
    have e1 : decide (n > 1000) = true := by simp; omega
    go_enter Try.func36, Try.ntmps36
    go_wp2_with fail
    go_ret2
    exact ⟨rfl, rfl⟩
end Go.Proofs.Ytljddimmhjiehaa
