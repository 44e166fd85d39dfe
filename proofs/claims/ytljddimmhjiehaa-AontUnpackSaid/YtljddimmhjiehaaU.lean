/- What slices that are no package tell: the errors. -/
import Derived.Test.YtljddimmhjiehaaA9
namespace Go.Proofs.Ytljddimmhjiehaa
open Go.RowKit

/-- The error of texts that are no package of a class. -/
def Bad (c : Int) (bs : List (List (BitVec 8))) (er : Int) : Prop :=
  er = 14 ∧ ¬ (IsCls c ∧ 1 ≤ (bs.length : Int) ∧ (bs.length : Int) ≤ 255) ∨ er = 2 ∧ ∃ n : Nat, c = n ∧ IsCls n ∧ 1 ≤ bs.length ∧ bs.length ≤ 255 ∧ ¬ Flat bs (sizeN n bs.length)
theorem not_flat {bs : List (List (BitVec 8))} {sz : Nat} (h : ¬ Flat bs sz) (n : Nat) (hn : bs.length = n) (hall : ∀ j, j < n → (bs.getD j []).length = sz) : False := h fun j hj => hall j (by omega)
theorem Bad.ne {c : Int} {bs : List (List (BitVec 8))} {er : Int} (h : Bad c bs er) : (er != 0) = true := by
  rcases h with ⟨rfl, _⟩ | ⟨rfl, _⟩ <;> rfl
set_option maxHeartbeats 1000000 in
theorem joined_bad (c er : Int) (bs : List (List (BitVec 8))) (sv : Value) (w : World) (hs : Txts w sv bs) (h : Bad c bs er) (h1 : -9223372036854775808 ≤ c) (h2 : c ≤ 9223372036854775807) :
    Calls Try.prog 31 #[.int .i64 c, sv] w fun e w' => e = .returned (.tuple #[.slice none 0 0, .int .i64 er]) ∧ w = w' := by
  obtain ⟨ao, cp, ss, rfl, hss⟩ := hs.open
  rcases h with ⟨rfl, hb⟩ | ⟨rfl, n, rfl, hic, hn1, hn2, hf⟩
  · have HZ := hid (fun w => size_out c bs.length w hb h1 h2)
    clear hs hss hb
    go_enter Try.func31, Try.ntmps31
    go_wp2_with (go_at_call 21; refine (HZ.out _).mono ?_; rintro e w' ⟨rfl, rfl⟩)
    go_ret2
    exact ⟨rfl, rfl⟩
  · have HZ := hid (fun w => size_in n bs.length w hic hn1 hn2)
    have hbd := sizeN_bounds n bs.length hn1
    have hn3 : n ≤ 1024 := by unfold IsCls at hic; omega
    generalize sizeN n bs.length = sz at *
    have HF := hid (not_flat hf)
    have HSS := hid hss
    clear hs hss hf hic hbd
    generalize hk : bs.length = k at *
    go_enter Try.func31, Try.ntmps31
    go_wp2_with (go_at_call 21; refine (HZ.out _).mono ?_; rintro e w' ⟨rfl, rfl⟩)
    go_loop [22] (fun vi => ∃ j : Nat, j ≤ k ∧ vi = .int .i64 (j : Int) ∧ ∀ i, i < j → (bs.getD i []).length = sz) (fun vi => k - (intOf vi).toNat)
    case atStart => exact ⟨0, by omega, rfl, fun i hi => by omega⟩
    case round =>
      obtain ⟨j, hj, rfl, hall⟩ := hrel
      by_cases hlt : j < k
      · obtain ⟨b, o, rfl, d1, hc2⟩ := HSS.out j hlt
        obtain ⟨aj, cq, hv⟩ := hc2.open8
        have HALL := hid hall
        generalize ss j = s at *
        subst hv
        clear hc2 hall
        have b1 : (j : Int) < (k : Int) := by omega
        by_cases hl : (bs.getD j []).length = sz
        · have HN := hid (show ∀ i, i < j + 1 → (bs.getD i []).length = sz from fun i hi => by
            by_cases hij : i = j
            · rw [hij]; exact hl
            · exact HALL.out i (by omega))
          have b2 : (((bs.getD j []).length : Int) != (sz : Int)) = false := by rw [hl]; simp
          generalize (bs.getD j []).length = m at *
          clear hl
          go_wp2_with fail
          go_round
          case rel => exact ⟨j + 1, by omega, by go_num, HN.out⟩
          case measure => simp [intOf]; omega
        · have b2 : (((bs.getD j []).length : Int) != (sz : Int)) = true := by rw [bne_iff_ne]; omega
          generalize (bs.getD j []).length = m at *
          go_wp2_with fail
          go_ret2
          exact ⟨rfl, rfl⟩
      · obtain rfl : j = k := by omega
        exact (HF.out j rfl hall).elim
set_option maxHeartbeats 1000000 in
theorem key_bad (c er : Int) (bs : List (List (BitVec 8))) (sv : Value) (w : World) (hs : Txts w sv bs) (h : Bad c bs er) (h1 : -9223372036854775808 ≤ c) (h2 : c ≤ 9223372036854775807) :
    Calls Try.prog 11 #[.int .i64 c, sv] w fun e w' => e = .returned (.tuple #[.agg (rowOf 32 (w8 fun _ => 0#8)), .int .i64 er]) ∧ Frm Nil w w' := by
  have HJ := hid (fun w hs => joined_bad c er bs sv w hs h h1 h2)
  have HS := hid hs
  have b1 := h.ne
  clear hs h
  go_enter Try.func11, Try.ntmps11
  have HR0 := hid (Row.new w 26 32 (w8 fun _ => 0#8))
  have HF0 := hid ((Frm.refl Nil w).alloc (.cells (rowOf 32 (w8 fun _ => 0#8)) 26))
  go_upto_region 1 with fail
  rw [zero8x32]
  generalize w.alloc (.cells (rowOf 32 (w8 fun _ => 0#8)) 26) = w0 at HR0 HF0 ⊢
  go_wp2_with fail
  refine (HJ.out w0 (HS.out.frm HF0.out)).mono ?_
  rintro e w' ⟨rfl, rfl⟩
  go_wp2_with (refine wpList_store_fn rfl 26 _ _ rfl rfl w.heap.size 0 32 32 _ _ (w8 fun _ => 0#8) rfl rfl HR0.out (by kernel_rfl) (by omega) (fun _ _ => rfl) ?_)
  exact bodyPost_cell2 rfl w.heap.size 32 _ _ _ _ rfl rfl (HR0.out.over _) Try.underlying26 rfl (by kernel_rfl) rfl ⟨rfl, HF0.out.setRow _ _ (fun h => by omega)⟩
set_option maxHeartbeats 1000000 in
theorem unpack_bad (c er : Int) (bs : List (List (BitVec 8))) (sv : Value) (w : World) (hs : Txts w sv bs) (h : Bad c bs er) (h1 : -9223372036854775808 ≤ c) (h2 : c ≤ 9223372036854775807) :
    Calls Try.prog 15 #[.int .i64 c, sv] w fun e w' => e = .returned (.tuple #[.slice none 0 0, .int .i64 er]) ∧ Frm Nil w w' := by
  have HJ := hid (fun w hs => joined_bad c er bs sv w hs h h1 h2)
  have HS := hid hs
  have b1 := h.ne
  clear hs h
  go_enter Try.func15, Try.ntmps15
  go_wp2_with fail
  refine (HJ.out w HS.out).mono ?_
  rintro e w' ⟨rfl, rfl⟩
  go_wp2_with fail
  go_ret2
  exact ⟨rfl, Frm.refl _ _⟩
def Short8 (bs : List (List (BitVec 8))) : Prop := ∀ j, j < bs.length → (bs.getD j []).length ≤ 100000
set_option maxHeartbeats 2000000 in
set_option maxRecDepth 100000 in
theorem refJoin_bad (c er : Int) (bs : List (List (BitVec 8))) (sv : Value) (w : World) (hs : Txts w sv bs) (h : Bad c bs er) :
    Calls Try.prog 9 #[.int .i64 c, sv] w fun e w' => e = .returned (.tuple #[.slice none 0 0, .int .i64 er]) ∧ Frm Nil w w' := by
  obtain ⟨ao, cp, ss, rfl, hss⟩ := hs.open
  rcases h with ⟨rfl, hb⟩ | ⟨rfl, n, rfl, hic, hn1, hn2, hf⟩
  · have HZ := hid (fun w => refSize_out c bs.length w hb)
    clear hs hss hb
    go_enter Try.func9, Try.ntmps9
    go_wp2_with (go_at_call 25; refine (HZ.out _).mono ?_; rintro e w' ⟨rfl, rfl⟩)
    go_ret2
    exact ⟨rfl, Frm.refl _ _⟩
  · have HZ := hid (fun w => refSize_in n bs.length _ w hic hn1 hn2 rfl)
    have hbd := sizeN_bounds n bs.length hn1
    have hn3 : n ≤ 1024 := by unfold IsCls at hic; omega
    have hsb : sizeN n bs.length ≤ 1072 := by omega
    generalize sizeN n bs.length = sz at *
    have HF := hid (not_flat hf)
    have HSS := hid hss
    have HT := hid (take_flat bs)
    have HBT : Hid (∀ k, k ≤ bs.length → (∀ i, i < k → (bs.getD i []).length = sz) → (bs.take k).flatten.length ≤ 255 * 1072) := fun k hk hall => by
      have hfl : Flat (bs.take k) sz := fun j hj => by
        rw [List.length_take, Nat.min_eq_left hk] at hj
        have := hall j hj
        rw [List.getD_eq_getElem?_getD, List.getElem?_take_of_lt hj, ← List.getD_eq_getElem?_getD]
        exact this
      rw [flat_len _ _ hfl, List.length_take, Nat.min_eq_left hk]
      exact Nat.mul_le_mul (by omega) hsb
    clear hs hss hf hic hbd
    generalize hk : bs.length = k at *
    go_enter Try.func9, Try.ntmps9
    go_wp2_with (go_at_call 25; refine (HZ.out _).mono ?_; rintro e w' ⟨rfl, rfl⟩)
    go_loopw [8, 9] (fun vo vi wr => ∃ (j : Nat) (q : Value), q = vo ∧ j ≤ k ∧ vi = .int .i64 (j : Int) ∧ New w wr 5 vo ((bs.take j).flatten.map W8) ∧ ∀ i, i < j → (bs.getD i []).length = sz) (fun _ vi _ => k - (intOf vi).toNat)
    case atStart => exact ⟨0, _, rfl, by omega, rfl, New.nil _ (Frm.refl _ _), fun i hi => by omega⟩
    case round =>
      obtain ⟨j, q, rfl, hj, rfl, hn, hall⟩ := hrel
      by_cases hlt : j < k
      · obtain ⟨b, o, rfl, d0, s0⟩ := HSS.out j hlt
        have d1 := hn.frm.cell d0 (by simp [Nil])
        have s1 := s0.frm hn.frm (by simp [Nil])
        obtain ⟨aj, cq, hv⟩ := s1.open8
        have HALL := hid hall
        have HST := hid (HT.out j (by omega))
        have HLL := hid (HBT.out j (by omega) hall)
        have b1 : (j : Int) < (k : Int) := by omega
        by_cases hl : (bs.getD j []).length = sz
        · have HAL2 := hid (show ∀ i, i < j + 1 → (bs.getD i []).length = sz from fun i hi => by
            by_cases hij : i = j
            · rw [hij]; exact hl
            · exact HALL.out i (by omega))
          rw [hl] at hv
          generalize (bs.take j).flatten = l at *
          have HLN := hid hl
          have HSEG := hid s1
          generalize bs.getD j [] = m at *
          generalize ss j = s at *
          subst hv
          have HN := hid hn
          clear hl s0 s1 d0 hn hall
          go_wp2_with (at_builtin; go_loud (refine app8 HN.out (by exact HSEG.out) (by rw [HLN.out]; have := HLL.out; omega) rfl _ _ rfl (by rfl) (by rfl) ?_))
          intro q2 w2 hn2 _ _
          have HN2 : Hid (New w w2 5 q2 ((bs.take (j + 1)).flatten.map W8)) := by
            rw [HST.out, List.map_append]; exact hn2
          clear hn2
          go_wp2_with fail
          go_roundw
          case rel => exact ⟨j + 1, _, rfl, by omega, by go_num, HN2.out, HAL2.out⟩
          case measure => simp [intOf]; omega
        · have b2 : (((bs.getD j []).length : Int) != (sz : Int)) = true := by rw [bne_iff_ne]; omega
          have HFR := hid hn.frm
          clear hall hn s1 s0
          generalize (bs.getD j []).length = m at *
          generalize ss j = s at *
          subst hv
          go_wp2_with fail
          go_ret2
          exact ⟨rfl, HFR.out⟩
      · obtain rfl : j = k := by omega
        exact (HF.out j rfl hall).elim
set_option maxHeartbeats 1000000 in
set_option maxRecDepth 100000 in
theorem refKey_bad (c er : Int) (bs : List (List (BitVec 8))) (sv : Value) (w : World) (hs : Txts w sv bs) (h : Bad c bs er) :
    Calls Try.prog 14 #[.int .i64 c, sv] w fun e w' => e = .returned (.tuple #[.agg (rowOf 32 (w8 fun _ => 0#8)), .int .i64 er]) ∧ Frm Nil w w' := by
  have HJ := hid (fun w hs => refJoin_bad c er bs sv w hs h)
  have HS := hid hs
  have b1 := h.ne
  clear hs h
  go_enter Try.func14, Try.ntmps14
  have HR0 := hid (Row.new w 26 32 (w8 fun _ => 0#8))
  have HF0 := hid ((Frm.refl Nil w).alloc (.cells (rowOf 32 (w8 fun _ => 0#8)) 26))
  go_upto_region 1 with fail
  rw [zero8x32]
  generalize w.alloc (.cells (rowOf 32 (w8 fun _ => 0#8)) 26) = w0 at HR0 HF0 ⊢
  go_wp2_with fail
  refine (HJ.out w0 (HS.out.frm HF0.out)).mono ?_
  rintro e w1 ⟨rfl, hf1⟩
  have HR1 := hid (hf1.row HR0.out (by simp [Nil]))
  have HF1 := hid (HF0.out.trans hf1 (fun _ _ h => h))
  clear hf1
  go_wp2_with (refine wpList_store_fn rfl 26 _ _ rfl rfl w.heap.size 0 32 32 _ _ (w8 fun _ => 0#8) rfl rfl HR1.out (by kernel_rfl) (by omega) (fun _ _ => rfl) ?_)
  exact bodyPost_cell2 rfl w.heap.size 32 _ _ _ _ rfl rfl (HR1.out.over _) Try.underlying26 rfl (by kernel_rfl) rfl ⟨rfl, HF1.out.setRow _ _ (fun h => by omega)⟩
set_option maxHeartbeats 1000000 in
set_option maxRecDepth 100000 in
theorem refUnpack_bad (c er : Int) (bs : List (List (BitVec 8))) (sv : Value) (w : World) (hs : Txts w sv bs) (h : Bad c bs er) :
    Calls Try.prog 16 #[.agg (rowOf 256 (w8 tabF)), .int .i64 c, sv] w fun e w' => e = .returned (.tuple #[.slice none 0 0, .int .i64 er]) ∧ Frm Nil w w' := by
  have HJ := hid (fun w hs => refJoin_bad c er bs sv w hs h)
  have HS := hid hs
  have b1 := h.ne
  clear hs h
  go_enter Try.func16, Try.ntmps16
  have HF0 := hid ((Frm.refl Nil w).alloc (.cells (rowOf 256 (w8 tabF)) 47))
  go_upto_region 1 with fail
  generalize w.alloc (.cells (rowOf 256 (w8 tabF)) 47) = w0 at HF0 ⊢
  go_wp2_with fail
  refine (HJ.out w0 (HS.out.frm HF0.out)).mono ?_
  rintro e w1 ⟨rfl, hf1⟩
  have HF1 := hid (HF0.out.trans hf1 (fun _ _ h => h))
  clear hf1
  go_wp2_with fail
  go_ret2
  exact ⟨rfl, HF1.out⟩
end Go.Proofs.Ytljddimmhjiehaa
/- The reference's copies and sizes of texts; its key. -/
namespace Go.Proofs.Ytljddimmhjiehaa
open Go.RowKit

theorem takeT_snoc (bs : List (List (BitVec 8))) (j : Nat) (hj : j < bs.length) : bs.take (j + 1) = bs.take j ++ [bs.getD j []] := by
  rw [List.take_add_one, List.getElem?_eq_getElem hj, List.getD_eq_getElem?_getD, List.getElem?_eq_getElem hj]
  rfl
set_option maxHeartbeats 2000000 in
set_option maxRecDepth 100000 in
theorem copyAll_any (bs : List (List (BitVec 8))) (sv : Value) (w : World) (hs : Txts w sv bs) (hl : bs.length ≤ 1000000) (hsh : Short8 bs) :
    Calls Try.prog 13 #[sv] w fun e w' => ∃ v, e = .returned v ∧ TextsNew w w' v bs := by
  obtain ⟨ao, cp, ss, rfl, hss⟩ := hs.open
  have HSS := hid hss
  have HSH := hid hsh
  have HT := hid (takeT_snoc bs)
  have HTA := hid (show bs.take bs.length = bs from List.take_length)
  have HTL := hid (fun j (h : j ≤ bs.length) => show (bs.take j).length = j by rw [List.length_take]; omega)
  clear hs hss hsh
  generalize hn : bs.length = n at *
  go_enter Try.func13, Try.ntmps13
  go_wp2_with fail
  go_loopw [3, 4] (fun vo vi wr => ∃ (i : Nat) (q : Value), q = vo ∧ i ≤ n ∧ vi = .int .i64 (i : Int) ∧ TextsNew w wr vo (bs.take i)) (fun _ vi _ => n - (intOf vi).toNat)
  case atStart => exact ⟨0, _, rfl, by omega, rfl, TextsNew.nil (Frm.refl _ _)⟩
  case round =>
    obtain ⟨i, q, rfl, hi, rfl, ht⟩ := hrel
    by_cases hlt : i < n
    · obtain ⟨b, o, rfl, d0, s0⟩ := HSS.out i hlt
      have d1 := ht.frm.cell d0 (by simp [Nil])
      have s1 := s0.frm ht.frm (by simp [Nil])
      have HST := hid (HT.out i (by omega))
      have HLN := hid (HSH.out i (by omega))
      have HPL := hid (HTL.out i hi)
      have b1 : (i : Int) < (n : Int) := by omega
      generalize bs.getD i [] = m at *
      generalize ss i = s at *
      have HSEG := hid s1
      have HN := hid ht
      clear d0 s0 s1 ht
      go_wp2_with (at_builtin; go_loud (refine app8 (l := []) (New.nil _ (Frm.refl Nil wr)) (by exact HSEG.out) (by have := HLN.out; simp; omega) rfl _ _ rfl (by rfl) (by rfl) ?_))
      intro q2 w2 hn2 _ _
      have hn3 : New wr w2 5 q2 (m.map W8) := by simpa using hn2
      obtain ⟨ao2, c2, rfl⟩ := hn3.len8
      have HN3 := hid hn3
      clear hn2 hn3
      go_upto_region 7 with fail
      go_wp2_with (at_builtin; go_loud (refine pushT HN.out HN3.out (by rw [HPL.out]; omega) rfl _ _ rfl (by rfl) (by rfl) ?_))
      intro q3 w3 hn4 _ _
      have HN4 : Hid (TextsNew w w3 q3 (bs.take (i + 1))) := by rw [HST.out]; exact hn4
      clear hn4
      go_wp2_with fail
      go_roundw
      case rel => exact ⟨i + 1, _, rfl, by omega, by go_num, HN4.out⟩
      case measure => simp [intOf]; omega
    · obtain rfl : i = n := by omega
      rw [HTA.out] at ht
      have HN := hid ht
      clear ht
      go_wp2_with fail
      go_ret
      exact ⟨_, rfl, HN.out⟩
def longB (bs : List (List (BitVec 8))) : Bool := decide (20 < bs.length) || bs.any fun x => decide (1100 < x.length)
theorem longB_false {bs : List (List (BitVec 8))} (h : longB bs = false) : bs.length ≤ 20 ∧ ∀ j, j < bs.length → (bs.getD j []).length ≤ 1100 := by
  simp only [longB, Bool.or_eq_false_iff, decide_eq_false_iff_not, List.any_eq_false] at h
  refine ⟨by omega, fun j hj => ?_⟩
  have := h.2 bs[j] (List.getElem_mem hj)
  rw [List.getD_eq_getElem?_getD, List.getElem?_eq_getElem hj]
  simpa using this
theorem longB_at {bs : List (List (BitVec 8))} (j : Nat) (hj : j < bs.length) (h : 1100 < (bs.getD j []).length) : longB bs = true := by
  rw [List.getD_eq_getElem?_getD, List.getElem?_eq_getElem hj] at h
  simp only [longB, Bool.or_eq_true, List.any_eq_true]
  exact .inr ⟨bs[j], List.getElem_mem hj, by simpa using h⟩
theorem longB_not {bs : List (List (BitVec 8))} (n : Nat) (hn : bs.length = n) (h : n ≤ 20) (hall : ∀ j, j < n → (bs.getD j []).length ≤ 1100) : longB bs = false := by
  simp only [longB, Bool.or_eq_false_iff, decide_eq_false_iff_not, List.any_eq_false]
  refine ⟨by omega, fun x hx => ?_⟩
  obtain ⟨j, hj, rfl⟩ := List.mem_iff_getElem.1 hx
  have := hall j (by omega)
  rw [List.getD_eq_getElem?_getD, List.getElem?_eq_getElem hj] at this
  simpa using this
set_option maxHeartbeats 1000000 in
theorem long_any (bs : List (List (BitVec 8))) (bb : Bool) (sv : Value) (w : World) (hs : Txts w sv bs) (hb : longB bs = bb) :
    Calls Try.prog 12 #[sv, .int .i64 20, .int .i64 1100] w fun e w' => e = .returned (.bool bb) ∧ w = w' := by
  obtain ⟨ao, cp, ss, rfl, hss⟩ := hs.open
  have HSS := hid hss
  have HB := hid hb
  clear hs hss hb
  go_enter Try.func12, Try.ntmps12
  by_cases h20 : bs.length ≤ 20
  · have b0 : decide ((bs.length : Int) > 20) = false := by simp; omega
    have HAT := hid (@longB_at bs)
    generalize hn : bs.length = n at *
    go_wp2_with fail
    go_loop [7] (fun vi => ∃ i : Nat, i ≤ n ∧ vi = .int .i64 (i : Int) ∧ ∀ j, j < i → (bs.getD j []).length ≤ 1100) (fun vi => n - (intOf vi).toNat)
    case atStart => exact ⟨0, by omega, rfl, fun j hj => by omega⟩
    case round =>
      obtain ⟨i, hi, rfl, hall⟩ := hrel
      by_cases hlt : i < n
      · obtain ⟨b, o, rfl, d0, s0⟩ := HSS.out i hlt
        obtain ⟨aj, cq, hv⟩ := s0.open8
        have HALL := hid hall
        have HX := hid (HAT.out i (by omega))
        generalize ss i = s at *
        subst hv
        clear s0 hall
        have b1 : (i : Int) < (n : Int) := by omega
        by_cases hl : (bs.getD i []).length ≤ 1100
        · have HN := hid (show ∀ j, j < i + 1 → (bs.getD j []).length ≤ 1100 from fun j hj => by
            by_cases hij : j = i
            · rw [hij]; exact hl
            · exact HALL.out j (by omega))
          generalize (bs.getD i []).length = m at *
          have b2 : decide ((m : Int) > 1100) = false := by simp; omega
          go_wp2_with fail
          go_round
          case rel => exact ⟨i + 1, by omega, by go_num, HN.out⟩
          case measure => simp [intOf]; omega
        · have HY := hid (HX.out (by omega))
          clear HX
          generalize (bs.getD i []).length = m at *
          have b2 : decide ((m : Int) > 1100) = true := by simp; omega
          go_wp2_with fail
          go_ret
          exact ⟨by rw [← HB.out, HY.out]; rfl, rfl⟩
      · obtain rfl : i = n := by omega
        have HY := hid (longB_not i hn h20 hall)
        clear hall
        go_wp2_with fail
        go_ret
        exact ⟨by rw [← HB.out, HY.out]; rfl, rfl⟩
  · have b0 : decide ((bs.length : Int) > 20) = true := by simp; omega
    have HY := hid (show longB bs = true by simp only [longB, Bool.or_eq_true, decide_eq_true_eq]; exact .inl (by omega))
    go_wp2_with fail
    go_ret
    exact ⟨by rw [← HB.out, HY.out]; rfl, rfl⟩
end Go.Proofs.Ytljddimmhjiehaa
/- The reference's key of a package. -/
namespace Go.Proofs.Ytljddimmhjiehaa
open Go.RowKit

def kTo (s f : Nat → BitVec 8) (i : Nat) : Nat → BitVec 8 := fun j => if j < i then s j ^^^ f j else s j
theorem kTo_next (s f : Nat → BitVec 8) (i : Nat) : upd (kTo s f i) i (s i ^^^ f i) = kTo s f (i + 1) := by
  funext j
  by_cases e : j = i
  · subst e; rw [upd_same]; simp only [kTo]; rw [if_pos (by omega)]
  · rw [upd_other _ _ _ _ e]; simp only [kTo]
    by_cases h : j < i
    · rw [if_pos h, if_pos (by omega)]
    · rw [if_neg h, if_neg (by omega)]
set_option maxHeartbeats 4000000 in
set_option maxRecDepth 100000 in
theorem refKey_ok (c sz : Nat) (bs : List (List (BitVec 8))) (al : List (BitVec 8)) (out : Nat → BitVec 8) (sv : Value) (w : World) (hs : Texts w sv bs) (h : IsCls c) (h1 : 1 ≤ bs.length) (h2 : bs.length ≤ 255) (hsz : sizeN c bs.length = sz) (hf : Flat bs sz) (hal : bs.flatten = al) (ho : keyF c al = out) :
    Calls Try.prog 14 #[.int .i64 (c : Int), sv] w fun e w' => e = .returned (.tuple #[.agg (rowOf 32 (w8 out)), .int .i64 0]) ∧ Frm Nil w w' := by
  have hb := sizeN_bounds c bs.length h1
  rw [hsz] at hb
  have hc3 : c ≤ 1024 ∧ 1 ≤ c := by unfold IsCls at h; omega
  obtain ⟨hc3, hc4⟩ := hc3
  have hmul : sz * bs.length = bs.length * sz := Nat.mul_comm _ _
  have hfl := flat_len bs sz hf
  rw [hal] at hfl
  have HJ := hid (fun w hs => refJoin_ok c sz bs sv w hs h h1 h2 hsz hf)
  rw [hal] at HJ
  have HSM := hid (fun sv w hs => sum_c (al.take (c + 16)) _ sv w hs (by rw [List.length_take]; omega) rfl)
  generalize hsv : shaOf (al.take (c + 16)) = s at *
  generalize hff : (fun i => al.getD (c + 16 + i) 0#8) = f
  have hout : ∀ i, i < 32 → kTo s f 32 i = out i := fun i hi => by
    rw [← ho, kTo, if_pos hi, ← hff, ← hsv]; rfl
  have hget : ∀ i, al.getD (c + 16 + i) 0#8 = f i := fun i => by rw [← hff]
  have HOUT := hid hout
  have HGET := hid hget
  have HFL := hid hfl
  have HS := hid hs
  obtain ⟨hb1, hb2, hb3, hb4⟩ := hb
  have hNb : c + 48 ≤ bs.length * sz ∧ bs.length * sz ≤ 2000 := by omega
  obtain ⟨hN1, hN2⟩ := hNb
  clear hs hf hsz hfl hmul h hal hout hget hff ho hsv hb1 hb2
  generalize bs.length * sz = N at *
  go_enter Try.func14, Try.ntmps14
  have HR0 := hid (Row.new w 26 32 (w8 fun _ => 0#8))
  have HF0 := hid ((Frm.refl Nil w).alloc (.cells (rowOf 32 (w8 fun _ => 0#8)) 26))
  go_upto_region 1 with fail
  rw [zero8x32]
  generalize w.alloc (.cells (rowOf 32 (w8 fun _ => 0#8)) 26) = w0 at HR0 HF0 ⊢
  go_wp2_with fail
  refine (HJ.out w0 (HS.out.frm HF0.out)).mono ?_
  rintro e w1 ⟨v, rfl, hn1⟩
  obtain ⟨g, cp, rfl, hcp, _, _⟩ := hn1.slice8 (by rw [HFL.out]; omega)
  have HSG := hid (hn1.own.segTake (c + 16) cp (by rw [HFL.out]; omega))
  have hseg1 := hn1.own.seg
  rw [HFL.out] at hseg1
  have HA1 := hid hseg1
  clear hseg1
  rw [HFL.out] at hcp ⊢
  have HR1 := hid (hn1.frm.row HR0.out (by simp [Nil]))
  have HF1 := hid (HF0.out.trans hn1.frm (fun _ _ h => h))
  clear hn1 HR0 HF0
  go_wp2_with fail
  refine (HSM.out _ w1 HSG.out).mono ?_
  rintro e w2 ⟨rfl, hf2⟩
  have HA2 := hid (HA1.out.frm hf2 (by simp [Nil]))
  have HR2 := hid (hf2.row HR1.out (by simp [Nil]))
  have HF2 := hid (HF1.out.trans hf2 (fun _ _ h => h))
  clear hf2 HSG HA1 HR1 HF1
  go_upto_region 5 with (refine wpList_store_fn rfl 26 _ _ rfl rfl w2.heap.size 0 32 32 26 (w8 fun _ => 0#8) (w8 s) rfl rfl (Row.new w2 26 32 (w8 fun _ => 0#8)) (by kernel_rfl) (by omega) (fun _ _ => rfl) ?_)
  rw [zero8x32]
  have hq3 := (Row.new w2 26 32 (w8 fun _ => 0#8)).over (w8 s)
  have hf3 : Frm Nil w2 ((w2.alloc (.cells (rowOf 32 (w8 fun _ => 0#8)) 26)).setRow w2.heap.size (rowOf 32 (splice (w8 fun _ => 0#8) 0 32 (w8 s)))) :=
    ((Frm.refl Nil w2).alloc (.cells (rowOf 32 (w8 fun _ => 0#8)) 26)).setRow w2.heap.size _ (fun h => by omega)
  generalize (w2.alloc (.cells (rowOf 32 (w8 fun _ => 0#8)) 26)).setRow w2.heap.size (rowOf 32 (splice (w8 fun _ => 0#8) 0 32 (w8 s))) = w3 at hq3 hf3 ⊢
  have hKT : w.heap.size < w2.heap.size := HR2.out.lt
  have hgK : g < w2.heap.size := by
    obtain ⟨a, ea, ca⟩ := HA2.out.cells8.2 0 (by rw [HFL.out]; omega)
    cases ea
    have := World.block_lt_of_cell? _ _ ca
    rwa [Addr.add_zero'] at this
  have hsz2 : w.heap.size ≤ w2.heap.size := by omega
  generalize w2.heap.size = K at *
  have HQ3 := hid hq3
  have HA3 := hid (HA2.out.frm hf3 (by simp [Nil]))
  have HR3 := hid (hf3.row HR2.out (by simp [Nil]))
  have HF3 := hid (HF2.out.trans hf3 (fun _ _ h => h))
  have HQK := hid (show Row w3 K 26 32 (w8 (kTo s f 0)) from hq3)
  clear hq3 hf3 HA2 HR2 HF2 HQ3
  generalize hT : w.heap.size = T at *
  go_wp2_with fail
  go_loopw [9] (fun vi wr => ∃ i : Nat, i ≤ 32 ∧ vi = .int .i64 (i : Int) ∧ Row wr K 26 32 (w8 (kTo s f i)) ∧ Row wr T 26 32 (w8 fun _ => 0#8) ∧ Seg wr (.slice (some ⟨g, 0, none⟩) N cp) (al.map W8) ∧ Frm Nil w wr) (fun vi _ => 32 - (intOf vi).toNat)
  case atStart => exact ⟨0, by omega, rfl, HQK.out, by simpa using HR3.out, HA3.out, HF3.out⟩
  case round =>
    clear HQK HR3 HA3 HF3
    obtain ⟨i, hi, rfl, hq, hr, ha, hf⟩ := hrel
    by_cases hlt : i < 32
    · obtain ⟨a1, ea1, c1⟩ := ha.cells8.2 (c + 16 + i) (by rw [HFL.out]; omega)
      cases ea1
      rw [Addr.add_lit, Nat.zero_add, HGET.out i] at c1
      have p0 := run_later hq i hlt
      have hk : kTo s f i i = s i := by simp [kTo]
      rw [hk] at p0
      have p1 := fun d os => cell_regrown c1 d os
      have e1 : ((c : Int) + 16 + (i : Int)).toNat = c + 16 + i := by omega
      have b1 : (c : Int) + 16 + (i : Int) < (N : Int) := by omega
      have HQ := hid hq
      have HR := hid hr
      have HA := hid ha
      have HF := hid hf
      have HNX := hid (kTo_next s f i)
      clear hq hr ha hf c1 hk
      generalize s i = x at *
      generalize f i = y at *
      go_upto_region 8 with fail
      refine wp_region_later_tail 13 (by kernel_rfl) (by kernel_rfl) ?_
      simp only [List.take_succ_cons, List.take_zero, List.drop_succ_cons, List.drop_zero]
      repeat (go_big_quiet_step (fail))
      refine wpQuiet_nil ?_
      intro w6 hf6
      have HQ6 := hid (hf6.row HQ.out (by simp [Nil]))
      have HR6 := hid (hf6.row HR.out (by simp [Nil]))
      have HA6 := hid (HA.out.frm hf6 (by simp [Nil]))
      have HF6 := hid (HF.out.trans hf6 (fun _ _ h => h))
      clear hf6 HQ HR HA HF p0 p1
      have p2 := HQ6.out.cell8 i hlt
      have p3 := HQ6.out.free i
      go_wp2_with fail
      go_roundw
      case rel =>
        have h3 := HQ6.out.set i (W8 (x ^^^ y))
        rw [upd_w8, HNX.out] at h3
        exact ⟨i + 1, by omega, by go_num, h3, HR6.out.other _ _ (show T ≠ K by omega), HA6.out.frm ((Frm.refl (fun k => k = K) w6).set ⟨K, i, none⟩ (W8 (x ^^^ y)) (fun _ => rfl)) (fun a n c h _ => by simp only [Value.slice.injEq, Option.some.injEq] at h; rw [← h.1]; show ¬ g = K; omega), HF6.out.set _ _ (fun h => by have h2 : K < w.heap.size := h; omega)⟩
      case measure => simp [intOf]; omega
    · have HQ := hid (show Row wr K 26 32 (w8 out) from hq.congr fun j hj => by rw [w8, w8, ← HOUT.out j hj, show i = 32 by omega])
      have HC : Hid (∀ j, j < 32 → wr.cell? ⟨K, 0 + j, none⟩ = some (w8 out j)) := fun j hj => by rw [Nat.zero_add]; exact HQ.out.cell j hj
      have HR := hid hr
      have HF := hid hf
      clear hq hr ha hf
      go_wp2_with (first | (refine wpList_load_fn rfl 26 _ rfl K 0 32 (w8 out) rfl _ HC.out Try.underlying26 rfl (by kernel_rfl) ?_) | (refine wpList_store_fn rfl 26 _ _ rfl rfl T 0 32 32 _ _ (w8 out) rfl rfl HR.out (by kernel_rfl) (by omega) (fun _ _ => rfl) ?_))
      exact bodyPost_cell2 rfl T 32 _ _ _ _ rfl rfl (HR.out.over _) Try.underlying26 rfl (by kernel_rfl) rfl ⟨rfl, HF.out.setRow _ _ (fun h => by omega)⟩
end Go.Proofs.Ytljddimmhjiehaa
/- A package is the one that packing its secret makes just if it is filled up with zeros. -/
namespace Go.Proofs.Ytljddimmhjiehaa
open Go.RowKit

theorem isZ_eq {l : List (BitVec 8)} (h : isZ l = true) : l = List.replicate l.length 0#8 := by
  rw [List.eq_replicate_iff]
  refine ⟨rfl, fun x hx => ?_⟩
  have := List.all_eq_true.1 h x hx
  simpa using this
theorem head_bytes (il : List (BitVec 8)) (h : 2 ≤ il.length) (n : Nat) (hn : nOf il = n) : bytesL (BitVec.ofNat 64 n) 2 = il.take 2 := by
  have h0 := (il.getD 0 0#8).isLt
  have h1 := (il.getD 1 0#8).isLt
  apply List.ext_getElem?
  intro i
  rw [bytesL, List.getElem?_map]
  by_cases hi : i < 2
  · rw [List.getElem?_range hi, List.getElem?_take_of_lt hi, List.getElem?_eq_getElem (by omega), Option.map_some]
    congr 1
    have e0 : ∀ j (hj : j < il.length), il[j] = il.getD j 0#8 := fun j hj => by rw [List.getD_eq_getElem?_getD, List.getElem?_eq_getElem hj]; rfl
    rw [e0]
    rw [nOf] at hn
    unfold bytesF
    apply BitVec.eq_of_toNat_eq
    simp only [BitVec.toNat_setWidth, BitVec.toNat_ushiftRight, BitVec.toNat_ofNat, Nat.shiftRight_eq_div_pow]
    match i, hi with
    | 0, _ => simp only [Nat.reduceSub, Nat.reduceMul, Nat.reducePow]; omega
    | 1, _ => simp only [Nat.reduceSub, Nat.reduceMul, Nat.reducePow]; omega
    | i + 2, h => omega
  · rw [List.getElem?_eq_none (by simp; omega), List.getElem?_eq_none (by simp; omega)]; rfl
theorem inside_eq (il : List (BitVec 8)) (c n : Nat) (hl : il.length = c + 16) (hn : nOf il = n) (h1 : n ≤ 1000) (h2 : n + 2 ≤ c) (hz1 : isZ (il.drop c) = true) (hz2 : isZ ((il.drop (2 + n)).take (c - (2 + n))) = true) : inL ((il.drop 2).take n) c = il := by
  have hsl : ((il.drop 2).take n).length = n := by rw [List.length_take, List.length_drop]; omega
  rw [← inL_eq _ c (by rw [hsl]; omega) (by rw [hsl]; omega), hsl, head_bytes il (by omega) n hn]
  have hr : il.drop (2 + n) = List.replicate (c + 16 - (2 + n)) 0#8 := by
    have e1 := isZ_eq hz1
    have e2 := isZ_eq hz2
    rw [List.length_drop] at e1
    rw [List.length_take, List.length_drop] at e2
    have e3 := (List.take_append_drop (c - (2 + n)) (il.drop (2 + n))).symm
    rw [List.drop_drop, show 2 + n + (c - (2 + n)) = c by omega, e1, e2, List.replicate_append_replicate] at e3
    rw [e3]
    congr 1
    omega
  rw [← hr]
  have e4 : il.drop (2 + n) = (il.drop 2).drop n := by rw [List.drop_drop]
  rw [e4, List.append_assoc, List.take_append_drop, List.take_append_drop]
section
variable (key : Nat → BitVec 8) (c k n : Nat) (al il : List (BitVec 8)) (hk : 1 ≤ k) (hal : al.length = sizeN c k * k) (hkey : keyF c al = key) (hil : insideL key c al = il) (hn : nOf il = n) (h1 : n ≤ 1000) (h2 : n + 2 ≤ c)
include hk hal hkey hil hn h1 h2
theorem whole_iff : decide (fullL key (hidL key ((il.drop 2).take n) c) c k = al) = (isZ (al.drop (c + 48)) && (isZ (il.drop c) && isZ ((il.drop (2 + n)).take (c - (2 + n))))) := by
  have hb := sizeN_bounds c k hk
  have htl : (al.take (c + 16)).length = c + 16 := by rw [List.length_take]; omega
  have hill : il.length = c + 16 := by rw [← hil, insideL, hideL_len, htl]
  have hsl : ((il.drop 2).take n).length = n := by rw [List.length_take, List.length_drop]; omega
  rw [Bool.eq_iff_iff, decide_eq_true_iff, Bool.and_eq_true, Bool.and_eq_true]
  constructor
  · intro h
    have e1 : hidL key ((il.drop 2).take n) c = al.take (c + 16) := by rw [← h, full_take]
    have e2 : inL ((il.drop 2).take n) c = il := by
      have e3 := congrArg (hideL tabF (keysOf tabF key) zeroF) e1
      rw [hidL, hideL_twice] at e3
      rw [e3, ← hil, insideL]
    have r1 := in_rest ((il.drop 2).take n) c (by rw [hsl]; omega) (by rw [hsl]; omega)
    rw [e2, hsl] at r1
    refine ⟨?_, r1 c (by omega), isZ_take _ _ (r1 (2 + n) (Nat.le_refl _))⟩
    rw [← h]
    exact full_tail key _ c k
  · rintro ⟨z1, z2, z3⟩
    have e2 := inside_eq il c n hill hn h1 h2 z2 z3
    have e1 : hidL key ((il.drop 2).take n) c = al.take (c + 16) := by rw [hidL, e2, ← hil, insideL, hideL_twice]
    rw [e1, fullL]
    have e3 := isZ_eq z1
    rw [List.length_drop, hal] at e3
    have e4 : (List.range 32).map (xorB (shaOf (al.take (c + 16))) key) = (al.drop (c + 16)).take 32 := by
      apply List.ext_getElem?
      intro i
      rw [List.getElem?_map]
      by_cases hi : i < 32
      · rw [List.getElem?_range hi, Option.map_some, List.getElem?_take_of_lt hi, List.getElem?_drop, List.getElem?_eq_getElem (by omega), xorB, ← hkey, keyF]
        show some (shaOf (al.take (c + 16)) i ^^^ (shaOf (al.take (c + 16)) i ^^^ al.getD (c + 16 + i) 0#8)) = _
        rw [← BitVec.xor_assoc, BitVec.xor_self, BitVec.zero_xor, List.getD_eq_getElem?_getD, List.getElem?_eq_getElem (by omega)]
        rfl
      · rw [List.getElem?_eq_none (by simp; omega), List.getElem?_eq_none (by simp; omega)]; rfl
    rw [e4, ← e3]
    have e5 : al.drop (c + 48) = (al.drop (c + 16)).drop 32 := by rw [List.drop_drop]
    rw [e5, List.append_assoc, List.take_append_drop, List.take_append_drop]
end
end Go.Proofs.Ytljddimmhjiehaa
/- The reference's unpacking of slices of a class. -/
namespace Go.Proofs.Ytljddimmhjiehaa
open Go.RowKit

set_option maxHeartbeats 4000000 in
set_option maxRecDepth 100000 in
theorem refUnpack_core (c sz n : Nat) (b : Bool) (bs : List (List (BitVec 8))) (al il sl : List (BitVec 8)) (key : Nat → BitVec 8) (sv : Value) (w : World) (hs : Texts w sv bs) (h : IsCls c) (h1 : 1 ≤ bs.length) (h2 : bs.length ≤ 255) (hsz : sizeN c bs.length = sz) (hf : Flat bs sz)
    (hal : bs.flatten = al) (hkey : keyF c al = key) (hil : insideL key c al = il) (hn : nOf il = n) (hsl : (il.drop 2).take n = sl) (hb : unpB c n al il = b) :
    Calls Try.prog 16 #[.agg (rowOf 256 (w8 tabF)), .int .i64 (c : Int), sv] w fun e w' => UnpPost b sl w e w' := by
  have hbd := sizeN_bounds c bs.length h1
  rw [hsz] at hbd
  have hc3 : 32 ≤ c ∧ c ≤ 1024 := by unfold IsCls at h; omega
  obtain ⟨hc2, hc3⟩ := hc3
  have hmul : sz * bs.length = bs.length * sz := Nat.mul_comm _ _
  have hfl := flat_len bs sz hf
  rw [hal] at hfl
  have HJ := hid (fun w hs => refJoin_ok c sz bs sv w hs h h1 h2 hsz hf)
  rw [hal] at HJ
  have HK := hid (fun w hs => refKey_ok c sz bs al key sv w hs h h1 h2 hsz hf hal hkey)
  have hill : il.length = c + 16 := by rw [← hil, insideL, hideL_len, List.length_take]; omega
  have HH := hid (fun sv w hs => fast_c key (al.take (c + 16)) il sv w hs (by rw [List.length_take]; omega) hil)
  have HCL := hid (fun w (h : n ≤ 1000) => rClass_in n (classN n) w h rfl)
  have hwi := fun (a : n ≤ 1000) (b : n + 2 ≤ c) => whole_iff key c bs.length n al il h1 (by rw [hfl, hsz, hmul]) hkey hil hn a b
  have hbb := hb
  rw [unpB] at hbb
  have hsll := fun (a : n + 2 ≤ c) => show sl.length = n by rw [← hsl, List.length_take, List.length_drop]; omega
  rw [hsl] at hwi
  have HWH := hid (fun sv w hs (a : n ≤ 1000) (b : n + 2 ≤ c) (hcn : classN n = c) => whole_core bs.length c sz sl _ _ _ (fullL key (hidL key sl c) c bs.length) _ sv key w hs (by rw [hsll b]; exact a) h1 h2 (by rw [hsll b]; exact hcn) hsz rfl rfl rfl rfl rfl)
  have hwl := whole_len key sl c bs.length h1
  rw [hsz, hmul] at hwl
  generalize fullL key (hidL key sl c) c bs.length = al2 at *
  generalize isZ (al.drop (c + 48)) = z1 at *
  generalize isZ (il.drop c) = z2 at *
  generalize isZ ((il.drop (2 + n)).take (c - (2 + n))) = z3 at *
  have HB := hid hbb
  have HWI := hid hwi
  have HSL := hid hsl
  have HSLL := hid hsll
  have HS := hid hs
  have HN := hid hn
  have HFL := hid hfl
  have HILL := hid hill
  have HWL := hid hwl
  obtain ⟨hb1, hb2, hb3, hb4⟩ := hbd
  have hNb : c + 48 ≤ bs.length * sz ∧ bs.length * sz ≤ 2000 := by omega
  obtain ⟨hN1, hN2⟩ := hNb
  obtain ⟨bb, oo, cc, ss, rfl, hcc, _⟩ := hs
  clear hf hsz hkey hil hfl hmul h hal hb hn hill hb1 hb2 hbb hwi hsl hsll hwl
  generalize bs.length * sz = N at *
  go_enter Try.func16, Try.ntmps16
  have HT0 := hid (Row.new w 47 256 (w8 tabF))
  have HF0 := hid ((Frm.refl Nil w).alloc (.cells (rowOf 256 (w8 tabF)) 47))
  go_upto_region 1 with fail
  generalize w.alloc (.cells (rowOf 256 (w8 tabF)) 47) = w0 at HT0 HF0 ⊢
  go_wp2_with fail
  refine (HJ.out w0 (HS.out.frm HF0.out)).mono ?_
  rintro e w1 ⟨v, rfl, hn1⟩
  obtain ⟨g, k, rfl, hk, _, _⟩ := hn1.slice8 (by rw [HFL.out]; omega)
  have hseg1 := hn1.own.seg
  rw [HFL.out] at hseg1 hk ⊢
  have HA1 := hid hseg1
  have HT1 := hid (hn1.frm.row HT0.out (by simp [Nil]))
  have HF1 := hid (HF0.out.trans hn1.frm (fun _ _ h => h))
  clear hn1 hseg1 HT0 HF0
  go_wp2_with fail
  refine (HK.out w1 (HS.out.frm HF1.out)).mono ?_
  rintro e w2 ⟨rfl, hf2⟩
  have HA2 := hid (HA1.out.frm hf2 (by simp [Nil]))
  have HT2 := hid (hf2.row HT1.out (by simp [Nil]))
  have HF2 := hid (HF1.out.trans hf2 (fun _ _ h => h))
  clear hf2 HA1 HT1 HF1
  go_upto_region 5 with (refine wpList_store_fn rfl 26 _ _ rfl rfl w2.heap.size 0 32 32 26 (w8 fun _ => 0#8) (w8 key) rfl rfl (Row.new w2 26 32 (w8 fun _ => 0#8)) (by kernel_rfl) (by omega) (fun _ _ => rfl) ?_)
  rw [zero8x32]
  have hq3 := (Row.new w2 26 32 (w8 fun _ => 0#8)).over (w8 key)
  have hf3 : Frm Nil w2 ((w2.alloc (.cells (rowOf 32 (w8 fun _ => 0#8)) 26)).setRow w2.heap.size (rowOf 32 (splice (w8 fun _ => 0#8) 0 32 (w8 key)))) :=
    ((Frm.refl Nil w2).alloc (.cells (rowOf 32 (w8 fun _ => 0#8)) 26)).setRow w2.heap.size _ (fun h => by omega)
  generalize (w2.alloc (.cells (rowOf 32 (w8 fun _ => 0#8)) 26)).setRow w2.heap.size (rowOf 32 (splice (w8 fun _ => 0#8) 0 32 (w8 key))) = w3 at hq3 hf3 ⊢
  generalize hK : w2.heap.size = K at *
  have hq3' : Row w3 K 26 32 (w8 key) := hq3
  have HQ3 := hid hq3'
  have HA3 := hid (HA2.out.frm hf3 (by simp [Nil]))
  have HT3 := hid (hf3.row HT2.out (by simp [Nil]))
  have HF3 := hid (HF2.out.trans hf3 (fun _ _ h => h))
  have HLQ := hid (later_cells hq3')
  have HLT := hid (later_cells HT3.out)
  have HP3 := hid (show Seg w3 (.slice (some ⟨g, 0, none⟩) (c + 16) k) ((al.take (c + 16)).map W8) by
    have := HA3.out.part rfl 0 (c + 16) k (by omega) (by rw [List.length_map, HFL.out]; omega)
    rw [Nat.add_zero, Nat.sub_zero, List.drop_zero, ← List.map_take] at this
    exact this)
  clear hq3 hq3' hf3 hK HA2 HT2 HF2
  generalize hT : w.heap.size = T at *
  go_upto_region 5 with fail
  refine wp_region_later_tail 7 (by kernel_rfl) (by kernel_rfl) ?_
  simp only [List.take_succ_cons, List.take_zero, List.drop_succ_cons, List.drop_zero]
  refine wpQuiet_load_fn rfl 47 _ rfl T 0 256 (w8 tabF) rfl _ HLT.out Try.underlying47 rfl (by kernel_rfl) ?_
  simp only [Act.put, List.setIfInBounds_toArray, List.set_cons_succ, List.set_cons_zero]
  refine wpQuiet_load_fn rfl 26 _ rfl K 0 32 (w8 key) rfl _ HLQ.out Try.underlying26 rfl (by kernel_rfl) ?_
  simp only [Act.put, List.setIfInBounds_toArray, List.set_cons_succ, List.set_cons_zero]
  repeat (go_big_quiet_step (fail))
  refine wpQuiet_nil ?_
  intro w4 hf4
  rw [zero8_16, show (fun _ => 0#8) = zeroF from rfl]
  have HA4 := hid (HA3.out.frm hf4 (by simp [Nil]))
  have HP4 := hid (HP3.out.frm hf4 (by simp [Nil]))
  have HQ4 := hid (hf4.row HQ3.out (by simp [Nil]))
  have HT4 := hid (hf4.row HT3.out (by simp [Nil]))
  have HF4 := hid (HF3.out.trans hf4 (fun _ _ h => h))
  clear hf4 HA3 HP3 HQ3 HT3 HF3 HLQ HLT
  go_wp2_with fail
  refine (HH.out _ w4 HP4.out).mono ?_
  rintro e w5 ⟨v5, rfl, hn5⟩
  obtain ⟨g5, k5, rfl, hk5, _, _⟩ := hn5.slice8 (by rw [HILL.out]; omega)
  have hseg5 := hn5.own.seg
  rw [HILL.out] at hseg5 hk5 ⊢
  have HI5 := hid hseg5
  have HA5 := hid (HA4.out.frm hn5.frm (by simp [Nil]))
  have HQ5 := hid (hn5.frm.row HQ4.out (by simp [Nil]))
  have HT5 := hid (hn5.frm.row HT4.out (by simp [Nil]))
  have HF5 := hid (HF4.out.trans hn5.frm (fun _ _ h => h))
  clear hn5 hseg5 HA4 HP4 HQ4 HT4 HF4
  obtain ⟨a1, ea1, c1⟩ := HI5.out.cells8.2 0 (by rw [HILL.out]; omega)
  obtain ⟨a2, ea2, c2⟩ := HI5.out.cells8.2 1 (by rw [HILL.out]; omega)
  cases ea1
  cases ea2
  have HN2 := hid (show 256 * (il.getD 0 0#8).toNat + (il.getD 1 0#8).toNat = n from HN.out)
  generalize il.getD 0 0#8 = x0 at *
  generalize il.getD 1 0#8 = x1 at *
  rw [Addr.add_zero'] at c1
  rw [Addr.add_lit, Nat.zero_add] at c2
  have z0 : (0 : Int) < (c : Int) + 16 := by omega
  have z1' : (1 : Int) < (c : Int) + 16 := by omega
  have z2' : 0 < c + 16 := by omega
  have z3' : 1 < c + 16 := by omega
  go_upto_region 6 with fail
  go_quiet (fail)
  have hn2 : (256 : Int) * (x0.toNat : Int) + (x1.toNat : Int) = (n : Int) := by have := HN2.out; omega
  rw [hn2]
  have hnb : n ≤ 65535 := by have h1 := HN2.out; have h2 := x0.isLt; have h3 := x1.isLt; omega
  have hfq : Frm Nil w5 (w5.drewN nq) := (Frm.refl Nil w5).drewN nq
  have HI6 := hid (HI5.out.frm hfq (by simp [Nil]))
  have HA6 := hid (HA5.out.frm hfq (by simp [Nil]))
  have HQ6 := hid (hfq.row HQ5.out (by simp [Nil]))
  have HT6 := hid (hfq.row HT5.out (by simp [Nil]))
  have HF6 := hid (HF5.out.trans hfq (fun _ _ h => h))
  generalize w5.drewN nq = w6 at HI6 HA6 HQ6 HT6 HF6 ⊢
  clear hfq hn2 HI5 HA5 HQ5 HT5 HF5 c1 c2 z0 z1' z2' z3' HN2 HN
  by_cases hn1 : n ≤ 1000
  · have e2 : decide (n ≤ 1000) = true := by simpa using hn1
    have b1 : decide ((n : Int) > 1000) = false := by simp; omega
    by_cases hnc : n + 2 ≤ c
    · have e1 : decide (n + 2 ≤ c) = true := by simpa using hnc
      have b2 : decide ((n : Int) + 2 > (c : Int)) = false := by simp; omega
      have HB2 := hid (show (z1 && (z2 && (decide (classN n = c) && z3))) = b by rw [← HB.out, e1, e2]; simp)
      have HW2 := hid (fun sv w hs hcn => HWH.out sv w hs hn1 hnc hcn)
      have HWI2 := hid (HWI.out hn1 hnc)
      have HL2 := hid (HSLL.out hnc)
      clear HB HWH HWI HSLL e1 e2
      go_wp2_with fail
      refine (HCL.out w6 hn1).mono ?_
      rintro e w' ⟨rfl, rfl⟩
      generalize classN n = cn at *
      by_cases hcn : cn = c
      · subst hcn
        have HW3 := hid (fun sv w hs => HW2.out sv w hs rfl)
        have HB3 := hid (show decide (al2 = al) = b by rw [HWI2.out, ← HB2.out]; simp)
        clear HW2 HWI2 HB2
        have HSS := hid (show Seg w6 (.slice (some ⟨g5, 2, none⟩) (2 + n - 2) (k5 - 2)) (sl.map W8) by
          rw [← HSL.out, show 2 + n - 2 = n by omega]
          exact HI6.out.sub (lo := 2) (hi := 2 + n) (by omega) (by rw [List.length_map, HILL.out]; omega) (by omega))
        go_wp2_with (at_builtin; go_loud (refine app8 (l := []) (New.nil _ (Frm.refl Nil w6)) (by exact HSS.out) (by rw [HL2.out]; simp; omega) rfl _ _ rfl (by rfl) (by rfl) ?_))
        intro q7 w7 hn7 _ _
        have hn8 : New w6 w7 5 q7 (sl.map W8) := by simpa using hn7
        have HN7 := hid hn8.own.seg
        have HA7 := hid (HA6.out.frm hn8.frm (by simp [Nil]))
        have HQ7 := hid (hn8.frm.row HQ6.out (by simp [Nil]))
        have HT7 := hid (hn8.frm.row HT6.out (by simp [Nil]))
        have HF7 := hid (HF6.out.trans hn8.frm (fun _ _ h => h))
        clear hn7 hn8 HSS HI6 HA6 HQ6 HT6 HF6
        have HC1 : Hid (∀ j, j < 256 → w7.cell? ⟨T, 0 + j, none⟩ = some (w8 tabF j)) := fun j hj => by rw [Nat.zero_add]; exact HT7.out.cell j hj
        have HC2 : Hid (∀ j, j < 32 → w7.cell? ⟨K, 0 + j, none⟩ = some (w8 key j)) := fun j hj => by rw [Nat.zero_add]; exact HQ7.out.cell j hj
        go_wp2_with (first | (refine wpList_load_fn rfl 47 _ rfl T 0 256 (w8 tabF) rfl _ HC1.out Try.underlying47 rfl (by kernel_rfl) ?_) | (refine wpList_load_fn rfl 26 _ rfl K 0 32 (w8 key) rfl _ HC2.out Try.underlying26 rfl (by kernel_rfl) ?_))
        refine (HW3.out _ w7 HN7.out).mono ?_
        rintro e w8x ⟨v8, rfl, hn9⟩
        have HW8 := hid hn9.own.seg
        have HN8 := hid (HN7.out.frm hn9.frm (by simp [Nil]))
        have HA8 := hid (HA7.out.frm hn9.frm (by simp [Nil]))
        have HF8 := hid (HF7.out.trans hn9.frm (fun _ _ h => h))
        clear hn9 HC1 HC2 HN7 HA7 HQ7 HT7 HF7
        go_wp2_with fail
        refine (same_any al2 al b _ _ w8x HW8.out HA8.out (by rw [HWL.out]; omega) (by rw [HFL.out]; omega) HB3.out).mono ?_
        rintro e w9 ⟨rfl, hf9⟩
        have HN9 := hid (HN8.out.frm hf9 (by simp [Nil]))
        have HF9 := hid (HF8.out.trans hf9 (fun _ _ h => h))
        clear hf9 HW8 HN8 HA8 HF8
        cases b with
        | false =>
          go_wp2_with fail
          go_ret2
          rw [UnpPost]
          exact ⟨rfl, HF9.out⟩
        | true =>
          go_wp2_with fail
          go_ret2
          rw [UnpPost]
          exact ⟨_, rfl, HN9.out, HF9.out⟩
      · have e3 : decide (cn = c) = false := by simpa using hcn
        have HX := hid (show false = b by rw [← HB2.out, e3]; simp)
        have b3 : ((cn : Int) != (c : Int)) = true := by rw [bne_iff_ne]; omega
        clear HB2 e3
        go_wp2_with fail
        go_ret2
        rw [UnpPost, ← HX.out]
        exact ⟨rfl, HF6.out⟩
    · have e1 : decide (n + 2 ≤ c) = false := by simpa using hnc
      have b2 : decide ((n : Int) + 2 > (c : Int)) = true := by simp; omega
      have HX := hid (show false = b by rw [← HB.out, e1]; simp)
      clear HB e1 e2
      go_wp2_with fail
      go_ret2
      rw [UnpPost, ← HX.out]
      exact ⟨rfl, HF6.out⟩
  · have e2 : decide (n ≤ 1000) = false := by simpa using hn1
    have b1 : decide ((n : Int) > 1000) = true := by simp; omega
    have HX := hid (show false = b by rw [← HB.out, e2]; simp)
    clear HB e2
    go_wp2_with fail
    go_ret2
    rw [UnpPost, ← HX.out]
    exact ⟨rfl, HF6.out⟩
end Go.Proofs.Ytljddimmhjiehaa
/- The law AontUnpack: any slices tell the key, and the secret, that the document says, or are refused; they stay as they were. -/
namespace Go.Proofs.Ytljddimmhjiehaa
open Go.RowKit

def UnpSays (out : List (BitVec 8)) (er : Int) (w : World) (e : Ending) (w' : World) : Prop := ∃ v, e = .returned (.tuple #[v, .int .i64 er]) ∧ Seg w' v (out.map W8) ∧ Frm Nil w w'
theorem seg_nil8 (w : World) : Seg w (.slice none 0 0) (([] : List (BitVec 8)).map W8) := ⟨none, 0, rfl, fun _ => ⟨rfl, rfl⟩, fun a h => by cases h⟩
theorem lawUnpack_long (c : Int) (bs : List (List (BitVec 8))) (sv : Value) (w : World) (hs : Txts w sv bs) (hb : longB bs = true) :
    Calls Try.prog 4 #[.int .i64 c, sv] w fun e w' => e = .returned (.bool true) ∧ Frm Nil w w' := by
  have HL := hid (fun w hs => long_any bs true sv w hs hb)
  have HS := hid hs
  clear hs hb
  go_enter Try.func4, Try.ntmps4
  go_wp2_with (go_at_call 6; refine (wakes_any _).mono ?_; rintro e w' ⟨rfl, rfl⟩)
  refine (HL.out w HS.out).mono ?_
  rintro e w' ⟨rfl, rfl⟩
  go_wp2_with fail
  go_ret
  exact ⟨rfl, Frm.refl _ _⟩
set_option maxHeartbeats 4000000 in
set_option maxRecDepth 100000 in
theorem lawUnpack_core (c er er2 : Int) (kf : Nat → BitVec 8) (out : List (BitVec 8)) (bs : List (List (BitVec 8))) (sv : Value) (w : World) (hs : Txts w sv bs) (hb : longB bs = false) (hol : out.length ≤ 100000)
    (hk : ∀ sv w, Txts w sv bs → Calls Try.prog 11 #[.int .i64 c, sv] w fun e w' => e = .returned (.tuple #[.agg (rowOf 32 (w8 kf)), .int .i64 er]) ∧ Frm Nil w w')
    (hrk : ∀ sv w, Txts w sv bs → Calls Try.prog 14 #[.int .i64 c, sv] w fun e w' => e = .returned (.tuple #[.agg (rowOf 32 (w8 kf)), .int .i64 er]) ∧ Frm Nil w w')
    (hu : ∀ sv w, Txts w sv bs → Calls Try.prog 15 #[.int .i64 c, sv] w fun e w' => UnpSays out er2 w e w')
    (hru : ∀ sv w, Txts w sv bs → Calls Try.prog 16 #[.agg (rowOf 256 (w8 tabF)), .int .i64 c, sv] w fun e w' => UnpSays out er2 w e w') :
    Calls Try.prog 4 #[.int .i64 c, sv] w fun e w' => e = .returned (.bool true) ∧ Frm Nil w w' := by
  obtain ⟨hl20, hl11⟩ := longB_false hb
  have hsh8 : Short8 bs := fun j hj => by have := hl11 j hj; omega
  have hsh : Short bs := fun j hj => by have := hl11 j hj; omega
  have HL := hid (fun w hs => long_any bs false sv w hs hb)
  have HCP := hid (fun w hs => copyAll_any bs sv w hs (by omega) hsh8)
  have HS := hid hs
  have HK := hid hk
  have HRK := hid hrk
  have HU := hid hu
  have HRU := hid hru
  have HSH := hid hsh
  have HEQ := hid (show allEq kf kf (List.range 32) = true by rw [allEq_iff]; exact fun _ _ => rfl)
  clear hs hb hk hrk hu hru hl11 hsh8 hsh
  go_enter Try.func4, Try.ntmps4
  go_wp2_with (go_at_call 6; refine (wakes_any _).mono ?_; rintro e w' ⟨rfl, rfl⟩)
  refine (HL.out w HS.out).mono ?_
  rintro e w' ⟨rfl, rfl⟩
  go_wp2_with fail
  refine (HCP.out w HS.out).mono ?_
  rintro e w1 ⟨ov, rfl, hn1⟩
  have HO1 := hid hn1.txts
  have HF1 := hid hn1.frm
  have HS1 := hid (HS.out.frm hn1.frm)
  clear hn1
  go_wp2_with fail
  refine (HK.out ov w1 HO1.out).mono ?_
  rintro e w2 ⟨rfl, hf2⟩
  have HO2 := hid (HO1.out.frm hf2)
  have HS2 := hid (HS1.out.frm hf2)
  have HF2 := hid (HF1.out.trans hf2 (fun _ _ h => h))
  clear hf2 HO1 HS1 HF1
  go_upto_region 7 with (refine wpList_store_fn rfl 26 _ _ rfl rfl w2.heap.size 0 32 32 26 (w8 fun _ => 0#8) (w8 kf) rfl rfl (Row.new w2 26 32 (w8 fun _ => 0#8)) (by kernel_rfl) (by omega) (fun _ _ => rfl) ?_)
  rw [zero8x32]
  have hq3 := (Row.new w2 26 32 (w8 fun _ => 0#8)).over (w8 kf)
  have hf3 : Frm Nil w2 ((w2.alloc (.cells (rowOf 32 (w8 fun _ => 0#8)) 26)).setRow w2.heap.size (rowOf 32 (splice (w8 fun _ => 0#8) 0 32 (w8 kf)))) :=
    ((Frm.refl Nil w2).alloc (.cells (rowOf 32 (w8 fun _ => 0#8)) 26)).setRow w2.heap.size _ (fun h => by omega)
  generalize (w2.alloc (.cells (rowOf 32 (w8 fun _ => 0#8)) 26)).setRow w2.heap.size (rowOf 32 (splice (w8 fun _ => 0#8) 0 32 (w8 kf))) = w3 at hq3 hf3 ⊢
  generalize hK1 : w2.heap.size = K1 at *
  have hq3' : Row w3 K1 26 32 (w8 kf) := hq3
  have HQ3 := hid hq3'
  have HO3 := hid (HO2.out.frm hf3)
  have HS3 := hid (HS2.out.frm hf3)
  have HF3 := hid (HF2.out.trans hf3 (fun _ _ h => h))
  clear hq3 hq3' hf3 hK1 HO2 HS2 HF2
  go_wp2_with fail
  refine (HRK.out sv w3 HS3.out).mono ?_
  rintro e w4 ⟨rfl, hf4⟩
  have HQ4 := hid (hf4.row HQ3.out (by simp [Nil]))
  have HO4 := hid (HO3.out.frm hf4)
  have HS4 := hid (HS3.out.frm hf4)
  have HF4 := hid (HF3.out.trans hf4 (fun _ _ h => h))
  clear hf4 HQ3 HO3 HS3 HF3
  go_upto_region 8 with (refine wpList_store_fn rfl 26 _ _ rfl rfl w4.heap.size 0 32 32 26 (w8 fun _ => 0#8) (w8 kf) rfl rfl (Row.new w4 26 32 (w8 fun _ => 0#8)) (by kernel_rfl) (by omega) (fun _ _ => rfl) ?_)
  rw [zero8x32]
  have hq5 := (Row.new w4 26 32 (w8 fun _ => 0#8)).over (w8 kf)
  have hf5 : Frm Nil w4 ((w4.alloc (.cells (rowOf 32 (w8 fun _ => 0#8)) 26)).setRow w4.heap.size (rowOf 32 (splice (w8 fun _ => 0#8) 0 32 (w8 kf)))) :=
    ((Frm.refl Nil w4).alloc (.cells (rowOf 32 (w8 fun _ => 0#8)) 26)).setRow w4.heap.size _ (fun h => by omega)
  generalize (w4.alloc (.cells (rowOf 32 (w8 fun _ => 0#8)) 26)).setRow w4.heap.size (rowOf 32 (splice (w8 fun _ => 0#8) 0 32 (w8 kf))) = w5 at hq5 hf5 ⊢
  generalize hK2 : w4.heap.size = K2 at *
  have hq5' : Row w5 K2 26 32 (w8 kf) := hq5
  have HX5 := hid hq5'
  have HQ5 := hid (hf5.row HQ4.out (by simp [Nil]))
  have HO5 := hid (HO4.out.frm hf5)
  have HS5 := hid (HS4.out.frm hf5)
  have HF5 := hid (HF4.out.trans hf5 (fun _ _ h => h))
  clear hq5 hq5' hf5 hK2 HQ4 HO4 HS4 HF4
  go_wp2_with fail
  refine (HU.out ov w5 HO5.out).mono ?_
  rintro e w6 ⟨v6, rfl, hs6, hf6⟩
  have HV6 := hid hs6
  have HX6 := hid (hf6.row HX5.out (by simp [Nil]))
  have HQ6 := hid (hf6.row HQ5.out (by simp [Nil]))
  have HO6 := hid (HO5.out.frm hf6)
  have HS6 := hid (HS5.out.frm hf6)
  have HF6 := hid (HF5.out.trans hf6 (fun _ _ h => h))
  clear hs6 hf6 HX5 HQ5 HO5 HS5 HF5
  go_wp2_with fail
  refine (table_any w6).mono ?_
  rintro e w7 ⟨rfl, hf7⟩
  have HV7 := hid (HV6.out.frm hf7 (by simp [Nil]))
  have HX7 := hid (hf7.row HX6.out (by simp [Nil]))
  have HQ7 := hid (hf7.row HQ6.out (by simp [Nil]))
  have HO7 := hid (HO6.out.frm hf7)
  have HS7 := hid (HS6.out.frm hf7)
  have HF7 := hid (HF6.out.trans hf7 (fun _ _ h => h))
  clear hf7 HV6 HX6 HQ6 HO6 HS6 HF6
  go_wp2_with fail
  refine (HRU.out sv w7 HS7.out).mono ?_
  rintro e wa ⟨v8, rfl, hs8, hf8⟩
  have HY8 := hid hs8
  have HV8 := hid (HV7.out.frm hf8 (by simp [Nil]))
  have HX8 := hid (hf8.row HX7.out (by simp [Nil]))
  have HQ8 := hid (hf8.row HQ7.out (by simp [Nil]))
  have HO8 := hid (HO7.out.frm hf8)
  have HS8 := hid (HS7.out.frm hf8)
  have HF8 := hid (HF7.out.trans hf8 (fun _ _ h => h))
  clear hs8 hf8 HV7 HX7 HQ7 HO7 HS7 HF7
  have HCA : Hid (∀ i, i < 32 → wa.cell? ⟨K1, 0 + i, none⟩ = some (w8 kf i)) := fun i hi => by rw [Nat.zero_add]; exact HQ8.out.cell i hi
  have HCB : Hid (∀ i, i < 32 → wa.cell? ⟨K2, 0 + i, none⟩ = some (w8 kf i)) := fun i hi => by rw [Nat.zero_add]; exact HX8.out.cell i hi
  go_wp2_with (first | (refine wpList_load_g rfl 26 _ rfl K1 0 32 (w8 kf) rfl _ HCA.out Try.underlying26 rfl (by kernel_rfl) ?_) | (refine wpList_load_g rfl 26 _ rfl K2 0 32 (w8 kf) rfl _ HCB.out Try.underlying26 rfl (by kernel_rfl) ?_) | (refine wpList_eql_key rfl _ _ rfl kf kf rfl rfl ?_; rw [HEQ.out]))
  refine (same_any out out true _ _ wa HV8.out HY8.out (by omega) (by omega) (by simp)).mono ?_
  rintro e wb ⟨rfl, hfb⟩
  have HOB := hid (HO8.out.frm hfb)
  have HSB := hid (HS8.out.frm hfb)
  have HFB := hid (HF8.out.trans hfb (fun _ _ h => h))
  clear hfb HO8 HS8 HF8
  go_wp2_with fail
  refine (sameAll_any bs bs true _ _ wb HOB.out HSB.out (by omega) (by omega) HSH.out HSH.out (by simp)).mono ?_
  rintro e wc ⟨rfl, hfc⟩
  have HFC := hid (HFB.out.trans hfc (fun _ _ h => h))
  clear hfc
  go_wp2_with fail
  go_ret
  exact ⟨rfl, HFC.out⟩
theorem lawUnpack_any (c : Int) (bs : List (List (BitVec 8))) (sv : Value) (w : World) (hs : Txts w sv bs) (h1 : -9223372036854775808 ≤ c) (h2 : c ≤ 9223372036854775807) :
    Calls Try.prog 4 #[.int .i64 c, sv] w fun e w' => e = .returned (.bool true) ∧ Frm Nil w w' := by
  cases hb : longB bs with
  | true => exact lawUnpack_long c bs sv w hs hb
  | false =>
    have hl := longB_false hb
    have bad : ∀ er, Bad c bs er → Calls Try.prog 4 #[.int .i64 c, sv] w fun e w' => e = .returned (.bool true) ∧ Frm Nil w w' := fun er hbad =>
      lawUnpack_core c er er (fun _ => 0#8) [] bs sv w hs hb (by simp) (fun sv w hs => key_bad c er bs sv w hs hbad h1 h2) (fun sv w hs => refKey_bad c er bs sv w hs hbad)
        (fun sv w hs => (unpack_bad c er bs sv w hs hbad h1 h2).mono fun e w' ⟨he, hf⟩ => ⟨_, he, seg_nil8 _, hf⟩) (fun sv w hs => (refUnpack_bad c er bs sv w hs hbad).mono fun e w' ⟨he, hf⟩ => ⟨_, he, seg_nil8 _, hf⟩)
    by_cases hg : IsCls c ∧ 1 ≤ (bs.length : Int) ∧ (bs.length : Int) ≤ 255
    · obtain ⟨n, rfl⟩ := Int.eq_ofNat_of_zero_le (show 0 ≤ c by have := hg.1; unfold IsCls at this; omega)
      have hn1 : 1 ≤ bs.length := by omega
      have hn2 : bs.length ≤ 255 := by omega
      by_cases hf : Flat bs (sizeN n bs.length)
      · have hne : ∀ w sv, Txts w sv bs → Texts w sv bs := fun w sv h => by
          rcases h with ⟨_, h0⟩ | h
          · rw [h0] at hn1; simp at hn1
          · exact h
        have hcc : n ≤ 1024 := by have := hg.1; unfold IsCls at this; omega
        cases hbb : unpB n (nOf (insideL (keyF n bs.flatten) n bs.flatten)) bs.flatten (insideL (keyF n bs.flatten) n bs.flatten) with
        | true =>
          refine lawUnpack_core n 0 0 (keyF n bs.flatten) (((insideL (keyF n bs.flatten) n bs.flatten).drop 2).take (nOf (insideL (keyF n bs.flatten) n bs.flatten))) bs sv w hs hb (by rw [List.length_take, List.length_drop, insideL, hideL_len, List.length_take]; omega)
            (fun sv w hs => key_ok n _ bs _ sv w (hne w sv hs) hg.1 hn1 hn2 rfl hf rfl) (fun sv w hs => refKey_ok n _ bs _ _ sv w (hne w sv hs) hg.1 hn1 hn2 rfl hf rfl rfl) (fun sv w hs => ?_) (fun sv w hs => ?_)
          · exact (unpack_core n _ _ true bs _ _ _ sv w (hne w sv hs) hg.1 hn1 hn2 rfl hf rfl rfl rfl rfl hbb).mono fun e w' h => by rw [UnpPost, if_pos rfl] at h; exact h
          · exact (refUnpack_core n _ _ true bs _ _ _ _ sv w (hne w sv hs) hg.1 hn1 hn2 rfl hf rfl rfl rfl rfl rfl hbb).mono fun e w' h => by rw [UnpPost, if_pos rfl] at h; exact h
        | false =>
          refine lawUnpack_core n 0 11 (keyF n bs.flatten) [] bs sv w hs hb (by simp)
            (fun sv w hs => key_ok n _ bs _ sv w (hne w sv hs) hg.1 hn1 hn2 rfl hf rfl) (fun sv w hs => refKey_ok n _ bs _ _ sv w (hne w sv hs) hg.1 hn1 hn2 rfl hf rfl rfl) (fun sv w hs => ?_) (fun sv w hs => ?_)
          · exact (unpack_core n _ _ false bs _ _ _ sv w (hne w sv hs) hg.1 hn1 hn2 rfl hf rfl rfl rfl rfl hbb).mono fun e w' h => by
              have h : e = .returned (.tuple #[.slice none 0 0, .int .i64 11]) ∧ Frm Nil w w' := by simpa [UnpPost] using h
              exact ⟨_, h.1, seg_nil8 _, h.2⟩
          · exact (refUnpack_core n _ _ false bs _ _ _ _ sv w (hne w sv hs) hg.1 hn1 hn2 rfl hf rfl rfl rfl rfl rfl hbb).mono fun e w' h => by
              have h : e = .returned (.tuple #[.slice none 0 0, .int .i64 11]) ∧ Frm Nil w w' := by simpa [UnpPost] using h
              exact ⟨_, h.1, seg_nil8 _, h.2⟩
      · exact bad 2 (.inr ⟨rfl, n, rfl, hg.1, hn1, hn2, hf⟩)
    · exact bad 14 (.inl ⟨rfl, hg⟩)
end Go.Proofs.Ytljddimmhjiehaa
