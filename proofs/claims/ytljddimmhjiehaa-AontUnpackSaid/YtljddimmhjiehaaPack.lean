/- aont.Pack. -/
import Derived.Test.YtljddimmhjiehaaParts
import Derived.Test.YtljddimmhjiehaaCls
namespace Go.Proofs.Ytljddimmhjiehaa
open Go.RowKit

def zeroF : Nat → BitVec 8 := fun _ => 0#8
def inF0 (l : List (BitVec 8)) : Nat → BitVec 8 := upd (upd zeroF 0 (BitVec.ofNat 8 (l.length / 256))) 1 (BitVec.ofNat 8 l.length)
def inF (l : List (BitVec 8)) : Nat → BitVec 8 := overF (inF0 l) 2 l
def inL (l : List (BitVec 8)) (c : Nat) : List (BitVec 8) := (List.range (c + 16)).map (inF l)
def hidL (key : Nat → BitVec 8) (l : List (BitVec 8)) (c : Nat) : List (BitVec 8) := hideL tabF (keysOf tabF key) zeroF (inL l c)
def fullL (key : Nat → BitVec 8) (hl : List (BitVec 8)) (c k : Nat) : List (BitVec 8) := hl ++ (List.range 32).map (xorB (shaOf hl) key) ++ List.replicate (sizeN c k * k - (c + 48)) 0#8
def partsOf (al : List (BitVec 8)) (sz k : Nat) : List (List (BitVec 8)) := (List.range k).map fun i => (al.drop (i * sz)).take sz
theorem sizeN_bounds (c k : Nat) (h1 : 1 ≤ k) : c + 48 ≤ sizeN c k * k ∧ sizeN c k * k < c + 48 + k ∧ 1 ≤ sizeN c k ∧ sizeN c k ≤ c + 48 := by
  have h := Nat.div_add_mod (c + 48 + k - 1) k
  have h2 := Nat.mod_lt (c + 48 + k - 1) (show 0 < k by omega)
  rw [Nat.mul_comm] at h
  have e : sizeN c k = (c + 48 + k - 1) / k := rfl
  rw [← e] at h
  have h3 : 1 ≤ sizeN c k := by
    apply Nat.one_le_iff_ne_zero.2
    intro h0
    rw [h0] at h
    omega
  refine ⟨by omega, by omega, h3, ?_⟩
  have h4 : (sizeN c k - 1) * 1 ≤ (sizeN c k - 1) * k := Nat.mul_le_mul_left _ h1
  have h5 : sizeN c k * k = (sizeN c k - 1) * k + k := by
    conv => lhs; rw [show sizeN c k = (sizeN c k - 1) + 1 by omega]
    rw [Nat.add_mul, Nat.one_mul]
  omega
set_option maxHeartbeats 2000000 in
set_option maxRecDepth 100000 in
theorem pack_core (k c sz : Nat) (l il hl al : List (BitVec 8)) (sv : Value) (key : Nat → BitVec 8) (w : World) (hs : Seg w sv (l.map W8)) (hlen : l.length ≤ 1000) (hk : 1 ≤ k) (hk2 : k ≤ 255)
    (hc : classN l.length = c) (hsz : sizeN c k = sz) (hil : inL l c = il) (hhl : hidL key l c = hl) (hal : fullL key hl c k = al) :
    Calls Try.prog 7 #[.int .i64 (k : Int), sv, .agg (rowOf 32 (w8 key))] w fun e w' => ∃ v gs, e = .returned (.tuple #[v, .int .i64 0]) ∧ Frm Nil w w' ∧ PartsAt w.heap.size w' v sz (partsOf al sz k) gs := by
  have hcs := classN_spec l.length hlen
  rw [hc] at hcs
  obtain ⟨hic, hc1, hc2⟩ := hcs
  have hc3 : 32 ≤ c ∧ c ≤ 1024 := by unfold IsCls at hic; omega
  obtain ⟨hc3, hc4⟩ := hc3
  have HIC := hid hic
  have HC := hid hc
  have HSZ := hid hsz
  have HIL := hid hil
  have HHL := hid hhl
  have HAL := hid hal
  clear hic hc hsz hil hhl hal
  have HS := hid hs
  obtain ⟨ao, cp, rfl, h0, hcc⟩ := hs
  have H0 := hid h0
  have HCC := hid hcc
  clear h0 hcc
  rw [List.length_map] at HS ⊢
  have hb := sizeN_bounds c k hk
  rw [HSZ.out] at hb
  obtain ⟨hb1, hb2, hb3, hb4⟩ := hb
  go_enter Try.func7, Try.ntmps7
  have HK0 := hid (Row.new w 26 32 (w8 key))
  have HF0 := hid ((Frm.refl Nil w).alloc (.cells (rowOf 32 (w8 key)) 26))
  have HS0 := hid (HS.out.frm HF0.out (by simp [Nil]))
  have hz0 : w.heap.size < (w.alloc (.cells (rowOf 32 (w8 key)) 26)).heap.size := by simp
  go_upto_region 3 with (go_at_call 8; refine (class_in l.length _ hlen).mono ?_; rintro e w' ⟨rfl, rfl⟩; rw [HC.out])
  generalize w.alloc (.cells (rowOf 32 (w8 key)) 26) = w0 at HK0 HF0 HS0 hz0 ⊢
  refine (size_in c k w0 HIC.out hk hk2).mono ?_
  rintro e w' ⟨rfl, rfl⟩
  rw [HSZ.out]
  go_upto_region 7 with fail
  obtain ⟨i0, hi, hiz, his, hib⟩ := info_parts info_u8
  go_wp2_with (at_make; refine wpList_make_full _ rfl _ _ 22 rfl 0 5 i0 (.int .u8 0) 1 Try.underlying22 hi hiz his .i64 .i64 ((c : Int) + 16) ((c : Int) + 16) (c + 16) rfl rfl (by omega) (by omega) ?b2 ?b3 (Nat.zero_le _) ?_)
  case b2 => rw [hib]; omega
  case b3 => unfold maxLen; omega
  intro w2 ho2 hg2
  rw [madeCells_u8] at ho2
  have ho2' : Own w2 5 (.slice (some ⟨w0.heap.size, 0, none⟩) (c + 16) (c + 16)) ((List.range (c + 16)).map (w8 fun _ => 0#8)) := Own.of_base ho2 (by simp)
  have hr2 : Row w2 w0.heap.size 5 (c + 16) (w8 zeroF) := Row.of_own ho2' _ (fun i hi => by simp [List.getElem?_range hi]; rfl)
  clear ho2 ho2'
  have hf2 := Frm.of_grown hg2
  have HK2 := hid (hf2.row HK0.out (by simp [Nil]))
  have HF2 := hid (HF0.out.trans hf2 (fun _ _ h => h))
  have HS2 := hid (HS0.out.frm hf2 (by simp [Nil]))
  have HR2 := hid hr2
  clear hf2 hg2 HK0 HF0 HS0 hi hiz his hib
  generalize w0.heap.size = B at *
  have c0f := HR2.out.free 0
  have c1f := HR2.out.free 1
  have c0 := HR2.out.cell8 0 (by omega)
  have c1 := HR2.out.cell8 1 (by omega)
  go_upto_region 9 with fail
  have e0 : BitVec.ofInt 8 ((l.length : Int) / 256) = BitVec.ofNat 8 (l.length / 256) := by
    rw [show (l.length : Int) / 256 = ((l.length / 256 : Nat) : Int) by omega, BitVec.ofInt_natCast]
  rw [e0]
  have hr3 := (HR2.out.set 0 (W8 (BitVec.ofNat 8 (l.length / 256)))).set 1 (W8 (BitVec.ofNat 8 l.length))
  rw [upd_w8, upd_w8, show upd (upd zeroF 0 (BitVec.ofNat 8 (l.length / 256))) 1 (BitVec.ofNat 8 l.length) = inF0 l from rfl] at hr3
  have hf3 := ((Frm.refl Nil w2).mono (Q := fun k => k = B) (fun _ _ h => h.elim)).set ⟨B, 0, none⟩ (W8 (BitVec.ofNat 8 (l.length / 256))) (fun _ => rfl) |>.set ⟨B, 1, none⟩ (W8 (BitVec.ofNat 8 l.length)) (fun _ => rfl)
  generalize (w2.setCell ⟨B, 0, none⟩ (W8 (BitVec.ofNat 8 (l.length / 256)))).setCell ⟨B, 1, none⟩ (W8 (BitVec.ofNat 8 l.length)) = w3 at hr3 hf3 ⊢
  have HK3 := hid (hf3.row HK2.out (by omega))
  have HF3 := hid (HF2.out.trans hf3 (fun k h1 h2 => by omega))
  have HS3 := hid (HS2.out.frm hf3 (fun a n c h1 h2 => by
    have h3 : n = l.length := by simp only [Value.slice.injEq] at h1; exact h1.2.1.symm
    have := HS.out.lt h1 (by rw [h3]; simpa using h2)
    omega))
  have HR3 := hid hr3
  clear hr3 hf3 HK2 HF2 HS2 HR2 c0f c1f c0 c1 e0
  go_wp2_with (refine wpList_copy_row rfl _ _ 22 22 rfl 5 Try.underlying22 (by kernel_rfl) B 2 (c + 16) _ _ 5 (inF0 l) HR3.out l (.slice ao l.length cp) rfl rfl HS3.out (by omega) (by omega) ?_)
  rw [show overF (inF0 l) 2 l = inF l from rfl]
  intro w4 hr4 hf4
  have HK4 := hid (hf4.row HK3.out (by omega))
  have HF4 := hid (HF3.out.trans hf4 (fun k h1 h2 => by omega))
  have hil4 : ((List.range (c + 16)).map (inF l)).map W8 = (List.range (c + 16)).map (w8 (inF l)) := by rw [List.map_map]; rfl
  rw [show (List.range (c + 16)).map (inF l) = il from HIL.out] at hil4
  have hO4 := Own.of_rowh hr4 (by unfold maxLen; omega)
  rw [← hil4] at hO4
  have hln : il.length = c + 16 := by rw [← HIL.out]; simp [inL]
  have HS4 := hid hO4.seg
  clear hr4 hf4 hO4 HK3 HF3 HS3 HR3 hil4
  have HC4 : Hid (∀ i, i < 32 → w4.cell? ⟨w.heap.size, 0 + i, none⟩ = some (w8 key i)) := fun i hi => by rw [Nat.zero_add]; exact HK4.out.cell i hi
  go_wp2_with (refine wpList_load_fn rfl 26 _ rfl w.heap.size 0 32 (w8 key) rfl _ HC4.out Try.underlying26 rfl (by kernel_rfl) ?_)
  rw [zero8_16, show (fun _ => 0#8) = zeroF from rfl]
  have hh : hideL tabF (keysOf tabF key) zeroF il = hl := by rw [← HIL.out]; exact HHL.out
  have hhn : hl.length = c + 16 := by rw [← hh, hideL_len, hln]
  have HH := hid hh
  clear hh
  refine (hide_any key zeroF il _ w4 HS4.out (by omega)).mono ?_
  rintro e w5 ⟨v5, rfl, ho5, hf5, hv5, hn5⟩
  rw [HH.out] at ho5
  have HO5 := hid ho5
  have HK5 := hid (hf5.row HK4.out (by simp [Nil]))
  have HF5 := hid (HF4.out.trans hf5 (fun _ _ h => h))
  have hz5 : w.heap.size < w5.heap.size := HK5.out.lt
  have hz4 : w.heap.size < w4.heap.size := HK4.out.lt
  have HV5 : Hid (∀ g, v5.ownBlock = some g → w.heap.size < g) := hid fun g hg => by have := hv5 g hg; omega
  have HN5 := hid hn5
  clear ho5 hf5 hv5 hn5 HK4 HF4 HS4 HC4 HH
  have HC5 : Hid (∀ i, i < 32 → w5.cell? ⟨w.heap.size, 0 + i, none⟩ = some (w8 key i)) := fun i hi => by rw [Nat.zero_add]; exact HK5.out.cell i hi
  go_wp2_with (refine wpList_load_fn rfl 26 _ rfl w.heap.size 0 32 (w8 key) rfl _ HC5.out Try.underlying26 rfl (by kernel_rfl) ?_)
  refine (masked_any key hl v5 w5 HO5.out.seg (by omega)).mono ?_
  rintro e w6 ⟨rfl, hf6⟩
  have HO6 := hid (hf6.own HO5.out (by simp [Nil]))
  have HF6 := hid (HF5.out.trans hf6 (fun _ _ h => h))
  have hz6 : w.heap.size < w6.heap.size := by have := hf6.size; omega
  clear hf6 HK5 HO5 HF5 HC5
  have hal : hl ++ (List.range 32).map (xorB (shaOf hl) key) ++ List.replicate (sz * k - (c + 48)) 0#8 = al := by rw [← HSZ.out]; exact HAL.out
  generalize xorB (shaOf hl) key = ms at *
  have HALL := hid hal
  clear hal
  go_upto_region 12 with (refine wpList_store_fn rfl 26 _ _ rfl rfl w6.heap.size 0 32 32 26 (w8 fun _ => 0#8) (w8 ms) rfl rfl (Row.new w6 26 32 (w8 fun _ => 0#8)) (by kernel_rfl) (by omega) (fun _ _ => rfl) ?_)
  rw [zero8x32]
  have hl7 := (Row.new w6 26 32 (w8 fun _ => 0#8)).over (w8 ms)
  have hf7 := (((Frm.refl Nil w6).alloc (.cells (rowOf 32 (w8 fun _ => 0#8)) 26))).setRow w6.heap.size (rowOf 32 (splice (w8 fun _ => 0#8) 0 32 (w8 ms))) (fun h => by omega)
  generalize (w6.alloc (.cells (rowOf 32 (w8 fun _ => 0#8)) 26)).setRow w6.heap.size (rowOf 32 (splice (w8 fun _ => 0#8) 0 32 (w8 ms))) = w7 at hl7 hf7 ⊢
  have HO7 := hid (hf7.own HO6.out (by simp [Nil]))
  have HF7 := hid (HF6.out.trans hf7 (fun _ _ h => h))
  have HS7 := hid (seg_row8 hl7 32)
  have hz7 : w.heap.size < w7.heap.size := by have := hf7.size; omega
  clear hf7 hl7 HO6 HF6
  generalize w6.heap.size = BK at *
  have hl32 : ((List.range 32).map ms).length = 32 := by simp
  generalize (List.range 32).map ms = ml at *
  go_wp2_with (at_builtin; refine wpList_append_seg _ rfl _ _ 22 rfl 5 (.int .u8 0) 1 Try.underlying22 info_u8 rfl v5 (hl.map W8) rfl (.slice (some ⟨BK, 0, none⟩) 32 32) (ml.map W8) rfl HO7.out HS7.out (ones_W8 ml) (by rw [List.length_map, List.length_map]; unfold maxLen; omega) (by rw [List.length_map, List.length_map]; omega) ?_)
  intro v8 w8' ho8 hf8 hv8 hn8
  have ho8b : Own w8' 5 v8 ((hl ++ ml).map W8) := by rw [List.map_append]; exact ho8
  have hlm : (hl ++ ml).length = c + 48 := by rw [List.length_append]; omega
  have HF8 := hid (HF7.out.trans hf8 (fun g h1 h2 => by have := HV5.out g h2; omega))
  have hz8 : w.heap.size < w8'.heap.size := by have := hf8.size; omega
  have HV8 : Hid (∀ g, v8.ownBlock = some g → w.heap.size < g) := hid fun g hg => by
    rcases hv8 with h | ⟨g', h1, h2⟩
    · exact HV5.out g (by rw [← h]; exact hg)
    · rw [hg] at h1; cases h1; omega
  obtain ⟨g8, cp8, hv8e⟩ : ∃ g cp, v8 = .slice (some ⟨g, 0, none⟩) (c + 48) cp := by
    rcases ho8b.form with ⟨_, h2⟩ | ⟨g, cap, h1, _⟩
    · have := congrArg List.length h2; rw [List.length_map, hlm] at this; simp at this
    · rw [List.length_map, hlm] at h1; exact ⟨g, cap, h1⟩
  generalize hl ++ ml = hm at *
  subst hv8e
  have HO8 := hid ho8b
  clear ho8 ho8b hf8 hv8 hn8 HO7 HF7 HS7 HV5 HN5
  have hp1 : (c : Int) + 48 ≤ (sz : Int) * (k : Int) := by rw [← Int.natCast_mul]; omega
  have hp2 : (sz : Int) * (k : Int) ≤ 2000 := by rw [← Int.natCast_mul]; omega
  have hp3 : (sz : Int) * (k : Int) - ((c + 48 : Nat) : Int) = ((sz * k - (c + 48) : Nat) : Int) := by rw [← Int.natCast_mul]; omega
  have hp4 : (sz : Int) * (k : Int) - ((c : Int) + 48) = ((sz * k - (c + 48) : Nat) : Int) := by rw [← Int.natCast_mul]; omega
  go_upto_region 13 with fail
  go_wp2_with (at_builtin; refine wpList_append_zeros _ rfl _ _ 22 3 rfl 5 .i64 1 Try.underlying22 Try.underlying3 info_u8 _ (hm.map W8) rfl (sz * k - (c + 48)) rfl HO8.out (by rw [List.length_map]; unfold maxLen; omega) (by rw [List.length_map]; omega) ?_)
  intro v9 w9 ho9 hf9 hv9
  have hal9 : hm ++ List.replicate (sz * k - (c + 48)) 0#8 = al := HALL.out
  rw [zerosV_map, ← List.map_append, hal9] at ho9
  have hln9 : al.length = sz * k := by rw [← hal9, List.length_append, List.length_replicate]; omega
  have HF9 := hid (HF8.out.trans hf9 (fun g h1 h2 => by
    simp only [Value.ownBlock, Option.some.injEq] at h2
    have := HV8.out g (by rw [← h2]; rfl)
    omega))
  have hz9 : w.heap.size < w9.heap.size := by have := hf9.size; omega
  have HV9 : Hid (∀ g, v9.ownBlock = some g → w.heap.size < g) := hid fun g hg => by
    rcases hv9 with h | ⟨g', h1, h2⟩
    · exact HV8.out g (by rw [← h]; exact hg)
    · rw [hg] at h1; cases h1; omega
  obtain ⟨g9, cp9, hv9e, hcp9⟩ : ∃ g cp, v9 = .slice (some ⟨g, 0, none⟩) (sz * k) cp ∧ sz * k ≤ cp := by
    rcases ho9.form with ⟨_, h2⟩ | ⟨g, cap, h1, h2, _⟩
    · have := congrArg List.length h2; rw [List.length_map, hln9] at this; simp at this; omega
    · rw [List.length_map, hln9] at h1 h2; exact ⟨g, cap, h1, h2⟩
  subst hv9e
  have HO9 := hid ho9
  have hg9 : w.heap.size < g9 := HV9.out g9 rfl
  have hg9b : g9 < w9.heap.size := ho9.lt rfl
  clear ho9 hf9 hv9 HO8 HF8 HV8 HV9 HALL hal9 hp3 hp4 HIL HHL HAL
  go_upto_region 16 with fail
  obtain ⟨wx, rfl⟩ : ∃ wx : World, wx = w9 := ⟨_, rfl⟩
  go_loopw [14, 71] (fun vo vi wr => ∃ (i : Nat) (gs : List (Nat × Nat)) (q : Value), i ≤ k ∧ vi = .int .i64 (i : Int) ∧ q = vo ∧ PartsAt w.heap.size wr vo sz (partsOf al sz i) gs ∧ Own wr 5 (.slice (some ⟨g9, 0, none⟩) (sz * k) cp9) (al.map W8) ∧ Frm Nil w wr ∧ vo.ownBlock ≠ some g9) (fun _ vi _ => k - (intOf vi).toNat)
  case atStart => exact ⟨0, [], _, by omega, rfl, rfl, ⟨rfl, Own.nil _ _, (fun i p b h => by simp at h), List.Pairwise.nil, fun g hg => by simp [Value.ownBlock] at hg⟩, HO9.out, HF9.out, by simp [Value.ownBlock]⟩
  case round =>
    clear HO9 HF9 hz9 hg9b
    obtain ⟨i, gs, q, hi, rfl, rfl, hp, ho, hf, hq⟩ := hrel
    by_cases hlt : i < k
    · have hmul : (i + 1) * sz ≤ k * sz := Nat.mul_le_mul_right _ hlt
      rw [Nat.add_mul, Nat.one_mul] at hmul
      rw [Nat.mul_comm k sz] at hmul
      have hm1 : (i : Int) * (sz : Int) = ((i * sz : Nat) : Int) := (Int.natCast_mul _ _).symm
      have hm2 : ((i : Int) + 1) * (sz : Int) = ((i * sz + sz : Nat) : Int) := by rw [Int.add_mul, Int.one_mul, hm1]; omega
      have hq1 : 0 ≤ (i : Int) * (sz : Int) := by omega
      have hq2 : (i : Int) * (sz : Int) ≤ 2000 := by omega
      have hq3 : 0 ≤ ((i : Int) + 1) * (sz : Int) := by omega
      have hq4 : ((i : Int) + 1) * (sz : Int) ≤ 2000 := by omega
      have hq5 : (i : Int) * (sz : Int) ≤ ((i : Int) + 1) * (sz : Int) := by omega
      have hq6 : ((i : Int) + 1) * (sz : Int) ≤ (sz : Int) * (k : Int) := by rw [← Int.natCast_mul sz k]; omega
      have HM1 := hid hm1
      have HM2 := hid hm2
      have HP := hid hp
      have HO := hid ho
      have HF := hid hf
      clear hp ho hf hm1 hm2
      go_upto_region 18 with fail
      go_wp2_with fail
      have hsg := HO.out.seg.part rfl (i * sz) ((i + 1) * sz) (cp9 - i * sz) (Nat.mul_le_mul_right _ (by omega)) (by rw [List.length_map, hln9, Nat.add_mul, Nat.one_mul]; omega)
      rw [Nat.zero_add, ← List.map_drop, ← List.map_take] at hsg
      have hpl : partsOf al sz (i + 1) = partsOf al sz i ++ [(al.drop (i * sz)).take ((i + 1) * sz - i * sz)] := by
        unfold partsOf
        rw [List.range_succ, List.map_append, Nat.add_mul, Nat.one_mul, Nat.add_sub_cancel_left]
        rfl
      have hbl : ((al.drop (i * sz)).take ((i + 1) * sz - i * sz)).length = sz := by
        rw [List.length_take, List.length_drop, hln9, Nat.add_mul, Nat.one_mul, Nat.add_sub_cancel_left]; omega
      have HPL := hid hpl
      generalize (al.drop (i * sz)).take ((i + 1) * sz - i * sz) = pb at *
      have HSG := hid hsg
      clear hsg hpl hq1 hq2 hq3 hq4 hq5 hq6
      refine (clone_any pb _ wr HSG.out (by omega)).mono ?_
      rintro e wc ⟨vc, rfl, hoc, hfc, hvc, hnc⟩
      obtain ⟨gc, cpc, rfl⟩ : ∃ g cp, vc = .slice (some ⟨g, 0, none⟩) sz cp := by
        rcases hoc.form with ⟨_, h2⟩ | ⟨g, cap, h1, h2, _⟩
        · have := congrArg List.length h2; rw [List.length_map, hbl] at this; simp at this; omega
        · rw [List.length_map, hbl] at h1; exact ⟨g, cap, h1⟩
      have hgc : wr.heap.size ≤ gc := hvc gc rfl
      have hgc2 : gc < wc.heap.size := hoc.lt rfl
      have HOC := hid hoc
      have HFC := hid hfc
      have hzc := hfc.size
      clear hoc hfc hvc hnc
      have HSV := hid (seg_oneV wc 22 (.slice (some ⟨gc, 0, none⟩) sz cpc))
      have HOV := hid ((HFC.out.own HP.out.own (by simp [Nil])).alloc (.cells #[.slice (some ⟨gc, 0, none⟩) sz cpc] 22))
      have hgl : gs.length = i := by rw [HP.out.len]; simp [partsOf]
      go_wp2_with (at_builtin; refine wpList_append_seg _ rfl _ _ 27 rfl 22 (.slice none 0 0) 24 Try.underlying27 info_slice8 rfl q (gs.map fun p => .slice (some ⟨p.1, 0, none⟩) sz p.2) rfl (.slice (some ⟨wc.heap.size, 0, none⟩) 1 1) [.slice (some ⟨gc, 0, none⟩) sz cpc] rfl HOV.out HSV.out (fun u hu => by simp at hu; subst hu; rfl) (by rw [List.length_map, hgl]; unfold maxLen; simp only [List.length_cons, List.length_nil]; omega) (by rw [List.length_map, hgl]; simp only [List.length_cons, List.length_nil]; omega) ?_)
      intro vd wd hod hfd hvd hnd
      rw [← List.map_singleton (f := fun p : Nat × Nat => Value.slice (some ⟨p.1, 0, none⟩) sz p.2) (a := (gc, cpc)), ← List.map_append] at hod
      have hfr : Frm (fun g => q.ownBlock = some g) wr wd := (HFC.out.mono (Q := fun g => q.ownBlock = some g) (fun _ _ h => h.elim)).alloc _ |>.trans hfd (fun g h1 h2 => h2)
      have hqlt : ∀ g, q.ownBlock = some g → g < wr.heap.size := fun g hg => HP.out.own.lt hg
      have hP2 : PartsAt w.heap.size wd vd sz (partsOf al sz (i + 1)) (gs ++ [(gc, cpc)]) := by
        have hwr : w.heap.size ≤ wr.heap.size := HF.out.size
        rw [HPL.out]
        refine ⟨by rw [List.length_append, List.length_append, HP.out.len]; rfl, hod, fun j p b hj hb => ?_, ?_, fun g hg => ?_⟩
        · rw [List.getElem?_append] at hj hb
          rw [← HP.out.len] at hb
          by_cases hjl : j < gs.length
          · rw [if_pos hjl] at hj hb
            obtain ⟨p1, p2, p3, p4⟩ := HP.out.part j p b hj hb
            have p5 : p.1 < wr.heap.size := p2.lt rfl
            refine ⟨p1, hfr.own p2 (fun g hg => by simp only [Value.ownBlock, Option.some.injEq] at hg; rw [← hg]; exact p4), p3, fun h => ?_⟩
            rcases hvd with h6 | ⟨g', h6, h7⟩
            · exact p4 (by rw [← h6]; exact h)
            · rw [h] at h6; cases h6; (try simp at h7); omega
          · rw [if_neg hjl] at hj hb
            have hj0 : j - gs.length = 0 := by
              have := (List.getElem?_eq_some_iff.1 hj).1
              simp at this; omega
            rw [hj0] at hj hb
            simp at hj hb
            subst hj; subst hb
            refine ⟨hbl, hfd.own (HOC.out.alloc _) (fun g hg => by simp only [Value.ownBlock, Option.some.injEq] at hg; intro h; have := hqlt g h; omega), by show w.heap.size ≤ gc; omega, fun h => ?_⟩
            rcases hvd with h6 | ⟨g', h6, h7⟩
            · have := hqlt gc (by rw [← h6]; exact h); omega
            · rw [h] at h6; cases h6; (try simp at h7); omega
        · rw [List.map_append, List.pairwise_append]
          refine ⟨HP.out.apart, by simp, fun x hx y hy => ?_⟩
          simp at hy; subst hy
          obtain ⟨p, hp1, rfl⟩ := List.mem_map.1 hx
          obtain ⟨j, hj, hj2⟩ := List.mem_iff_getElem.1 hp1
          have hj3 : j < (partsOf al sz i).length := by rw [← HP.out.len]; exact hj
          obtain ⟨_, p2, _, _⟩ := HP.out.part j p _ (by rw [List.getElem?_eq_getElem hj, hj2]) (List.getElem?_eq_getElem hj3)
          have p5 : p.1 < wr.heap.size := p2.lt rfl
          omega
        · rcases hvd with h | ⟨g', h1, h2⟩
          · exact HP.out.fresh g (by rw [← h]; exact hg)
          · rw [hg] at h1; cases h1; (try simp at h2); omega
      have hO2 := hfr.own HO.out (fun g hg h => by simp only [Value.ownBlock, Option.some.injEq] at hg; exact hq (by rw [hg]; exact h))
      have hF2 : Frm Nil w wd := HF.out.trans hfr (fun g h1 h2 => by have := HP.out.fresh g h2; omega)
      have hg9c : g9 < wr.heap.size := HO.out.lt rfl
      have hQ2 : vd.ownBlock ≠ some g9 := fun h => by
        rcases hvd with h6 | ⟨g', h6, h7⟩
        · exact hq (by rw [← h6]; exact h)
        · rw [h] at h6; cases h6; (try simp at h7); omega
      have HP2 := hid hP2
      have HO2 := hid hO2
      have HF2 := hid hF2
      clear hod hfd hvd hnd hfr hP2 hO2 hF2
      go_wp2_with fail
      go_roundw
      case rel => exact ⟨i + 1, _, _, by omega, by go_num, rfl, HP2.out, HO2.out, HF2.out, hQ2⟩
      case measure => simp [intOf]; omega
    · obtain rfl : i = k := by omega
      have HP := hid hp
      have HF := hid hf
      clear hp ho hf
      go_wp2_with fail
      go_ret2
      exact ⟨q, gs, rfl, HF.out, HP.out⟩
theorem pack_any (k : Nat) (l : List (BitVec 8)) (sv : Value) (key : Nat → BitVec 8) (w : World) (hs : Seg w sv (l.map W8)) (hlen : l.length ≤ 1000) (hk : 1 ≤ k) (hk2 : k ≤ 255) :
    Calls Try.prog 7 #[.int .i64 (k : Int), sv, .agg (rowOf 32 (w8 key))] w fun e w' => ∃ v gs, e = .returned (.tuple #[v, .int .i64 0]) ∧ Frm Nil w w' ∧
      PartsAt w.heap.size w' v (sizeN (classN l.length) k) (partsOf (fullL key (hidL key l (classN l.length)) (classN l.length) k) (sizeN (classN l.length) k) k) gs :=
  pack_core k _ _ l _ _ _ sv key w hs hlen hk hk2 rfl rfl rfl rfl rfl
set_option maxHeartbeats 1000000 in
set_option maxRecDepth 100000 in
theorem pack_long (k : Int) (l : List (BitVec 8)) (sv : Value) (key : Nat → BitVec 8) (w : World) (hs : Seg w sv (l.map W8)) (hlen : 1000 < l.length) (hl2 : l.length ≤ 4611686018427387904) :
    Calls Try.prog 7 #[.int .i64 k, sv, .agg (rowOf 32 (w8 key))] w fun e w' => e = .returned (.tuple #[.slice none 0 0, .int .i64 3]) ∧ Frm Nil w w' := by
  obtain ⟨ao, cp, rfl, h0, hcc⟩ := hs
  clear h0 hcc
  rw [List.length_map]
  go_enter Try.func7, Try.ntmps7
  have HF0 := hid ((Frm.refl Nil w).alloc (.cells (rowOf 32 (w8 key)) 26))
  go_wp2_with (go_at_call 8; refine (class_out l.length _ (by omega)).mono ?_; rintro e w' ⟨rfl, rfl⟩)
  go_ret2
  exact ⟨rfl, HF0.out⟩
set_option maxHeartbeats 1000000 in
set_option maxRecDepth 100000 in
theorem pack_odd (k : Int) (l : List (BitVec 8)) (sv : Value) (key : Nat → BitVec 8) (w : World) (hs : Seg w sv (l.map W8)) (hlen : l.length ≤ 1000) (hk : ¬ (1 ≤ k ∧ k ≤ 255)) :
    Calls Try.prog 7 #[.int .i64 k, sv, .agg (rowOf 32 (w8 key))] w fun e w' => e = .returned (.tuple #[.slice none 0 0, .int .i64 14]) ∧ Frm Nil w w' := by
  obtain ⟨ao, cp, rfl, h0, hcc⟩ := hs
  clear h0 hcc
  rw [List.length_map]
  have hcs := classN_spec l.length hlen
  generalize hcl : classN l.length = c at hcs
  have hc3 : c ≤ 1024 := by have := hcs.1; unfold IsCls at this; omega
  have HK := hid (show ¬ (IsCls (c : Int) ∧ 1 ≤ k ∧ k ≤ 255) from fun h => hk h.2)
  have HCL := hid hcl
  clear hk hcs hcl
  go_enter Try.func7, Try.ntmps7
  have HF0 := hid ((Frm.refl Nil w).alloc (.cells (rowOf 32 (w8 key)) 26))
  go_wp2_with (first | (go_at_call 8; refine (class_in l.length _ hlen).mono ?_; rintro e w' ⟨rfl, rfl⟩; rw [HCL.out]) | (go_at_call 21; refine (size_out c k _ HK.out (by omega) (by omega)).mono ?_; rintro e w' ⟨rfl, rfl⟩))
  go_ret2
  exact ⟨rfl, HF0.out⟩
end Go.Proofs.Ytljddimmhjiehaa
