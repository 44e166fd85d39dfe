/- The reference of layer 11: a secret's package, whole. -/
import Derived.Test.YtljddimmhjiehaaA6a
namespace Go.Proofs.Ytljddimmhjiehaa
open Go.RowKit

theorem inL_eq (l : List (BitVec 8)) (c : Nat) (h : l.length + 2 ≤ c) (hl : l.length ≤ 1000) : bytesL (BitVec.ofNat 64 l.length) 2 ++ l ++ List.replicate (c + 16 - (2 + l.length)) 0#8 = inL l c := by
  unfold inL
  apply List.ext_getElem?
  intro i
  rw [List.getElem?_map]
  by_cases hi : i < c + 16
  · rw [List.getElem?_range hi, Option.map_some, inF, overF]
    by_cases h1 : i < 2
    · rw [List.append_assoc, List.getElem?_append_left (by rw [bytesL_len]; exact h1), bytesL, List.getElem?_map, List.getElem?_range h1, Option.map_some, if_neg (by omega), inF0]
      have hb : ∀ n : Nat, n ≤ 1000 → bytesF (BitVec.ofNat 64 n) 2 0 = BitVec.ofNat 8 (n / 256) ∧ bytesF (BitVec.ofNat 64 n) 2 1 = BitVec.ofNat 8 n := fun n hn => by
        unfold bytesF
        refine ⟨BitVec.eq_of_toNat_eq ?_, BitVec.eq_of_toNat_eq ?_⟩
        · simp only [BitVec.toNat_setWidth, BitVec.toNat_ushiftRight, BitVec.toNat_ofNat, Nat.shiftRight_eq_div_pow]
          omega
        · simp only [BitVec.toNat_setWidth, BitVec.toNat_ushiftRight, BitVec.toNat_ofNat, Nat.shiftRight_eq_div_pow]
          omega
      match i, h1 with
      | 0, _ => rw [(hb _ hl).1]; rfl
      | 1, _ => rw [(hb _ hl).2]; rfl
      | i + 2, h => omega
    · rw [List.append_assoc, List.getElem?_append_right (by rw [bytesL_len]; omega), bytesL_len]
      by_cases h2 : i < 2 + l.length
      · rw [List.getElem?_append_left (by omega), if_pos (by omega), List.getD_eq_getElem?_getD, List.getElem?_eq_getElem (by omega)]
        rfl
      · rw [List.getElem?_append_right (by omega), List.getElem?_replicate, if_pos (by omega), if_neg (by omega), inF0, upd_other _ _ _ _ (by omega), upd_other _ _ _ _ (by omega)]
        rfl
  · rw [List.getElem?_eq_none (by simp [bytesL]; omega), List.getElem?_eq_none (by simp; omega)]
    rfl
theorem fast_c (key : Nat → BitVec 8) (l hl : List (BitVec 8)) (sv : Value) (w : World) (hs : Seg w sv (l.map W8)) (hlen : l.length ≤ 1000000) (h : hideL tabF (keysOf tabF key) zeroF l = hl) :
    Calls Try.prog 35 #[.agg (rowOf 256 (w8 tabF)), .agg (rowOf 32 (w8 key)), .agg (rowOf 16 (w8 zeroF)), sv] w fun e w' => Fresh8 hl w e w' :=
  fast_core tabF key _ zeroF l hl sv w hs hlen rfl (by rw [fast_eq _ _ _ l hlen _ (Nat.le_refl _), ← h, List.take_of_length_le (by rw [hideL_len]; exact Nat.le_refl _)])
theorem New.len8 {w wr : World} {v : Value} {l : List (BitVec 8)} (h : New w wr 5 v (l.map W8)) : ∃ ao c, v = .slice ao l.length c := by
  obtain ⟨ao, c, hv⟩ := h.form
  rw [List.length_map] at hv
  exact ⟨ao, c, hv⟩
theorem xorB_len (s key : Nat → BitVec 8) (n : Nat) : ((List.range n).map (xorB s key)).length = n := by simp
theorem range_snoc {α : Type} (f : Nat → α) (n : Nat) : (List.range (n + 1)).map f = (List.range n).map f ++ [f n] := by rw [List.range_succ, List.map_append]; rfl
theorem rep_snoc (n : Nat) : List.replicate (n + 1) 0#8 = List.replicate n 0#8 ++ [0#8] := by rw [List.replicate_succ']
set_option maxHeartbeats 4000000 in
set_option maxRecDepth 100000 in
theorem whole_core (k c sz : Nat) (l pre il hl al : List (BitVec 8)) (s : Nat → BitVec 8) (sv : Value) (key : Nat → BitVec 8) (w : World) (hs : Seg w sv (l.map W8)) (hlen : l.length ≤ 1000) (hk : 1 ≤ k) (hk2 : k ≤ 255)
    (hc : classN l.length = c) (hsz : sizeN c k = sz) (hpre : bytesL (BitVec.ofNat 64 l.length) 2 ++ l = pre) (hil : inL l c = il) (hhl : hidL key l c = hl) (hs1 : shaOf hl = s) (hal : fullL key hl c k = al) :
    Calls Try.prog 37 #[.agg (rowOf 256 (w8 tabF)), .int .i64 (k : Int), sv, .agg (rowOf 32 (w8 key))] w fun e w' => Fresh8 al w e w' := by
  have hcs := classN_spec l.length hlen
  rw [hc] at hcs
  obtain ⟨hic, hc1, _⟩ := hcs
  have hc2 : 32 ≤ c ∧ c ≤ 1024 := by unfold IsCls at hic; omega
  obtain ⟨hc2, hc3⟩ := hc2
  have hb := sizeN_bounds c k hk
  have hlst := fun m => sizeN_least c k m hk
  have hmm := sizeN_mul_mod c k
  rw [hsz] at hb hlst hmm
  have hpl : pre.length = 2 + l.length := by rw [← hpre, List.length_append, bytesL_len]
  have hile : pre ++ List.replicate (c + 16 - (2 + l.length)) 0#8 = il := by rw [← hpre, ← hil]; exact inL_eq l c hc1 hlen
  have hill : il.length = c + 16 := by rw [← hil]; simp [inL]
  have hhll : hl.length = c + 16 := by rw [← hhl, hidL, hideL_len]; simp [inL]
  have HFS := hid (fun sv w hs => fast_c key il hl sv w hs (by omega) (by rw [← hil]; exact hhl))
  have HSM := hid (fun sv w hs => sum_c hl s sv w hs (by omega) hs1)
  have HCL := hid (fun w => rClass_in l.length c w hlen hc)
  have HBY := hid (fun w => bytes_new (BitVec.ofNat 64 l.length) 2 _ w (by omega) rfl)
  have HJN := hid (fun av w (ha : Seg w av ((bytesL (BitVec.ofNat 64 l.length) 2).map W8)) (hb : Seg w sv (l.map W8)) => rJoin_any _ l av sv w ha hb (by rw [bytesL_len]; omega))
  rw [hpre] at HJN
  have hale : hl ++ (List.range 32).map (xorB s key) ++ List.replicate (sz * k - (c + 48)) 0#8 = al := by rw [← hal, fullL, hs1, hsz]
  have HPL := hid hpl
  have HILE := hid hile
  have HILL := hid hill
  have HHLL := hid hhll
  have HALE := hid hale
  have HLST := hid hlst
  have HMM := hid hmm
  have HS := hid hs
  obtain ⟨ao, cp, rfl⟩ := hs.open8
  clear hs hc hsz hpre hil hhl hs1 hal hpl hile hill hhll hale hlst hmm hic
  generalize sz * k = N at *
  obtain ⟨hb1, hb2, hb3, hb4⟩ := hb
  generalize bytesL (BitVec.ofNat 64 l.length) 2 = b2 at *
  go_enter Try.func37, Try.ntmps37
  have ht0 := (Row.new w 47 256 (w8 tabF)).alloc (.cells (rowOf 32 (w8 key)) 26)
  have hk0 := Row.new (w.alloc (.cells (rowOf 256 (w8 tabF)) 47)) 26 32 (w8 key)
  rw [World.size_alloc] at hk0
  have hf0 := ((Frm.refl Nil w).alloc (.cells (rowOf 256 (w8 tabF)) 47)).alloc (.cells (rowOf 32 (w8 key)) 26)
  have hz0 : ((w.alloc (.cells (rowOf 256 (w8 tabF)) 47)).alloc (.cells (rowOf 32 (w8 key)) 26)).heap.size = w.heap.size + 2 := by simp
  have HT0 := hid ht0
  have HK0 := hid hk0
  have HF0 := hid hf0
  have HZ0 := hid hz0
  clear ht0 hk0 hf0 hz0
  go_upto_region 1 with fail
  generalize (w.alloc (.cells (rowOf 256 (w8 tabF)) 47)).alloc (.cells (rowOf 32 (w8 key)) 26) = w0 at HT0 HK0 HF0 HZ0 ⊢
  go_wp2_with fail
  refine (HCL.out w0).mono ?_
  rintro e w' ⟨rfl, rfl⟩
  go_wp2_with fail
  refine (HBY.out w0).mono ?_
  rintro e w1 ⟨bv, rfl, hb1'⟩
  have HB1 := hid hb1'.own.seg
  have HT1 := hid (hb1'.frm.row HT0.out (by simp [Nil]))
  have HK1 := hid (hb1'.frm.row HK0.out (by simp [Nil]))
  have HF1 := hid (HF0.out.trans hb1'.frm (fun _ _ h => h))
  have hz1 : w.heap.size + 2 ≤ w1.heap.size := by have := hb1'.frm.size; have := HZ0.out; omega
  clear hb1' HT0 HK0 HF0 HZ0
  go_wp2_with fail
  refine (HJN.out bv w1 HB1.out (HS.out.frm HF1.out (by simp [Nil]))).mono ?_
  rintro e w2 ⟨iv, rfl, hn2⟩
  have HT2 := hid (hn2.frm.row HT1.out (by simp [Nil]))
  have HK2 := hid (hn2.frm.row HK1.out (by simp [Nil]))
  have HN2 := hid (show New w1 w2 5 iv ((pre ++ List.replicate 0 0#8).map W8) by rw [List.replicate_zero, List.append_nil]; exact hn2)
  clear hn2 HB1 HT1 HK1
  generalize hT : w.heap.size = T at *
  go_wp2_with fail
  go_loopw [11] (fun vi wr => ∃ (m : Nat) (ao : Option Addr) (cq : Nat), vi = .slice ao (2 + l.length + m) cq ∧ 2 + l.length + m ≤ c + 16 ∧ New w1 wr 5 vi ((pre ++ List.replicate m 0#8).map W8) ∧ Row wr T 47 256 (w8 tabF) ∧ Row wr (T + 1) 26 32 (w8 key)) (fun vi _ => c + 16 - (match vi with | .slice _ n _ => n | _ => 0))
  case atStart =>
    obtain ⟨ao, cq, hv⟩ := HN2.out.len8
    refine ⟨0, ao, cq, ?_, by omega, HN2.out, HT2.out, HK2.out⟩
    rw [hv, List.length_append, HPL.out, List.length_replicate]
  case round =>
    clear HN2 HT2 HK2
    obtain ⟨m, ao, cq, rfl, hm, hn, ht, hk'⟩ := hrel
    by_cases hlt : 2 + l.length + m < c + 16
    · have HN := hid hn
      have HT := hid ht
      have HK := hid hk'
      clear hn ht hk'
      go_wp2_with (at_builtin; go_loud (refine push8 HN.out 0#8 (by rw [List.length_append, HPL.out, List.length_replicate]; omega) rfl _ _ rfl (by rfl) (by rfl) ?_))
      intro q2 w3 hn3 hf3 _
      have hn4 : New w1 w3 5 q2 ((pre ++ List.replicate (m + 1) 0#8).map W8) := by rw [rep_snoc]; simpa using hn3
      obtain ⟨ao2, cq2, hv2⟩ := hn4.len8
      rw [List.length_append, HPL.out, List.length_replicate] at hv2
      have HT3 := hid (hf3.row HT.out (fun h => by have := HN.out.fresh _ h; omega))
      have HK3 := hid (hf3.row HK.out (fun h => by have := HN.out.fresh _ h; omega))
      have HN3 := hid hn4
      clear hn3 hf3 hn4 HN HT HK
      subst hv2
      go_wp2_with fail
      go_roundw
      case rel => exact ⟨m + 1, ao2, cq2, rfl, by omega, HN3.out, HT3.out, HK3.out⟩
      case measure => simp; omega
    · have hn2 : New w1 wr 5 (.slice ao (2 + l.length + m) cq) (il.map W8) := by
        have e : pre ++ List.replicate m 0#8 = il := by rw [← HILE.out]; congr 2; omega
        rw [e] at hn; exact hn
      have HI := hid hn2.own.seg
      have HF2 := hid (HF1.out.trans hn2.frm (fun _ _ h => h))
      have HC1 : Hid (∀ j, j < 256 → wr.cell? ⟨T, 0 + j, none⟩ = some (w8 tabF j)) := fun j hj => by rw [Nat.zero_add]; exact ht.cell j hj
      have HC2 : Hid (∀ j, j < 32 → wr.cell? ⟨T + 1, 0 + j, none⟩ = some (w8 key j)) := fun j hj => by rw [Nat.zero_add]; exact hk'.cell j hj
      have HK := hid hk'
      clear hn hn2 ht hk'
      go_wp2_with (first | (refine wpList_load_fn rfl 47 _ rfl T 0 256 (w8 tabF) rfl _ HC1.out Try.underlying47 rfl (by kernel_rfl) ?_) | (refine wpList_load_fn rfl 26 _ rfl (T + 1) 0 32 (w8 key) rfl _ HC2.out Try.underlying26 rfl (by kernel_rfl) ?_))
      rw [zero8_16, show (fun _ => 0#8) = zeroF from rfl]
      refine (HFS.out _ wr HI.out).mono ?_
      rintro e w3 ⟨av, rfl, hn3⟩
      obtain ⟨ao3, c3, hv3⟩ := hn3.len8
      rw [HHLL.out] at hv3
      subst hv3
      have HW3 := hid (fun g (h : (Value.slice ao3 (c + 16) c3).ownBlock = some g) => show T + 2 ≤ g by have h1 := hn3.fresh g h; have h2 := HK.out.lt; omega)
      have HN3 := hid (hn3.lower HF2.out)
      have HK3 := hid (hn3.frm.row HK.out (by simp [Nil]))
      have HS3 := hid hn3.own.seg
      clear hn3 HK HI HC1 HC2 HF2
      go_wp2_with fail
      refine (HSM.out _ w3 HS3.out).mono ?_
      rintro e w4 ⟨rfl, hf4⟩
      have HN4 := hid (HN3.out.later hf4)
      have HK4 := hid (hf4.row HK3.out (by simp [Nil]))
      clear hf4 HN3 HK3 HS3
      go_wp2_with fail
      refine (rBytes_any s w4).mono ?_
      rintro e w5 ⟨G, rfl, hg5, hf5, hG⟩
      have HN5 := hid (HN4.out.later hf5)
      have HK5 := hid (hf5.row HK4.out (by simp [Nil]))
      have HG5 := hid hg5
      have HGT := hid (show T + 2 ≤ G by have := HK4.out.lt; omega)
      have hq5 : ∀ g, (Value.slice ao3 (c + 16) c3).ownBlock = some g → g ≠ G ∧ T + 2 ≤ g := fun g hg => by have h1 := HN4.out.own.lt hg; have h2 := HW3.out g hg; omega
      have HQ5 := hid hq5
      clear hf5 hg5 hq5 HN4 HK4 hG
      go_wp2_with fail
      go_loopw [12, 14] (fun vo vi wr => ∃ (i : Nat) (ao : Option Addr) (cq : Nat), vi = .int .i64 (i : Int) ∧ vo = .slice ao (c + 16 + i) cq ∧ i ≤ 32 ∧ New w wr 5 vo ((hl ++ (List.range i).map (xorB s key)).map W8) ∧ Row wr (T + 1) 26 32 (w8 key) ∧ Row wr G 5 32 (w8 s) ∧ (∀ g, vo.ownBlock = some g → g ≠ G ∧ T + 2 ≤ g)) (fun _ vi _ => 32 - (intOf vi).toNat)
      case atStart => exact ⟨0, ao3, c3, rfl, rfl, by omega, by simpa using HN5.out, HK5.out, HG5.out, HQ5.out⟩
      case round =>
        rename World => wx
        clear HN5 HK5 HG5 HQ5
        obtain ⟨i, ao, cq, rfl, rfl, hi, hn, hk', hg, hq⟩ := hrel
        by_cases hlt : i < 32
        · have c1 := run_later hk' i hlt
          have c2 := run_later hg i hlt
          have HX := hid (show (List.range (i + 1)).map (xorB s key) = (List.range i).map (xorB s key) ++ [s i ^^^ key i] from range_snoc _ i)
          have HLEN := hid (show (hl ++ (List.range i).map (xorB s key)).length = c + 16 + i by rw [List.length_append, HHLL.out, xorB_len])
          generalize s i = sv at *
          generalize key i = kv at *
          have HN := hid hn
          have HK := hid hk'
          have HG := hid hg
          have HQ := hid hq
          clear hn hk' hg hq
          go_upto_region 10 with fail
          refine wp_region_later_mtail (x := .tmp 12) 8 (by kernel_rfl) rfl rfl (by kernel_rfl) (by kernel_rfl) (by kernel_rfl) (fun _ _ _ _ h => h) ?_
          simp only [List.take_succ_cons, List.take_zero, List.drop_succ_cons, List.drop_zero, Act.put, Act.eval]
          simp only [Array.getD_eq_getD_getElem?, List.getElem?_toArray, List.getElem?_cons_succ, List.getElem?_cons_zero, Option.getD_some, List.setIfInBounds_toArray, List.set_cons_succ, List.set_cons_zero]
          repeat (go_big_quiet_step (fail))
          refine wpQuiet_nil ?_
          intro w6 hf6
          have HN6 := hid (HN.out.later hf6)
          have HK6 := hid (hf6.row HK.out (by simp [Nil]))
          have HG6 := hid (hf6.row HG.out (by simp [Nil]))
          have hz6 := hf6.size
          clear hf6 HN HK HG c1 c2
          go_wp2_with (at_builtin; go_loud (refine push8 HN6.out _ (by rw [HLEN.out]; omega) rfl _ _ rfl (by rfl) (by rfl) ?_))
          intro q2 w7 hn7 hf7 hv7
          have hn8 : New w w7 5 q2 ((hl ++ (List.range (i + 1)).map (xorB s key)).map W8) := by rw [HX.out, ← List.append_assoc, List.map_append, List.map_append, List.map_map, List.append_assoc]; exact hn7
          obtain ⟨ao2, cq2, hv2⟩ := hn8.len8
          rw [List.length_append, HHLL.out, xorB_len] at hv2
          have HQ7 : Hid (∀ g, q2.ownBlock = some g → g ≠ G ∧ T + 2 ≤ g) := fun g hg => by
            rcases hv7 with h | ⟨g', h, hl⟩
            · rw [h] at hg; exact HQ.out g hg
            · rw [h] at hg; cases hg; have h1 := HG6.out.lt; have h2 := HGT.out; omega
          have HK7 := hid (hf7.row HK6.out (fun h => by have := HQ.out _ h; omega))
          have HG7 := hid (hf7.row HG6.out (fun h => (HQ.out _ h).1 rfl))
          have HN7 := hid hn8
          clear hn7 hf7 hv7 hn8 HN6 HK6 HG6 HQ HX HLEN hz6
          subst hv2
          go_wp2_with fail
          go_roundw
          case rel => exact ⟨i + 1, _, _, rfl, rfl, by omega, HN7.out, HK7.out, HG7.out, HQ7.out⟩
          case measure => simp [intOf]; omega
        · have hi2 : i = 32 := by omega
          have e32 : (List.range i).map (xorB s key) = (List.range 32).map (xorB s key) := by rw [hi2]
          rw [e32] at hn
          have HI2 := hid hi2
          have hi3 : c + 16 + i = c + 48 + 0 := by omega
          rw [hi3] at hn
          have HI3 := hid hi3
          clear hk' hg hq e32 hi2 hi3
          generalize hh2 : hl ++ (List.range 32).map (xorB s key) = h2 at *
          have HH2 := hid (show h2.length = c + 48 by rw [← hh2, List.length_append, HHLL.out, xorB_len])
          clear hh2
          have HN := hid hn
          clear hn
          go_wp2_with fail
          go_loopw [12] (fun vo wr => ∃ (m : Nat) (ao : Option Addr) (cq : Nat), vo = .slice ao (c + 48 + m) cq ∧ c + 48 + m ≤ N ∧ New w wr 5 vo ((h2 ++ List.replicate m 0#8).map W8)) (fun vo _ => N - (match vo with | .slice _ n _ => n | _ => 0))
          case atStart => exact ⟨0, ao, cq, by rw [HI3.out], by omega, by rw [HI3.out]; simpa using HN.out⟩
          case round =>
            clear HN
            obtain ⟨m, ao, cq, rfl, hm, hn⟩ := hrel
            by_cases hlt : c + 48 + m < N
            · have hne := HLST.out (c + 48 + m) (by omega) hlt
              have ht : (((((c : Int) + 48 + (m : Int))) % (k : Int)) != 0) = true := by
                rw [bne_iff_ne, show (c : Int) + 48 + (m : Int) = ((c + 48 + m : Nat) : Int) by omega]
                generalize c + 48 + m = M at hne
                omega
              have HN := hid hn
              have HLEN := hid (show (h2 ++ List.replicate m 0#8).length = c + 48 + m by rw [List.length_append, HH2.out, List.length_replicate])
              clear hn hne
              go_wp2_with (at_builtin; go_loud (refine push8 HN.out 0#8 (by rw [HLEN.out]; omega) rfl _ _ rfl (by rfl) (by rfl) ?_))
              intro q2 w7 hn7 _ _
              have hn8 : New w w7 5 q2 ((h2 ++ List.replicate (m + 1) 0#8).map W8) := by rw [rep_snoc]; simpa using hn7
              obtain ⟨ao2, cq2, hv2⟩ := hn8.len8
              rw [List.length_append, HH2.out, List.length_replicate] at hv2
              have HN7 := hid hn8
              clear hn7 hn8 HN HLEN ht
              subst hv2
              go_wp2_with fail
              go_roundw
              case rel => exact ⟨m + 1, ao2, cq2, rfl, by omega, HN7.out⟩
              case measure => simp; omega
            · have hm0 := HMM.out
              have ht : (((((c : Int) + 48 + (m : Int))) % (k : Int)) != 0) = false := by
                rw [bne_eq_false_iff_eq]
                have e : c + 48 + m = N := by omega
                rw [show (c : Int) + 48 + (m : Int) = (N : Int) by omega]
                omega
              have hn2 : New w wr 5 (.slice ao (c + 48 + m) cq) (al.map W8) := by
                have e : h2 ++ List.replicate m 0#8 = al := by rw [← HALE.out]; congr 2; omega
                rw [e] at hn; exact hn
              have HN := hid hn2
              clear hn hn2 hm0
              go_wp2_with fail
              go_ret
              exact ⟨_, rfl, HN.out⟩
end Go.Proofs.Ytljddimmhjiehaa
