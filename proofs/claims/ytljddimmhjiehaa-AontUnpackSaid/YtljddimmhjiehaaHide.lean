/- ctr: a text is hidden. -/
import Derived.Test.YtljddimmhjiehaaCtr1
import Derived.Test.YtljddimmhjiehaaAes4
import Derived.Test.YtljddimmhjiehaaOwnStep
import Derived.Test.YtljddimmhjiehaaSum
namespace Go.Proofs.Ytljddimmhjiehaa
open Go.RowKit

def fromTo (x : Nat → BitVec 8) : Nat → Nat → BitVec 8
  | 0 => x
  | j + 1 => countB (fromTo x j) 1#64
def ctrAt (t ks x : Nat → BitVec 8) (i : Nat) : BitVec 8 := blockB t ks (fromTo x (i / 16)) (i % 16)
def hideL (t ks x : Nat → BitVec 8) (l : List (BitVec 8)) : List (BitVec 8) := (List.range l.length).map fun i => l.getD i 0#8 ^^^ ctrAt t ks x i
theorem hideL_len (t ks x : Nat → BitVec 8) (l : List (BitVec 8)) : (hideL t ks x l).length = l.length := by simp [hideL]
theorem hideL_get (t ks x : Nat → BitVec 8) (l : List (BitVec 8)) (i : Nat) (h : i < l.length) : (hideL t ks x l)[i]? = some (l.getD i 0#8 ^^^ ctrAt t ks x i) := by
  simp [hideL, List.getElem?_range h]
theorem hideL_take (t ks x : Nat → BitVec 8) (l : List (BitVec 8)) (i : Nat) (h : i < l.length) : (hideL t ks x l).take (i + 1) = (hideL t ks x l).take i ++ [l.getD i 0#8 ^^^ ctrAt t ks x i] := by
  rw [List.take_succ_eq_append_getElem (by rw [hideL_len]; exact h)]
  have := hideL_get t ks x l i h
  rw [List.getElem?_eq_getElem (by rw [hideL_len]; exact h)] at this
  rw [Option.some.inj this]
def HidePost (hl : List (BitVec 8)) (w : World) (e : Ending) (w' : World) : Prop :=
  ∃ v, e = .returned v ∧ Own w' 5 v (hl.map W8) ∧ Frm Nil w w' ∧ (∀ g, v.ownBlock = some g → w.heap.size ≤ g) ∧ v ≠ .slice none 0 0
set_option maxHeartbeats 2000000 in
set_option maxRecDepth 100000 in
theorem hide_core (key x ks : Nat → BitVec 8) (t : Nat → BitVec 8) (l hl : List (BitVec 8)) (sv : Value) (w : World) (hs : Seg w sv (l.map W8)) (hlen : l.length ≤ 70368744177664)
    (ht : tabF = t) (hks : keysOf tabF key = ks) (he : hideL t ks x l = hl) :
    Calls Try.prog 22 #[.agg (rowOf 32 (w8 key)), .agg (rowOf 16 (w8 x)), sv] w fun e w' => HidePost hl w e w' := by
  have HE := hid he
  have HT := hid ht
  have HKS := hid hks
  have HS := hid hs
  obtain ⟨ao, cp, rfl, h0, hc⟩ := hs
  have H0 := hid h0
  have HCC := hid hc
  have el : (l.map W8).length = l.length := List.length_map _
  rw [el]
  clear he ht hks h0 hc el
  go_enter Try.func22, Try.ntmps22
  have hk0 := (Row.new w 26 32 (w8 key)).alloc (.cells (rowOf 16 (w8 x)) 57)
  have hx0 := Row.new (w.alloc (.cells (rowOf 32 (w8 key)) 26)) 57 16 (w8 x)
  rw [World.size_alloc] at hx0
  have hf0 := ((Frm.refl Nil w).alloc (.cells (rowOf 32 (w8 key)) 26)).alloc (.cells (rowOf 16 (w8 x)) 57)
  have hz0 : w.heap.size + 2 ≤ ((w.alloc (.cells (rowOf 32 (w8 key)) 26)).alloc (.cells (rowOf 16 (w8 x)) 57)).heap.size := by simp
  have HK0 := hid hk0
  have HX0 := hid hx0
  have HF0 := hid hf0
  clear hk0 hx0 hf0
  go_upto_region 1 with (fail)
  generalize (w.alloc (.cells (rowOf 32 (w8 key)) 26)).alloc (.cells (rowOf 16 (w8 x)) 57) = w0 at HK0 HX0 HF0 hz0 ⊢
  have HC0 : Hid (∀ i, i < 32 → w0.cell? ⟨w.heap.size, 0 + i, none⟩ = some (w8 key i)) := fun i hi => by rw [Nat.zero_add]; exact HK0.out.cell i hi
  go_wp2_with (refine wpList_load_fn rfl 26 _ rfl w.heap.size 0 32 (w8 key) rfl _ HC0.out Try.underlying26 rfl (by kernel_rfl) ?_)
  refine (new_any key w0).mono ?_
  rintro e w1 ⟨B, rfl, hb1, hf1, hB⟩
  rw [HKS.out, HT.out] at hb1
  have HB1 := hid hb1
  have HX1 := hid (hf1.row HX0.out (by simp [Nil]))
  have HF1 := hid (HF0.out.trans hf1 (fun _ _ h => h))
  have hz1 : w.heap.size + 2 ≤ w1.heap.size := by have := hf1.size; omega
  clear hb1 hf1 HK0 HX0 HF0 HC0
  obtain ⟨i0, hi, hiz, his, hib⟩ := info_parts info_u8
  go_wp2_with (at_make; refine wpList_make_own _ rfl _ _ 22 rfl 0 5 i0 (.int .u8 0) 1 Try.underlying22 hi hiz his .i64 .i64 (l.length : Int) l.length rfl rfl rfl ?b2 ?b3 (Nat.zero_le _) ?_)
  case b2 => rw [hib]; omega
  case b3 => unfold maxLen; omega
  intro w2 ho2 hg2
  have hf2 := Frm.of_grown hg2
  have HO2 : Hid (Own w2 5 (.slice (some ⟨w1.heap.size, 0, none⟩) 0 l.length) []) := Own.of_base ho2 rfl
  have HB2 := hid (hf2.row HB1.out (by simp [Nil]))
  have HX2 := hid (hf2.row HX1.out (by simp [Nil]))
  have HF2 := hid (HF1.out.trans hf2 (fun _ _ h => h))
  have hBlt : B < w1.heap.size := HB1.out.lt
  have hz2 : w1.heap.size ≤ w2.heap.size := hf2.size
  clear ho2 hg2 hf2 HB1 HX1 HF1 hi hiz his hib
  generalize w1.heap.size = N1 at *
  have HHL := hid (hideL_len t ks x l)
  rw [HE.out] at HHL
  have HTK := hid (hideL_take t ks x l)
  rw [HE.out] at HTK
  go_wp2_with fail
  go_loopw [8, 9] (fun vo va wr => ∃ (j : Nat) (q : Value), va = .int .i64 (16 * (j : Int)) ∧ q = vo ∧ 16 * j < l.length + 16 ∧ Own wr 5 vo ((hl.take (16 * j)).map W8) ∧ Row wr B 95 496 (w8 (boxF t ks)) ∧
    Row wr (w.heap.size + 1) 57 16 (w8 (fromTo x j)) ∧ Frm Nil w wr ∧ (∀ g, vo.ownBlock = some g → N1 ≤ g) ∧ vo ≠ .slice none 0 0 ∧ N1 ≤ wr.heap.size) (fun _ va _ => l.length + 16 - (intOf va).toNat)
  case atStart => exact ⟨0, _, rfl, rfl, by omega, HO2.out, HB2.out, HX2.out, HF2.out, (fun g hg => by cases hg; exact Nat.le_refl _), by simp, hz2⟩
  case round =>
    clear HO2 HB2 HX2 HF2 hz2
    obtain ⟨j, q, rfl, rfl, hj, ho1, hb1, hx1, hf1, hv1, hn1, hz1⟩ := hrel
    by_cases hlt : 16 * j < l.length
    · have hfs : fromTo x (j + 1) = countB (fromTo x j) 1#64 := rfl
      have hat : ∀ i, 16 * j ≤ i → i < 16 * j + 16 → ctrAt t ks x i = blockB t ks (fromTo x j) (i - 16 * j) := fun i h1 h2 => by
        rw [ctrAt, show i / 16 = j by omega, show i % 16 = i - 16 * j by omega]
      have HFS := hid hfs
      have HAT := hid hat
      clear hfs hat
      have HO1 := hid ho1
      have HB1 := hid hb1
      have HX1 := hid hx1
      have HF1 := hid hf1
      have HV1 := hid hv1
      have HN1 := hid hn1
      clear ho1 hb1 hx1 hf1 hv1 hn1
      generalize fromTo x j = F at *
      have HC1 : Hid (∀ i, i < 16 → wr.cell? ⟨w.heap.size + 1, 0 + i, none⟩ = some (w8 F i)) := fun i hi => by rw [Nat.zero_add]; exact HX1.out.cell i hi
      have hd : decide (16 * (j : Int) < (l.length : Int)) = true := by simp; omega
      go_wp2_with (refine wpList_load_fn rfl 57 _ rfl (w.heap.size + 1) 0 16 (w8 F) rfl _ HC1.out Try.underlying57 rfl (by kernel_rfl) ?_)
      refine (block_any B t ks F wr HB1.out).mono ?_
      rintro e w3 ⟨rfl, hf3⟩
      have HO3 := hid (hf3.own HO1.out (by simp [Nil]))
      have HB3 := hid (hf3.row HB1.out (by simp [Nil]))
      have HX3 := hid (hf3.row HX1.out (by simp [Nil]))
      have HF3 := hid (HF1.out.trans hf3 (fun _ _ h => h))
      have hz3 : N1 ≤ w3.heap.size := by have := hf3.size; omega
      clear hf3 HC1 HO1 HB1 HX1 HF1
      generalize blockB t ks F = bl at *
      go_upto_region 7 with (refine wpList_store_fn rfl 57 _ _ rfl rfl w3.heap.size 0 16 16 57 (w8 fun _ => 0#8) (w8 bl) rfl rfl (Row.new w3 57 16 (w8 fun _ => 0#8)) (by kernel_rfl) (by omega) (fun _ _ => rfl) ?_)
      rw [zero8_16]
      have hl4 := (Row.new w3 57 16 (w8 fun _ => 0#8)).over (w8 bl)
      have ho4 := (HO3.out.alloc (.cells (rowOf 16 (w8 fun _ => 0#8)) 57))
      have hF4 := (HF3.out.alloc (.cells (rowOf 16 (w8 fun _ => 0#8)) 57)).setRow w3.heap.size (rowOf 16 (splice (w8 fun _ => 0#8) 0 16 (w8 bl))) (fun h => by have := HF3.out.size; omega)
      have hf4 := (((Frm.refl Nil w3).alloc (.cells (rowOf 16 (w8 fun _ => 0#8)) 57))).setRow w3.heap.size (rowOf 16 (splice (w8 fun _ => 0#8) 0 16 (w8 bl))) (fun h => by omega)
      have hz4 : ((w3.alloc (.cells (rowOf 16 (w8 fun _ => 0#8)) 57)).setRow w3.heap.size (rowOf 16 (splice (w8 fun _ => 0#8) 0 16 (w8 bl)))).heap.size = w3.heap.size + 1 := by simp
      generalize (w3.alloc (.cells (rowOf 16 (w8 fun _ => 0#8)) 57)).setRow w3.heap.size (rowOf 16 (splice (w8 fun _ => 0#8) 0 16 (w8 bl))) = w4 at hl4 hF4 hf4 hz4 ⊢
      clear ho4
      have ho4 := hf4.own HO3.out (by simp [Nil])
      have hb4 := hf4.row HB3.out (by simp [Nil])
      have hx4 := hf4.row HX3.out (by simp [Nil])
      have hv4 : ∀ g, q.ownBlock = some g → N1 ≤ g ∧ g ≠ w3.heap.size := fun g hg => ⟨HV1.out g hg, by have := HO3.out.lt hg; omega⟩
      clear hf4 HO3 HB3 HX3 HF3 HV1
      have hBL1 : N1 ≤ w3.heap.size := hz3
      generalize hBL : w3.heap.size = BL at *
      clear hBL
      have HSL : ∀ i, i < l.length → ∃ a, ao = some a ∧ w.cell? (a.add i) = some (W8 (l.getD i 0#8)) := fun i hi => by
        cases ao with
        | none => have := (H0.out rfl).1; simp at this; subst this; simp at hi
        | some a => exact ⟨a, rfl, HCC.out a rfl i _ (by rw [List.getElem?_map, List.getD_eq_getElem?_getD, List.getElem?_eq_getElem hi]; rfl)⟩
      have HSLL := hid HSL
      clear HSL
      go_wp2_with fail
      obtain ⟨wx, rfl⟩ : ∃ wx : World, wx = wr := ⟨_, rfl⟩
      go_loopw [8, 11] (fun vo vi wi => ∃ (i : Nat) (p : Value), vi = .int .i64 (i : Int) ∧ p = vo ∧ 16 * j ≤ i ∧ i ≤ 16 * j + 16 ∧ i ≤ l.length ∧ Own wi 5 vo ((hl.take i).map W8) ∧ Row wi B 95 496 (w8 (boxF t ks)) ∧
        Row wi (w.heap.size + 1) 57 16 (w8 F) ∧ Row wi BL 57 16 (w8 bl) ∧ Frm Nil w wi ∧ (∀ g, vo.ownBlock = some g → N1 ≤ g ∧ g ≠ BL) ∧ vo ≠ .slice none 0 0 ∧ BL + 1 ≤ wi.heap.size) (fun _ vi _ => l.length - (intOf vi).toNat)
      case atStart => exact ⟨16 * j, q, by go_num, rfl, by omega, by omega, by omega, ho4, hb4, hx4, hl4, hF4, hv4, HN1.out, by omega⟩
      case round =>
        clear ho4 hb4 hx4 hl4 hF4 hv4 hz4
        obtain ⟨i, p, rfl, rfl, hi1, hi2, hi3, ho5, hb5, hx5, hl5, hf5, hv5, hn5, hz5⟩ := hrel
        by_cases hlt2 : i < l.length ∧ i < 16 * j + 16
        · obtain ⟨hla, hlb⟩ := hlt2
          obtain ⟨a, rfl, hca⟩ := HSLL.out i hla
          have c1 := hf5.cell hca (by simp [Nil])
          have c2 := hl5.cell8 (i - 16 * j) (by omega)
          have hat : ctrAt t ks x i = bl (i - 16 * j) := HAT.out i hi1 hlb
          have htk : hl.take (i + 1) = hl.take i ++ [l.getD i 0#8 ^^^ ctrAt t ks x i] := HTK.out i hla
          rw [hat] at htk
          have hln : hl.length = l.length := HHL.out
          have hlt3 : (hl.take i).length ≤ 70368744177664 := by rw [List.length_take]; omega
          have HT2 := hid htk
          have HL3 := hid hlt3
          clear hca hat htk hln hlt3
          generalize l.getD i 0#8 = lc at *
          generalize hbk : bl (i - 16 * j) = bc at *
          clear hbk
          have HO5 := hid ho5
          have HB5 := hid hb5
          have HX5 := hid hx5
          have HL5 := hid hl5
          have HF5 := hid hf5
          have HV5 := hid hv5
          have HN5 := hid hn5
          clear ho5 hb5 hx5 hl5 hf5 hv5 hn5
          by_cases hm : l.length < 16 * j + 16
          all_goals
            have hd2 : decide ((i : Int) < 16 * (j : Int) + 16) = true := by simp; omega
            go_wp2_with fail
            obtain ⟨d, hd3⟩ : ∃ d, i - 16 * j = d := ⟨_, rfl⟩
            rw [hd3] at c2
            have e2 : IntKind.i64.wrap ((i : Int) - 16 * (j : Int)) = (d : Int) := by rw [IntWalk.i64_in _ (by omega)]; omega
            have b2 : (d : Int) < 16 := by omega
            have b3 : d < 16 := by omega
            clear hd3
            go_region_law (refine step_append_seg rfl _ _ 22 rfl 5 (.int .u8 0) 1 Try.underlying22 info_u8 rfl p ((hl.take i).map W8) rfl _ [W8 (lc ^^^ bc)] rfl (by exact (HO5.out.alloc _).drew) (by exact (seg_one wr 5 (lc ^^^ bc)).drew) (ones_W8 [lc ^^^ bc]) (by have := HL3.out; rw [List.length_map]; unfold maxLen; simp only [List.length_cons, List.length_nil]; omega) (by have := HL3.out; rw [List.length_map]; simp only [List.length_cons, List.length_nil]; omega) ?_; intro v6 w6 ho6 hf6 hv6 hn6)
            all_goals
              clear e2 hd2
              have HO6 := hid ho6
              have hfa : Frm (fun k => p.ownBlock = some k) wr w6 := ((Frm.refl (fun k => p.ownBlock = some k) wr).alloc (.cells #[W8 (lc ^^^ bc)] 5)).drew.trans hf6 (fun _ _ h => h)
              have hva : v6.ownBlock = p.ownBlock ∨ ∃ g, v6.ownBlock = some g ∧ wr.heap.size ≤ g := by
                rcases hv6 with h | ⟨g, h, hg⟩
                · exact .inl h
                · refine .inr ⟨g, h, ?_⟩; simp at hg; omega
              have HFA := hid hfa
              have HVA := hid hva
              have HNA := hid hn6
              clear ho6 hf6 hv6 hn6 hfa hva
              go_wp2_with fail
              go_roundw
              case rel =>
                refine ⟨i + 1, v6, by go_num, rfl, by omega, by omega, by omega, ?_, ?_, ?_, ?_, ?_, ?_, ?_, ?_⟩
                · have := HO6.out
                  rw [HT2.out, List.map_append]; exact this
                · exact HFA.out.row HB5.out (fun h => by have := (HV5.out _ h).1; omega)
                · exact HFA.out.row HX5.out (fun h => by have := (HV5.out _ h).1; omega)
                · exact HFA.out.row HL5.out (fun h => by have := (HV5.out _ h).2; exact this rfl)
                · exact HF5.out.trans HFA.out (fun g hg h => by have := (HV5.out _ h).1; omega)
                · intro g hg
                  rcases HVA.out with h | ⟨g', h, hg'⟩
                  · rw [h] at hg; exact HV5.out g hg
                  · rw [h] at hg; cases hg; exact ⟨by omega, by omega⟩
                · intro h; exact HN5.out (HNA.out.1 h).1
                · have := HFA.out.size; omega
              case measure => simp [intOf]; omega
        · have htk : hl.take i = hl.take (16 * (j + 1)) := by
            have hln : hl.length = l.length := HHL.out
            by_cases h : i = 16 * j + 16
            · rw [h]; congr 1
            · have : i = l.length := by omega
              rw [List.take_of_length_le (by omega), List.take_of_length_le (by omega)]
          rw [htk] at ho5
          clear htk
          have HC5 : Hid (∀ i, i < 16 → wr.cell? ⟨w.heap.size + 1, 0 + i, none⟩ = some (w8 F i)) := fun i hi => by rw [Nat.zero_add]; exact hx5.cell i hi
          have HO5 := hid ho5
          have HB5 := hid hb5
          have HX5 := hid hx5
          have HF5 := hid hf5
          have HV5 := hid hv5
          have HN5 := hid hn5
          clear ho5 hb5 hx5 hl5 hf5 hv5 hn5
          by_cases hm : l.length < 16 * j + 16
          all_goals
            go_wp2_with (refine wpList_load_fn rfl 57 _ rfl (w.heap.size + 1) 0 16 (w8 F) rfl _ HC5.out Try.underlying57 rfl (by kernel_rfl) ?_)
            refine (count_any F 1#64 wr).mono ?_
            rintro e w6 ⟨rfl, hf6⟩
            rw [← HFS.out]
            have HO6 := hid (hf6.own HO5.out (by simp [Nil]))
            have HB6 := hid (hf6.row HB5.out (by simp [Nil]))
            have HX6 := hid (hf6.row HX5.out (by simp [Nil]))
            have HF6 := hid (HF5.out.trans hf6 (fun _ _ h => h))
            have hz6 : N1 ≤ w6.heap.size := by have := hf6.size; omega
            clear hf6 HC5 HO5 HB5 HX5 HF5
            generalize hF2 : fromTo x (j + 1) = F2 at *
            have HF2 := hid hF2
            clear hF2
            go_wp2_with (refine wpList_store_fn rfl 57 _ _ rfl rfl (w.heap.size + 1) 0 16 16 _ _ (w8 F2) rfl rfl HX6.out (by kernel_rfl) (by omega) (fun _ _ => rfl) ?_)
            go_roundw
            case rel =>
              refine ⟨j + 1, p, by go_num, rfl, by omega, ?_, ?_, ?_, ?_, ?_, HN5.out, ?_⟩
              · exact HO6.out.same (fun k hk => _root_.Go.setRow_other w6 (w.heap.size + 1) k _ (by have := (HV5.out k hk).1; omega))
              · exact HB6.out.setRow_other (g := w.heap.size + 1) (by omega) _
              · rw [HF2.out]; exact HX6.out.over _
              · exact HF6.out.setRow _ _ (fun h => by omega)
              · intro g hg; exact (HV5.out g hg).1
              · simp; omega
            case measure => simp [intOf]; omega
    · have htk : hl.take (16 * j) = hl := by
        have hln : hl.length = l.length := HHL.out
        exact List.take_of_length_le (by omega)
      rw [htk] at ho1
      have HO1 := hid ho1
      have HF1 := hid hf1
      have HV1 := hid hv1
      have HN1 := hid hn1
      clear ho1 hb1 hx1 hf1 hv1 hn1 htk
      go_wp2_with fail
      go_ret
      exact ⟨q, rfl, HO1.out, HF1.out, fun g hg => by have := HV1.out g hg; omega, HN1.out⟩
theorem hide_any (key x : Nat → BitVec 8) (l : List (BitVec 8)) (sv : Value) (w : World) (hs : Seg w sv (l.map W8)) (hlen : l.length ≤ 70368744177664) :
    Calls Try.prog 22 #[.agg (rowOf 32 (w8 key)), .agg (rowOf 16 (w8 x)), sv] w fun e w' => HidePost (hideL tabF (keysOf tabF key) x l) w e w' :=
  hide_core key x _ _ l _ sv w hs hlen rfl rfl rfl
end Go.Proofs.Ytljddimmhjiehaa
