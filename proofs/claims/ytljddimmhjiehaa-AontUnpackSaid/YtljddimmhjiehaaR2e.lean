/- The reference of layer 2: a text, filled up to whole blocks. -/
import Derived.Test.YtljddimmhjiehaaR2d
namespace Go.Proofs.Ytljddimmhjiehaa
open Go.RowKit

def padN (l : Nat) : Nat := 1 + l + (119 - l % 64) % 64
theorem padN_at (l : Nat) : padN l % 64 = 56 := by unfold padN; omega
theorem padN_not (l m : Nat) (h1 : 1 + l ≤ m) (h2 : m < padN l) : m % 64 ≠ 56 := by unfold padN at h2; omega
theorem padN_ge (l : Nat) : 1 + l ≤ padN l ∧ padN l ≤ l + 64 := by unfold padN; omega
def fillTo (l : List (BitVec 8)) (k : Nat) : Nat → BitVec 8 := fun i => if i < k then l.getD i 0#8 else 0#8
def fillF (l : List (BitVec 8)) : Nat → BitVec 8 := upd (fillTo l l.length) l.length 128#8
def fillL (l : List (BitVec 8)) : List (BitVec 8) := (List.range (padN l.length)).map (fillF l) ++ bytesL (8#64 * BitVec.ofNat 64 l.length) 8
theorem upd_fillTo (l : List (BitVec 8)) (k : Nat) : upd (fillTo l k) k (l.getD k 0#8) = fillTo l (k + 1) := by
  funext i
  unfold upd fillTo
  by_cases h : i = k
  · subst h; simp
  · by_cases h2 : i < k
    · rw [if_neg h, if_pos h2, if_pos (by omega)]
    · rw [if_neg h, if_neg h2, if_neg (by omega)]
def Fresh8 (l : List (BitVec 8)) (w : World) (e : Ending) (w' : World) : Prop := ∃ v, e = .returned v ∧ New w w' 5 v (l.map W8)
theorem bytes_new (x : BitVec 64) (n : Nat) (out : List (BitVec 8)) (w : World) (hn : n ≤ 1000) (ho : bytesL x n = out) :
    Calls Try.prog 30 #[W64 x, .int .i64 (n : Int)] w fun e w' => Fresh8 out w e w' := by
  subst ho
  exact (bytes_any x n w hn).mono fun e w' ⟨v, he, h1, h2, h3⟩ => ⟨v, he, h1, h2, h3⟩
theorem bytesL_len (x : BitVec 64) (n : Nat) : (bytesL x n).length = n := by simp [bytesL]
set_option maxHeartbeats 1000000 in
set_option maxRecDepth 100000 in
theorem filled_core (l out : List (BitVec 8)) (pn : Nat) (sv : Value) (w : World) (hs : Seg w sv (l.map W8)) (hl : l.length ≤ 70368744177664) (hpn : padN l.length = pn) (ho : fillL l = out) :
    Calls Try.prog 26 #[sv] w fun e w' => Fresh8 out w e w' := by
  have hp1 := padN_at l.length
  have hp2 := padN_not l.length
  have hp3 := padN_ge l.length
  rw [hpn] at hp1 hp2 hp3
  have ho2 : (List.range pn).map (fillF l) ++ bytesL (8#64 * BitVec.ofNat 64 l.length) 8 = out := by rw [← ho, fillL, hpn]
  have HOUT := hid ho2
  have HP2 := hid hp2
  have HP1 := hid hp1
  obtain ⟨ao, cp, hv, h0, hc⟩ := hs
  rw [List.length_map] at hv
  subst hv
  have HC : Hid (∀ i, i < l.length → ∃ a, ao = some a ∧ w.cell? (a.add i) = some (W8 (l.getD i 0#8))) := fun i hi => by
    cases ao with
    | none => have := (h0 rfl).1; simp at this; subst this; simp at hi
    | some a => exact ⟨a, rfl, hc a rfl i _ (by rw [List.getElem?_map, List.getD_eq_getElem?_getD, List.getElem?_eq_getElem hi]; rfl)⟩
  clear hc h0 ho ho2 hp2 hp1 hpn
  obtain ⟨hp3, hp4⟩ := hp3
  go_enter Try.func26, Try.ntmps26
  go_wp2_with fail
  go_loop [3] (fun vn => ∃ m : Nat, 1 + l.length ≤ m ∧ m ≤ pn ∧ vn = .int .i64 (m : Int)) (fun vn => pn - (intOf vn).toNat)
  case atStart => exact ⟨1 + l.length, by omega, by omega, by go_num⟩
  case round =>
    obtain ⟨m, hm1, hm2, rfl⟩ := hrel
    by_cases hlt : m < pn
    · have ht : (((m : Int) % 64) != 56) = true := by
        have := HP2.out m hm1 hlt
        rw [bne_iff_ne]; omega
      go_wp2_with fail
      go_round
      case rel => exact ⟨m + 1, by omega, by omega, by go_num⟩
      case measure => simp [intOf]; omega
    · obtain rfl : m = pn := by omega
      have ht : (((m : Int) % 64) != 56) = false := by
        have := HP1.out
        rw [bne_eq_false_iff_eq]; omega
      clear HP1 HP2
      obtain ⟨i0, hi, hiz, his, hib⟩ := info_parts info_u8
      go_upto_region 4 with fail
      clear ht
      go_wp2_with (at_make; refine wpList_make_full _ rfl _ _ 22 rfl 0 5 i0 (.int .u8 0) 1 Try.underlying22 hi hiz his .i64 .i64 (m : Int) (m : Int) m rfl rfl rfl rfl ?b2 ?b3 (Nat.zero_le _) ?_)
      case b2 => first | omega | (rw [hib]; omega)
      case b3 => unfold maxLen; omega
      intro w2 ho2 hg2
      rw [madeCells_u8] at ho2
      have ho3 : Own w2 5 (.slice (some ⟨w.heap.size, 0, none⟩) m m) ((List.range m).map (w8 fun _ => 0#8)) := Own.of_base ho2 (by simp)
      have HR2 : Hid (Row w2 w.heap.size 5 m (w8 (fillTo l 0))) := (Row.of_own ho3 (w8 fun _ => 0#8) (fun i hi => by simp [List.getElem?_range hi])).congr (fun i hi => by show W8 0#8 = W8 (if i < 0 then _ else _); rw [if_neg (by omega)])
      have HF2 := hid (Frm.of_grown hg2)
      clear ho2 ho3 hg2 hi hiz his hib
      go_wp2_with fail
      obtain ⟨wx, rfl⟩ : ∃ wx : World, wx = w2 := ⟨_, rfl⟩
      go_loopw [5] (fun vi wr => ∃ k : Nat, k ≤ l.length ∧ vi = .int .i64 (k : Int) ∧ Row wr w.heap.size 5 m (w8 (fillTo l k)) ∧ Frm Nil w wr) (fun vi _ => l.length - (intOf vi).toNat)
      case atStart => exact ⟨0, by omega, rfl, HR2.out, HF2.out⟩
      case round =>
        clear HR2 HF2
        obtain ⟨k, hk, rfl, hr, hf⟩ := hrel
        by_cases hlt2 : k < l.length
        · obtain ⟨a, rfl, hca⟩ := HC.out k hlt2
          have c1 := hf.cell hca (by simp [Nil])
          have c2 := hr.cell8 k (by omega)
          have c2f := hr.free k
          have b1 : (k : Int) < (m : Int) := by omega
          have HU := hid (upd_fillTo l k)
          generalize l.getD k 0#8 = b at *
          have HR := hid hr
          have HF := hid hf
          clear hr hf hca
          go_wp2_with fail
          go_roundw
          case rel =>
            have h1 := HR.out.set k (W8 b)
            rw [upd_w8, HU.out] at h1
            exact ⟨k + 1, by omega, by go_num, h1, HF.out.set _ _ (by simp)⟩
          case measure => simp [intOf]; omega
        · obtain rfl : k = l.length := by omega
          have c2 := hr.cell8 l.length (by omega)
          have c2f := hr.free l.length
          have b1 : (l.length : Int) < (m : Int) := by omega
          have HR := hid hr
          have HF := hid hf
          clear hr hf
          go_upto_region 10 with fail
          have h1 := HR.out.set l.length (W8 128#8)
          rw [upd_w8] at h1
          have h2 : New w (wr.setCell ⟨w.heap.size, l.length, none⟩ (.int .u8 128)) 5 (.slice (some ⟨w.heap.size, 0, none⟩) m m) (((List.range m).map (fillF l)).map W8) :=
            ⟨by have := Own.of_rowh h1 (by unfold maxLen; omega); rw [List.map_map]; exact this, HF.out.set _ _ (by simp), fun g hg => by simp [Value.ownBlock] at hg; omega⟩
          have HN := hid h2
          clear h1 h2 HR HF c2 c2f
          generalize wr.setCell ⟨w.heap.size, l.length, none⟩ (.int .u8 128) = w3 at HN ⊢
          have hfl : ((List.range m).map (fillF l)).length = m := by simp
          have HOUT2 := hid HOUT.out
          generalize (List.range m).map (fillF l) = fl at *
          have HFL := hid hfl
          clear hfl HOUT
          go_wp2_with fail
          refine (bytes_new _ 8 _ w3 (by omega) rfl).mono ?_
          rintro e w4 ⟨bv, rfl, hb⟩
          have HN4 := hid (HN.out.later hb.frm)
          have HB := hid hb.own.seg
          clear hb HN
          have HBE : Hid (∀ x, x = 8#64 * BitVec.ofNat 64 l.length → fl ++ bytesL x 8 = out) := fun x hx => by rw [hx]; exact HOUT2.out
          go_wp2_with (at_builtin; go_loud (refine app8 HN4.out (by exact HB.out) (by rw [bytesL_len, HFL.out]; omega) rfl _ _ rfl (by rfl) (by rfl) ?_))
          intro v5 w5 hn5 _ _
          have HN5 := hid hn5
          clear hn5 HN4 HB
          go_wp2_with fail
          go_ret
          have h6 := HN5.out
          refine ⟨_, rfl, ?_⟩
          rw [← List.map_append, HBE.out _ (by simp)] at h6
          exact h6
theorem filled_any (l : List (BitVec 8)) (sv : Value) (w : World) (hs : Seg w sv (l.map W8)) (hl : l.length ≤ 70368744177664) :
    Calls Try.prog 26 #[sv] w fun e w' => Fresh8 (fillL l) w e w' := filled_core l _ _ sv w hs hl rfl rfl
end Go.Proofs.Ytljddimmhjiehaa
