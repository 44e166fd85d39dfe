/- The reference of layer 1: numbers to bytes and back. -/
import Derived.Test.YtljddimmhjiehaaParts
namespace Go.Proofs.Ytljddimmhjiehaa
open Go.RowKit

@[go_sem] theorem bw64_quo256 (t : TypeId) (x : BitVec 64) : binOp .quo t (W64 x) (.int .u64 256) = pure (W64 (x >>> 8)) := by
  show binOp .quo t (.int .u64 _) (.int .u64 _) = _
  rw [binOp_quo, Op.intDiv, if_neg (by omega)]
  have e : ((x.toNat : Int).tdiv 256) = ((x >>> 8).toNat : Int) := by
    rw [BitVec.toNat_ushiftRight, Nat.shiftRight_eq_div_pow, Int.tdiv_eq_ediv_of_nonneg (by omega)]
    omega
  show (pure (Value.int .u64 (IntKind.u64.wrap ((x.toNat : Int).tdiv 256))) : Sem Value) = _
  rw [e, wrap_u_ofNat .u64 rfl _ (x >>> 8).isLt]
  rfl
@[go_sem] theorem bw64_rem256 (t : TypeId) (x : BitVec 64) : binOp .rem t (W64 x) (.int .u64 256) = pure (W64 ((x.setWidth 8).setWidth 64)) := by
  show binOp .rem t (.int .u64 _) (.int .u64 _) = _
  rw [binOp_rem, Op.intDiv, if_neg (by omega)]
  have e : ((x.toNat : Int).tmod 256) = (((x.setWidth 8).setWidth 64).toNat : Int) := by
    rw [Int.tmod_eq_emod_of_nonneg (by omega)]
    simp
    omega
  show (pure (Value.int .u64 ((x.toNat : Int).tmod 256)) : Sem Value) = _
  rw [e]
  rfl
theorem setWidth_there (x : BitVec 64) : (((x.setWidth 8).setWidth 64 : BitVec 64)).setWidth 8 = x.setWidth 8 := by
  apply BitVec.eq_of_toNat_eq
  simp
def bytesF (x : BitVec 64) (n : Nat) (i : Nat) : BitVec 8 := (x >>> (8 * (n - 1 - i))).setWidth 8
def bytesL (x : BitVec 64) (n : Nat) : List (BitVec 8) := (List.range n).map (bytesF x n)
def bytesTo (x : BitVec 64) (n k : Nat) : Nat → BitVec 8 := fun i => if n - k ≤ i then bytesF x n i else 0#8
theorem upd_bytesTo (x : BitVec 64) (n k : Nat) (h : k < n) : upd (bytesTo x n k) (n - 1 - k) ((x >>> (8 * k)).setWidth 8) = bytesTo x n (k + 1) := by
  funext i
  unfold upd bytesTo
  by_cases hi : i = n - 1 - k
  · subst hi
    rw [if_pos rfl, if_pos (by omega), bytesF, show n - 1 - (n - 1 - k) = k by omega]
  · rw [if_neg hi]
    by_cases h2 : n - k ≤ i
    · rw [if_pos h2, if_pos (by omega)]
    · rw [if_neg h2, if_neg (by omega)]
def FreshL (l : List (BitVec 8)) (w : World) (e : Ending) (w' : World) : Prop :=
  ∃ v, e = .returned v ∧ Own w' 5 v (l.map W8) ∧ Frm Nil w w' ∧ (∀ g, v.ownBlock = some g → w.heap.size ≤ g)
set_option maxHeartbeats 1000000 in
theorem bytes_any (x : BitVec 64) (n : Nat) (w : World) (hn : n ≤ 1000) :
    Calls Try.prog 30 #[W64 x, .int .i64 (n : Int)] w fun e w' => FreshL (bytesL x n) w e w' := by
  go_enter Try.func30, Try.ntmps30
  obtain ⟨i0, hi, hiz, his, hib⟩ := info_parts info_u8
  go_upto_region 1 with fail
  go_wp2_with (at_make; refine wpList_make_full _ rfl _ _ 22 rfl 0 5 i0 (.int .u8 0) 1 Try.underlying22 hi hiz his .i64 .i64 (n : Int) (n : Int) n rfl rfl rfl rfl ?b2 ?b3 (Nat.zero_le _) ?_)
  case b2 => rw [hib]; omega
  case b3 => unfold maxLen; omega
  intro w2 ho2 hg2
  rw [madeCells_u8] at ho2
  have ho2' : Own w2 5 (.slice (some ⟨w.heap.size, 0, none⟩) n n) ((List.range n).map (w8 fun _ => 0#8)) := Own.of_base ho2 (by simp)
  have hr2 : Row w2 w.heap.size 5 n (w8 (bytesTo x n 0)) := (Row.of_own ho2' (w8 fun _ => 0#8) (fun i hi => by simp [List.getElem?_range hi])).congr (fun i hi => by show W8 0#8 = W8 (if n - 0 ≤ i then _ else _); rw [if_neg (by omega)])
  have hf2 := Frm.of_grown hg2
  have HR2 := hid hr2
  have HF2 := hid hf2
  clear ho2 ho2' hr2 hf2 hg2 hi hiz his hib
  go_wp2_with fail
  go_loopw [0, 6] (fun vx vi wr => ∃ k : Nat, k ≤ n ∧ vx = W64 (x >>> (8 * k)) ∧ vi = .int .i64 ((n : Int) - 1 - (k : Int)) ∧ Row wr w.heap.size 5 n (w8 (bytesTo x n k)) ∧ Frm Nil w wr) (fun _ vi _ => (intOf vi + 1).toNat)
  case atStart => exact ⟨0, by omega, by simp, by simp, HR2.out, HF2.out⟩
  case round =>
    clear HR2 HF2
    obtain ⟨k, hk, rfl, rfl, hr, hf⟩ := hrel
    by_cases hlt : k < n
    · have c1 := hr.cell8 (n - 1 - k) (by omega)
      have c1f := hr.free (n - 1 - k)
      have e1 : ((n : Int) - 1 - (k : Int)).toNat = n - 1 - k := by omega
      have HR := hid hr
      have HF := hid hf
      clear hr hf
      go_wp2_with fail
      go_roundw
      case rel =>
        have h1 := HR.out.set (n - 1 - k) (W8 ((x >>> (8 * k)).setWidth 8))
        rw [upd_w8, upd_bytesTo _ _ _ hlt] at h1
        refine ⟨k + 1, by omega, ?_, by go_num, ?_, HF.out.set _ _ (by simp)⟩
        · rw [Nat.mul_add, ← BitVec.shiftRight_add]
        · first | exact h1 | (rw [setWidth_there]; exact h1)
      case measure => simp [intOf]; omega
    · obtain rfl : k = n := by omega
      have HR := hid hr
      have HF := hid hf
      clear hr hf
      go_wp2_with fail
      go_ret
      refine ⟨_, rfl, ?_, HF.out, fun g hg => by simp [Value.ownBlock] at hg; omega⟩
      have h1 := Own.of_rowh HR.out (by unfold maxLen; omega)
      rw [bytesL, List.map_map]
      refine (congrArg (Own _ _ _) ?_).mp h1
      apply List.map_congr_left
      intro i hi
      simp at hi
      simp [w8, bytesTo]
def numTo (l : List (BitVec 8)) (p : Nat) : Nat → BitVec 64
  | 0 => 0#64
  | k + 1 => 256#64 * numTo l p k + (l.getD (p + k) 0#8).setWidth 64
theorem Seg.at8 {w : World} {sv : Value} {l : List (BitVec 8)} (h : Seg w sv (l.map W8)) (i : Nat) (hi : i < l.length) : ∃ a c, sv = .slice (some a) l.length c ∧ w.cell? (a.add i) = some (W8 (l.getD i 0#8)) := by
  obtain ⟨ao, c, rfl, h0, hc⟩ := h
  cases ao with
  | none => have := (h0 rfl).1; simp at this; subst this; simp at hi
  | some a => exact ⟨a, c, by rw [List.length_map], hc a rfl i _ (by rw [List.getElem?_map, List.getD_eq_getElem?_getD, List.getElem?_eq_getElem hi]; rfl)⟩
set_option maxHeartbeats 1000000 in
theorem number_any (l : List (BitVec 8)) (sv : Value) (p n : Nat) (w : World) (hs : Seg w sv (l.map W8)) (hn : n ≤ 1000) (h : p + n ≤ l.length) (hl : l.length ≤ 4611686018427387904) (hn1 : 1 ≤ n) :
    Calls Try.prog 69 #[sv, .int .i64 (p : Int), .int .i64 (n : Int)] w fun e w' => e = .returned (W64 (numTo l p n)) ∧ w = w' := by
  obtain ⟨a, c, rfl, _⟩ := hs.at8 p (by omega)
  have HC := hid (fun (i : Nat) (hi : i < l.length) => show w.cell? (a.add i) = some (W8 (l.getD i 0#8)) by
    obtain ⟨a', c', e, h2⟩ := hs.at8 i hi
    simp only [Value.slice.injEq, Option.some.injEq] at e
    rw [e.1]; exact h2)
  clear hs
  go_enter Try.func69, Try.ntmps69
  go_wp2_with fail
  go_loop [7, 8] (fun vx vi => ∃ k : Nat, k ≤ n ∧ vx = W64 (numTo l p k) ∧ vi = .int .i64 (k : Int)) (fun _ vi => n - (intOf vi).toNat)
  case atStart => exact ⟨0, by omega, rfl, rfl⟩
  case round =>
    obtain ⟨k, hk, rfl, rfl⟩ := hrel
    by_cases hlt : k < n
    · have c1 := HC.out (p + k) (by omega)
      have hst : numTo l p (k + 1) = 256#64 * numTo l p k + (l.getD (p + k) 0#8).setWidth 64 := rfl
      generalize l.getD (p + k) 0#8 = b at *
      generalize numTo l p k = nk at *
      have HST := hid hst
      clear hst
      have e1 : ((p : Int) + (k : Int)).toNat = p + k := by omega
      go_wp2_with fail
      go_round
      case rel => exact ⟨k + 1, by omega, by rw [HST.out], by go_num⟩
      case measure => simp [intOf]; omega
    · obtain rfl : k = n := by omega
      go_wp2_with fail
      go_ret
      exact ⟨rfl, rfl⟩
def gotF (x : BitVec 64) (n : Nat) : Nat → Value := fun i => if i = 0 then W64 x else if i = 1 then .slice none 0 0 else if i = 2 then .int .i64 (n : Int) else .int .i64 0
set_option maxHeartbeats 1000000 in
set_option maxRecDepth 100000 in
theorem takeNum_any (l : List (BitVec 8)) (sv : Value) (p n : Nat) (w : World) (hs : Seg w sv (l.map W8)) (hn : n ≤ 8) (h : p + n ≤ l.length) (hl : l.length ≤ 4611686018427387904) (hn1 : 1 ≤ n) :
    Calls Try.prog 61 #[sv, .int .i64 (p : Int), .int .i64 (n : Int)] w fun e w' => e = .returned (.agg #[W64 (numTo l p n), .slice none 0 0, .int .i64 (n : Int), .int .i64 0]) ∧ Frm Nil w w' := by
  obtain ⟨a, c, rfl, _⟩ := hs.at8 p (by omega)
  have HS := hid hs
  clear hs
  go_enter Try.func61, Try.ntmps61
  go_wp2_with (go_at_call 69; refine (number_any l _ p n _ (HS.out.frm ((Frm.refl Nil w).alloc _) (by simp [Nil])) (by omega) h hl hn1).mono ?_; rintro e w' ⟨rfl, rfl⟩)
  exact bodyPost_cell rfl w.heap.size 4 (gotF (numTo l p n) n) _ _ rfl (Row.new w 101 4 (gotF (numTo l p n) n)) Try.underlying101 rfl (by kernel_rfl) rfl ⟨rfl, (Frm.refl Nil w).alloc _⟩
end Go.Proofs.Ytljddimmhjiehaa
