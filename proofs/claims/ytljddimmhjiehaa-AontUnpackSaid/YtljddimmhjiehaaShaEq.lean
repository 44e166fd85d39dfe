/- The digest of the program is the document's: in plain words of bits. -/
import Derived.Test.YtljddimmhjiehaaR2f
namespace Go.Proofs.Ytljddimmhjiehaa
open Go.RowKit

theorem getD_left {α : Type} (l m : List α) (n : Nat) (d : α) (h : n < l.length) : (l ++ m).getD n d = l.getD n d := by
  rw [List.getD_eq_getElem?_getD, List.getD_eq_getElem?_getD, List.getElem?_append_left h]
theorem getD_last {α : Type} (l : List α) (x d : α) (n : Nat) (h : l.length = n) : (l ++ [x]).getD n d = x := by
  rw [List.getD_eq_getElem?_getD, List.getElem?_append_right (by omega), h, Nat.sub_self]; rfl
theorem rot26 (x : BitVec 32) : three32 x 6 11 25 = x.rotateLeft 26 ^^^ x.rotateLeft 21 ^^^ x.rotateLeft 7 := by
  show ((0#32 ^^^ (x >>> 6 ||| x <<< 26)) ^^^ (x >>> 11 ||| x <<< 21)) ^^^ (x >>> 25 ||| x <<< 7) = _
  rw [BitVec.zero_xor, BitVec.or_comm (x >>> 6), BitVec.or_comm (x >>> 11), BitVec.or_comm (x >>> 25)]
  rfl
theorem rot30 (x : BitVec 32) : three32 x 2 13 22 = x.rotateLeft 30 ^^^ x.rotateLeft 19 ^^^ x.rotateLeft 10 := by
  show ((0#32 ^^^ (x >>> 2 ||| x <<< 30)) ^^^ (x >>> 13 ||| x <<< 19)) ^^^ (x >>> 22 ||| x <<< 10) = _
  rw [BitVec.zero_xor, BitVec.or_comm (x >>> 2), BitVec.or_comm (x >>> 13), BitVec.or_comm (x >>> 22)]
  rfl
theorem apart_xor (x : BitVec 32) (a b : Nat) (h : a + b = 32) : (x >>> a ||| x <<< b) ^^^ x <<< b = x >>> a := by
  ext i hi
  simp only [BitVec.getElem_xor, BitVec.getElem_or, BitVec.getElem_ushiftRight, BitVec.getElem_shiftLeft]
  by_cases h1 : i < b
  · simp [h1]
  · have : x.getLsbD (a + i) = false := BitVec.getLsbD_of_ge _ _ (by omega)
    simp [h1, this]
theorem sig0_eq (x : BitVec 32) : two32' x 7 18 3 = sig0 x := by
  show (((0#32 ^^^ (x >>> 7 ||| x <<< 25)) ^^^ (x >>> 18 ||| x <<< 14)) ^^^ (x >>> 3 ||| x <<< 29)) ^^^ x <<< 29 = _
  rw [BitVec.zero_xor, BitVec.or_comm (x >>> 7), BitVec.or_comm (x >>> 18), BitVec.xor_assoc _ (x >>> 3 ||| x <<< 29), apart_xor x 3 29 rfl]
  rfl
theorem sig1_eq (x : BitVec 32) : two32' x 17 19 10 = sig1 x := by
  show (((0#32 ^^^ (x >>> 17 ||| x <<< 15)) ^^^ (x >>> 19 ||| x <<< 13)) ^^^ (x >>> 10 ||| x <<< 22)) ^^^ x <<< 22 = _
  rw [BitVec.zero_xor, BitVec.or_comm (x >>> 17), BitVec.or_comm (x >>> 19), BitVec.xor_assoc _ (x >>> 10 ||| x <<< 22), apart_xor x 10 22 rfl]
  rfl
theorem choose_eq (a b c : BitVec 32) : a &&& b ||| (4294967295#32 - a) &&& c = c ^^^ a &&& (b ^^^ c) := by
  rw [show (4294967295#32 : BitVec 32) = BitVec.allOnes 32 from rfl, BitVec.allOnes_sub_eq_not]
  ext i hi
  simp only [BitVec.getElem_xor, BitVec.getElem_or, BitVec.getElem_and, BitVec.getElem_not]
  cases a[i] <;> cases b[i] <;> cases c[i] <;> rfl
theorem most_eq (a b c : BitVec 32) : a &&& b ||| a &&& c ||| b &&& c = a &&& b ||| c &&& (a ||| b) := by
  ext i hi
  simp only [BitVec.getElem_or, BitVec.getElem_and]
  cases a[i] <;> cases b[i] <;> cases c[i] <;> rfl

/-- The words of a block, by their place. -/
def spr (l : List (BitVec 8)) (n : Nat) : BitVec 32 := (sprTo l (n + 1)).getD n 0#32
theorem sprTo_at (l : List (BitVec 8)) (n : Nat) : ∀ m, n < m → (sprTo l m).getD n 0#32 = spr l n
  | 0, h => by omega
  | m + 1, h => by
    rcases Nat.lt_or_ge n m with h1 | h1
    · rw [sprTo, getD_left _ _ _ _ (by rw [sprTo_len]; exact h1)]
      exact sprTo_at l n m h1
    · obtain rfl : n = m := by omega
      rfl
theorem spr_next (l : List (BitVec 8)) (n : Nat) : spr l n = sprNext l (sprTo l n) n := by
  unfold spr
  rw [sprTo, getD_last _ _ _ _ (sprTo_len l n)]
theorem spr_low (l : List (BitVec 8)) (n : Nat) (h : n < 16) : spr l n = (numTo l (4 * n) 4).setWidth 32 := by
  rw [spr_next, sprNext, if_pos h]
theorem spr_high (l : List (BitVec 8)) (n : Nat) (h : 16 ≤ n) : spr l n = spr l (n - 16) + (spr l (n - 7) + sig0 (spr l (n - 15)) + sig1 (spr l (n - 2))) := by
  rw [spr_next, sprNext, if_neg (by omega), sprTo_at l _ n (by omega), sprTo_at l _ n (by omega), sprTo_at l _ n (by omega), sprTo_at l _ n (by omega), sig0_eq, sig1_eq]
  ac_rfl
/-- The ring holds the last sixteen words. -/
theorem ring_spr (l : List (BitVec 8)) (r : Nat → BitVec 32) (i : Nat) (hr : ∀ t, i < t + 17 → t < max i 16 → r (t % 16) = spr l t) :
    ringNext r i (i % 16) = spr l i ∧ ∀ t, i + 1 < t + 17 → t < max (i + 1) 16 → ringNext r i (t % 16) = spr l t := by
  unfold ringNext
  by_cases h : 16 ≤ i
  · rw [if_pos h]
    have e0 : upd r (i % 16) (r (i % 16) + (r ((i - 7) % 16) + sig0 (r ((i - 15) % 16)) + sig1 (r ((i - 2) % 16)))) (i % 16) = spr l i := by
      rw [upd_same, spr_high l i h, hr (i - 7) (by omega) (by omega), hr (i - 15) (by omega) (by omega), hr (i - 2) (by omega) (by omega), show i % 16 = (i - 16) % 16 by omega, hr (i - 16) (by omega) (by omega)]
    refine ⟨e0, fun t h1 h2 => ?_⟩
    by_cases ht : t = i
    · rw [ht]; exact e0
    · rw [upd_other _ _ _ _ (by omega)]
      exact hr t (by omega) (by omega)
  · rw [if_neg h]
    exact ⟨hr i (by omega) (by omega), fun t h1 h2 => hr t (by omega) (by omega)⟩
theorem step_eq (K : Nat → BitVec 32) (i : Nat) (h : Nat → BitVec 32) (rv : BitVec 32) (v : List (BitVec 32)) (hi : i < 64) (hv : ∀ n, n < 8 → v.getD n 0#32 = h ((n + 64 - i) % 8)) :
    ∀ n, n < 8 → (behNext v (K i) rv).getD n 0#32 = stepH K i h rv ((n + 64 - (i + 1)) % 8) := by
  have hX : behX v (K i) rv = one32 K i h rv := by
    unfold behX one32
    rw [rot26, choose_eq, hv 7 (by omega), hv 4 (by omega), hv 5 (by omega), hv 6 (by omega)]
  have hp : ∀ n, n < 8 → n ≠ 0 → n ≠ 4 → stepH K i h rv ((n + 64 - (i + 1)) % 8) = v.getD (n - 1) 0#32 := fun n h1 h2 h3 => by
    unfold stepH
    rw [upd_other _ _ _ _ (by omega), upd_other _ _ _ _ (by omega), hv (n - 1) (by omega)]
    congr 1
    omega
  intro n hn
  match n, hn with
  | 0, _ =>
    show behX v (K i) rv + three32 (v.getD 0 0#32) 2 13 22 + (v.getD 0 0#32 &&& v.getD 1 0#32 ||| v.getD 0 0#32 &&& v.getD 2 0#32 ||| v.getD 1 0#32 &&& v.getD 2 0#32) = _
    unfold stepH
    rw [show (0 + 64 - (i + 1)) % 8 = (71 - i) % 8 by omega, upd_same, hX, rot30, most_eq, hv 0 (by omega), hv 1 (by omega), hv 2 (by omega)]
    rfl
  | 1, _ => exact (hp 1 (by omega) (by omega) (by omega)).symm
  | 2, _ => exact (hp 2 (by omega) (by omega) (by omega)).symm
  | 3, _ => exact (hp 3 (by omega) (by omega) (by omega)).symm
  | 4, _ =>
    show v.getD 3 0#32 + behX v (K i) rv = _
    unfold stepH
    rw [show (4 + 64 - (i + 1)) % 8 = (67 - i) % 8 by omega, upd_other _ _ _ _ (by omega), upd_same, hX, hv 3 (by omega)]
  | 5, _ => exact (hp 5 (by omega) (by omega) (by omega)).symm
  | 6, _ => exact (hp 6 (by omega) (by omega) (by omega)).symm
  | 7, _ => exact (hp 7 (by omega) (by omega) (by omega)).symm
  | n + 8, h => omega
theorem ringTo_low (m : Nat → BitVec 8) : ∀ k j, k ≤ 4 * j → ringTo m k j = 0#32
  | 0, _, _ => rfl
  | k + 1, j, h => by rw [ringTo, upd_other _ _ _ _ (by omega), ringTo_low m k j (by omega)]
theorem ringTo_past (m : Nat → BitVec 8) (j : Nat) : ∀ k, 4 * j + 4 ≤ k → ringTo m k j = ringTo m (4 * j + 4) j
  | 0, h => by omega
  | k + 1, h => by
    rcases Nat.lt_or_ge k (4 * j + 4) with h1 | h1
    · rw [show k + 1 = 4 * j + 4 by omega]
    · rw [ringTo, upd_other _ _ _ _ (by omega), ringTo_past m j k h1]
theorem ringTo_word (l : List (BitVec 8)) (j : Nat) : ∀ k, k ≤ 4 → ringTo (fun i => l.getD i 0#8) (4 * j + k) j = (numTo l (4 * j) k).setWidth 32
  | 0, _ => by rw [ringTo_low _ _ _ (by omega)]; rfl
  | k + 1, h => by
    rw [show 4 * j + (k + 1) = 4 * j + k + 1 by omega, ringTo, show (4 * j + k) / 4 = j by omega, upd_same, ringTo_word l j k (by omega), numTo]
    generalize numTo l (4 * j) k = x
    generalize l.getD (4 * j + k) 0#8 = b
    have hb := b.isLt
    have e : (x.setWidth 32) <<< 8 ||| b.setWidth 32 = (x.setWidth 32) <<< 8 + b.setWidth 32 := by
      refine (BitVec.add_eq_or_of_and_eq_zero _ _ ?_).symm
      ext i hi
      simp only [BitVec.getElem_and, BitVec.getElem_shiftLeft, BitVec.getElem_setWidth]
      by_cases h1 : i < 8
      · simp [h1]
      · have : b.getLsbD i = false := BitVec.getLsbD_of_ge _ _ (by omega)
        simp [h1, this]
    rw [e]
    apply BitVec.eq_of_toNat_eq
    simp only [BitVec.toNat_add, BitVec.toNat_shiftLeft, BitVec.toNat_setWidth, BitVec.toNat_mul, BitVec.toNat_ofNat, Nat.shiftLeft_eq]
    omega
theorem rounds_eq (f : List (BitVec 32)) (l : List (BitVec 8)) (h : Nat → BitVec 32) (sp : List (BitVec 32)) (hsp : ∀ n, n < 64 → sp.getD n 0#32 = spr l n) (hf : ∀ n, n < 8 → f.getD n 0#32 = h n) : ∀ i, i ≤ 64 →
    (∀ n, n < 8 → (behTo f sp i).getD n 0#32 = (roundsTo K0 h (fun i => l.getD i 0#8) i).1 ((n + 64 - i) % 8)) ∧
    (∀ t, i < t + 17 → t < max i 16 → (roundsTo K0 h (fun i => l.getD i 0#8) i).2 (t % 16) = spr l t)
  | 0, _ => by
    refine ⟨fun n hn => ?_, fun t _ h2 => ?_⟩
    · show f.getD n 0#32 = h ((n + 64 - 0) % 8)
      rw [hf n hn]; congr 1; omega
    · have ht : t < 16 := by omega
      show ringTo _ 64 (t % 16) = _
      rw [Nat.mod_eq_of_lt ht, ringTo_past _ _ _ (by omega), ringTo_word l t 4 (by omega), spr_low l t ht]
  | i + 1, hi => by
    obtain ⟨h1, h2⟩ := rounds_eq f l h sp hsp hf i (by omega)
    obtain ⟨h3, h4⟩ := ring_spr l _ i h2
    refine ⟨?_, h4⟩
    have := step_eq K0 i _ (spr l i) _ (by omega) h1
    show ∀ n, n < 8 → (behNext (behTo f sp i) (wrdB roundsS i) (sp.getD i 0#32)).getD n 0#32 = stepH K0 i _ (ringNext _ i (i % 16)) _
    rw [rounds_K i (by omega), hsp i (by omega), h3]
    exact this
theorem behAdd_at (f v : List (BitVec 32)) (n : Nat) : ∀ m, n < m → (behAdd f v m).getD n 0#32 = f.getD n 0#32 + v.getD n 0#32
  | 0, h => by omega
  | m + 1, h => by
    rw [behAdd]
    rcases Nat.lt_or_ge n m with h1 | h1
    · rw [getD_left _ _ _ _ (by rw [behAdd_len]; exact h1)]
      exact behAdd_at f v n m h1
    · obtain rfl : n = m := by omega
      exact getD_last _ _ _ _ (behAdd_len f v n)
theorem full_eq (f : List (BitVec 32)) (l : List (BitVec 8)) (h : Nat → BitVec 32) (hf : ∀ n, n < 8 → f.getD n 0#32 = h n) : ∀ n, n < 8 → (behL f l).getD n 0#32 = fullH K0 h (fun i => l.getD i 0#8) n := by
  intro n hn
  have h1 := (rounds_eq f l h (sprTo l 64) (fun n hn => sprTo_at l n 64 hn) hf 64 (by omega)).1 n hn
  rw [behL, behAdd_at _ _ _ _ hn, fullH, if_pos hn, h1, hf n hn, show (n + 64 - 64) % 8 = n by omega]

theorem takeL_short (K : Nat → BitVec 32) (h : Nat → BitVec 32) : ∀ (b ws : List (BitVec 8)), ws.length + b.length < 64 → takeL K (h, ws) b = (h, ws ++ b)
  | [], ws, _ => by simp [takeL]
  | c :: b, ws, hl => by
    simp only [List.length_cons] at hl
    show takeL K (pushB K (h, ws) c) b = _
    rw [pushB, if_neg (by show ¬ ws.length + 1 = 64; omega), takeL_short K h b (ws ++ [c]) (by simp; omega)]
    simp
theorem takeL_block (K : Nat → BitVec 32) (h : Nat → BitVec 32) (b rest : List (BitVec 8)) (hb : b.length = 64) : takeL K (h, []) (b ++ rest) = takeL K (fullH K h (fun i => b.getD i 0#8), []) rest := by
  rw [takeL_append]
  congr 1
  have hne : b ≠ [] := fun h => by rw [h] at hb; simp at hb
  have e := (List.dropLast_concat_getLast hne).symm
  have hd : b.dropLast.length = 63 := by rw [List.length_dropLast, hb]
  rw [e, takeL_snoc, takeL_short K h b.dropLast [] (by rw [hd]; simp), pushB, List.nil_append, if_pos (by show b.dropLast.length + 1 = 64; rw [hd]), ← e]
theorem sumSt_eq (f : List (BitVec 32)) (t : List (BitVec 8)) (h : Nat → BitVec 32) (hf : ∀ n, n < 8 → f.getD n 0#32 = h n) : ∀ j, 64 * j ≤ t.length →
    ∃ h', takeL K0 (h, []) (t.take (64 * j)) = (h', []) ∧ ∀ n, n < 8 → (sumSt f t j).getD n 0#32 = h' n
  | 0, _ => ⟨h, by simp [takeL], hf⟩
  | j + 1, hj => by
    obtain ⟨h', e1, e2⟩ := sumSt_eq f t h hf j (by omega)
    have hb : ((t.drop (64 * j)).take 64).length = 64 := by rw [List.length_take, List.length_drop]; omega
    refine ⟨fullH K0 h' (fun i => ((t.drop (64 * j)).take 64).getD i 0#8), ?_, full_eq _ _ h' e2⟩
    rw [show 64 * (j + 1) = 64 * j + 64 by omega, List.take_add, takeL_append, e1]
    have := takeL_block K0 h' ((t.drop (64 * j)).take 64) [] hb
    rw [List.append_nil] at this
    rw [this]; rfl
theorem tail_byte {w : Nat} (x : BitVec w) (i : Nat) (n : Nat) (hw : w = 8 * n) (hi : i < n) : (x.rotateLeft (8 * (i + 1))).setWidth 8 = (x >>> (8 * (n - 1 - i))).setWidth 8 := by
  ext j hj
  simp only [BitVec.getElem_setWidth, BitVec.getLsbD_rotateLeft, BitVec.getLsbD_ushiftRight]
  by_cases h1 : 8 * (i + 1) = w
  · have e1 : 8 * (i + 1) % w = 0 := by rw [h1]; exact Nat.mod_self w
    rw [e1]
    have e2 : 8 * (n - 1 - i) = 0 := by omega
    rw [e2]
    simp
    intro h; omega
  · have e1 : 8 * (i + 1) % w = 8 * (i + 1) := Nat.mod_eq_of_lt (by omega)
    rw [e1, show decide (j < 8 * (i + 1)) = true by simp; omega, cond_true]
    congr 1
    omega
theorem bytes_tail (x : BitVec 64) : bytesL x 8 = tailL x := by
  unfold bytesL tailL
  apply List.map_congr_left
  intro i hi
  rw [List.mem_range] at hi
  exact (tail_byte x i 8 rfl hi).symm
theorem wait_gen (K : Nat → BitVec 32) : ∀ (l : List (BitVec 8)) (st : (Nat → BitVec 32) × List (BitVec 8)), st.2.length < 64 → (takeL K st l).2.length = (st.2.length + l.length) % 64
  | [], st, h => by rw [List.length_nil, Nat.add_zero, Nat.mod_eq_of_lt h]; rfl
  | c :: l, st, h => by
    show (takeL K (pushB K st c) l).2.length = _
    rw [wait_gen K l _ (pushB_lt h), pushB, List.length_cons]
    split
    · rw [List.length_nil]; omega
    · rw [List.length_append, List.length_singleton]; omega
theorem wait_len (K : Nat → BitVec 32) (h : Nat → BitVec 32) (l : List (BitVec 8)) : (takeL K (h, []) l).2.length = l.length % 64 := by
  rw [wait_gen K l (h, []) (by simp), List.length_nil, Nat.zero_add]
theorem fill_head (l : List (BitVec 8)) : (List.range (padN l.length)).map (fillF l) = l ++ [0x80#8] ++ List.replicate (zerosOf (l.length % 64)) 0#8 := by
  have hz : padN l.length = l.length + (1 + zerosOf (l.length % 64)) := by unfold padN zerosOf; omega
  apply List.ext_getElem?
  intro i
  rw [List.getElem?_map, List.append_assoc]
  by_cases h3 : i < l.length
  · rw [List.getElem?_append_left h3, List.getElem?_range (by omega), Option.map_some, fillF, upd, if_neg (by omega), fillTo, if_pos h3, List.getD_eq_getElem?_getD, List.getElem?_eq_getElem h3]
    rfl
  · rw [List.getElem?_append_right (by omega)]
    by_cases h4 : i = l.length
    · subst h4
      rw [Nat.sub_self, List.getElem?_range (by omega), Option.map_some, fillF, upd, if_pos rfl]
      rfl
    · rw [List.getElem?_append_right (by simp; omega), List.getElem?_replicate, List.length_singleton]
      by_cases h5 : i < padN l.length
      · rw [List.getElem?_range h5, Option.map_some, fillF, upd, if_neg h4, fillTo, if_neg h3, if_pos (by omega)]
      · rw [List.getElem?_eq_none (by simp; omega), if_neg (by omega)]
        rfl
theorem fill_eq (l : List (BitVec 8)) : fillL l = l ++ ([0x80#8] ++ List.replicate (zerosOf (l.length % 64)) 0#8 ++ tailL (BitVec.ofNat 64 l.length * 8#64)) := by
  rw [fillL, bytes_tail, BitVec.mul_comm, fill_head, List.append_assoc, List.append_assoc, List.append_assoc]
theorem begTo_at (n : Nat) : ∀ m, n < m → (begTo m).getD n 0#32 = wrdB beginsS n
  | 0, h => by omega
  | m + 1, h => by
    rw [begTo]
    rcases Nat.lt_or_ge n m with h1 | h1
    · rw [getD_left _ _ _ _ (by rw [begTo_len]; exact h1)]
      exact begTo_at n m h1
    · obtain rfl : n = m := by omega
      exact getD_last _ _ _ _ (begTo_len n)
theorem refSha_eq (l : List (BitVec 8)) (i : Nat) (hi : i < 32) : refSha l i = shaOf l i := by
  obtain ⟨h', e1, e2⟩ := sumSt_eq (begTo 8) (fillL l) F0 (fun n hn => by rw [begTo_at n 8 hn, begins_F n hn]) ((padN l.length + 8) / 64) (by rw [fillL_len]; omega)
  have hall : 64 * ((padN l.length + 8) / 64) = (fillL l).length := by rw [fillL_len]; have := padN_at l.length; omega
  rw [hall, List.take_length] at e1
  have e3 : endSt K0 (takeL K0 (F0, []) l) (BitVec.ofNat 64 l.length) = (h', []) := by
    rw [endSt, wait_len, ← takeL_append, ← fill_eq]; exact e1
  rw [shaOf, e3, refSha, digF, outB, e2 (i / 4) (by omega), tail_byte (h' (i / 4)) (i % 4) 4 rfl (by omega), bytesF]
  apply BitVec.eq_of_toNat_eq
  have := (h' (i / 4)).isLt
  simp only [BitVec.toNat_setWidth, BitVec.toNat_ushiftRight]
  rw [Nat.mod_eq_of_lt (show (h' (i / 4)).toNat < 2 ^ 64 by omega)]
end Go.Proofs.Ytljddimmhjiehaa
