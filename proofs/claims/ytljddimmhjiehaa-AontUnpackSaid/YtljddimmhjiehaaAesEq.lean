/- The program's hiding is the document's: in plain words of bits. -/
import Derived.Test.YtljddimmhjiehaaA5d
namespace Go.Proofs.Ytljddimmhjiehaa
open Go.RowKit

theorem top_bit : ∀ n, n < 256 → (BitVec.ofNat 8 n &&& 128#8 = 0#8 ∨ BitVec.ofNat 8 n &&& 128#8 = 128#8) := by decide +kernel
theorem top_cases (a : BitVec 8) : a &&& 128#8 = 0#8 ∨ a &&& 128#8 = 128#8 := by
  have := top_bit a.toNat a.isLt
  rwa [BitVec.ofNat_toNat, BitVec.setWidth_eq] at this
theorem and_xor (a b c : BitVec 8) : (a ^^^ b) &&& c = (a &&& c) ^^^ (b &&& c) := by
  ext i hi
  simp only [BitVec.getElem_xor, BitVec.getElem_and]
  cases a[i] <;> cases b[i] <;> cases c[i] <;> rfl
def redB (b : BitVec 8) : BitVec 8 := if b = 0#8 then 0#8 else 27#8
theorem twice_red (b : BitVec 8) : twice b = b <<< 1 ^^^ redB (b &&& 128#8) := by
  unfold twice redB
  by_cases h : b &&& 128#8 = 0#8
  · rw [if_pos h, if_pos h, BitVec.xor_zero]
  · rw [if_neg h, if_neg h]
theorem twice_xor (a b : BitVec 8) : twice (a ^^^ b) = twice a ^^^ twice b := by
  rw [twice_red, twice_red a, twice_red b, and_xor, BitVec.shiftLeft_xor_distrib]
  have e : redB (a &&& 128#8 ^^^ b &&& 128#8) = redB (a &&& 128#8) ^^^ redB (b &&& 128#8) := by
    rcases top_cases a with ha | ha <;> rcases top_cases b with hb | hb <;> rw [ha, hb] <;> decide
  rw [e]
  ac_rfl
/-- A column, mixed. -/
theorem mixCol_at (x : Nat → BitVec 8) (c : Nat) (all first : BitVec 8) (i : Nat) : ∀ k, k ≤ 4 → mixCol x c all first k i = if c ≤ i ∧ i < c + k then x i ^^^ (all ^^^ twice (x i ^^^ (if i - c < 3 then x (i + 1) else first))) else x i
  | 0, _ => by rw [if_neg (by omega)]; rfl
  | k + 1, hk => by
    show mixAt (mixCol x c all first k) c k all first i = _
    unfold mixAt
    by_cases h : i = c + k
    · subst h
      have e1 := mixCol_at x c all first (c + k) k (by omega)
      rw [if_neg (by omega)] at e1
      have e2 := mixCol_at x c all first (c + k + 1) k (by omega)
      rw [if_neg (by omega)] at e2
      rw [upd_same, e1, e2, if_pos (show c ≤ c + k ∧ c + k < c + (k + 1) by omega), show c + k - c = k by omega]
    · have e1 := mixCol_at x c all first i k (by omega)
      rw [upd_other _ _ _ _ h, e1]
      by_cases h2 : c ≤ i ∧ i < c + k
      · rw [if_pos h2, if_pos (show c ≤ i ∧ i < c + (k + 1) by omega)]
      · rw [if_neg h2, if_neg (show ¬ (c ≤ i ∧ i < c + (k + 1)) by omega)]
def mixOne (x : Nat → BitVec 8) (c k : Nat) : BitVec 8 :=
  x (4 * c + k) ^^^ ((x (4 * c) ^^^ x (4 * c + 1) ^^^ x (4 * c + 2) ^^^ x (4 * c + 3)) ^^^ twice (x (4 * c + k) ^^^ (if k < 3 then x (4 * c + k + 1) else x (4 * c))))
theorem mixTo_at (x : Nat → BitVec 8) (i : Nat) : ∀ c, mixTo x c i = if i < 4 * c then mixOne x (i / 4) (i % 4) else x i
  | 0 => by rw [if_neg (by omega)]; rfl
  | c + 1 => by
    have hh : ∀ j, 4 * c ≤ j → mixTo x c j = x j := fun j hj => by rw [mixTo_at x j c, if_neg (by omega)]
    show mixCol (mixTo x c) (4 * c) _ _ 4 i = _
    rw [mixCol_at _ _ _ _ _ _ (by omega)]
    by_cases h : 4 * c ≤ i ∧ i < 4 * c + 4
    · rw [if_pos h, if_pos (show i < 4 * (c + 1) by omega), hh i (by omega), hh (4 * c) (by omega), hh (4 * c + 1) (by omega), hh (4 * c + 2) (by omega), hh (4 * c + 3) (by omega), hh (i + 1) (by omega)]
      unfold mixOne
      rw [show i / 4 = c by omega, show i % 4 = i - 4 * c by omega, show 4 * c + (i - 4 * c) = i by omega]
    · rw [if_neg h, mixTo_at x i c]
      by_cases h2 : i < 4 * c
      · rw [if_pos h2, if_pos (by omega)]
      · rw [if_neg h2, if_neg (by omega)]
theorem mix_four (a b c d : BitVec 8) : a ^^^ ((a ^^^ b ^^^ c ^^^ d) ^^^ twice (a ^^^ b)) = twice a ^^^ (b ^^^ twice b) ^^^ c ^^^ d := by
  rw [twice_xor]
  generalize twice a = p
  generalize twice b = q
  ext i hi
  simp only [BitVec.getElem_xor]
  cases a[i] <;> cases b[i] <;> cases c[i] <;> cases d[i] <;> cases p[i] <;> cases q[i] <;> rfl
theorem mix_eq (x : Nat → BitVec 8) (i : Nat) (hi : i < 16) : mixTo x 4 i = mixB x i := by
  rw [mixTo_at, if_pos (by omega)]
  unfold mixB mixOne
  obtain ⟨c, k, hk, rfl⟩ : ∃ c k, k < 4 ∧ i = 4 * c + k := ⟨i / 4, i % 4, by omega, by omega⟩
  rw [show (4 * c + k) / 4 = c by omega, show (4 * c + k) % 4 = k by omega]
  match k, hk with
  | 0, _ =>
    rw [if_pos (by omega)]
    exact mix_four _ _ _ _
  | 1, _ =>
    rw [if_pos (by omega), ← mix_four]
    congr 2
    show x (4 * c) ^^^ x (4 * c + 1) ^^^ x (4 * c + 2) ^^^ x (4 * c + 3) = x (4 * c + 1) ^^^ x (4 * c + 2) ^^^ x (4 * c + 3) ^^^ x (4 * c + 0)
    rw [Nat.add_zero]; ac_rfl
  | 2, _ =>
    rw [if_pos (by omega), ← mix_four]
    congr 2
    show x (4 * c) ^^^ x (4 * c + 1) ^^^ x (4 * c + 2) ^^^ x (4 * c + 3) = x (4 * c + 2) ^^^ x (4 * c + 3) ^^^ x (4 * c + 0) ^^^ x (4 * c + 1)
    rw [Nat.add_zero]; ac_rfl
  | 3, _ =>
    rw [if_neg (by omega), ← mix_four]
    show x (4 * c + 3) ^^^ ((x (4 * c) ^^^ x (4 * c + 1) ^^^ x (4 * c + 2) ^^^ x (4 * c + 3)) ^^^ twice (x (4 * c + 3) ^^^ x (4 * c))) = x (4 * c + 3) ^^^ ((x (4 * c + 3) ^^^ x (4 * c + 0) ^^^ x (4 * c + 1) ^^^ x (4 * c + 2)) ^^^ twice (x (4 * c + 3) ^^^ x (4 * c + 0)))
    rw [Nat.add_zero]
    congr 2
    ac_rfl
  | k + 4, h => omega
def Alike16 (x y : Nat → BitVec 8) : Prop := ∀ i, i < 16 → x i = y i
theorem rowsB_congr {x y : Nat → BitVec 8} (t : Nat → BitVec 8) (h : Alike16 x y) : Alike16 (rowsB t x) (rowsB t y) := fun i _ => by
  unfold rowsB
  rw [h _ (Nat.mod_lt _ (by omega))]
theorem mixB_congr {x y : Nat → BitVec 8} (h : Alike16 x y) : Alike16 (mixB x) (mixB y) := fun i hi => by
  unfold mixB
  rw [h i hi, h _ (show 4 * (i / 4) + (i % 4 + 1) % 4 < 16 by omega), h _ (show 4 * (i / 4) + (i % 4 + 2) % 4 < 16 by omega), h _ (show 4 * (i / 4) + (i % 4 + 3) % 4 < 16 by omega)]
theorem addB_congr {x y : Nat → BitVec 8} (ks : Nat → BitVec 8) (r : Nat) (h : Alike16 x y) : Alike16 (addB ks x r) (addB ks y r) := fun i hi => by
  unfold addB
  rw [h i hi]
theorem blk_st (t ks x y : Nat → BitVec 8) (h : Alike16 x y) : ∀ r, r ≤ 13 → Alike16 (blk t ks x r) (stB t ks y r)
  | 0, _ => addB_congr ks 0 h
  | r + 1, hr => by
    have ih := blk_st t ks x y h r (by omega)
    show Alike16 (addB ks (mixR (r + 1) (rowsB t (blk t ks x r))) (r + 1)) (addB ks (mixTo (rowsB t (stB t ks y r)) 4) (r + 1))
    refine addB_congr ks _ fun i hi => ?_
    rw [mixR, if_pos (by omega), mix_eq _ i hi]
    exact mixB_congr (rowsB_congr t ih) i hi
theorem blk_eq (t ks x y : Nat → BitVec 8) (h : Alike16 x y) : Alike16 (blk t ks x 14) (blockB t ks y) := by
  show Alike16 (addB ks (mixR 14 (rowsB t (blk t ks x 13))) 14) (addB ks (rowsB t (stB t ks y 13)) 14)
  refine addB_congr ks _ ?_
  rw [mixR, if_neg (by omega)]
  exact rowsB_congr t (blk_st t ks x y h 13 (by omega))
/-- The number that the last k bytes tell. -/
def valK (f : Nat → BitVec 8) : Nat → Nat
  | 0 => 0
  | k + 1 => valK f k + (f (15 - k)).toNat * 256 ^ k
theorem valK_lt (f : Nat → BitVec 8) : ∀ k, valK f k < 256 ^ k
  | 0 => by simp [valK]
  | k + 1 => by
    have h1 := valK_lt f k
    have h2 := (f (15 - k)).isLt
    have h3 : (f (15 - k)).toNat * 256 ^ k ≤ 255 * 256 ^ k := Nat.mul_le_mul_right _ (by omega)
    rw [valK, Nat.pow_succ]
    omega
theorem valK_upd (f : Nat → BitVec 8) (j : Nat) (v : BitVec 8) (hj : j ≤ 15) : ∀ k, k ≤ j → valK (upd f (15 - j) v) k = valK f k
  | 0, _ => rfl
  | k + 1, h => by rw [valK, valK, valK_upd f j v hj k (by omega), upd_other _ _ _ _ (by omega)]
theorem valK_inj (f g : Nat → BitVec 8) : ∀ k, k ≤ 16 → valK f k = valK g k → ∀ m, m < k → f (15 - m) = g (15 - m)
  | 0, _, _, _, h => by omega
  | k + 1, hk, h, m, hm => by
    rw [valK, valK] at h
    have h1 := valK_lt f k
    have h2 := valK_lt g k
    have hp : 0 < 256 ^ k := Nat.pow_pos (by omega)
    have hd : (f (15 - k)).toNat = (g (15 - k)).toNat := by
      have e1 : (valK f k + (f (15 - k)).toNat * 256 ^ k) / 256 ^ k = (f (15 - k)).toNat := by
        rw [Nat.add_mul_div_right _ _ hp, Nat.div_eq_of_lt h1, Nat.zero_add]
      have e2 : (valK g k + (g (15 - k)).toNat * 256 ^ k) / 256 ^ k = (g (15 - k)).toNat := by
        rw [Nat.add_mul_div_right _ _ hp, Nat.div_eq_of_lt h2, Nat.zero_add]
      rw [← e1, ← e2, h]
    rcases Nat.lt_or_ge m k with hmk | hmk
    · exact valK_inj f g k (by omega) (by rw [hd] at h; omega) m hmk
    · obtain rfl : m = k := by omega
      exact BitVec.eq_of_toNat_eq hd
theorem scale {P a b c d : Nat} (h : a + 256 * b = c + d) : a * P + P * 256 * b = c * P + P * d := by
  have : P * (a + 256 * b) = P * (c + d) := by rw [h]
  rw [Nat.mul_add, Nat.mul_add] at this
  rw [Nat.mul_comm a P, Nat.mul_comm c P, Nat.mul_assoc]
  exact this
theorem cnt_inv (x : Nat → BitVec 8) (n : BitVec 64) (hn : n.toNat < 9223372036854775808) : ∀ k, k ≤ 16 → valK (cntTo x n k).1 k + 256 ^ k * (cntTo x n k).2.toNat = valK x k + n.toNat ∧ (cntTo x n k).2.toNat < 9223372036854775808 ∧ ∀ m, k ≤ m → m ≤ 15 → (cntTo x n k).1 (15 - m) = x (15 - m)
  | 0, _ => ⟨by simp [valK, cntTo], hn, fun _ _ _ => rfl⟩
  | k + 1, hk => by
    obtain ⟨h1, h2, h3⟩ := cnt_inv x n hn k (by omega)
    have hx := h3 k (by omega) (by omega)
    simp only [cntTo, cntStep]
    generalize (cntTo x n k).1 = f at *
    generalize (cntTo x n k).2 = c at *
    have hd := (f (15 - k)).isLt
    have hs : ((f (15 - k)).setWidth 64 + (c &&& 255#64)).toNat = (f (15 - k)).toNat + c.toNat % 256 := by
      rw [BitVec.toNat_add, BitVec.toNat_setWidth, BitVec.toNat_and]
      have e : c.toNat &&& (255#64).toNat = c.toNat % 256 := Nat.and_two_pow_sub_one_eq_mod c.toNat 8
      rw [e, Nat.mod_eq_of_lt (show (f (15 - k)).toNat < 2 ^ 64 by omega), Nat.mod_eq_of_lt (by omega)]
    have hc2 : (c >>> 8 + ((f (15 - k)).setWidth 64 + (c &&& 255#64)) >>> 8).toNat = c.toNat / 256 + ((f (15 - k)).toNat + c.toNat % 256) / 256 := by
      rw [BitVec.toNat_add, BitVec.toNat_ushiftRight, BitVec.toNat_ushiftRight, hs, Nat.shiftRight_eq_div_pow, Nat.shiftRight_eq_div_pow]
      exact Nat.mod_eq_of_lt (by omega)
    have hb : (((f (15 - k)).setWidth 64 + (c &&& 255#64)).setWidth 8).toNat = ((f (15 - k)).toNat + c.toNat % 256) % 256 := by
      rw [BitVec.toNat_setWidth, hs]
    refine ⟨?_, ?_, fun m hm1 hm2 => ?_⟩
    · rw [valK, valK_upd f k _ (by omega) k (Nat.le_refl _), upd_same, hb, hc2, valK, ← hx, Nat.pow_succ]
      have := scale (P := 256 ^ k) (a := ((f (15 - k)).toNat + c.toNat % 256) % 256) (b := c.toNat / 256 + ((f (15 - k)).toNat + c.toNat % 256) / 256) (c := (f (15 - k)).toNat) (d := c.toNat) (by omega)
      omega
    · rw [hc2]; omega
    · rw [upd_other _ _ _ _ (by omega)]
      exact h3 m (by omega) hm2
theorem rc_inv (x : Nat → BitVec 8) (n : BitVec 64) : ∀ k, k ≤ 16 → valK (rcSt x n k).1 k + 256 ^ k * ((rcSt x n k).2.1.toNat + (rcSt x n k).2.2.toNat) = valK x k + n.toNat ∧ (rcSt x n k).2.2.toNat ≤ 1 ∧ ∀ m, k ≤ m → m ≤ 15 → (rcSt x n k).1 (15 - m) = x (15 - m)
  | 0, _ => ⟨by simp [valK, rcSt], by simp [rcSt], fun _ _ _ => rfl⟩
  | k + 1, hk => by
    obtain ⟨h1, h2, h3⟩ := rc_inv x n k (by omega)
    have hx := h3 k (by omega) (by omega)
    simp only [rcSt]
    generalize (rcSt x n k).1 = f at *
    generalize (rcSt x n k).2.1 = p at *
    generalize (rcSt x n k).2.2 = c at *
    have hd := (f (15 - k)).isLt
    have hp := p.isLt
    have hs : ((f (15 - k)).setWidth 64 + (p.setWidth 8).setWidth 64 + c).toNat = (f (15 - k)).toNat + p.toNat % 256 + c.toNat := by
      rw [BitVec.toNat_add, BitVec.toNat_add, BitVec.toNat_setWidth, BitVec.toNat_setWidth, BitVec.toNat_setWidth]
      omega
    generalize (f (15 - k)).setWidth 64 + (p.setWidth 8).setWidth 64 + c = s at *
    have hc2 : (s >>> 8).toNat = s.toNat / 256 := by rw [BitVec.toNat_ushiftRight, Nat.shiftRight_eq_div_pow]
    have hp2 : (p >>> 8).toNat = p.toNat / 256 := by rw [BitVec.toNat_ushiftRight, Nat.shiftRight_eq_div_pow]
    have hb : (s.setWidth 8).toNat = s.toNat % 256 := by rw [BitVec.toNat_setWidth]
    refine ⟨?_, ?_, fun m hm1 hm2 => ?_⟩
    · rw [valK, valK_upd f k _ (by omega) k (Nat.le_refl _), upd_same, hb, hc2, hp2, valK, ← hx, Nat.pow_succ]
      have := scale (P := 256 ^ k) (a := s.toNat % 256) (b := p.toNat / 256 + s.toNat / 256) (c := (f (15 - k)).toNat) (d := p.toNat + c.toNat) (by omega)
      omega
    · rw [hc2]; omega
    · rw [upd_other _ _ _ _ (by omega)]
      exact h3 m (by omega) hm2
theorem count_val (x : Nat → BitVec 8) (n : BitVec 64) (hn : n.toNat < 9223372036854775808) : valK (countB x n) 16 = (valK x 16 + n.toNat) % 256 ^ 16 := by
  have h := (cnt_inv x n hn 16 (by omega)).1
  have hl := valK_lt (countB x n) 16
  rw [← h, Nat.add_mul_mod_self_left]
  exact (Nat.mod_eq_of_lt hl).symm
theorem rc_val (x : Nat → BitVec 8) (n : BitVec 64) : valK (rcF x n) 16 = (valK x 16 + n.toNat) % 256 ^ 16 := by
  have h := (rc_inv x n 16 (by omega)).1
  have hl := valK_lt (rcF x n) 16
  rw [← h, Nat.add_mul_mod_self_left]
  exact (Nat.mod_eq_of_lt hl).symm
theorem from_val (x : Nat → BitVec 8) : ∀ j, valK (fromTo x j) 16 = (valK x 16 + j) % 256 ^ 16
  | 0 => by rw [fromTo, Nat.add_zero, Nat.mod_eq_of_lt (valK_lt x 16)]
  | j + 1 => by
    rw [fromTo, count_val _ _ (by decide), from_val x j, show (1#64).toNat = 1 from rfl, Nat.mod_add_mod, Nat.add_assoc]
theorem rc_from (x : Nat → BitVec 8) (j : Nat) (hj : j < 1000000) : Alike16 (rcF x (BitVec.ofNat 64 j)) (fromTo x j) := fun i hi => by
  have h : valK (rcF x (BitVec.ofNat 64 j)) 16 = valK (fromTo x j) 16 := by
    rw [rc_val, from_val, BitVec.toNat_ofNat, Nat.mod_eq_of_lt (show j < 2 ^ 64 by omega)]
  have := valK_inj _ _ 16 (by omega) h (15 - i) (by omega)
  rwa [show 15 - (15 - i) = i by omega] at this
theorem fast_eq (t ks x : Nat → BitVec 8) (l : List (BitVec 8)) (hl : l.length ≤ 1000000) : ∀ n, n ≤ l.length → fastTo t ks x l n = (hideL t ks x l).take n
  | 0, _ => by simp [fastTo]
  | n + 1, hn => by
    rw [fastTo, fast_eq t ks x l hl n (by omega), hideL_take t ks x l n (by omega), ctrAt, bF]
    rw [blk_eq t ks _ _ (rc_from x (n / 16) (by omega)) (n % 16) (by omega)]
end Go.Proofs.Ytljddimmhjiehaa
