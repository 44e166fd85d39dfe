/- aont.zero: whether bytes are all 0. -/
import Derived.Test.YtljddimmhjiehaaA7
namespace Go.Proofs.Ytljddimmhjiehaa
open Go.RowKit

theorem zeroAt_any (x : BitVec 8) (w : World) : Calls Try.prog 51 #[W8 x] w fun e w' => e = .returned (.bool (x != 0#8)) ∧ w = w' := by
  go_enter Try.func51, Try.ntmps51
  go_wp2_with fail
  go_ret
  exact ⟨rfl, rfl⟩
theorem all_take (l : List (BitVec 8)) (i : Nat) (hi : i < l.length) (h : (l.take i).all (· == 0#8) = true) (h0 : l.getD i 0#8 = 0#8) : (l.take (i + 1)).all (· == 0#8) = true := by
  rw [List.take_add_one, List.all_append, h, List.getElem?_eq_getElem hi]
  rw [List.getD_eq_getElem?_getD, List.getElem?_eq_getElem hi] at h0
  simpa using h0
theorem all_not (l : List (BitVec 8)) (i : Nat) (hi : i < l.length) (h0 : l.getD i 0#8 ≠ 0#8) : l.all (· == 0#8) = false := by
  rw [List.all_eq_false]
  rw [List.getD_eq_getElem?_getD, List.getElem?_eq_getElem hi] at h0
  exact ⟨l[i], List.getElem_mem hi, by simpa using h0⟩
set_option maxHeartbeats 1000000 in
theorem indexOdd_any (l : List (BitVec 8)) (b : Bool) (sv : Value) (w : World) (hs : Seg w sv (l.map W8)) (hl : l.length ≤ 4611686018427387904) (hb : (l.all (· == 0#8)) = b) :
    Calls Try.prog 64 #[sv, .func (.func 51) #[] #[]] w fun e w' => ∃ r : Int, e = .returned (.int .i64 r) ∧ w = w' ∧ decide (r ≥ 0) = !b := by
  obtain ⟨ao, ca, rfl⟩ := hs.open8
  have HA := hid hs.cells8.2
  have HB := hid hb
  clear hs hb
  generalize hn : l.length = n at *
  go_enter Try.func64, Try.ntmps64
  go_wp2_with fail
  go_loop [8] (fun v => ∃ i : Nat, i ≤ n ∧ v = .int .i64 (i : Int) ∧ (l.take i).all (· == 0#8) = true) (fun v => n - (intOf v).toNat)
  case atStart => exact ⟨0, by omega, by go_num, rfl⟩
  case round =>
    obtain ⟨i, hi, rfl, ht⟩ := hrel
    by_cases hlt : i < n
    · have b1 : (i : Int) < (n : Int) := by omega
      obtain ⟨a1, rfl, c1⟩ := HA.out i hlt
      have HT := hid (all_take l i (by omega) ht)
      have HX := hid (all_not l i (by omega))
      clear ht
      generalize l.getD i 0#8 = x at *
      have hz := zeroAt_any x w
      generalize hv : (x != 0#8) = vb at hz
      cases vb with
      | false =>
        have HT2 := hid (HT.out (by simpa using hv))
        clear hv HT HX
        go_wp2_with fail
        refine hz.mono ?_
        rintro e w' ⟨rfl, rfl⟩
        go_wp2_with fail
        go_round
        case rel => exact ⟨i + 1, by omega, by go_num, HT2.out⟩
        case measure => simp [intOf]; omega
      | true =>
        have HX2 := hid (HX.out (by simpa using hv))
        clear hv HT HX
        go_wp2_with fail
        refine hz.mono ?_
        rintro e w' ⟨rfl, rfl⟩
        go_wp2_with fail
        go_ret
        refine ⟨(i : Int), rfl, rfl, ?_⟩
        rw [← HB.out, HX2.out]
        simp
    · obtain rfl : i = n := by omega
      have hx : l.all (· == 0#8) = true := by rw [← hn, List.take_length] at ht; exact ht
      have HX := hid hx
      clear ht hx
      go_wp2_with fail
      go_ret
      refine ⟨-1, rfl, rfl, ?_⟩
      rw [← HB.out, HX.out]
      rfl
theorem zero_any (l : List (BitVec 8)) (b : Bool) (sv : Value) (w : World) (hs : Seg w sv (l.map W8)) (hl : l.length ≤ 4611686018427387904) (hb : (l.all (· == 0#8)) = b) :
    Calls Try.prog 33 #[sv] w fun e w' => e = .returned (.bool b) ∧ w = w' := by
  have HI := hid (fun w hs => indexOdd_any l b sv w hs hl hb)
  have HC : Hid (∀ w, Seg w sv (l.map W8) → Calls Try.prog 50 #[sv, .func (.func 51) #[] #[]] w fun e w' => e = .returned (.bool (!b)) ∧ w = w') := fun w hs => by
    go_enter Try.func50, Try.ntmps50
    go_wp2_with fail
    refine (HI.out w hs).mono ?_
    rintro e w' ⟨r, rfl, rfl, hr⟩
    have HR := hid hr
    clear hr
    go_wp2_with fail
    go_ret
    exact ⟨by rw [← HR.out]; rfl, rfl⟩
  go_enter Try.func33, Try.ntmps33
  go_wp2_with fail
  refine (HC.out w hs).mono ?_
  rintro e w' ⟨rfl, rfl⟩
  go_wp2_with fail
  go_ret
  exact ⟨by simp, rfl⟩
end Go.Proofs.Ytljddimmhjiehaa
/- aont.Unpack: what slices of a class tell. -/
namespace Go.Proofs.Ytljddimmhjiehaa
open Go.RowKit

theorem or_word (a b : Nat) (ha : a < 256) (hb : b < 256) : bits .or .i64 ((a : Int) * 256) (b : Int) = ((256 * a + b : Nat) : Int) := by
  show IntKind.i64.wrap (((BitVec.ofInt 64 ((a : Int) * 256)) ||| (BitVec.ofInt 64 (b : Int))).toNat : Int) = _
  have e : (a : Int) * 256 = ((a * 256 : Nat) : Int) := by omega
  have h8 : a * 256 ||| b = a * 256 + b := by
    rw [show a * 256 = a <<< 8 by rw [Nat.shiftLeft_eq], Nat.shiftLeft_add_eq_or_of_lt (by omega)]
  rw [e, BitVec.ofInt_natCast, BitVec.ofInt_natCast, BitVec.toNat_or, BitVec.toNat_ofNat, BitVec.toNat_ofNat, Nat.mod_eq_of_lt (by omega), Nat.mod_eq_of_lt (by omega), h8, IntKind.wrap_i64]
  omega
def isZ (l : List (BitVec 8)) : Bool := l.all (· == 0#8)
def nOf (il : List (BitVec 8)) : Nat := 256 * (il.getD 0 0#8).toNat + (il.getD 1 0#8).toNat
def unpB (c n : Nat) (al il : List (BitVec 8)) : Bool := isZ (al.drop (c + 48)) && (isZ (il.drop c) && (decide (n + 2 ≤ c) && (decide (n ≤ 1000) && (decide (classN n = c) && isZ ((il.drop (2 + n)).take (c - (2 + n)))))))
def UnpPost (b : Bool) (out : List (BitVec 8)) (w : World) (e : Ending) (w' : World) : Prop :=
  if b then ∃ v, e = .returned (.tuple #[v, .int .i64 0]) ∧ Seg w' v (out.map W8) ∧ Frm Nil w w' else e = .returned (.tuple #[.slice none 0 0, .int .i64 11]) ∧ Frm Nil w w'
def insideL (key : Nat → BitVec 8) (c : Nat) (al : List (BitVec 8)) : List (BitVec 8) := hideL tabF (keysOf tabF key) zeroF (al.take (c + 16))
/-- What a slice reads from lo on, wherever the machine lays the end's address. -/
theorem Seg.from {w : World} {g N k : Nat} {l : List (BitVec 8)} (h : Seg w (.slice (some ⟨g, 0, none⟩) N k) (l.map W8)) {lo m o c' : Nat} (hlo : lo ≤ N) (hl : (l.map W8).length = N) (hm : N - lo = m)
    (hc : o = 0 ∧ m = 0 ∨ o = lo) : Seg w (.slice (some ⟨g, o, none⟩) m c') ((l.drop lo).map W8) := by
  rw [List.length_map] at hl
  rcases hc with ⟨rfl, rfl⟩ | rfl
  · rw [List.drop_eq_nil_of_le (by omega)]
    exact ⟨_, c', rfl, (fun h => by cases h), fun a ha j u hu => by simp at hu⟩
  · subst hm
    have := h.part rfl o N c' hlo (by rw [List.length_map]; omega)
    rw [Nat.zero_add, List.take_of_length_le (by rw [List.length_drop, List.length_map]; omega), ← List.map_drop] at this
    exact this
theorem Seg.sub {w : World} {g N k : Nat} {l : List (BitVec 8)} (h : Seg w (.slice (some ⟨g, 0, none⟩) N k) (l.map W8)) {lo hi m c' : Nat} (hlo : lo ≤ hi) (hl : hi ≤ (l.map W8).length) (hm : hi - lo = m) :
    Seg w (.slice (some ⟨g, lo, none⟩) m c') (((l.drop lo).take m).map W8) := by
  subst hm
  have := h.part rfl lo hi c' hlo hl
  rw [Nat.zero_add, ← List.map_drop, ← List.map_take] at this
  exact this
set_option maxHeartbeats 4000000 in
set_option maxRecDepth 100000 in
theorem unpack_core (c sz n : Nat) (b : Bool) (bs : List (List (BitVec 8))) (al il : List (BitVec 8)) (key : Nat → BitVec 8) (sv : Value) (w : World) (hs : Texts w sv bs) (h : IsCls c) (h1 : 1 ≤ bs.length) (h2 : bs.length ≤ 255) (hsz : sizeN c bs.length = sz) (hf : Flat bs sz)
    (hal : bs.flatten = al) (hkey : keyF c al = key) (hil : insideL key c al = il) (hn : nOf il = n) (hb : unpB c n al il = b) :
    Calls Try.prog 15 #[.int .i64 (c : Int), sv] w fun e w' => UnpPost b ((il.drop 2).take n) w e w' := by
  have hbd := sizeN_bounds c bs.length h1
  rw [hsz] at hbd
  have hc3 : 32 ≤ c ∧ c ≤ 1024 := by unfold IsCls at h; omega
  obtain ⟨hc2, hc3⟩ := hc3
  have hmul : sz * bs.length = bs.length * sz := Nat.mul_comm _ _
  have hfl := flat_len bs sz hf
  rw [hal] at hfl
  have HJ := hid (fun w hs => joined_ok c sz (bs.length * sz) bs sv w hs h h1 h2 hsz hf rfl)
  rw [hal] at HJ
  have HK := hid (fun g k w hseg hk => keyOf_any c g 0 (bs.length * sz) k al _ key w hseg hfl (by omega) hk (by omega) (by omega) rfl hkey)
  have hill : il.length = c + 16 := by rw [← hil, insideL, hideL_len, List.length_take]; omega
  have HH := hid (fun sv w hs => hide_any key zeroF (al.take (c + 16)) sv w hs (by rw [List.length_take]; omega))
  rw [show hideL tabF (keysOf tabF key) zeroF (al.take (c + 16)) = il from hil] at HH
  have HS := hid hs
  have HB := hid hb
  have HCL := hid (fun w (h : n ≤ 1000) => class_in n w h)
  have HN := hid hn
  have HFL := hid hfl
  have HILL := hid hill
  obtain ⟨hb1, hb2, hb3, hb4⟩ := hbd
  have hNb : c + 48 ≤ bs.length * sz ∧ bs.length * sz ≤ 2000 := by omega
  obtain ⟨hN1, hN2⟩ := hNb
  clear hs hf hsz hkey hil hfl hmul h hal hb hn hill hb1 hb2
  generalize bs.length * sz = N at *
  go_enter Try.func15, Try.ntmps15
  go_wp2_with fail
  refine (HJ.out w HS.out).mono ?_
  rintro e w1 ⟨g, k, rfl, hk, hseg, hf1⟩
  have HSEG := hid hseg
  have HF1 := hid hf1
  have HP1 := hid (show Seg w1 (.slice (some ⟨g, 0, none⟩) (c + 16) k) ((al.take (c + 16)).map W8) by
    have := hseg.part rfl 0 (c + 16) k (by omega) (by rw [List.length_map, HFL.out]; omega)
    rw [Nat.add_zero, Nat.sub_zero, List.drop_zero, ← List.map_take] at this
    exact this)
  clear hseg hf1
  go_upto_region 4 with fail
  refine wp_region_later_tail 8 (by kernel_rfl) (by kernel_rfl) ?_
  simp only [List.take_succ_cons, List.take_zero, List.drop_succ_cons, List.drop_zero]
  repeat (go_big_quiet_step (refine later_of (HK.out g k _ (HSEG.out.frm (frm_later _ _ _) (by simp [Nil])) hk)))
  refine wpQuiet_nil ?_
  intro w2 hf2
  rw [zero8_16, show (fun _ => 0#8) = zeroF from rfl]
  have HSEG2 := hid (HSEG.out.frm hf2 (by simp [Nil]))
  have HP2 := hid (HP1.out.frm hf2 (by simp [Nil]))
  have HF2 := hid (HF1.out.trans hf2 (fun _ _ h => h))
  clear hf2 HF1 HP1 HSEG
  go_wp2_with fail
  refine (HH.out _ w2 HP2.out).mono ?_
  rintro e w3 ⟨v3, rfl, ho3, hf3, hv3, hn3⟩
  obtain ⟨g3, k3, rfl, hk3⟩ : ∃ g3 k3, v3 = .slice (some ⟨g3, 0, none⟩) (c + 16) k3 ∧ c + 16 ≤ k3 := by
    rcases ho3.form with ⟨h1, h2⟩ | ⟨g, cap, h1, h2, _⟩
    · have := congrArg List.length h2; rw [List.length_map, HILL.out] at this; simp at this
    · rw [List.length_map, HILL.out] at h1 h2; exact ⟨g, cap, h1, h2⟩
  have HI3 := hid ho3.seg
  have HSEG3 := hid (HSEG2.out.frm hf3 (by simp [Nil]))
  have HF3 := hid (HF2.out.trans hf3 (fun _ _ h => h))
  clear ho3 hf3 hv3 hn3 HP2 HF2 HSEG2
  obtain ⟨a1, ea1, c1⟩ := HI3.out.cells8.2 0 (by rw [HILL.out]; omega)
  obtain ⟨a2, ea2, c2⟩ := HI3.out.cells8.2 1 (by rw [HILL.out]; omega)
  cases ea1
  cases ea2
  have HN2 := hid (show 256 * (il.getD 0 0#8).toNat + (il.getD 1 0#8).toNat = n from HN.out)
  generalize il.getD 0 0#8 = x0 at *
  generalize il.getD 1 0#8 = x1 at *
  rw [Addr.add_zero'] at c1
  rw [Addr.add_lit, Nat.zero_add] at c2
  have z0 : (0 : Int) < (c : Int) + 16 := by omega
  have z1 : (1 : Int) < (c : Int) + 16 := by omega
  have z2 : 0 < c + 16 := by omega
  have z3 : 1 < c + 16 := by omega
  go_upto_region 5 with fail
  go_quiet (fail)
  rw [or_word x0.toNat x1.toNat x0.isLt x1.isLt, HN2.out]
  have hnb : n ≤ 65535 := by have h1 := HN2.out; have h2 := x0.isLt; have h3 := x1.isLt; omega
  have HI4 := hid (show Seg (w3.drewN nq) (.slice (some ⟨g3, 0, none⟩) (c + 16) k3) (il.map W8) from HI3.out.frm ((Frm.refl Nil w3).drewN nq) (by simp [Nil]))
  have HS4 := hid (show Seg (w3.drewN nq) (.slice (some ⟨g, 0, none⟩) N k) (al.map W8) from HSEG3.out.frm ((Frm.refl Nil w3).drewN nq) (by simp [Nil]))
  have HF4 := hid (show Frm Nil w (w3.drewN nq) from HF3.out.drewN nq)
  generalize w3.drewN nq = w4 at HI4 HS4 HF4 ⊢
  clear HI3 HSEG3 HF3 c1 c2 z0 z1 z2 z3 HN2 HN
  generalize hq1 : isZ (al.drop (c + 48)) = q1
  generalize hq2 : isZ (il.drop c) = q2
  generalize hq3 : isZ ((il.drop (2 + n)).take (c - (2 + n))) = q3
  have HB2 := hid (show (q1 && (q2 && (decide (n + 2 ≤ c) && (decide (n ≤ 1000) && (decide (classN n = c) && q3))))) = b by rw [← HB.out, unpB, hq1, hq2, hq3])
  have HZ1 := hid (fun sv w hs => zero_any (al.drop (c + 48)) q1 sv w hs (by rw [List.length_drop, HFL.out]; omega) hq1)
  have HZ2 := hid (fun sv w hs => zero_any (il.drop c) q2 sv w hs (by rw [List.length_drop, HILL.out]; omega) hq2)
  have HZ3 := hid (fun sv w hs => zero_any ((il.drop (2 + n)).take (c - (2 + n))) q3 sv w hs (by rw [List.length_take]; omega) hq3)
  clear HB hq1 hq2 hq3
  go_upto_region 7 with fail
  go_cut [39] (fun v wc => v = .bool (!q1) ∧ w4 = wc)
  case first =>
    by_cases hk48 : c + 16 + 32 = k
    all_goals
      go_wp2_with fail
      refine (whole_any c w4 (by omega) (by omega)).mono ?_
      rintro e w' ⟨rfl, rfl⟩
      go_wp2_with fail
      refine (HZ1.out _ w4 ?sg).mono ?_
      case sg => exact HS4.out.from (by omega) (by rw [List.length_map, HFL.out]) (by omega) (by first | exact .inr (by omega) | exact .inl ⟨rfl, by omega⟩)
      rintro e w' ⟨rfl, rfl⟩
      go_wp2_with fail
      go_meet
      case rel => exact ⟨rfl, rfl⟩
  case rest =>
    obtain ⟨rfl, rfl⟩ := hcut
    cases q1 with
    | false =>
      have HX := hid (show false = b from HB2.out)
      clear HB2
      go_wp2_with fail
      go_ret2
      rw [UnpPost, ← HX.out]
      exact ⟨rfl, HF4.out⟩
    | true =>
      go_wp2_with fail
      refine (HZ2.out _ w4 ?sg).mono ?_
      case sg => exact HI4.out.from (by omega) (by rw [List.length_map, HILL.out]) (by omega) (.inr rfl)
      rintro e w' ⟨rfl, rfl⟩
      cases q2 with
      | false =>
        have HX := hid (show false = b from HB2.out)
        clear HB2
        go_wp2_with fail
        go_ret2
        rw [UnpPost, ← HX.out]
        exact ⟨rfl, HF4.out⟩
      | true =>
        by_cases hnc : n + 2 ≤ c
        · have b1 : decide ((n : Int) > (c : Int) - 2) = false := by simp; omega
          have e1 : decide (n + 2 ≤ c) = true := by simpa using hnc
          by_cases hn1 : n ≤ 1000
          · have e2 : decide (n ≤ 1000) = true := by simpa using hn1
            have HB3 := hid (show (decide (classN n = c) && q3) = b by rw [← HB2.out, e1, e2]; rfl)
            clear HB2 e1 e2
            go_wp2_with fail
            refine (HCL.out w4 hn1).mono ?_
            rintro e w' ⟨rfl, rfl⟩
            generalize classN n = cn at *
            by_cases hcn : cn = c
            · subst hcn
              have HB4 := hid (show q3 = b by rw [← HB3.out]; simp)
              clear HB3
              go_wp2_with fail
              refine (HZ3.out _ w4 ?sg).mono ?_
              case sg => exact HI4.out.sub (hi := cn) (by omega) (by rw [List.length_map, HILL.out]; omega) rfl
              rintro e w' ⟨rfl, rfl⟩
              cases q3 with
              | false =>
                go_wp2_with fail
                go_ret2
                rw [UnpPost, ← HB4.out]
                exact ⟨rfl, HF4.out⟩
              | true =>
                go_wp2_with fail
                all_goals
                  go_ret2
                  rw [UnpPost, ← HB4.out]
                  refine ⟨_, rfl, ?_, HF4.out⟩
                  first
                  | exact HI4.out.sub (lo := 2) (hi := 2 + n) (by omega) (by rw [List.length_map, HILL.out]; omega) (by omega)
                  | (have hn0 : n = 0 := by omega
                     rw [hn0]
                     exact ⟨some ⟨g3, 0, none⟩, 0, rfl, (fun h => by cases h), fun a ha j u hu => by simp at hu⟩)
            · have e3 : decide (cn = c) = false := by simpa using hcn
              have HX := hid (show false = b by rw [← HB3.out, e3]; rfl)
              have b2 : ((cn : Int) != (c : Int)) = true := by rw [bne_iff_ne]; omega
              clear HB3 e3
              go_wp2_with fail
              go_ret2
              rw [UnpPost, ← HX.out]
              exact ⟨rfl, HF4.out⟩
          · have e2 : decide (n ≤ 1000) = false := by simpa using hn1
            have HX := hid (show false = b by rw [← HB2.out, e1, e2]; rfl)
            clear HB2 e1 e2
            go_wp2_with fail
            refine (class_out (n : Int) w4 (.inr (by omega))).mono ?_
            rintro e w' ⟨rfl, rfl⟩
            go_wp2_with fail
            go_ret2
            rw [UnpPost, ← HX.out]
            exact ⟨rfl, HF4.out⟩
        · have e1 : decide (n + 2 ≤ c) = false := by simpa using hnc
          have b1 : decide ((n : Int) > (c : Int) - 2) = true := by simp; omega
          have HX := hid (show false = b by rw [← HB2.out, e1]; rfl)
          clear HB2 e1
          go_wp2_with fail
          go_ret2
          rw [UnpPost, ← HX.out]
          exact ⟨rfl, HF4.out⟩
end Go.Proofs.Ytljddimmhjiehaa
