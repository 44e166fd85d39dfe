/- What Pack made tells the key and the secret: in plain lists. -/
import Derived.Test.YtljddimmhjiehaaA8
namespace Go.Proofs.Ytljddimmhjiehaa
open Go.RowKit

theorem keysOf_congr (t a b : Nat → BitVec 8) (h : ∀ i, i < 32 → a i = b i) : keysOf t a = keysOf t b := by
  have h0 : keyTo a 8 = keyTo b 8 := by
    funext j
    unfold keyTo
    split
    · exact h _ (by omega)
    · rfl
  have h1 : ∀ n, wordsTo t a n = wordsTo t b n := fun n => by
    induction n with
    | zero => rw [wordsTo, wordsTo, h0]
    | succ n ih => rw [wordsTo, wordsTo, ih]
  unfold keysOf
  rw [h1]
theorem hideL_twice (t ks x : Nat → BitVec 8) (l : List (BitVec 8)) : hideL t ks x (hideL t ks x l) = l := by
  apply List.ext_getElem?
  intro i
  by_cases hi : i < l.length
  · rw [hideL_get _ _ _ _ i (by rw [hideL_len]; exact hi), List.getD_eq_getElem?_getD, hideL_get _ _ _ _ i hi, Option.getD_some, BitVec.xor_assoc, BitVec.xor_self, BitVec.xor_zero, List.getD_eq_getElem?_getD, List.getElem?_eq_getElem hi]
    rfl
  · rw [List.getElem?_eq_none (by rw [hideL_len, hideL_len]; omega), List.getElem?_eq_none (by omega)]
theorem isZ_rep (n : Nat) : isZ (List.replicate n 0#8) = true := by simp [isZ]
section
variable (key : Nat → BitVec 8) (l : List (BitVec 8)) (c k : Nat)
theorem hidL_len : (hidL key l c).length = c + 16 := by rw [hidL, hideL_len, inL, List.length_map, List.length_range]
theorem full_take : (fullL key (hidL key l c) c k).take (c + 16) = hidL key l c := by
  have h := hidL_len key l c
  rw [fullL, List.append_assoc, ← h, List.take_left]
theorem full_key (i : Nat) (hi : i < 32) : keyF c (fullL key (hidL key l c) c k) i = key i := by
  have h := hidL_len key l c
  rw [keyF, full_take]
  show shaOf (hidL key l c) i ^^^ (fullL key (hidL key l c) c k).getD (c + 16 + i) 0#8 = _
  rw [fullL, List.append_assoc, List.getD_eq_getElem?_getD, List.getElem?_append_right (by omega), h, List.getElem?_append_left (by simp; omega), List.getElem?_map, List.getElem?_range (by omega), show c + 16 + i - (c + 16) = i by omega]
  show shaOf (hidL key l c) i ^^^ (shaOf (hidL key l c) i ^^^ key i) = key i
  rw [← BitVec.xor_assoc, BitVec.xor_self, BitVec.zero_xor]
theorem full_inside : insideL (keyF c (fullL key (hidL key l c) c k)) c (fullL key (hidL key l c) c k) = inL l c := by
  rw [insideL, full_take, keysOf_congr tabF _ key (fun i hi => full_key key l c k i hi), hidL, hideL_twice]
theorem full_tail : isZ ((fullL key (hidL key l c) c k).drop (c + 48)) = true := by
  have h := hidL_len key l c
  rw [fullL, List.drop_append_of_le_length (by simp [h]), List.drop_eq_nil_of_le (by simp [h]), List.nil_append, isZ_rep]
end
section
theorem isZ_take (x : List (BitVec 8)) (n : Nat) (hx : isZ x = true) : isZ (x.take n) = true := by
  unfold isZ at *
  rw [List.all_eq_true] at *
  exact fun y hy => hx y (List.mem_of_mem_take hy)
variable (l : List (BitVec 8)) (c : Nat) (h : l.length + 2 ≤ c) (hl : l.length ≤ 1000)
include hl
theorem in_n : nOf (inL l c) = l.length := by
  have h0 : (inL l c).getD 0 0#8 = BitVec.ofNat 8 (l.length / 256) := by
    rw [inL, List.getD_eq_getElem?_getD, List.getElem?_map, List.getElem?_range (by omega)]
    rfl
  have h1 : (inL l c).getD 1 0#8 = BitVec.ofNat 8 l.length := by
    rw [inL, List.getD_eq_getElem?_getD, List.getElem?_map, List.getElem?_range (by omega)]
    rfl
  rw [nOf, h0, h1, BitVec.toNat_ofNat, BitVec.toNat_ofNat]
  omega
include h
theorem in_out : ((inL l c).drop 2).take l.length = l := by
  have e := bytesL_len (BitVec.ofNat 64 l.length) 2
  have e2 : ∀ r : List (BitVec 8), (bytesL (BitVec.ofNat 64 l.length) 2 ++ r).drop 2 = r := fun r => by rw [List.drop_append_of_le_length (by omega), List.drop_eq_nil_of_le (by omega), List.nil_append]
  rw [← inL_eq l c h hl, List.append_assoc, e2, List.take_left]
theorem in_rest (m : Nat) (hm : 2 + l.length ≤ m) : isZ ((inL l c).drop m) = true := by
  rw [← inL_eq l c h hl, show m = (bytesL (BitVec.ofNat 64 l.length) 2 ++ l).length + (m - (2 + l.length)) by rw [List.length_append, bytesL_len]; omega, ← List.drop_drop, List.drop_left, List.drop_replicate, isZ_rep]
theorem in_unpB (key : Nat → BitVec 8) (k : Nat) (hc : classN l.length = c) : unpB c l.length (fullL key (hidL key l c) c k) (inL l c) = true := by
  rw [unpB, full_tail, in_rest l c h hl c (by omega), isZ_take _ _ (in_rest l c h hl _ (Nat.le_refl _)), hc]
  simp
  omega
end
end Go.Proofs.Ytljddimmhjiehaa
/- The law AontPack: any secret is packed as the document says, or refused; what is packed tells the key, and the secret. -/
namespace Go.Proofs.Ytljddimmhjiehaa
open Go.RowKit

theorem New.empty8 (w : World) : New w (w.alloc (.cells #[] 5)) 5 (.slice (some ⟨w.heap.size, 0, none⟩) 0 0) (([] : List (BitVec 8)).map W8) :=
  ⟨Own.of_row w 5 0 #[] rfl (by unfold maxLen; omega), (Frm.refl Nil w).alloc _, fun g hg => by simp only [Value.ownBlock, Option.some.injEq] at hg; omega⟩
/-- A whole load that waits for a guard, where the guard holds. -/
theorem wpList_load_g {P : Program} {ops : Array Oper} {rest : List Oper} {o : Oper} {a : Act} {w : World} {Q : Exit → Act → World → Prop} (hw : Region.wanted o (yielded ops a.tmps) = true) (ty : TypeId) (x : Operand) (ho : o.op = .load ty x)
    (g off n : Nat) (f : Nat → Value) (hx : a.eval x = .pointer (some ⟨g, off, none⟩)) (d : TypeDesc) (hc : ∀ i, i < n → w.cell? ⟨g, off + i, none⟩ = some (f i))
    (hu : P.underlying ty = some d) (hd : (match d with | .struct _ | .array _ _ => true | _ => false) = true) (hi : (P.info? ty).map (·.size) = some n)
    (h : wpList P ops Q rest (a.put o.dst (.agg (rowOf n f))) w) : wpList P ops Q (o :: rest) a w :=
  wpList_step fun _ hK => by
    rw [if_pos hw]
    unfold Oper.wp execOp
    simp only [ho, hx, Instr.loadAt, Instr.sureAddr, Sem.run_bind, Sem.run_pure, Result.andThen_ok, run_loadVar_fn w g off n ty f d hc hu hd hi]
    exact hK _ _ h
theorem wpList_eql_key {ops : Array Oper} {rest : List Oper} {o : Oper} {a : Act} {w : World} {Q : Exit → Act → World → Prop} (hw : Region.wanted o (yielded ops a.tmps) = true) (x y : Operand) (ho : o.op = .binOp .eql 26 x y 26)
    (f g : Nat → BitVec 8) (hx : a.eval x = .agg (rowOf 32 (w8 f))) (hy : a.eval y = .agg (rowOf 32 (w8 g)))
    (h : wpList Try.prog ops Q rest (a.put o.dst (.bool (allEq f g (List.range 32)))) w) : wpList Try.prog ops Q (o :: rest) a w :=
  wpList_step fun _ hK => by
    rw [if_pos hw]
    unfold Oper.wp execOp
    simp only [ho, hx, hy, Sem.run_bind, eqGuard_key, Result.andThen_ok, run_eql_key, Sem.run_pure]
    exact hK _ _ h
def PackSays (bs : List (List (BitVec 8))) (er : Int) (w : World) (e : Ending) (w' : World) : Prop := ∃ v, e = .returned (.tuple #[v, .int .i64 er]) ∧ Txts w' v bs ∧ Frm Nil w w'
set_option maxHeartbeats 4000000 in
set_option maxRecDepth 100000 in
theorem lawPack_core (k er : Int) (c : Nat) (l : List (BitVec 8)) (bs : List (List (BitVec 8))) (sv : Value) (key : Nat → BitVec 8) (w : World) (hs : Seg w sv (l.map W8)) (hlen : l.length ≤ 2000)
    (hbl : bs.length ≤ 255) (hsh : Short bs)
    (hpk : ∀ sv w, Seg w sv (l.map W8) → Calls Try.prog 7 #[.int .i64 k, sv, .agg (rowOf 32 (w8 key))] w fun e w' => PackSays bs er w e w')
    (hrp : ∀ sv w, Seg w sv (l.map W8) → Calls Try.prog 20 #[.agg (rowOf 256 (w8 tabF)), .int .i64 k, sv, .agg (rowOf 32 (w8 key))] w fun e w' => PackSays bs er w e w')
    (hgood : er ≠ 0 ∨ (er = 0 ∧ l.length ≤ 1000 ∧ classN l.length = c ∧ (∀ sv w, Txts w sv bs → Calls Try.prog 11 #[.int .i64 (c : Int), sv] w fun e w' => e = .returned (.tuple #[.agg (rowOf 32 (w8 key)), .int .i64 0]) ∧ Frm Nil w w') ∧
      (∀ sv w, Txts w sv bs → Calls Try.prog 15 #[.int .i64 (c : Int), sv] w fun e w' => ∃ v, e = .returned (.tuple #[v, .int .i64 0]) ∧ Seg w' v (l.map W8) ∧ Frm Nil w w'))) :
    Calls Try.prog 5 #[.int .i64 k, sv, .agg (rowOf 32 (w8 key))] w fun e w' => e = .returned (.bool true) ∧ Frm Nil w w' := by
  have HS := hid hs
  obtain ⟨ao, cp, rfl⟩ := hs.open8
  have HPK := hid hpk
  have HRP := hid hrp
  have HGD := hid hgood
  have HSH := hid hsh
  have ht : decide ((l.length : Int) > 2000) = false := by simp; omega
  clear hs hpk hrp hgood hsh
  go_enter Try.func5, Try.ntmps5
  have HK0 := hid (Row.new w 26 32 (w8 key))
  have HF0 := hid ((Frm.refl Nil w).alloc (.cells (rowOf 32 (w8 key)) 26))
  go_upto_region 1 with fail
  generalize w.alloc (.cells (rowOf 32 (w8 key)) 26) = w0 at HK0 HF0 ⊢
  go_upto_region 5 with (go_at_call 6; refine (wakes_any _).mono ?_; rintro e w' ⟨rfl, rfl⟩)
  go_wp2_with fail
  refine (table_any w0).mono ?_
  rintro e w1 ⟨rfl, hf1⟩
  have HK1 := hid (hf1.row HK0.out (by simp [Nil]))
  have HF1 := hid (HF0.out.trans hf1 (fun _ _ h => h))
  clear hf1 HK0 HF0
  go_upto_region 6 with (refine wpList_store_fn rfl 47 _ _ rfl rfl w1.heap.size 0 256 256 47 (w8 fun _ => 0#8) (w8 tabF) rfl rfl (Row.new w1 47 256 (w8 fun _ => 0#8)) (by kernel_rfl) (by omega) (fun _ _ => rfl) ?_)
  rw [zero8_256]
  have ht2 := (Row.new w1 47 256 (w8 fun _ => 0#8)).over (w8 tabF)
  have hf2 : Frm Nil w1 ((w1.alloc (.cells (rowOf 256 (w8 fun _ => 0#8)) 47)).setRow w1.heap.size (rowOf 256 (splice (w8 fun _ => 0#8) 0 256 (w8 tabF)))) :=
    ((Frm.refl Nil w1).alloc (.cells (rowOf 256 (w8 fun _ => 0#8)) 47)).setRow w1.heap.size _ (fun h => by omega)
  generalize (w1.alloc (.cells (rowOf 256 (w8 fun _ => 0#8)) 47)).setRow w1.heap.size (rowOf 256 (splice (w8 fun _ => 0#8) 0 256 (w8 tabF))) = w2 at ht2 hf2 ⊢
  generalize hB : w1.heap.size = B at *
  have HT2 := hid ht2
  have HK2 := hid (hf2.row HK1.out (by simp [Nil]))
  have HF2 := hid (HF1.out.trans hf2 (fun _ _ h => h))
  have HS2 := hid (HS.out.frm HF2.out (by simp [Nil]))
  clear ht2 hf2 hB HK1 HF1
  have HE2 := hid (New.empty8 w2)
  have HSE := hid (HS2.out.frm HE2.out.frm (by simp [Nil]))
  go_wp2_with (at_builtin; go_loud (refine app8 (l := []) HE2.out (by exact HSE.out) (by simp; omega) rfl _ _ rfl (by rfl) (by rfl) ?_))
  intro q3 w3 hn3 _ _
  have hn4 : New w2 w3 5 q3 (l.map W8) := by simpa using hn3
  have HO3 := hid hn4.own.seg
  have HT3 := hid (hn4.frm.row HT2.out (by simp [Nil]))
  have HK3 := hid (hn4.frm.row HK2.out (by simp [Nil]))
  have HF3 := hid (HF2.out.trans hn4.frm (fun _ _ h => h))
  clear hn3 hn4 HE2 HSE HT2 HK2 HF2 HS2
  have HC3 : Hid (∀ i, i < 32 → w3.cell? ⟨w.heap.size, 0 + i, none⟩ = some (w8 key i)) := fun i hi => by rw [Nat.zero_add]; exact HK3.out.cell i hi
  go_wp2_with (refine wpList_load_fn rfl 26 _ rfl w.heap.size 0 32 (w8 key) rfl _ HC3.out Try.underlying26 rfl (by kernel_rfl) ?_)
  refine (HPK.out q3 w3 HO3.out).mono ?_
  rintro e w4 ⟨v4, rfl, ht4, hf4⟩
  have HV4 := hid ht4
  have HO4 := hid (HO3.out.frm hf4 (by simp [Nil]))
  have HT4 := hid (hf4.row HT3.out (by simp [Nil]))
  have HK4 := hid (hf4.row HK3.out (by simp [Nil]))
  have HF4 := hid (HF3.out.trans hf4 (fun _ _ h => h))
  have HS4 := hid (HS.out.frm HF4.out (by simp [Nil]))
  clear ht4 hf4 HO3 HT3 HK3 HF3 HC3
  have HC4 : Hid (∀ i, i < 32 → w4.cell? ⟨w.heap.size, 0 + i, none⟩ = some (w8 key i)) := fun i hi => by rw [Nat.zero_add]; exact HK4.out.cell i hi
  have HC5 : Hid (∀ i, i < 256 → w4.cell? ⟨B, 0 + i, none⟩ = some (w8 tabF i)) := fun i hi => by rw [Nat.zero_add]; exact HT4.out.cell i hi
  go_wp2_with (first | (refine wpList_load_fn rfl 47 _ rfl B 0 256 (w8 tabF) rfl _ HC5.out Try.underlying47 rfl (by kernel_rfl) ?_) | (refine wpList_load_fn rfl 26 _ rfl w.heap.size 0 32 (w8 key) rfl _ HC4.out Try.underlying26 rfl (by kernel_rfl) ?_))
  refine (HRP.out _ w4 HS4.out).mono ?_
  rintro e w5 ⟨v5, rfl, ht5, hf5⟩
  have HX5 := hid ht5
  have HV5 := hid (HV4.out.frm hf5)
  have HO5 := hid (HO4.out.frm hf5 (by simp [Nil]))
  have HK5 := hid (hf5.row HK4.out (by simp [Nil]))
  have HF5 := hid (HF4.out.trans hf5 (fun _ _ h => h))
  have HS5 := hid (HS4.out.frm hf5 (by simp [Nil]))
  clear ht5 hf5 HV4 HO4 HT4 HK4 HF4 HC4 HC5 HS4
  go_wp2_with fail
  refine (sameAll_any bs bs true v4 v5 w5 HV5.out HX5.out (by omega) (by omega) HSH.out HSH.out (by simp)).mono ?_
  rintro e w6 ⟨rfl, hf6⟩
  have HV6 := hid (HV5.out.frm hf6)
  have HO6 := hid (HO5.out.frm hf6 (by simp [Nil]))
  have HK6 := hid (hf6.row HK5.out (by simp [Nil]))
  have HF6 := hid (HF5.out.trans hf6 (fun _ _ h => h))
  have HS6 := hid (HS5.out.frm hf6 (by simp [Nil]))
  clear hf6 HX5 HV5 HO5 HK5 HF5 HS5
  go_wp2_with fail
  refine (same_any l l true _ _ w6 HO6.out HS6.out (by omega) (by omega) (by simp)).mono ?_
  rintro e w7 ⟨rfl, hf7⟩
  have HV7 := hid (HV6.out.frm hf7)
  have HK7 := hid (hf7.row HK6.out (by simp [Nil]))
  have HF7 := hid (HF6.out.trans hf7 (fun _ _ h => h))
  have HS7 := hid (HS6.out.frm hf7 (by simp [Nil]))
  clear hf7 HV6 HO6 HK6 HF6 HS6
  rcases HGD.out with hbad | ⟨rfl, hl1, hc, hk, hu⟩
  · have b1 : (er != 0) = true := by rw [bne_iff_ne]; exact hbad
    go_wp2_with fail
    go_ret
    exact ⟨rfl, HF7.out⟩
  · have HCL := hid (fun w => class_in l.length w hl1)
    rw [hc] at HCL
    have HKY := hid hk
    have HUN := hid hu
    clear hc hk hu HGD
    go_wp2_with fail
    refine (HCL.out w7).mono ?_
    rintro e w' ⟨rfl, rfl⟩
    go_wp2_with fail
    refine (HKY.out _ w7 HV7.out).mono ?_
    rintro e w8x ⟨rfl, hf8⟩
    have HV8 := hid (HV7.out.frm hf8)
    have HK8 := hid (hf8.row HK7.out (by simp [Nil]))
    have HF8 := hid (HF7.out.trans hf8 (fun _ _ h => h))
    have HS8 := hid (HS7.out.frm hf8 (by simp [Nil]))
    clear hf8 HV7 HK7 HF7 HS7
    go_upto_region 15 with (refine wpList_store_fn rfl 26 _ _ rfl rfl w8x.heap.size 0 32 32 26 (w8 fun _ => 0#8) (w8 key) rfl rfl (Row.new w8x 26 32 (w8 fun _ => 0#8)) (by kernel_rfl) (by omega) (fun _ _ => rfl) ?_)
    rw [zero8x32]
    have hq9 := (Row.new w8x 26 32 (w8 fun _ => 0#8)).over (w8 key)
    have hf9 : Frm Nil w8x ((w8x.alloc (.cells (rowOf 32 (w8 fun _ => 0#8)) 26)).setRow w8x.heap.size (rowOf 32 (splice (w8 fun _ => 0#8) 0 32 (w8 key)))) :=
      ((Frm.refl Nil w8x).alloc (.cells (rowOf 32 (w8 fun _ => 0#8)) 26)).setRow w8x.heap.size _ (fun h => by omega)
    generalize (w8x.alloc (.cells (rowOf 32 (w8 fun _ => 0#8)) 26)).setRow w8x.heap.size (rowOf 32 (splice (w8 fun _ => 0#8) 0 32 (w8 key))) = w9 at hq9 hf9 ⊢
    generalize w8x.heap.size = G at *
    have HQ9 := hid hq9
    have HV9 := hid (HV8.out.frm hf9)
    have HK9 := hid (hf9.row HK8.out (by simp [Nil]))
    have HF9 := hid (HF8.out.trans hf9 (fun _ _ h => h))
    have HS9 := hid (HS8.out.frm hf9 (by simp [Nil]))
    clear hq9 hf9 HV8 HK8 HF8 HS8
    go_wp2_with fail
    refine (HUN.out _ w9 HV9.out).mono ?_
    rintro e wa ⟨va, rfl, hsa, hfa⟩
    have HSA := hid hsa
    have HQA := hid (hfa.row HQ9.out (by simp [Nil]))
    have HKA := hid (hfa.row HK9.out (by simp [Nil]))
    have HFA := hid (HF9.out.trans hfa (fun _ _ h => h))
    have HSS := hid (HS9.out.frm hfa (by simp [Nil]))
    clear hsa hfa HV9 HQ9 HK9 HF9 HS9
    have HCA : Hid (∀ i, i < 32 → wa.cell? ⟨w.heap.size, 0 + i, none⟩ = some (w8 key i)) := fun i hi => by rw [Nat.zero_add]; exact HKA.out.cell i hi
    have HCB : Hid (∀ i, i < 32 → wa.cell? ⟨G, 0 + i, none⟩ = some (w8 key i)) := fun i hi => by rw [Nat.zero_add]; exact HQA.out.cell i hi
    have HEQ := hid (show allEq key key (List.range 32) = true by rw [allEq_iff]; exact fun _ _ => rfl)
    go_wp2_with (first | (refine wpList_load_g rfl 26 _ rfl w.heap.size 0 32 (w8 key) rfl _ HCA.out Try.underlying26 rfl (by kernel_rfl) ?_) | (refine wpList_load_g rfl 26 _ rfl G 0 32 (w8 key) rfl _ HCB.out Try.underlying26 rfl (by kernel_rfl) ?_) | (refine wpList_eql_key rfl _ _ rfl key key rfl rfl ?_; rw [HEQ.out]))
    refine (same_any l l true _ _ wa HSA.out HSS.out (by omega) (by omega) (by simp)).mono ?_
    rintro e wb ⟨rfl, hfb⟩
    have HFB := hid (HFA.out.trans hfb (fun _ _ h => h))
    clear hfb
    go_wp2_with fail
    go_ret
    exact ⟨rfl, HFB.out⟩
end Go.Proofs.Ytljddimmhjiehaa
