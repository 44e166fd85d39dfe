/- AontPack returns true at every input: any secret is packed as the document says, or refused; what is packed tells the key, and the secret; its arguments read behind the call as before. No condition. -/
import Derived.Test.YtljddimmhjiehaaRowAll
import Derived.Test.YtljddimmhjiehaaA9
namespace Go.Proofs.Ytljddimmhjiehaa
open Go.ChangeShapes Go.WideShapes Go.ChangeAt Go.RowKit

theorem PartsAt.short {N : Nat} {w : World} {v : Value} {sz : Nat} {bs : List (List (BitVec 8))} {gs : List (Nat × Nat)} (h : PartsAt N w v sz bs gs) (hz : sz ≤ 4611686018427387904) : Short bs := fun j hj => by rw [h.flat j hj]; exact hz
theorem lawPack_long (k : Int) (l : List (BitVec 8)) (sv : Value) (key : Nat → BitVec 8) (w : World) (hs : Seg w sv (l.map W8)) (hl : 2000 < l.length) (hl2 : l.length ≤ 9223372036854775807) :
    Calls Try.prog 5 #[.int .i64 k, sv, .agg (rowOf 32 (w8 key))] w fun e w' => e = .returned (.bool true) ∧ Frm Nil w w' := by
  obtain ⟨ao, cp, rfl⟩ := hs.open8
  clear hs
  have ht : decide ((l.length : Int) > 2000) = true := by simp; omega
  go_enter Try.func5, Try.ntmps5
  have HF0 := hid ((Frm.refl Nil w).alloc (.cells (rowOf 32 (w8 key)) 26))
  go_wp2_with (go_at_call 6; refine (wakes_any _).mono ?_; rintro e w' ⟨rfl, rfl⟩)
  go_ret
  exact ⟨rfl, HF0.out⟩
theorem lawPack_any (k : Int) (l : List (BitVec 8)) (sv : Value) (key : Nat → BitVec 8) (w : World) (hs : Seg w sv (l.map W8)) (hl2 : l.length ≤ 9223372036854775807) :
    Calls Try.prog 5 #[.int .i64 k, sv, .agg (rowOf 32 (w8 key))] w fun e w' => e = .returned (.bool true) ∧ Frm Nil w w' := by
  rcases Nat.lt_or_ge 2000 l.length with h | h
  · exact lawPack_long k l sv key w hs h hl2
  · have hnil : Short [] := fun j hj => by simp at hj
    rcases Nat.lt_or_ge 1000 l.length with h3 | h3
    · exact lawPack_core k 3 0 l [] sv key w hs h (by simp) hnil
        (fun sv w hs => (pack_long k l sv key w hs h3 (by omega)).mono fun e w' ⟨he, hf⟩ => ⟨_, he, .inl ⟨rfl, rfl⟩, hf⟩)
        (fun sv w hs => (rPack_long k l sv key w hs h3 (by omega)).mono fun e w' ⟨he, hf⟩ => ⟨_, he, .inl ⟨rfl, rfl⟩, hf⟩) (.inl (by decide))
    · by_cases hk : 1 ≤ k ∧ k ≤ 255
      · obtain ⟨n, rfl⟩ := Int.eq_ofNat_of_zero_le (show 0 ≤ k by omega)
        have hn : 1 ≤ n ∧ n ≤ 255 := by omega
        obtain ⟨hn1, hn2⟩ := hn
        have hcs := classN_spec l.length h3
        have hsz := sizeN_bounds (classN l.length) n hn1
        have hb := partsOf_len (fullL key (hidL key l (classN l.length)) (classN l.length) n) (sizeN (classN l.length) n) n
        have hfl : (partsOf (fullL key (hidL key l (classN l.length)) (classN l.length) n) (sizeN (classN l.length) n) n).flatten = fullL key (hidL key l (classN l.length)) (classN l.length) n := by
          have hw := whole_len key l (classN l.length) n hn1
          rw [partsOf_flat _ _ _ (by rw [hw, Nat.mul_comm]; exact Nat.le_refl _), Nat.mul_comm, ← hw, List.take_length]
        have hc4 : classN l.length ≤ 1024 := by have := hcs.1; unfold IsCls at this; omega
        have hflat : Flat (partsOf (fullL key (hidL key l (classN l.length)) (classN l.length) n) (sizeN (classN l.length) n) n) (sizeN (classN l.length) n) := fun j hj => by
          rw [hb] at hj
          have hw := whole_len key l (classN l.length) n hn1
          have hm : (j + 1) * sizeN (classN l.length) n ≤ n * sizeN (classN l.length) n := Nat.mul_le_mul_right _ hj
          rw [Nat.add_mul, Nat.one_mul, Nat.mul_comm n] at hm
          rw [partsOf, List.getD_eq_getElem?_getD, List.getElem?_map, List.getElem?_range hj]
          simp only [Option.map_some, Option.getD_some, List.length_take, List.length_drop]
          omega
        refine lawPack_core n 0 (classN l.length) l (partsOf (fullL key (hidL key l (classN l.length)) (classN l.length) n) (sizeN (classN l.length) n) n) sv key w hs h (by omega) (fun j hj => by rw [hflat j hj]; omega) (fun sv w hs => ?_) (fun sv w hs => ?_) (.inr ⟨rfl, h3, rfl, fun sv w hs => ?_, fun sv w hs => ?_⟩)
        · exact (pack_any n l sv key w hs h3 hn1 hn2).mono fun e w' ⟨v, gs, he, hf, hp⟩ => ⟨v, he, .inr (hp.texts (by omega)), hf⟩
        · exact (rPack_core n _ _ l _ _ sv key w hs h3 hn1 hn2 rfl rfl rfl rfl).mono fun e w' ⟨v, he, ht⟩ => ⟨v, he, ht.txts, ht.frm⟩
        · rcases hs with ⟨_, h0⟩ | hs
          · rw [h0] at hb; simp at hb; omega
          · have hk := key_ok (classN l.length) _ _ _ sv w hs hcs.1 (by omega) (by omega) (by rw [hb]) hflat rfl
            rw [hfl] at hk
            have e1 : rowOf 32 (w8 (keyF (classN l.length) (fullL key (hidL key l (classN l.length)) (classN l.length) n))) = rowOf 32 (w8 key) := rowOf_congr fun i hi => congrArg W8 (full_key key l (classN l.length) n i hi)
            rw [e1] at hk
            exact hk
        · rcases hs with ⟨_, h0⟩ | hs
          · rw [h0] at hb; simp at hb; omega
          · have hu := unpack_core (classN l.length) (sizeN (classN l.length) n) l.length true _ _ (inL l (classN l.length)) _ sv w hs hcs.1 (by omega) (by omega) (by rw [hb]) hflat hfl rfl (full_inside key l (classN l.length) n) (in_n l _ h3) (in_unpB l _ hcs.2.1 h3 key n rfl)
            rw [in_out l _ hcs.2.1 h3] at hu
            exact hu.mono fun e w' hp => by simpa [UnpPost] using hp
      · exact lawPack_core k 14 0 l [] sv key w hs h (by simp) hnil
          (fun sv w hs => (pack_odd k l sv key w hs h3 hk).mono fun e w' ⟨he, hf⟩ => ⟨_, he, .inl ⟨rfl, rfl⟩, hf⟩)
          (fun sv w hs => (rPack_odd k l sv key w hs h3 hk).mono fun e w' ⟨he, hf⟩ => ⟨_, he, .inl ⟨rfl, rfl⟩, hf⟩) (.inl (by decide))
theorem mapM_ints {H : Type} {enc : TypeId × Value → H} {P : Program} {W : World} {base : Nat} {sp : Nat → Bool} {held : Bool} {e : TypeId} {q : IntKind} (he : P.underlying e = some (.int q)) {m : Nat} {cs : List Value} {c : Nat} : ∀ (L : List Nat) (xs : List (DataW H × List MemPlace)),
    L.mapM (fun i => DataW.trod enc P W base sp held m e ((cs.drop (i * c)).take c)) = some xs → ∀ i ∈ L, ∃ a, (cs.drop (i * c)).take c = [.int q a] ∧ (Lit.int q a).wf = true
  | [], _, _, i, hi => by simp at hi
  | j :: L, xs, h, i, hi => by
    rw [List.mapM_cons] at h
    simp only [bind, Option.bind_eq_some_iff, pure, Option.some.injEq] at h
    obtain ⟨y, hy, ys, hys, rfl⟩ := h
    rcases List.mem_cons.1 hi with rfl | hi
    · obtain ⟨a, ea, _, wa⟩ := DataW.trod_int he hy
      exact ⟨a, ea, wa⟩
    · exact mapM_ints he L ys hys i hi
theorem row_of_cells (n : Nat) (xs : Array Value) (hn : xs.size = n) (h : ∀ i, i < n → ∃ x, xs[i]? = some (W8 x)) : ∃ f : Nat → BitVec 8, xs = rowOf n (w8 f) := by
  refine ⟨fun i => if hi : i < n then (h i hi).choose else 0#8, ?_⟩
  apply Array.ext_getElem?
  intro i
  by_cases hi : i < n
  · rw [rowOf_get n _ i hi, (h i hi).choose_spec]
    simp only [w8, dif_pos hi]
  · rw [Array.getElem?_eq_none (by omega), Array.getElem?_eq_none (by rw [rowOf_size]; omega)]
set_option maxRecDepth 100000 in
theorem open_key {H : Type} {enc : TypeId × Value → H} {W : World} {base b2 : Nat} {sp : Nat → Bool} {held : Bool} {v : Value} {d : DataW H} {ps : List MemPlace} (hv : Value.okWide Try.prog W .any base 26 v) (hd : DataW.Trod enc Try.prog W b2 sp held 26 v d ps) :
    ∃ key : Nat → BitVec 8, v = .agg (rowOf 32 (w8 key)) := by
  have hsz : Try.prog.cellsOf 26 = 32 := by kernel_rfl
  simp only [Value.okWide, Try.underlying26] at hv
  obtain ⟨xs, rfl, hn, _⟩ := hv
  rw [hsz] at hn
  obtain ⟨fuel, hf⟩ := hd
  cases fuel with
  | zero => simp [DataW.trod] at hf
  | succ m =>
    rw [DataW.trod_step] at hf
    unfold DataW.trodStep at hf
    simp only [Try.underlying26, Value.cells, row_cells5] at hf
    split at hf
    · simp only [Option.map_eq_some_iff] at hf
      obtain ⟨ys, hy, _⟩ := hf
      have hm := mapM_ints Try.underlying5 _ _ hy
      clear hy
      obtain ⟨f, hf⟩ := row_of_cells 32 xs hn fun i h2 => by
        obtain ⟨a, ha, wa⟩ := hm i (List.mem_range.2 h2)
        rw [Nat.mul_one] at ha
        have h5 := congrArg (fun l => l[0]?) ha
        simp only [List.getElem?_take, List.getElem?_drop, Nat.add_zero, Nat.lt_one_iff, if_true, List.getElem?_cons_zero, Array.getElem?_toList] at h5
        exact ⟨_, by rw [h5, w8_of_lit wa]⟩
      exact ⟨f, by rw [hf]⟩
    · cases hf
set_option maxHeartbeats 800000 in
set_option maxRecDepth 100000 in
theorem pack_lifted (os : Os) (started : os.Started) (H : Type) (enc : TypeId × Value → H) :
    ReturnsInHanded {} Try.checked os 5 .any (Rows.aontPackSpec.pre6 enc Try.prog Try.f5 Rows.aontPackRow.domain false) (Rows.aontPackSpec.post enc Try.prog Try.f5 false true false false) := by
  refine returnsInHanded_of_change (C := Try.checked) row_own started (by kernel_rfl) Try.func5
    (ChangeSpec.witness6 (enc := enc) (C := Try.checked) false ⟨#[], #[.int .i64 0, .slice none 0 0, .agg (Array.replicate 32 (.int .u8 0))], []⟩ 40 (by kernel_rfl) (by kernel_rfl) (by kernel_rfl) (by kernel_rfl)) ?_
  intro W base args ds gs before hval0 hW _ _
  have hval : ∀ (j : Nat) t v, Try.f5.params[j]? = some t → args[j]? = some v → Value.okWide Try.prog W .any base t v := hval0
  have hW' := hW
  obtain ⟨p, q, hA0, hV, rfl, _, _⟩ := hW
  have hA : DataW.TrodAll enc Try.prog W 0 (fun _ => true) true Try.f5.params.toList args.toList ds p := hA0
  rw [Try.params5] at hA hval
  obtain ⟨v0, vs0, d0, ds0, p0, q0, hargs, rfl, rfl, h0, r0⟩ := trodAll_cons hA
  obtain ⟨v1, vs1, d1, ds1, p1, q1, hargs1, rfl, rfl, h1, r1⟩ := trodAll_cons r0
  obtain ⟨v2, vs2, d2, ds2, p2, q2, hargs2, rfl, rfl, h2, r2⟩ := trodAll_cons r1
  obtain ⟨rfl, rfl, rfl⟩ := trodAll_nil r2
  obtain rfl : args = #[v0, v1, v2] := by cases args; simp_all
  obtain ⟨rfl, rfl⟩ := trodVars_none hV
  clear hA hargs1 hargs2 hA0 hval0
  have hlt : ∀ x ∈ p0 ++ (p1 ++ (p2 ++ [])), x.block < W.heap.size := fun x hx => by
    have := hW'.lt x (by simpa using hx)
    simpa using this
  have k0 := fun (W' : World) (hb : Below W.heap.size W W') => Below.trod (P := Try.prog) row_laidOut (by kernel_rfl) (of_decide_eq_true (by kernel_rfl)) h0 hb (fun x hx => hlt x (List.mem_append_left _ hx))
  have k1 := fun (W' : World) (hb : Below W.heap.size W W') => Below.trod (P := Try.prog) row_laidOut (by kernel_rfl) (of_decide_eq_true (by kernel_rfl)) h1 hb (fun x hx => hlt x (List.mem_append_right _ (List.mem_append_left _ hx)))
  have k2 := fun (W' : World) (hb : Below W.heap.size W W') => Below.trod (P := Try.prog) row_laidOut (by kernel_rfl) (of_decide_eq_true (by kernel_rfl)) h2 hb (fun x hx => hlt x (List.mem_append_right _ (List.mem_append_right _ (List.mem_append_left _ hx))))
  have main : Calls Try.prog 5 #[v0, v1, v2] W fun e w' => e = .returned (.bool true) ∧ Frm Nil W w' := by
    obtain ⟨a0, rfl, _, _, w0⟩ := open_int Try.underlying3 (hval 0 3 v0 rfl rfl) h0
    obtain ⟨key, rfl⟩ := open_key (hval 2 26 v2 rfl rfl) h2
    obtain ⟨av, len, cap, rfl⟩ := okWide_slice Try.underlying22 (hval 1 22 v1 rfl rfl)
    obtain ⟨fuel, hf⟩ := h1
    rcases open_ints Try.underlying22 Try.underlying5 row_cells5 hf with ⟨hcs, hx⟩ | ⟨a, len', cap', zs, hcs, _, hl, hm, hz, hx, hcell, hwz⟩
    · simp [Value.cells] at hcs
      obtain ⟨rfl, rfl, rfl⟩ := hcs
      exact lawPack_any _ [] (.slice none 0 0) _ W ⟨none, 0, rfl, fun _ => ⟨rfl, rfl⟩, fun a h => by cases h⟩ (by simp)
    · simp [Value.cells] at hcs
      obtain ⟨rfl, rfl, rfl⟩ := hcs
      simp only [if_true] at hz
      refine lawPack_any _ (ofZ (zs.take len)) (.slice (some a) len cap) _ W (seg_of_ints hz hl hcell hwz) ?_
      unfold maxLen at hm
      simp [ofZ]
      omega
  refine main.mono fun e W' ⟨he, hfr⟩ => ?_
  subst he
  exact ⟨_, rfl, _, _, _, [], _, [], hW', trodAll_mk1 (shut_bool Try.underlying4 true), trodAll_cons_mk (k0 W' hfr.toBelow) (trodAll_cons_mk (k1 W' hfr.toBelow) (trodAll_cons_mk (k2 W' hfr.toBelow) trodAll_mk0)), rfl, hfr.toBelow.frame _, fun h => by cases h⟩
theorem pack_holds : Rows.AontPackSaid :=
  OpenClaim.holds_of_wide 5 Try.f5 rfl rfl rfl rfl rfl rfl rfl ⟨rfl, rfl, rfl, rfl, rfl⟩ rfl rfl rfl rfl rfl (by kernel_rfl) Try.func5 (by kernel_rfl)
    (of_decide_eq_true (by kernel_rfl)) (by unfold Func.isWrapper; first | (rw [if_pos (by decide +kernel)]; kernel_rfl) | (rw [if_neg (by decide +kernel)]; exact ⟨rfl, rfl⟩))
    (fun os started H enc _ => pack_lifted os started H enc)
#print axioms pack_holds
end Go.Proofs.Ytljddimmhjiehaa
