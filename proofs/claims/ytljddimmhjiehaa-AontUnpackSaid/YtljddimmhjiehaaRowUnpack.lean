/- AontUnpack returns true at every input: any slices tell the key, and the secret, that the document says, or are refused; they stay as they were; its arguments read behind the call as before. No condition. -/
import Derived.Test.YtljddimmhjiehaaRowAll
import Derived.Deep.Matrix
import Derived.Test.YtljddimmhjiehaaU
namespace Go.Proofs.Ytljddimmhjiehaa
open Go.ChangeShapes Go.WideShapes Go.ChangeAt Go.RowKit Go.Deep

theorem row_cells22 : Try.prog.cellsOf 22 = 1 := by kernel_rfl
theorem spot_of_cell {w : World} {a : Addr} {v : Value} (h : w.cell? a = some v) : a.spot = none := by
  unfold World.cell? at h
  split at h
  · split at h
    · cases h
    · rename_i hs; simpa using hs
  · cases h
theorem seg_of_row {W : World} {A : Option Addr} {L C : Nat} {Z : List Int} (hL : L ≤ C) (hz : Z.length = C) (hw : ∀ n ∈ Z, (Lit.int .u8 n).wf = true) (hnil : A = none → C = 0) (hcell : ∀ a', A = some a' → ∀ c, c < C → W.cell? (a'.add c) = some (.int .u8 (Z.getD c 0))) :
    Seg W (.slice A L C) ((ofZ (Z.take L)).map W8) := by
  cases A with
  | none =>
    obtain rfl := hnil rfl
    obtain rfl : L = 0 := by omega
    exact ⟨none, 0, by simp [ofZ], fun _ => ⟨by simp [ofZ], rfl⟩, fun a h => by cases h⟩
  | some a => exact seg_of_ints hz hL (fun i hi => hcell a rfl i (by omega)) hw
theorem txts_of_rows {W : World} {a : Addr} {len cap : Nat} {A : Nat → Option Addr} {L C : Nat → Nat} {Z : Nat → List Int} (hl : len ≤ cap)
    (h : ∀ r, r < cap → W.cell? (a.add r) = some (.slice (A r) (L r) (C r)) ∧ Seg W (.slice (A r) (L r) (C r)) ((ofZ ((Z r).take (L r))).map W8)) :
    Txts W (.slice (some a) len cap) ((List.range len).map fun r => ofZ ((Z r).take (L r))) := by
  by_cases h0 : len = 0
  · subst h0
    exact .inl ⟨⟨_, _, rfl⟩, rfl⟩
  · have hs : a.spot = none := by
      have := (h 0 (by omega)).1
      rw [Addr.add_zero'] at this
      exact spot_of_cell this
    obtain ⟨b, o, sp⟩ := a
    simp only at hs
    subst hs
    refine .inr ⟨b, o, cap, fun r => .slice (A r) (L r) (C r), by simp, by simpa using hl, fun j hj => ?_⟩
    have hj2 : j < len := by simpa using hj
    have h1 := h j (by omega)
    rw [Addr.add_lit] at h1
    have e : ((List.range len).map fun r => ofZ ((Z r).take (L r))).getD j [] = ofZ ((Z j).take (L j)) := by
      rw [List.getD_eq_getElem?_getD, List.getElem?_map, List.getElem?_range hj2]; rfl
    rw [e]
    exact h1
set_option maxHeartbeats 800000 in
set_option maxRecDepth 100000 in
theorem unpack_lifted (os : Os) (started : os.Started) (H : Type) (enc : TypeId × Value → H) :
    ReturnsInHanded {} Try.checked os 4 .any (Rows.aontUnpackSpec.pre6 enc Try.prog Try.f4 Rows.aontUnpackRow.domain false) (Rows.aontUnpackSpec.post enc Try.prog Try.f4 false true false false) := by
  refine returnsInHanded_of_change (C := Try.checked) row_own started (by kernel_rfl) Try.func4
    (ChangeSpec.witness6 (enc := enc) (C := Try.checked) false ⟨#[], #[.int .i64 0, .slice none 0 0], []⟩ 8 (by kernel_rfl) (by kernel_rfl) (by kernel_rfl) (by kernel_rfl)) ?_
  intro W base args ds gs before hval0 hW _ _
  have hval : ∀ (j : Nat) t v, Try.f4.params[j]? = some t → args[j]? = some v → Value.okWide Try.prog W .any base t v := hval0
  have hW' := hW
  obtain ⟨p, q, hA0, hV, rfl, _, _⟩ := hW
  have hA : DataW.TrodAll enc Try.prog W 0 (fun _ => true) true Try.f4.params.toList args.toList ds p := hA0
  rw [Try.params4] at hA hval
  obtain ⟨v0, vs0, d0, ds0, p0, q0, hargs, rfl, rfl, h0, r0⟩ := trodAll_cons hA
  obtain ⟨v1, vs1, d1, ds1, p1, q1, hargs1, rfl, rfl, h1, r1⟩ := trodAll_cons r0
  obtain ⟨rfl, rfl, rfl⟩ := trodAll_nil r1
  obtain rfl : args = #[v0, v1] := by cases args; simp_all
  obtain ⟨rfl, rfl⟩ := trodVars_none hV
  clear hA hargs1 hA0 hval0
  have hlt : ∀ x ∈ p0 ++ (p1 ++ []), x.block < W.heap.size := fun x hx => by
    have := hW'.lt x (by simpa using hx)
    simpa using this
  have k0 := fun (W' : World) (hb : Below W.heap.size W W') => Below.trod (P := Try.prog) row_laidOut (by kernel_rfl) (of_decide_eq_true (by kernel_rfl)) h0 hb (fun x hx => hlt x (List.mem_append_left _ hx))
  have k1 := fun (W' : World) (hb : Below W.heap.size W W') => Below.trod (P := Try.prog) row_laidOut (by kernel_rfl) (of_decide_eq_true (by kernel_rfl)) h1 hb (fun x hx => hlt x (List.mem_append_right _ (List.mem_append_left _ hx)))
  have main : Calls Try.prog 4 #[v0, v1] W fun e w' => e = .returned (.bool true) ∧ Frm Nil W w' := by
    obtain ⟨a0, rfl, _, _, w0⟩ := open_int Try.underlying3 (hval 0 3 v0 rfl rfl) h0
    have hb0 : -9223372036854775808 ≤ a0 ∧ a0 ≤ 9223372036854775807 := by simpa [Lit.wf, IntKind.min, IntKind.max, IntKind.signed, IntKind.bits] using w0
    obtain ⟨av, len, cap, rfl⟩ := okWide_slice Try.underlying27 (hval 1 27 v1 rfl rfl)
    obtain ⟨fuel, hf⟩ := h1
    rcases open_int_rows Try.underlying27 Try.underlying22 Try.underlying5 row_cells22 row_cells5 hf with ⟨hcs, hx⟩ | ⟨a, len', cap', A, L, C, Z, hcs, _, hl, hm, hx, hrow⟩
    · simp [Value.cells] at hcs
      obtain ⟨rfl, rfl, rfl⟩ := hcs
      exact lawUnpack_any _ [] (.slice none 0 0) W (.inl ⟨⟨_, _, rfl⟩, rfl⟩) hb0.1 hb0.2
    · simp [Value.cells] at hcs
      obtain ⟨rfl, rfl, rfl⟩ := hcs
      refine lawUnpack_any _ _ (.slice (some a) len cap) W (txts_of_rows (A := A) (L := L) (C := C) (Z := Z) hl fun r hr => ?_) hb0.1 hb0.2
      obtain ⟨e1, e2, e3, e4, e5, e6, e7⟩ := hrow r hr
      exact ⟨e1, seg_of_row e2 e4 e5 e6 fun a' ha c hc => (e7 a' ha).2 c hc⟩
  refine main.mono fun e W' ⟨he, hfr⟩ => ?_
  subst he
  exact ⟨_, rfl, _, _, _, [], _, [], hW', trodAll_mk1 (shut_bool Try.underlying4 true), trodAll_cons_mk (k0 W' hfr.toBelow) (trodAll_cons_mk (k1 W' hfr.toBelow) trodAll_mk0), rfl, hfr.toBelow.frame _, fun h => by cases h⟩
theorem unpack_holds : Rows.AontUnpackSaid :=
  OpenClaim.holds_of_wide 4 Try.f4 rfl rfl rfl rfl rfl rfl rfl ⟨rfl, rfl, rfl, rfl, rfl⟩ rfl rfl rfl rfl rfl (by kernel_rfl) Try.func4 (by kernel_rfl)
    (of_decide_eq_true (by kernel_rfl)) (by unfold Func.isWrapper; first | (rw [if_pos (by decide +kernel)]; kernel_rfl) | (rw [if_neg (by decide +kernel)]; exact ⟨rfl, rfl⟩))
    (fun os started H enc _ => unpack_lifted os started H enc)
#print axioms unpack_holds
end Go.Proofs.Ytljddimmhjiehaa
