/- AontAll returns true at every input: with one byte of the hidden part changed the key that comes out is turned by both digests; its arguments read behind the call as before. No condition. -/
import Derived.Test.YtljddimmhjiehaaRows
import Derived.Test.YtljddimmhjiehaaLawAll
import Derived.ProofKit
import Derived.OpenShut
namespace Go.Proofs.Ytljddimmhjiehaa
open Go.ChangeShapes Go.WideShapes Go.ChangeAt Go.RowKit

theorem row_own : ownKnob Try.prog.godebug = none := by kernel_rfl
theorem row_laidOut : laidOutB Try.prog = true := by kernel_rfl
theorem row_cells5 : Try.prog.cellsOf 5 = 1 := by kernel_rfl
def ofZ (zs : List Int) : List (BitVec 8) := zs.map fun n => BitVec.ofInt 8 n
theorem Frm.toBelow {w w' : World} (h : Frm Nil w w') : Below w.heap.size w w' := ⟨h.os, h.tape, h.output, h.size, fun k hk => h.block k hk (by simp [Nil])⟩
theorem seg_of_ints {W : World} {a : Addr} {len cap : Nat} {zs : List Int} (hz : zs.length = cap) (hl : len ≤ cap) (hcell : ∀ i, i < zs.length → W.cell? (a.add i) = some (.int .u8 (zs.getD i 0))) (hw : ∀ n ∈ zs, (Lit.int .u8 n).wf = true) :
    Seg W (.slice (some a) len cap) ((ofZ (zs.take len)).map W8) := by
  have hlen : (ofZ (zs.take len)).length = len := by simp [ofZ]; omega
  refine ⟨some a, cap, by rw [List.length_map, hlen], (fun h => by cases h), fun b hb j u hu => ?_⟩
  cases hb
  rw [List.getElem?_map] at hu
  obtain ⟨x, hx, rfl⟩ := Option.map_eq_some_iff.1 hu
  have hj : j < len := by have := (List.getElem?_eq_some_iff.1 hx).1; rw [hlen] at this; exact this
  rw [ofZ, List.getElem?_map, List.getElem?_take_of_lt hj, List.getElem?_eq_getElem (show j < zs.length by omega)] at hx
  cases hx
  rw [hcell j (by omega), List.getD_eq_getElem?_getD, List.getElem?_eq_getElem (show j < zs.length by omega)]
  have h2 := hw zs[j] (List.getElem_mem _)
  have h3 : 0 ≤ zs[j] ∧ zs[j] ≤ 255 := by simpa [Lit.wf, IntKind.min, IntKind.max, IntKind.signed, IntKind.bits] using h2
  show some (Value.int .u8 zs[j]) = some (W8 (BitVec.ofInt 8 zs[j]))
  rw [W8_of zs[j] h3.1 (by omega)]
theorem w8_of_lit {n : Int} (h : (Lit.int .u8 n).wf = true) : Value.int .u8 n = W8 (BitVec.ofInt 8 n) := by
  have h3 : 0 ≤ n ∧ n ≤ 255 := by simpa [Lit.wf, IntKind.min, IntKind.max, IntKind.signed, IntKind.bits] using h
  exact W8_of n h3.1 (by omega)
theorem w16_of_lit {n : Int} (h : (Lit.int .u16 n).wf = true) : Value.int .u16 n = W16 (BitVec.ofInt 16 n) := by
  have h3 : 0 ≤ n ∧ n ≤ 65535 := by simpa [Lit.wf, IntKind.min, IntKind.max, IntKind.signed, IntKind.bits] using h
  exact W16_of n h3.1 (by omega)
set_option maxHeartbeats 800000 in
set_option maxRecDepth 100000 in
theorem all_lifted (os : Os) (started : os.Started) (H : Type) (enc : TypeId × Value → H) :
    ReturnsInHanded {} Try.checked os 3 .any (Rows.aontAllSpec.pre6 enc Try.prog Try.f3 Rows.aontAllRow.domain false) (Rows.aontAllSpec.post enc Try.prog Try.f3 false true false false) := by
  refine returnsInHanded_of_change (C := Try.checked) row_own started (by kernel_rfl) Try.func3
    (ChangeSpec.witness6 (enc := enc) (C := Try.checked) false ⟨#[], #[.int .u8 0, .slice none 0 0, .int .u16 0], []⟩ 8 (by kernel_rfl) (by kernel_rfl) (by kernel_rfl) (by kernel_rfl)) ?_
  intro W base args ds gs before hval0 hW _ _
  have hval : ∀ (j : Nat) t v, Try.f3.params[j]? = some t → args[j]? = some v → Value.okWide Try.prog W .any base t v := hval0
  have hW' := hW
  obtain ⟨p, q, hA0, hV, rfl, _, _⟩ := hW
  have hA : DataW.TrodAll enc Try.prog W 0 (fun _ => true) true Try.f3.params.toList args.toList ds p := hA0
  rw [Try.params3] at hA hval
  have hA' := hA
  obtain ⟨v0, vs0, d0, ds0, p0, q0, hargs, rfl, rfl, h0, r0⟩ := trodAll_cons hA
  obtain ⟨v1, vs1, d1, ds1, p1, q1, hargs1, rfl, rfl, h1, r1⟩ := trodAll_cons r0
  obtain ⟨v2, vs2, d2, ds2, p2, q2, hargs2, rfl, rfl, h2, r2⟩ := trodAll_cons r1
  obtain ⟨rfl, rfl, rfl⟩ := trodAll_nil r2
  obtain rfl : args = #[v0, v1, v2] := by cases args; simp_all
  obtain ⟨rfl, rfl⟩ := trodVars_none hV
  clear hA' hA hargs1 hargs2 hA0 hval0
  have hlt : ∀ x ∈ p0 ++ (p1 ++ (p2 ++ [])), x.block < W.heap.size := fun x hx => by
    have := hW'.lt x (by simpa using hx)
    simpa using this
  have k0 := fun (W' : World) (hb : Below W.heap.size W W') => Below.trod (P := Try.prog) row_laidOut (by kernel_rfl) (of_decide_eq_true (by kernel_rfl)) h0 hb (fun x hx => hlt x (List.mem_append_left _ hx))
  have k1 := fun (W' : World) (hb : Below W.heap.size W W') => Below.trod (P := Try.prog) row_laidOut (by kernel_rfl) (of_decide_eq_true (by kernel_rfl)) h1 hb (fun x hx => hlt x (List.mem_append_right _ (List.mem_append_left _ hx)))
  have k2 := fun (W' : World) (hb : Below W.heap.size W W') => Below.trod (P := Try.prog) row_laidOut (by kernel_rfl) (of_decide_eq_true (by kernel_rfl)) h2 hb (fun x hx => hlt x (List.mem_append_right _ (List.mem_append_right _ (List.mem_append_left _ hx))))
  have main : Calls Try.prog 3 #[v0, v1, v2] W fun e w' => e = .returned (.bool true) ∧ Frm Nil W w' := by
    obtain ⟨a0, rfl, _, _, w0⟩ := open_int Try.underlying5 (hval 0 5 v0 rfl rfl) h0
    obtain ⟨a2, rfl, _, _, w2⟩ := open_int Try.underlying23 (hval 2 23 v2 rfl rfl) h2
    rw [w8_of_lit w0, w16_of_lit w2]
    obtain ⟨av, len, cap, rfl⟩ := okWide_slice Try.underlying22 (hval 1 22 v1 rfl rfl)
    obtain ⟨fuel, hf⟩ := h1
    rcases open_ints Try.underlying22 Try.underlying5 row_cells5 hf with ⟨hcs, hx⟩ | ⟨a, len', cap', zs, hcs, _, hl, hm, hz, hx, hcell, hwz⟩
    · simp [Value.cells] at hcs
      obtain ⟨rfl, rfl, rfl⟩ := hcs
      exact lawAll_any _ [] (.slice none 0 0) _ W ⟨none, 0, rfl, fun _ => ⟨rfl, rfl⟩, fun a h => by cases h⟩ (by simp)
    · simp [Value.cells] at hcs
      obtain ⟨rfl, rfl, rfl⟩ := hcs
      simp only [if_true] at hz
      refine lawAll_any _ (ofZ (zs.take len)) (.slice (some a) len cap) _ W (seg_of_ints hz hl hcell hwz) ?_
      unfold maxLen at hm
      simp [ofZ]
      omega
  refine main.mono fun e W' ⟨he, hfr⟩ => ?_
  subst he
  exact ⟨_, rfl, _, _, _, [], _, [], hW', trodAll_mk1 (shut_bool Try.underlying4 true), trodAll_cons_mk (k0 W' hfr.toBelow) (trodAll_cons_mk (k1 W' hfr.toBelow) (trodAll_cons_mk (k2 W' hfr.toBelow) trodAll_mk0)), rfl, hfr.toBelow.frame _, fun h => by cases h⟩
theorem all_holds : Rows.AontAllSaid :=
  OpenClaim.holds_of_wide 3 Try.f3 rfl rfl rfl rfl rfl rfl rfl ⟨rfl, rfl, rfl, rfl, rfl⟩ rfl rfl rfl rfl rfl (by kernel_rfl) Try.func3 (by kernel_rfl)
    (of_decide_eq_true (by kernel_rfl)) (by unfold Func.isWrapper; first | (rw [if_pos (by decide +kernel)]; kernel_rfl) | (rw [if_neg (by decide +kernel)]; exact ⟨rfl, rfl⟩))
    (fun os started H enc _ => all_lifted os started H enc)
#print axioms all_holds
end Go.Proofs.Ytljddimmhjiehaa
