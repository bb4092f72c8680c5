/- FlowMost, for every input: the call returns true, and each argument reads afterwards as it read before. -/
import Derived.Test.YtnhodgonmceojaaGH
import Derived.Test.YtnhodgonmceojaaFQ
import Derived.Test.YtnhodgonmceojaaRows
set_option linter.unusedVariables false
set_option linter.unusedSimpArgs false
namespace Go.Proofs.Ytnhodgonmceojaa.flowMost
open Go.ChangeShapes Go.WideShapes Go.ChangeAt Go.RowKit

theorem own : ownKnob Try.prog.godebug = none := by kernel_rfl
set_option maxRecDepth 20000 in
theorem contract (H : Type) (enc : TypeId × Value → H) (W : World) (base : Nat) (args : Array Value) (ds gs : List (DataW H)) (before : List MemPlace)
    (hval : ∀ (j : Nat) t v, Try.f4.params[j]? = some t → args[j]? = some v → Value.okWide Try.prog W .any base t v)
    (hW : DataW.Whole enc Try.prog Try.f4.params.toList Rows.flowMostSpec.vars false W args.toList ds gs before) :
    Calls Try.prog 4 args W fun e W' => ∃ v, e = .returned v ∧ Rows.flowMostSpec.post enc Try.prog Try.f4 false true false false W args v W' := by
  refine Sh.law_contract (tb := 4) (by kernel_rfl) (by kernel_rfl) (by kernel_rfl) (by rw [Try.params4]; decide) rfl (by kernel_rfl) Try.underlying4 ?_ hW ?_
  · intro H ds hl
    rw [Try.params4] at hl
    match ds, hl with
    | [d1, d2], _ => rfl
  · obtain ⟨p, q, hA0, hV, rfl, hfz, hnd⟩ := hW
    have hA : DataW.TrodAll enc Try.prog W 0 (fun _ => true) true Try.f4.params.toList args.toList ds p := hA0
    rw [Try.params4] at hA hval
    obtain ⟨v0, vs0, d0, ds0, p0, q0, hargs, rfl, rfl, h0, r0⟩ := trodAll_cons hA
    obtain ⟨v1, vs1, d1, ds1, p1, q1, rfl, rfl, rfl, h1, r1⟩ := trodAll_cons r0
    obtain ⟨rfl, rfl, rfl⟩ := trodAll_nil r1
    obtain rfl : args = #[v0, v1] := by cases args; simp_all
    obtain ⟨n, v', l, e1, e2, e3, e4⟩ := Sh.net_facts (hval 0 24 v0 rfl rfl) h0
    obtain ⟨a, b, e5, _⟩ := Sh.pair_facts Try.underlying38 Try.underlying3 (by kernel_rfl) (by kernel_rfl) (hval 1 38 v1 rfl rfl) h1
    have he : [v0, v1].map (Sh.absV W.heap.size) = [.agg #[.int .i64 n, v'], .agg #[.int .i64 a, .int .i64 b]] := by
      rw [List.map_cons, e1, List.map_cons, e5]; rfl
    show Sh.ACalls Try.prog Sh.Γ0 4 ([v0, v1].map (Sh.absV W.heap.size)) (Sh.mem0 W) _
    rw [he]
    exact (Sh.flowMost_spec Sh.Γ0_mono n a b l v' _ e2 (by unfold maxLen at e3; omega)).mono fun r m' h => h.1

set_option maxRecDepth 100000 in
theorem lifted (os : Os) (started : os.Started) (H : Type) (enc : TypeId × Value → H) :
    ReturnsInHanded {} Try.checked os 4 .any (Rows.flowMostSpec.pre6 enc Try.prog Try.f4 Rows.flowMostRow.domain false) (Rows.flowMostSpec.post enc Try.prog Try.f4 false true false false) := by
  refine returnsInHanded_of_change (C := Try.checked) own started (by kernel_rfl) Try.func4
    (ChangeSpec.witness6 (enc := enc) (C := Try.checked) false ⟨#[], #[.agg #[.int .i64 0, .slice none 0 0], .agg #[.int .i64 0, .int .i64 0]], []⟩ 8 (by kernel_rfl) (by kernel_rfl) (by kernel_rfl) (by kernel_rfl)) ?_
  intro W base args ds gs before hval hW _ _
  exact contract H enc W base args ds gs before hval hW

theorem proved : Rows.FlowMostSaid :=
  OpenClaim.holds_of_wide 4 Try.f4 rfl rfl rfl rfl rfl rfl rfl ⟨rfl, rfl, rfl, rfl, rfl⟩ rfl rfl rfl rfl rfl (by kernel_rfl) Try.func4 (by kernel_rfl)
    (of_decide_eq_true (by kernel_rfl)) (by unfold Func.isWrapper; first | (rw [if_pos (by decide +kernel)]; kernel_rfl) | (rw [if_neg (by decide +kernel)]; exact ⟨rfl, rfl⟩))
    (fun os started H enc _ => lifted os started H enc)
#print axioms proved
end Go.Proofs.Ytnhodgonmceojaa.flowMost
