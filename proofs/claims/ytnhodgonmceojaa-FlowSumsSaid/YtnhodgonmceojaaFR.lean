/- FlowSums, for every input: the call returns true, and each argument reads afterwards as it read before. -/
import Derived.Test.YtnhodgonmceojaaFP
import Derived.Test.YtnhodgonmceojaaFQ
import Derived.Test.YtnhodgonmceojaaRows
set_option linter.unusedVariables false
set_option linter.unusedSimpArgs false
namespace Go.Proofs.Ytnhodgonmceojaa.flowSums
open Go.ChangeShapes Go.WideShapes Go.ChangeAt Go.RowKit

theorem own : ownKnob Try.prog.godebug = none := by kernel_rfl
set_option maxRecDepth 20000 in
theorem contract (H : Type) (enc : TypeId × Value → H) (W : World) (base : Nat) (args : Array Value) (ds gs : List (DataW H)) (before : List MemPlace)
    (hval : ∀ (j : Nat) t v, Try.f3.params[j]? = some t → args[j]? = some v → Value.okWide Try.prog W .any base t v)
    (hW : DataW.Whole enc Try.prog Try.f3.params.toList Rows.flowSumsSpec.vars false W args.toList ds gs before) :
    Calls Try.prog 3 args W fun e W' => ∃ v, e = .returned v ∧ Rows.flowSumsSpec.post enc Try.prog Try.f3 false true false false W args v W' := by
  refine Sh.law_contract (tb := 4) (by kernel_rfl) (by kernel_rfl) (by kernel_rfl) (by rw [Try.params3]; decide) rfl (by kernel_rfl) Try.underlying4 ?_ hW ?_
  · intro H ds hl
    rw [Try.params3] at hl
    match ds, hl with
    | [d1, d2, d3], _ => rfl
  · obtain ⟨p, q, hA0, hV, rfl, hfz, hnd⟩ := hW
    have hA : DataW.TrodAll enc Try.prog W 0 (fun _ => true) true Try.f3.params.toList args.toList ds p := hA0
    rw [Try.params3] at hA hval
    obtain ⟨v0, vs0, d0, ds0, p0, q0, hargs, rfl, rfl, h0, r0⟩ := trodAll_cons hA
    obtain ⟨v1, vs1, d1, ds1, p1, q1, rfl, rfl, rfl, h1, r1⟩ := trodAll_cons r0
    obtain ⟨v2, vs2, d2, ds2, p2, q2, rfl, rfl, rfl, h2, r2⟩ := trodAll_cons r1
    obtain ⟨rfl, rfl, rfl⟩ := trodAll_nil r2
    obtain rfl : args = #[v0, v1, v2] := by cases args; simp_all
    obtain ⟨a1, rfl, rfl, rfl, w1⟩ := open_int Try.underlying3 (hval 1 3 v1 rfl rfl) h1
    obtain ⟨a2, rfl, rfl, rfl, w2⟩ := open_int Try.underlying3 (hval 2 3 v2 rfl rfl) h2
    obtain ⟨n, v', l, e1, e2, e3, e4⟩ := Sh.net_facts (hval 0 24 v0 rfl rfl) h0
    have he : [v0, .int .i64 a1, .int .i64 a2].map (Sh.absV W.heap.size) = [.agg #[.int .i64 n, v'], .int .i64 a1, .int .i64 a2] := by
      rw [List.map_cons, e1]; rfl
    show Sh.ACalls Try.prog Sh.Γ0 3 ([v0, .int .i64 a1, .int .i64 a2].map (Sh.absV W.heap.size)) (Sh.mem0 W) _
    rw [he]
    exact (Sh.flowSums_spec Sh.Γ0_mono n a1 a2 l v' _ e2 (by unfold maxLen at e3; omega) fun N l h1 h2 h3 h4 => Sh.sums_law a1 a2 N l h1 h2 h3 h4).mono fun r m' h => h.1

set_option maxRecDepth 100000 in
theorem lifted (os : Os) (started : os.Started) (H : Type) (enc : TypeId × Value → H) :
    ReturnsInHanded {} Try.checked os 3 .any (Rows.flowSumsSpec.pre6 enc Try.prog Try.f3 Rows.flowSumsRow.domain false) (Rows.flowSumsSpec.post enc Try.prog Try.f3 false true false false) := by
  refine returnsInHanded_of_change (C := Try.checked) own started (by kernel_rfl) Try.func3
    (ChangeSpec.witness6 (enc := enc) (C := Try.checked) false ⟨#[], #[.agg #[.int .i64 0, .slice none 0 0], .int .i64 0, .int .i64 0], []⟩ 8 (by kernel_rfl) (by kernel_rfl) (by kernel_rfl) (by kernel_rfl)) ?_
  intro W base args ds gs before hval hW _ _
  exact contract H enc W base args ds gs before hval hW

theorem proved : Rows.FlowSumsSaid :=
  OpenClaim.holds_of_wide 3 Try.f3 rfl rfl rfl rfl rfl rfl rfl ⟨rfl, rfl, rfl, rfl, rfl⟩ rfl rfl rfl rfl rfl (by kernel_rfl) Try.func3 (by kernel_rfl)
    (of_decide_eq_true (by kernel_rfl)) (by unfold Func.isWrapper; first | (rw [if_pos (by decide +kernel)]; kernel_rfl) | (rw [if_neg (by decide +kernel)]; exact ⟨rfl, rfl⟩))
    (fun os started H enc _ => lifted os started H enc)
#print axioms proved
end Go.Proofs.Ytnhodgonmceojaa.flowSums
