/- FlowJudges, for every input: the call returns true, and each argument reads afterwards as it read before. -/
import Derived.Test.YtnhodgonmceojaaGM
import Derived.Test.YtnhodgonmceojaaFQ
import Derived.Test.YtnhodgonmceojaaRows
set_option linter.unusedVariables false
set_option linter.unusedSimpArgs false
namespace Go.Proofs.Ytnhodgonmceojaa.flowJudges
open Go.ChangeShapes Go.WideShapes Go.ChangeAt Go.RowKit

theorem own : ownKnob Try.prog.godebug = none := by kernel_rfl
set_option maxRecDepth 20000 in
theorem contract (H : Type) (enc : TypeId × Value → H) (W : World) (base : Nat) (args : Array Value) (ds gs : List (DataW H)) (before : List MemPlace)
    (hval : ∀ (j : Nat) t v, Try.f5.params[j]? = some t → args[j]? = some v → Value.okWide Try.prog W .any base t v)
    (hW : DataW.Whole enc Try.prog Try.f5.params.toList Rows.flowJudgesSpec.vars false W args.toList ds gs before) :
    Calls Try.prog 5 args W fun e W' => ∃ v, e = .returned v ∧ Rows.flowJudgesSpec.post enc Try.prog Try.f5 false true false false W args v W' := by
  refine Sh.law_contract (tb := 4) (by kernel_rfl) (by kernel_rfl) (by kernel_rfl) (by rw [Try.params5]; decide) rfl (by kernel_rfl) Try.underlying4 ?_ hW ?_
  · intro H ds hl
    rw [Try.params5] at hl
    match ds, hl with
    | [d1, d2, d3], _ => rfl
  · obtain ⟨p, q, hA0, hV, rfl, hfz, hnd⟩ := hW
    have hA : DataW.TrodAll enc Try.prog W 0 (fun _ => true) true Try.f5.params.toList args.toList ds p := hA0
    rw [Try.params5] at hA hval
    obtain ⟨v0, vs0, d0, ds0, p0, q0, hargs, rfl, rfl, h0, r0⟩ := trodAll_cons hA
    obtain ⟨v1, vs1, d1, ds1, p1, q1, rfl, rfl, rfl, h1, r1⟩ := trodAll_cons r0
    obtain ⟨v2, vs2, d2, ds2, p2, q2, rfl, rfl, rfl, h2, r2⟩ := trodAll_cons r1
    obtain ⟨rfl, rfl, rfl⟩ := trodAll_nil r2
    obtain rfl : args = #[v0, v1, v2] := by cases args; simp_all
    obtain ⟨n, v', l, e1, e2, e3, e4⟩ := Sh.net_facts (hval 0 24 v0 rfl rfl) h0
    obtain ⟨a, b, e5, _⟩ := Sh.pair_facts Try.underlying38 Try.underlying3 (by kernel_rfl) (by kernel_rfl) (hval 1 38 v1 rfl rfl) h1
    obtain ⟨sa, sn, sc, rfl⟩ := okWide_slice Try.underlying41 (hval 2 41 v2 rfl rfl)
    obtain ⟨fuel2, g2⟩ := h2
    obtain ⟨sets, e6, e7, _⟩ := Sh.ints_facts Try.underlying41 Try.underlying2 (by kernel_rfl) g2
    have he : [v0, v1, .slice sa sn sc].map (Sh.absV W.heap.size) = [.agg #[.int .i64 n, v'], .agg #[.int .i64 a, .int .i64 b], Sh.absC W.heap.size (.slice sa sn sc)] := by
      rw [List.map_cons, e1, List.map_cons, e5]; rfl
    show Sh.ACalls Try.prog Sh.Γ0 5 ([v0, v1, .slice sa sn sc].map (Sh.absV W.heap.size)) (Sh.mem0 W) _
    rw [he]
    exact (Sh.flowJudges_spec Sh.Γ0_mono n a b l v' sets _ _ e2 (by unfold maxLen at e3; omega) e6 (by unfold maxLen at e7; omega) (by obtain ⟨_, _, hl⟩ := e6.len; exact Sh.absC_argOk hl rfl)).mono fun r m' h => h.1

set_option maxRecDepth 100000 in
theorem lifted (os : Os) (started : os.Started) (H : Type) (enc : TypeId × Value → H) :
    ReturnsInHanded {} Try.checked os 5 .any (Rows.flowJudgesSpec.pre6 enc Try.prog Try.f5 Rows.flowJudgesRow.domain false) (Rows.flowJudgesSpec.post enc Try.prog Try.f5 false true false false) := by
  refine returnsInHanded_of_change (C := Try.checked) own started (by kernel_rfl) Try.func5
    (ChangeSpec.witness6 (enc := enc) (C := Try.checked) false ⟨#[], #[.agg #[.int .i64 0, .slice none 0 0], .agg #[.int .i64 0, .int .i64 0], .slice none 0 0], []⟩ 8 (by kernel_rfl) (by kernel_rfl) (by kernel_rfl) (by kernel_rfl)) ?_
  intro W base args ds gs before hval hW _ _
  exact contract H enc W base args ds gs before hval hW

theorem proved : Rows.FlowJudgesSaid :=
  OpenClaim.holds_of_wide 5 Try.f5 rfl rfl rfl rfl rfl rfl rfl ⟨rfl, rfl, rfl, rfl, rfl⟩ rfl rfl rfl rfl rfl (by kernel_rfl) Try.func5 (by kernel_rfl)
    (of_decide_eq_true (by kernel_rfl)) (by unfold Func.isWrapper; first | (rw [if_pos (by decide +kernel)]; kernel_rfl) | (rw [if_neg (by decide +kernel)]; exact ⟨rfl, rfl⟩))
    (fun os started H enc _ => lifted os started H enc)
#print axioms proved
end Go.Proofs.Ytnhodgonmceojaa.flowJudges
