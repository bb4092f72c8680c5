/- The arguments of flow's laws, read. -/
import Derived.Test.YtnhodgonmceojaaShBs
import Derived.Test.YtnhodgonmceojaaFC
set_option linter.unusedVariables false
set_option linter.unusedSimpArgs false
namespace Go.Proofs.Ytnhodgonmceojaa.Sh
open Go.RowKit Go.ChangeShapes Go.WideShapes Go.Deep


section
variable {H : Type} {enc : TypeId × Value → H} {W : World}

theorem arcs_facts {fuel : Nat} {v : Value} {x : DataW H × List MemPlace} (h : DataW.trod enc Try.prog W 0 (fun _ => true) true fuel 22 [v] = some x) :
    ∃ l : List ArcI, Arcs (mem0 W) (absC W.heap.size v) l ∧ l.length ≤ maxLen := by
  have hc : Try.prog.cellsOf 55 = 3 := by kernel_rfl
  obtain ⟨ao, n, c, h1, h2, h3, h4⟩ := slice_facts Try.underlying22 (by rw [hc]; omega) h
  rw [hc] at h4
  cases ao with
  | none =>
    obtain rfl := h2 rfl
    exact ⟨[], ⟨⟨none, c, h1⟩, fun a n c hv => (by rw [h1] at hv; cases hv), fun _ _ _ => rfl, fun a n c hv => (by rw [h1] at hv; cases hv)⟩, by simp⟩
  | some a =>
    obtain ⟨b1, b2⟩ := h4 a rfl
    obtain ⟨l, e1, e2⟩ := list_of (R := fun i (y : ArcI) => (mem0 W).cells a.block (a.off + i * 3) 3 = some y.cells) n fun i hi => by
      obtain ⟨cs, m, y, c1, c2, c3⟩ := b2 i hi
      obtain ⟨_, hf⟩ := struct_facts Try.underlying55 c3
      have k3 : Try.prog.cellsOf 3 = 1 := by kernel_rfl
      have k2 : Try.prog.cellsOf 2 = 1 := by kernel_rfl
      simp only [List.forall_mem_cons] at hf
      obtain ⟨⟨n0, y0, f0⟩, ⟨n1, y1, f1⟩, ⟨n2, y2, f2⟩, _⟩ := hf
      obtain ⟨i0, g0, _⟩ := int_facts Try.underlying3 f0
      obtain ⟨i1, g1, _⟩ := int_facts Try.underlying3 f1
      obtain ⟨i2, g2, _⟩ := int_facts Try.underlying2 f2
      obtain ⟨u0, u1, u2, rfl⟩ := len3 c1
      simp [k3, k2] at g0 g1 g2
      subst g0; subst g1; subst g2
      exact ⟨⟨i0, i1, i2⟩, c2⟩
    subst e1
    exact ⟨l, ⟨⟨some a, c, h1⟩, fun a' n c hv j x hx => (by rw [h1] at hv; cases hv; exact e2 j x hx), fun n c hv => (by rw [h1] at hv; cases hv), fun a' n c hv => (by rw [h1] at hv; cases hv; exact b1)⟩, h3⟩

/-! A network as an argument. -/
set_option maxRecDepth 20000 in
theorem net_facts {r : Reach} {b0 : Nat} {v : Value} {d : DataW H} {ps : List MemPlace} (hv : Value.okWide Try.prog W r b0 24 v) (h : DataW.Trod enc Try.prog W 0 (fun _ => true) true 24 v d ps) :
    ∃ (n : Int) (v' : Value) (l : List ArcI), absV W.heap.size v = .agg #[.int .i64 n, v'] ∧ Arcs (mem0 W) v' l ∧ l.length ≤ maxLen ∧ -9223372036854775808 ≤ n ∧ n < 9223372036854775808 := by
  obtain ⟨cs, rfl⟩ := struct_agg Try.underlying24 hv
  obtain ⟨fuel, h⟩ := h
  obtain ⟨hl, hf⟩ := struct_facts Try.underlying24 h
  have k3 : Try.prog.cellsOf 3 = 1 := by kernel_rfl
  have k22 : Try.prog.cellsOf 22 = 1 := by kernel_rfl
  have k24 : Try.prog.cellsOf 24 = 2 := by kernel_rfl
  simp only [List.forall_mem_cons] at hf
  obtain ⟨⟨n0, y0, f0⟩, ⟨n1, y1, f1⟩, _⟩ := hf
  obtain ⟨i0, g0, w0⟩ := int_facts Try.underlying3 f0
  obtain ⟨cl⟩ := cs
  simp only [Value.cells] at hl g0 f1
  rw [k24] at hl
  obtain ⟨u0, u1, rfl⟩ := len2 hl
  simp [k3] at g0
  subst g0
  simp [k22] at f1
  obtain ⟨l, a1, a2⟩ := arcs_facts f1
  exact ⟨i0, _, l, by simp [absV, absC], a1, a2, i64_range w0⟩
end
end Go.Proofs.Ytnhodgonmceojaa.Sh
