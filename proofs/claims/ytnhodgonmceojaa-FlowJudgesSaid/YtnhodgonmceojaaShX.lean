/- A closed call that has been run: its contract in whatever memory. -/
import Derived.Test.YtnhodgonmceojaaShW
set_option linter.unusedVariables false
set_option linter.unusedSimpArgs false
namespace Go.Proofs.Ytnhodgonmceojaa.Sh
open Go.RowKit

/-- A world that has grown by a run of its own keeps a memory as it is. -/
theorem Rel.keep_below {E : Env} {m : Mem} {w w' : World} {B : Nat} (h : Rel E m w B) (hb : Below w.heap.size w w') : Rel E m w' B ∧ Evo E m w E m w' := by
  have same : ∀ k, k < w.heap.size → w'.heap[k]? = w.heap[k]? := fun k hk => hb.block k hk
  refine ⟨⟨h.lt, fun i o hi => (h.obj i o hi).keep (fun ho => ?_) (fun k hk => same k (Nat.lt_of_lt_of_le hk h.hB)), h.inj, Nat.le_trans h.hB hb.size⟩,
    ⟨Nat.le_refl _, Env.Agrees.refl _ _, hb.os, hb.tape, hb.output, hb.size, fun k hk _ => same k hk, fun i o h1 h2 => .inl ⟨i, o, h1, h2, rfl⟩⟩⟩
  obtain ⟨b, x, e1, _, e3⟩ := h.own_block hi ho
  rw [e1]
  exact same b (Array.getElem?_eq_some_iff.1 e3).1

theorem simple_rep_eq {v u : Value} {E : Env} {n : Nat} (h : simple v = true) (hr : Rep E n v u) : u = v := by
  unfold simple at h
  split at h <;> first | (cases hr; rfl) | cases h

theorem acalls_closed {P : Program} {T : List (FuncId × XF)} (hT : TOk P T) {f : Nat} {g : FuncId} {v : Value} (hv : simple v = true) (h : (callX T (exec P T f) .nil g [] ⟨.leaf, 0⟩).map (·.1) = some v) (Γ : YEnv) (m : Mem) :
    ACalls P Γ g [] m (fun v' m' => v' = v ∧ m' = m) := by
  obtain ⟨⟨v0, mx⟩, h1, h2⟩ := Option.map_eq_some_iff.1 h
  dsimp only at h2
  subst h2
  have hc : ACalls P (den P .nil) g [] (memOf ⟨.leaf, 0⟩) (fun v' _ => v' = v0) := callX_sound hT (exec_ok hT f) h1 rfl
  refine ⟨hc.1, fun E w B args' hR hY hA => ?_⟩
  have hemp : ∀ i, (memOf ⟨.leaf, 0⟩).get i = none := fun i => by simp [memOf, BT.get]
  have hR0 : Rel E (memOf ⟨.leaf, 0⟩) w w.heap.size :=
    ⟨fun i o hi => (by rw [hemp] at hi; cases hi), fun i o hi => (by rw [hemp] at hi; cases hi), fun i j o o' hi => (by rw [hemp] at hi; cases hi), Nat.le_refl _⟩
  have hY0 : YOk P (den P .nil) E (memOf ⟨.leaf, 0⟩).next w.heap.size := fun i args m1 K hK => hK.elim
  have hA0 : RepL E (memOf ⟨.leaf, 0⟩).next [] args' := ⟨hA.1, fun i v u h => by simp at h⟩
  refine (hc.2 E w w.heap.size args' hR0 hY0 hA0).mono ?_
  rintro e w' ⟨v', u, E', m', rfl, he, hr, hv', rfl⟩
  obtain ⟨k1, k2⟩ := hR.keep_below (he.below hR0)
  have := simple_rep_eq hv hv'
  subst this
  exact ⟨_, _, E, m, rfl, k2, k1, simple_rep hv _ _, rfl, rfl⟩

end Go.Proofs.Ytnhodgonmceojaa.Sh
