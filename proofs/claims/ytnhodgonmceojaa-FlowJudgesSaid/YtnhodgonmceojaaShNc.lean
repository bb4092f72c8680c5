/- For proofs by hand: slices that came as arguments, copied. -/
import Derived.Test.YtnhodgonmceojaaShBs
set_option linter.unusedVariables false
set_option linter.unusedSimpArgs false
namespace Go.Proofs.Ytnhodgonmceojaa.Sh
open Go.RowKit

/-- A slice as an argument brings it. -/
def argOk (v : Value) : Prop := v = .slice none 0 0 ∨ v = .slice none 0 big ∨ ∃ a n c, v = .slice (some a) n c ∧ 0 < n ∧ n ≤ c ∧ c ≤ maxLen
theorem absC_argOk {n : Nat} {v w : Value} {ao : Option Addr} {k c : Nat} (hw : v = .slice ao k c) (h : absC n w = v) : argOk v := by
  subst hw
  unfold absC at h
  split at h
  · cases h
  · cases h
  · cases h
  · exact .inl h.symm
  · split at h
    · exact .inr (.inl h.symm)
    · split at h
      · rename_i h1 h2
        cases h
        exact .inr (.inr ⟨_, _, _, rfl, by omega, h2.2.2.1, h2.2.2.2⟩)
      · cases h
  · cases h
theorem cells_pt {m : Mem} {b o : Nat} {vs : List Value} (h0 : 0 < vs.length) (h : ∀ (j : Nat) x, vs[j]? = some x → m.cell b (o + j) = some x) : m.cells b o vs.length = some vs := by
  have h1 := h 0 vs[0] (List.getElem?_eq_getElem h0)
  unfold Mem.cell at h1
  unfold Mem.cells
  cases hr : m.row b with
  | none => rw [hr] at h1; cases h1
  | some c =>
    have hp : ∀ (j : Nat) x, vs[j]? = some x → c[o + j]? = some x := fun j x hj => by
      have := h j x hj
      unfold Mem.cell at this
      rw [hr] at this
      exact this
    simp only [Option.bind_some]
    have hlen : o + vs.length ≤ c.length := by
      have := hp (vs.length - 1) vs[vs.length - 1] (List.getElem?_eq_getElem (by omega))
      have := (List.getElem?_eq_some_iff.1 this).1
      omega
    rw [if_pos hlen]
    congr 1
    refine List.ext_getElem? fun j => ?_
    by_cases hj : j < vs.length
    · rw [List.getElem?_take_of_lt hj, List.getElem?_drop, hp j vs[j] (List.getElem?_eq_getElem hj), List.getElem?_eq_getElem hj]
    · rw [List.getElem?_eq_none (by simp; omega), List.getElem?_eq_none (by omega)]
theorem flatten_int (l : List Int) : (intCells l).flatten = l.map (Value.int .i64) := by
  unfold intCells
  induction l with
  | nil => rfl
  | cons a r ih => rw [List.map_cons, List.flatten_cons, ih]; rfl
theorem intCells_len' (l : List Int) : (intCells l).length = l.length := by unfold intCells; rw [List.length_map]
/-- append(nil, l[:min(len(l), K)]...) of an argument. -/
theorem prefix_copy {m : Mem} {v : Value} {l : List Int} (e : TypeId) (h : Ints m v l) (ha : argOk v) (K : Nat) (hK : 0 < K) (hK2 : K < 1000000) :
    ∃ v', rowOk 1 v m = true ∧ sliceA 1 v none (some (.int .i64 ((min l.length K : Nat) : Int))) none = some v' ∧ ∃ v2 m2, appA e 1 8 (.slice none 0 0) v' m = some (v2, m2) ∧ Acc m m2 v2 (intCells (l.take K)) e 1 ∧ Mext m m2 := by
  obtain ⟨ao, c, rfl⟩ := h.len
  have hmb := maxLen_big
  cases ao with
  | none =>
    have hl := h.nil _ _ rfl
    subst hl
    rcases ha with ha | ha | ⟨a, n, c', ha, _⟩
    · cases ha
      refine ⟨.slice none 0 0, rfl, by simp [sliceA, boundA, natOf], .slice none 0 0, m, by simp [appA, srcA, appL], .inl ⟨rfl, by simp [intCells]⟩, Mext.refl m⟩
    · cases ha
      refine ⟨.slice none 0 big, rfl, ?_, .slice none 0 0, m, by simp [appA, srcA, appL], .inl ⟨rfl, by simp [intCells]⟩, Mext.refl m⟩
      simp [sliceA, boundA, natOf, big]
    · cases ha
  | some a =>
    rcases ha with ha | ha | ⟨a', n, c', ha, hn, hnc, hcm⟩
    · cases ha
    · cases ha
    · cases ha
      have hcb : c < big := by omega
      have hk : min l.length K ≤ c := by omega
      have hkl : (l.take K).length = min l.length K := by rw [List.length_take]; omega
      have hk0 : 0 < min l.length K := by omega
      have hcells : m.cells a.block a.off (min l.length K) = some ((l.take K).map (Value.int .i64)) := by
        have := cells_pt (m := m) (b := a.block) (o := a.off) (vs := (l.take K).map (Value.int .i64)) (by rw [List.length_map]; omega) fun j x hj => by
          rw [List.getElem?_map] at hj
          obtain ⟨y, hy, rfl⟩ := Option.map_eq_some_iff.1 hj
          have hj2 : j < (l.take K).length := (List.getElem?_eq_some_iff.1 hy).1
          rw [List.getElem?_take_of_lt (by omega)] at hy
          exact h.get _ _ _ rfl j y hy
        rwa [List.length_map, hkl] at this
      refine ⟨.slice (some (if c = 0 then a else ⟨a.block, a.off + 0 * 1, none⟩)) (min l.length K) c, ?_, ?_, ?_⟩
      · simp only [rowOk, if_pos hcb]
      · have e0 : ¬ ((min l.length K : Nat) : Int) < 0 := by omega
        simp only [sliceA, boundA, natOf]
        simp [hcb, hk]
      · have hc0 : ¬ c = 0 := by omega
        simp only [hc0, if_false, Nat.zero_mul, Nat.add_zero]
        refine ⟨.slice (some ⟨m.next, 0, none⟩) (min l.length K) (big + min l.length K), m.new (.cells ((l.take K).map (Value.int .i64)) e 1), ?_, .inr ⟨m.next, Nat.le_refl _, by rw [Mem.next_new]; omega, ?_, ?_⟩, (Mext.refl m).new _⟩
        · simp only [appA, srcA, Nat.mul_one, hcells, Option.map_some]
          unfold appL
          rw [if_pos (by simp only [List.all_map, List.all_eq_true]; intro x hx; rfl)]
          simp only
          rw [if_neg (by omega), if_pos ⟨by omega, by unfold maxLen; omega⟩]
        · rw [intCells_len', hkl]
        · rw [Mem.get_new, flatten_int]
end Go.Proofs.Ytnhodgonmceojaa.Sh
