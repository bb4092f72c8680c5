/- Slices that grow by append. -/
import Derived.Test.YtnhodgonmceojaaFF
set_option linter.unusedVariables false
set_option linter.unusedSimpArgs false
namespace Go.Proofs.Ytnhodgonmceojaa.Sh
open Go.RowKit

/-- A slice made by appending alone, in a row of its own, made since m0. -/
def Acc (m0 m : Mem) (v : Value) (l : List (List Value)) (e : TypeId) (z : Nat) : Prop :=
  (v = .slice none 0 0 ∧ l = []) ∨ ∃ i, m0.next ≤ i ∧ i < m.next ∧ v = .slice (some ⟨i, 0, none⟩) l.length (big + l.length) ∧ m.get i = some (.cells l.flatten e z)

theorem flatten_len {z : Nat} : ∀ {l : List (List Value)}, (∀ x ∈ l, x.length = z) → l.flatten.length = l.length * z
  | [], _ => by simp
  | x :: r, h => by
    simp only [List.flatten_cons, List.length_append, List.length_cons]
    rw [flatten_len fun y hy => h y (by simp [hy]), h x (by simp), Nat.add_mul]; omega

theorem app1_acc {m0 m : Mem} {v : Value} {l : List (List Value)} {e : TypeId} {z bytes : Nat} {x : List Value} (h : Acc m0 m v l e z) (h0 : m0.next ≤ m.next) (hl : ∀ x ∈ l, x.length = z) (hx : x.length = z) (hok : x.all okCell = true) (hn : l.length < 1000000) (hb : bytes ≤ 1000) :
    ∃ v' m', appL e z bytes v 1 x m = some (v', m') ∧ Acc m0 m' v' (l ++ [x]) e z ∧ m'.next = m.next + 1 ∧ ∀ j, j < m.next → (∀ a n c, v = .slice (some a) n c → a.block ≠ j) → m'.get j = m.get j := by
  have hmb := maxLen_big
  have hml : (1000001 : Nat) ≤ maxLen := by unfold maxLen; omega
  have hbb : ∀ k, k ≤ 1000000 → k * bytes ≤ 140737488355328 := fun k hk => Nat.le_trans (Nat.mul_le_mul hk hb) (by omega)
  rcases h with ⟨rfl, rfl⟩ | ⟨i, h1, h2, rfl, h3⟩
  · refine ⟨.slice (some ⟨m.next, 0, none⟩) 1 (big + 1), m.new (.cells x e z), ?_, .inr ⟨m.next, h0, by rw [Mem.next_new]; omega, rfl, ?_⟩, by rw [Mem.next_new], fun j hj _ => Mem.get_new_ne _ _ (by omega)⟩
    · unfold appL
      rw [if_pos hok]
      simp only
      rw [if_neg (by omega), if_pos ⟨hbb 1 (by omega), by omega⟩]
    · rw [Mem.get_new]; simp
  · have hfl := flatten_len hl
    refine ⟨.slice (some ⟨m.next, 0, none⟩) (l.length + 1) (big + (l.length + 1)), (m.kill i).new (.cells (l.flatten ++ x) e z), ?_, .inr ⟨m.next, h0, by rw [Mem.next_new, Mem.next_kill]; omega, by simp, ?_⟩, by rw [Mem.next_new, Mem.next_kill], fun j hj hne => ?_⟩
    · unfold appL
      rw [if_pos hok]
      simp only [h3]
      rw [if_neg (by rw [if_neg (by omega)]; omega), if_pos ⟨by omega, hbb _ (by omega)⟩, if_neg (by omega), if_pos ⟨by rw [hfl]; simp, trivial, trivial⟩]
      simp
    · have := (m.kill i).get_new (.cells (l.flatten ++ x) e z)
      rw [Mem.next_kill] at this
      rw [this]; simp
    · rw [Mem.get_new_ne _ _ (by rw [Mem.next_kill]; omega), Mem.get_kill_ne _ _ (fun e => hne _ _ _ rfl e.symm)]
end Go.Proofs.Ytnhodgonmceojaa.Sh
