/- A run of code over the abstract memory: code, calls, loops over functions; and that it is sound. -/
import Derived.Test.YtnhodgonmceojaaShT
set_option linter.unusedVariables false
set_option linter.unusedSimpArgs false
namespace Go.Proofs.Ytnhodgonmceojaa.Sh
open Go.RowKit

abbrev FX := List (Tmp × Slot)
def putX (s : FX) (d : Option Tmp) (x : Slot) : FX :=
  match d with
  | some d => (d, x) :: s
  | none => s
theorem sem_putX (s : FX) (d : Option Tmp) (x : Slot) : sem (putX s d x) = putO (sem s) d x := by
  cases d with
  | none => rfl
  | some d => rfl
def valsX (s : FX) : FX := s.map fun p => (p.1, .val p.2.v)
theorem sem_valsX : ∀ s : FX, sem (valsX s) = vals (sem s)
  | [] => rfl
  | (t, x) :: s => by
    have ih := sem_valsX s
    funext i
    have := congrFun ih i
    simp only [valsX, List.map_cons, sem, vals] at this ⊢
    split <;> simp_all [valsX]
def bindX : List Tmp → List Value → FX → FX
  | p :: ps, v :: vs, s => bindX ps vs ((p, .val v) :: s)
  | _, _, s => s
theorem sem_bindX : ∀ (ps : List Tmp) (vs : List Value) (s : FX), sem (bindX ps vs s) = bindP ps vs (sem s)
  | [], _, s => by simp [bindX, bindP]
  | p :: ps, [], s => by simp [bindX, bindP]
  | p :: ps, v :: vs, s => by
    simp only [bindX, bindP]
    rw [sem_bindX ps vs]
    rfl
def argX : Nat → List Value → FX
  | _, [] => []
  | i, v :: vs => (i, .val v) :: argX (i + 1) vs
theorem sem_argX : ∀ (vs : List Value) (i j : Nat), sem (argX i vs) j = .val (if i ≤ j then (vs[j - i]?).getD undef else undef)
  | [], i, j => by simp [argX, sem]
  | v :: vs, i, j => by
    simp only [argX, sem]
    by_cases h : j = i
    · subst h; simp
    · rw [if_neg h, sem_argX vs (i + 1) j]
      by_cases h2 : i ≤ j
      · have h3 : i + 1 ≤ j := by omega
        rw [if_pos h2, if_pos h3]
        have : j - i = (j - (i + 1)) + 1 := by omega
        rw [this]; simp
      · rw [if_neg h2, if_neg (by omega)]
theorem argF_eq (vs : List Value) : argF vs = sem (argX 0 vs) := by
  funext j
  rw [sem_argX]
  simp [argF]

/-- Equality of values, as far as it is told. -/
def valEq : Nat → Value → Value → Bool
  | 0, _, _ => false
  | f + 1, a, b => match a, b with
    | .bool x, .bool y => x == y
    | .int k x, .int k' y => (k == k') && (x == y)
    | .pointer none, .pointer none => true
    | .pointer (some x), .pointer (some y) => (Nat.beq x.block y.block) && (Nat.beq x.off y.off) && x.spot.isNone && y.spot.isNone
    | .slice none n c, .slice none n' c' => (Nat.beq n n') && (Nat.beq c c')
    | .slice (some x) n c, .slice (some y) n' c' => (Nat.beq n n') && (Nat.beq c c') && (Nat.beq x.block y.block) && (Nat.beq x.off y.off) && x.spot.isNone && y.spot.isNone
    | .map none, .map none => true
    | .map (some x), .map (some y) => Nat.beq x y
    | .nilFunc, .nilFunc => true
    | .nilIface, .nilIface => true
    | .iface t v, .iface t' v' => (Nat.beq t t') && valEq f v v'
    | .agg xs, .agg ys => listEq f xs.toList ys.toList
    | .tuple xs, .tuple ys => listEq f xs.toList ys.toList
    | .func (.func g) xs zs, .func (.func g') ys us => (Nat.beq g g') && listEq f xs.toList ys.toList && listEq f zs.toList us.toList
    | .func (.yield g) xs zs, .func (.yield g') ys us => (Nat.beq g g') && listEq f xs.toList ys.toList && listEq f zs.toList us.toList
    | _, _ => false
where listEq : Nat → List Value → List Value → Bool
  | 0, _, _ => false
  | f + 1, [], [] => true
  | f + 1, x :: xs, y :: ys => valEq f x y && listEq f xs ys
  | _, _, _ => false

theorem addr_eq {x y : Addr} (h1 : x.block = y.block) (h2 : x.off = y.off) (h3 : x.spot = none) (h4 : y.spot = none) : x = y := by
  cases x; cases y; simp_all

mutual
theorem valEq_sound : ∀ (f : Nat) (a b : Value), valEq f a b = true → a = b
  | 0, a, b, h => by simp [valEq] at h
  | f + 1, a, b, h => by
    unfold valEq at h
    split at h
    all_goals first
      | (cases h; done)
      | rfl
      | skip
    · simp at h; rw [h]
    · simp at h; rw [h.1, h.2]
    · simp at h; rw [addr_eq h.1.1.1 h.1.1.2 h.1.2 h.2]
    · simp at h; rw [h.1, h.2]
    · simp at h; rw [h.1.1.1.1.1, h.1.1.1.1.2, addr_eq h.1.1.1.2 h.1.1.2 h.1.2 h.2]
    · simp at h; rw [h]
    · rename_i t v t' v'
      simp only [Bool.and_eq_true] at h
      rw [Nat.eq_of_beq_eq_true h.1, valEq_sound f v v' h.2]
    · rename_i xs ys
      rw [Array.ext' (listEq_sound f xs.toList ys.toList h)]
    · rename_i xs ys
      rw [Array.ext' (listEq_sound f xs.toList ys.toList h)]
    · rename_i g xs zs g' ys us
      simp only [Bool.and_eq_true] at h
      rw [Nat.eq_of_beq_eq_true h.1.1, Array.ext' (listEq_sound f xs.toList ys.toList h.1.2), Array.ext' (listEq_sound f zs.toList us.toList h.2)]
    · rename_i g xs zs g' ys us
      simp only [Bool.and_eq_true] at h
      rw [Nat.eq_of_beq_eq_true h.1.1, Array.ext' (listEq_sound f xs.toList ys.toList h.1.2), Array.ext' (listEq_sound f zs.toList us.toList h.2)]
theorem listEq_sound : ∀ (f : Nat) (a b : List Value), valEq.listEq f a b = true → a = b
  | 0, a, b, h => by simp [valEq.listEq] at h
  | f + 1, [], [], h => rfl
  | f + 1, x :: xs, y :: ys, h => by
    simp only [valEq.listEq, Bool.and_eq_true] at h
    rw [valEq_sound f x y h.1, listEq_sound f xs ys h.2]
  | f + 1, [], y :: ys, h => by simp [valEq.listEq] at h
  | f + 1, x :: xs, [], h => by simp [valEq.listEq] at h
end
end Go.Proofs.Ytnhodgonmceojaa.Sh
