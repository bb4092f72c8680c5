/- For proofs by hand: frames, operations on values, as equations. -/
import Derived.Test.YtnhodgonmceojaaShY
set_option linter.unusedVariables false
set_option linter.unusedSimpArgs false
namespace Go.Proofs.Ytnhodgonmceojaa.Sh
open Go.RowKit

theorem evalO_tmp (s : Fr) (t : Tmp) : evalO s (.tmp t) = (s t).v := id rfl
theorem evalO_func (s : Fr) (f : FuncId) : evalO s (.func f) = .func (.func f) #[] #[] := id rfl
theorem evalO_int (s : Fr) (k : IntKind) (i : Int) : evalO s (.const (.int k i)) = .int k i := id rfl
theorem evalO_bool (s : Fr) (b : Bool) : evalO s (.const (.bool b)) = .bool b := id rfl
theorem evalO_ptr (s : Fr) : evalO s (.const (.pointer none)) = .pointer none := id rfl
theorem evalO_slice (s : Fr) : evalO s (.const (.slice none 0 0)) = .slice none 0 0 := id rfl
theorem evalO_map (s : Fr) : evalO s (.const (.map none)) = .map none := id rfl
theorem evalO_nilFunc (s : Fr) : evalO s (.const .nilFunc) = .nilFunc := id rfl
theorem evalO_nilIface (s : Fr) : evalO s (.const .nilIface) = .nilIface := id rfl
theorem putO_some (s : Fr) (d : Tmp) (x : Slot) (t : Tmp) : putO s (some d) x t = if t = d then x else s t := id rfl
theorem putO_none (s : Fr) (x : Slot) : putO s none x = s := id rfl
theorem sem_nil (i : Tmp) : sem [] i = .val undef := id rfl
theorem sem_cons (t : Tmp) (x : Slot) (l : List (Tmp × Slot)) (i : Tmp) : sem ((t, x) :: l) i = if i = t then x else sem l i := id rfl
def limL (G : List Tmp) (s : Fr) : List (Tmp × Slot) := G.map fun g => (g, s g)
theorem lim_eq (G : List Tmp) (s : Fr) : lim G s = sem (limL G s) := id rfl
theorem limL_nil (s : Fr) : limL [] s = [] := id rfl
theorem limL_cons (g : Tmp) (G : List Tmp) (s : Fr) : limL (g :: G) s = (g, s g) :: limL G s := id rfl
theorem argF_apply (args : List Value) (t : Tmp) : argF args t = .val ((args[t]?).getD undef) := id rfl
theorem v_val (v : Value) : (Slot.val v).v = v := id rfl
theorem vals_apply (s : Fr) (t : Tmp) : vals s t = .val (s t).v := id rfl
theorem bindP_cons (p : Tmp) (ps : List Tmp) (v : Value) (vs : List Value) (s : Fr) : bindP (p :: ps) (v :: vs) s = bindP ps vs (putO s (some p) (.val v)) := id rfl
theorem bindP_nil (vs : List Value) (s : Fr) : bindP [] vs s = s := by cases vs <;> rfl

section
variable (k : IntKind) (a b : Int)
theorem binA_lss : binA .lss (.int k a) (.int k b) = some (.bool (decide (a < b))) := by simp [binA]
theorem binA_leq : binA .leq (.int k a) (.int k b) = some (.bool (decide (a ≤ b))) := by simp [binA]
theorem binA_gtr : binA .gtr (.int k a) (.int k b) = some (.bool (decide (b < a))) := by simp [binA]
theorem binA_geq : binA .geq (.int k a) (.int k b) = some (.bool (decide (b ≤ a))) := by simp [binA]
theorem binA_eql : binA .eql (.int k a) (.int k b) = some (.bool (decide (a = b))) := by
  simp only [binA, ne_eq, not_true, if_false]
  congr 2
theorem binA_neq : binA .neq (.int k a) (.int k b) = some (.bool (decide (a ≠ b))) := by
  simp only [binA, ne_eq, not_true, if_false]
  congr 2
  by_cases h : a = b <;> simp [h]
theorem binA_add : binA .add (.int k a) (.int k b) = some (.int k (k.wrap (a + b))) := by simp [binA]
theorem binA_sub : binA .sub (.int k a) (.int k b) = some (.int k (k.wrap (a - b))) := by simp [binA]
theorem binA_mul : binA .mul (.int k a) (.int k b) = some (.int k (k.wrap (a * b))) := by simp [binA]
theorem binA_quo : binA .quo (.int k a) (.int k b) = if b = 0 then none else some (.int k (k.wrap (a.tdiv b))) := by simp [binA]
theorem binA_rem : binA .rem (.int k a) (.int k b) = if b = 0 then none else some (.int k (a.tmod b)) := by simp [binA]
theorem binA_and : binA .and (.int k a) (.int k b) = some (.int k (k.wrap ((BitVec.ofInt k.bits a &&& BitVec.ofInt k.bits b).toNat : Int))) := by simp [binA]
theorem binA_or : binA .or (.int k a) (.int k b) = some (.int k (k.wrap ((BitVec.ofInt k.bits a ||| BitVec.ofInt k.bits b).toNat : Int))) := by simp [binA]
theorem binA_xor : binA .xor (.int k a) (.int k b) = some (.int k (k.wrap ((BitVec.ofInt k.bits a ^^^ BitVec.ofInt k.bits b).toNat : Int))) := by simp [binA]
end
theorem binA_shl (k k' : IntKind) (a b : Int) : binA .shl (.int k a) (.int k' b) = if b < 0 then none else some (.int k (k.wrap (a * 2 ^ (min b.toNat k.bits)))) := by simp [binA]
theorem binA_shr (k k' : IntKind) (a b : Int) : binA .shr (.int k a) (.int k' b) = if b < 0 then none else some (.int k (a.fdiv (2 ^ (min b.toNat k.bits)))) := by simp [binA]
theorem optK_ite' {α : Type} (c : Prop) [Decidable c] (o : Option α) (k : α → Prop) : optK (if c then none else o) k = (¬c ∧ optK o k) := by
  by_cases h : c
  · simp [h, optK]
  · simp [h]
theorem not_bool_dec (p : Prop) [Decidable p] : (Value.bool !decide p) = .bool (decide (¬p)) := by simp

theorem wrap_i64 {x : Int} (h1 : -9223372036854775808 ≤ x) (h2 : x < 9223372036854775808) : IntKind.wrap .i64 x = x := by
  have hb : IntKind.bits .i64 = 64 := rfl
  unfold IntKind.wrap
  first
    | (simp only [hb]; omega)
    | (simp [IntKind.bits, IntKind.signed]; omega)

/-- Contracts of a call, entered. -/
theorem callK_func {P : Program} {Γ : YEnv} {g : FuncId} {first cap : Array Value} {args : List Value} {m : Mem} {K : Value → Mem → Prop} : callK P Γ (.func (.func g) first cap) args m K = ACalls P Γ g (first.toList ++ args ++ cap.toList) m K := id rfl
theorem callK_congr {P : Program} {Γ : YEnv} {f f' : Value} {args args' : List Value} {m m' : Mem} (h1 : f = f') (h2 : args = args') (h3 : m = m') (K : Value → Mem → Prop) : callK P Γ f args m K = callK P Γ f' args' m' K := by rw [h1, h2, h3]
theorem ACalls_congr {P : Program} {Γ : YEnv} {g : FuncId} {args args' : List Value} {m m' : Mem} (h2 : args = args') (h3 : m = m') (K : Value → Mem → Prop) : ACalls P Γ g args m K = ACalls P Γ g args' m' K := by rw [h2, h3]
attribute [congr] callK_congr ACalls_congr

/-! ### Memories that have only grown -/
structure Mext (m m' : Mem) : Prop where
  next : m.next ≤ m'.next
  get : ∀ i, i < m.next → m'.get i = m.get i
theorem Mext.refl (m : Mem) : Mext m m := ⟨Nat.le_refl _, fun _ _ => rfl⟩
theorem Mext.trans {m m1 m2 : Mem} (h : Mext m m1) (k : Mext m1 m2) : Mext m m2 := ⟨Nat.le_trans h.next k.next, fun i hi => (k.get i (Nat.lt_of_lt_of_le hi h.next)).trans (h.get i hi)⟩
theorem Mext.new {m m1 : Mem} (h : Mext m m1) (o : AObj) : Mext m (m1.new o) := ⟨by rw [Mem.next_new]; have := h.next; omega, fun i hi => by rw [Mem.get_new_ne _ _ (by have := h.next; omega)]; exact h.get i hi⟩
theorem Mext.set {m m1 : Mem} (h : Mext m m1) {i : Nat} (hi : m.next ≤ i) (o : AObj) : Mext m (m1.set i o) := ⟨h.next, fun j hj => by rw [Mem.get_set_ne _ _ _ (by omega)]; exact h.get j hj⟩
theorem Mext.kill {m m1 : Mem} (h : Mext m m1) {i : Nat} (hi : m.next ≤ i) : Mext m (m1.kill i) := ⟨h.next, fun j hj => by rw [Mem.get_kill_ne _ _ (by omega)]; exact h.get j hj⟩
theorem Mext.row {m m' : Mem} (h : Mext m m') {i : Nat} (hi : i < m.next) : m'.row i = m.row i := by unfold Mem.row; rw [h.get i hi]
theorem Mext.cell {m m' : Mem} (h : Mext m m') {i o : Nat} (hi : i < m.next) : m'.cell i o = m.cell i o := by unfold Mem.cell; rw [h.row hi]
theorem Mext.cells {m m' : Mem} (h : Mext m m') {i o n : Nat} (hi : i < m.next) : m'.cells i o n = m.cells i o n := by unfold Mem.cells; rw [h.row hi]
theorem row_new (m : Mem) (c : List Value) (t : TypeId) (z : Nat) : (m.new (.cells c t z)).row m.next = some c := by unfold Mem.row; rw [Mem.get_new]
theorem cell_new (m : Mem) (c : List Value) (t : TypeId) (z o : Nat) : (m.new (.cells c t z)).cell m.next o = c[o]? := by unfold Mem.cell; rw [row_new]; rfl
theorem cells_new (m : Mem) (c : List Value) (t : TypeId) (z o n : Nat) : (m.new (.cells c t z)).cells m.next o n = if o + n ≤ c.length then some ((c.drop o).take n) else none := by unfold Mem.cells; rw [row_new]; rfl
theorem minmaxA_nil (b : Bool) (v : Value) : minmaxA b v [] = some v := by simp [minmaxA]
theorem minmaxA_min (k k' : IntKind) (x y : Int) (r : List Value) : minmaxA true (.int k x) (.int k' y :: r) = minmaxA true (.int k (min x y)) r := by
  simp only [minmaxA, if_true]
  congr 2
  omega
theorem minmaxA_max (k k' : IntKind) (x y : Int) (r : List Value) : minmaxA false (.int k x) (.int k' y :: r) = minmaxA false (.int k (max x y)) r := by
  simp only [minmaxA, Bool.false_eq_true, if_false]
  congr 2
  split <;> omega
theorem okVal_agg (cs : Array Value) : okVal (.agg cs) = true := id rfl
theorem okVal_int (k : IntKind) (i : Int) : okVal (.int k i) = true := id rfl
theorem okVal_bool (b : Bool) : okVal (.bool b) = true := id rfl
theorem okVal_slice (a : Option Addr) (n c : Nat) : okVal (.slice a n c) = true := id rfl
theorem okVal_ptr (a : Option Addr) : okVal (.pointer a) = true := id rfl
theorem okVal_iface (t : TypeId) (v : Value) : okVal (.iface t v) = true := id rfl
theorem okVal_func (f : Fn) (xs ys : Array Value) : okVal (.func f xs ys) = true := id rfl
theorem okCell_int (k : IntKind) (i : Int) : okCell (.int k i) = true := id rfl
theorem okCell_bool (b : Bool) : okCell (.bool b) = true := id rfl
theorem okCell_slice (a : Option Addr) (n c : Nat) : okCell (.slice a n c) = true := id rfl
theorem okCell_ptr (a : Option Addr) : okCell (.pointer a) = true := id rfl
theorem cells_agg (cs : Array Value) : (Value.agg cs).cells = cs := id rfl
theorem cells_int (k : IntKind) (i : Int) : (Value.int k i).cells = #[.int k i] := id rfl
theorem cells_bool (b : Bool) : (Value.bool b).cells = #[.bool b] := id rfl
theorem cells_slice (a : Option Addr) (n c : Nat) : (Value.slice a n c).cells = #[.slice a n c] := id rfl
theorem cells_ptr (a : Option Addr) : (Value.pointer a).cells = #[.pointer a] := id rfl
theorem cells_iface (t : TypeId) (v : Value) : (Value.iface t v).cells = #[.iface t v] := id rfl
theorem cells_func (f : Fn) (xs ys : Array Value) : (Value.func f xs ys).cells = #[.func f xs ys] := rfl
end Go.Proofs.Ytnhodgonmceojaa.Sh
