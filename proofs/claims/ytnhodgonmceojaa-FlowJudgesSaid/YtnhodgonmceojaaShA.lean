/- The abstract memory of a run (rows by number), what a value and a memory of it stand for in the model's world, and how both go on; no program in sight. -/
import Derived.WalkKit
import Derived.RangeFuncNested
import Derived.RangeFuncBound
import Derived.RangeFuncCalls
import Derived.RangeFuncLeaves
import Derived.OwnWalkIn
import Derived.LoopIn
import Derived.Sort.LoopGhostIn
import Derived.KernelRfl
set_option linter.unusedVariables false
set_option linter.unusedSimpArgs false
namespace Go.Proofs.Ytnhodgonmceojaa.Sh
open Go.RowKit

/-- An object of the abstract memory. -/
inductive AObj where
  | cells (c : List Value) (t : TypeId) (z : Nat)
  | view (c : List Value)
  | map (es : List (Value × Value))
  | loop (st : LoopState) (pending : Option Code)

def AObj.own : AObj → Bool
  | .view _ => false
  | _ => true

structure Mem where
  get : Nat → Option AObj
  next : Nat

structure Env where
  ρ : Nat → Addr
  κ : Nat → Nat
  ζ : Nat → Nat
  L : Nat → Loop

def Env.emb (E : Env) (a : Addr) : Addr := (E.ρ a.block).add a.off

/-- Capacities from here on are known from below alone. -/
def big : Nat := 18446744073709551616

theorem maxLen_big : maxLen < big := by unfold maxLen big; omega

def capOk (c c' : Nat) : Prop := (c < big → c' = c) ∧ (big ≤ c → c ≤ c' + big)

inductive Rep (E : Env) (n : Nat) : Value → Value → Prop
  | junk (u : Value) : Rep E n (.tuple #[]) u
  | one (u : Value) (h : u.oneCell' = true) : Rep E n (.chan none) u
  | bool (b : Bool) : Rep E n (.bool b) (.bool b)
  | int (k : IntKind) (i : Int) : Rep E n (.int k i) (.int k i)
  | str (s : ByteArray) : Rep E n (.string s) (.string s)
  | ptr0 : Rep E n (.pointer none) (.pointer none)
  | ptr (a : Addr) (h : a.block < n) (hs : a.spot = none) : Rep E n (.pointer (some a)) (.pointer (some (E.emb a)))
  | slice0 : Rep E n (.slice none 0 0) (.slice none 0 0)
  | sliceE (x : Option Addr) (c' : Nat) : Rep E n (.slice none 0 big) (.slice x 0 c')
  | slice (a : Addr) (l c c' : Nat) (h : a.block < n) (hs : a.spot = none) (hl : l ≤ c') (hc : capOk c c') (hk : big ≤ c → a.off + c' * E.ζ a.block ≤ E.κ a.block) (hm : c' ≤ maxLen) :
      Rep E n (.slice (some a) l c) (.slice (some (E.emb a)) l c')
  | map0 : Rep E n (.map none) (.map none)
  | map (r : Nat) (h : r < n) : Rep E n (.map (some r)) (.map (some (E.ρ r).block))
  | func (fn : Fn) (xs ys xs' ys' : Array Value) (hf : ∀ l, fn ≠ .yield l) (hx : xs.size = xs'.size) (hy : ys.size = ys'.size)
      (h1 : ∀ (i : Nat) (v u : Value), xs[i]? = some v → xs'[i]? = some u → Rep E n v u) (h2 : ∀ (i : Nat) (v u : Value), ys[i]? = some v → ys'[i]? = some u → Rep E n v u) : Rep E n (.func fn xs ys) (.func fn xs' ys')
  | yield (i : Nat) (h : i < n) : Rep E n (.func (.yield i) #[] #[]) (.func (.yield (E.ρ i).block) #[] #[])
  | nilFunc : Rep E n .nilFunc .nilFunc
  | iface (t : TypeId) (v u : Value) (h : Rep E n v u) : Rep E n (.iface t v) (.iface t u)
  | nilIface : Rep E n .nilIface .nilIface
  | agg (xs xs' : Array Value) (hx : xs.size = xs'.size) (h : ∀ (i : Nat) (v u : Value), xs[i]? = some v → xs'[i]? = some u → Rep E n v u) : Rep E n (.agg xs) (.agg xs')
  | tup (xs xs' : Array Value) (hx : xs.size = xs'.size) (h : ∀ (i : Nat) (v u : Value), xs[i]? = some v → xs'[i]? = some u → Rep E n v u) : Rep E n (.tuple xs) (.tuple xs')

/-- Two lists of values, place by place. -/
def RepL (E : Env) (n : Nat) (xs ys : List Value) : Prop := xs.length = ys.length ∧ ∀ (i : Nat) (v u : Value), xs[i]? = some v → ys[i]? = some u → Rep E n v u

structure Env.Agrees (E E' : Env) (n : Nat) : Prop where
  ρ : ∀ i, i < n → E'.ρ i = E.ρ i
  κ : ∀ i, i < n → E'.κ i = E.κ i
  ζ : ∀ i, i < n → E'.ζ i = E.ζ i
  L : ∀ i, i < n → E'.L i = E.L i

theorem Env.Agrees.refl (E : Env) (n : Nat) : E.Agrees E n := ⟨fun _ _ => rfl, fun _ _ => rfl, fun _ _ => rfl, fun _ _ => rfl⟩
theorem Env.Agrees.trans {E E1 E2 : Env} {n n1 : Nat} (h : E.Agrees E1 n) (k : E1.Agrees E2 n1) (hn : n ≤ n1) : E.Agrees E2 n :=
  ⟨fun i hi => (k.ρ i (by omega)).trans (h.ρ i hi), fun i hi => (k.κ i (by omega)).trans (h.κ i hi), fun i hi => (k.ζ i (by omega)).trans (h.ζ i hi), fun i hi => (k.L i (by omega)).trans (h.L i hi)⟩

theorem emb_agrees {E E' : Env} {n : Nat} (h : E.Agrees E' n) {a : Addr} (ha : a.block < n) : E'.emb a = E.emb a := by
  unfold Env.emb; rw [h.ρ _ ha]

theorem Rep.mono {E E' : Env} {n n' : Nat} (h : E.Agrees E' n) (hn : n ≤ n') {v u : Value} (r : Rep E n v u) : Rep E' n' v u := by
  induction r with
  | junk u => exact .junk u
  | one u h => exact .one u h
  | bool b => exact .bool b
  | int k i => exact .int k i
  | str s => exact .str s
  | ptr0 => exact .ptr0
  | ptr a ha hs => rw [← emb_agrees h ha]; exact .ptr a (by omega) hs
  | slice0 => exact .slice0
  | sliceE x c' => exact .sliceE x c'
  | slice a l c c' ha hs hl hc hk hm => rw [← emb_agrees h ha]; exact .slice a l c c' (by omega) hs hl hc (by rw [h.κ _ ha, h.ζ _ ha]; exact hk) hm
  | map0 => exact .map0
  | map r hr => rw [← h.ρ _ hr]; exact .map r (by omega)
  | func fn xs ys xs' ys' hf hx hy h1 h2 ih1 ih2 => exact .func fn xs ys xs' ys' hf hx hy ih1 ih2
  | yield i hi => rw [← h.ρ _ hi]; exact .yield i (by omega)
  | nilFunc => exact .nilFunc
  | iface t v u hv ih => exact .iface t v u ih
  | nilIface => exact .nilIface
  | agg xs xs' hx h ih => exact .agg xs xs' hx ih
  | tup xs xs' hx h ih => exact .tup xs xs' hx ih

theorem RepL.mono {E E' : Env} {n n' : Nat} (h : E.Agrees E' n) (hn : n ≤ n') {xs ys : List Value} (r : RepL E n xs ys) : RepL E' n' xs ys :=
  ⟨r.1, fun i v u h1 h2 => (r.2 i v u h1 h2).mono h hn⟩

theorem RepL.nil (E : Env) (n : Nat) : RepL E n [] [] := ⟨rfl, fun i v u h => by simp at h⟩
theorem RepL.cons {E : Env} {n : Nat} {x y : Value} {xs ys : List Value} (h : Rep E n x y) (r : RepL E n xs ys) : RepL E n (x :: xs) (y :: ys) := by
  refine ⟨by simp [r.1], fun i v u h1 h2 => ?_⟩
  cases i with
  | zero => simp at h1 h2; subst h1; subst h2; exact h
  | succ i => simp at h1 h2; exact r.2 i v u h1 h2
theorem RepL.append {E : Env} {n : Nat} {xs ys xs' ys' : List Value} (r : RepL E n xs ys) (r' : RepL E n xs' ys') : RepL E n (xs ++ xs') (ys ++ ys') := by
  refine ⟨by simp [r.1, r'.1], fun i v u h1 h2 => ?_⟩
  rcases Nat.lt_or_ge i xs.length with hi | hi
  · rw [List.getElem?_append_left hi] at h1
    rw [List.getElem?_append_left (by rw [← r.1]; exact hi)] at h2
    exact r.2 i v u h1 h2
  · rw [List.getElem?_append_right hi] at h1
    rw [List.getElem?_append_right (by rw [← r.1]; exact hi), ← r.1] at h2
    exact r'.2 _ v u h1 h2
theorem RepL.take {E : Env} {n : Nat} {xs ys : List Value} (r : RepL E n xs ys) (k : Nat) : RepL E n (xs.take k) (ys.take k) := by
  refine ⟨by simp [r.1], fun i v u h1 h2 => ?_⟩
  rw [List.getElem?_take] at h1 h2
  split at h1
  · rename_i hi; rw [if_pos hi] at h2; exact r.2 i v u h1 h2
  · cases h1
theorem RepL.drop {E : Env} {n : Nat} {xs ys : List Value} (r : RepL E n xs ys) (k : Nat) : RepL E n (xs.drop k) (ys.drop k) := by
  refine ⟨by simp [r.1], fun i v u h1 h2 => ?_⟩
  rw [List.getElem?_drop] at h1 h2
  exact r.2 _ v u h1 h2
theorem RepL.get {E : Env} {n : Nat} {xs ys : List Value} (r : RepL E n xs ys) {i : Nat} {v : Value} (h : xs[i]? = some v) : ∃ u, ys[i]? = some u ∧ Rep E n v u := by
  have hi : i < ys.length := by rw [← r.1]; exact (List.getElem?_eq_some_iff.1 h).1
  exact ⟨ys[i], List.getElem?_eq_getElem hi, r.2 i v _ h (List.getElem?_eq_getElem hi)⟩
theorem RepL.set {E : Env} {n : Nat} {xs ys : List Value} (r : RepL E n xs ys) (k : Nat) {v u : Value} (h : Rep E n v u) : RepL E n (xs.set k v) (ys.set k u) := by
  refine ⟨by simp [r.1], fun i v' u' h1 h2 => ?_⟩
  rw [List.getElem?_set] at h1 h2
  split at h1
  · rename_i hk
    subst hk
    rw [if_pos rfl] at h2
    split at h1
    · split at h2
      · cases h1; cases h2; exact h
      · cases h2
    · cases h1
  · rename_i hk
    rw [if_neg hk] at h2
    exact r.2 i v' u' h1 h2

/-- One cell's value (no aggregate, no tuple). -/
def okCell : Value → Bool
  | .tuple _ | .agg _ => false
  | _ => true
def okVal : Value → Bool
  | .tuple _ => false
  | _ => true

theorem Rep.okCell {E : Env} {n : Nat} {v u : Value} (r : Rep E n v u) (h : okCell v = true) : okCell u = true ∧ u.oneCell' = true := by
  cases r <;> first | (exact ⟨rfl, rfl⟩) | (simp [Sh.okCell] at h; done) | (rename_i h1; refine ⟨?_, h1⟩; cases u <;> first | rfl | (cases h1))
theorem Rep.cells {E : Env} {n : Nat} {v u : Value} (r : Rep E n v u) (h : okVal v = true) : RepL E n v.cells.toList u.cells.toList := by
  have one : ∀ {v u : Value}, Rep E n v u → RepL E n [v] [u] := fun r => RepL.cons r (RepL.nil _ _)
  cases r with
  | junk u => simp [okVal] at h
  | one u h1 =>
    have : u.cells = #[u] := by cases u <;> first | rfl | cases h1
    rw [this]
    exact one (.one u h1)
  | tup => simp [okVal] at h
  | agg xs xs' hx hh => exact ⟨by simpa [Value.cells] using hx, fun i v u h1 h2 => hh i v u (by simpa [Value.cells] using h1) (by simpa [Value.cells] using h2)⟩
  | bool b => exact one (.bool b)
  | int k i => exact one (.int k i)
  | str s => exact one (.str s)
  | ptr0 => exact one .ptr0
  | ptr a ha hs => exact one (.ptr a ha hs)
  | slice0 => exact one .slice0
  | sliceE x c' => exact one (.sliceE x c')
  | slice a l c c' ha hs hl hc hk hm => exact one (.slice a l c c' ha hs hl hc hk hm)
  | map0 => exact one .map0
  | map r hr => exact one (.map r hr)
  | func fn xs ys xs' ys' hf hx hy h1 h2 => exact one (.func fn xs ys xs' ys' hf hx hy h1 h2)
  | yield i hi => exact one (.yield i hi)
  | nilFunc => exact one .nilFunc
  | iface t v u hv => exact one (.iface t v u hv)
  | nilIface => exact one .nilIface

/-! ### What an abstract memory stands for -/
def ROwn (E : Env) (n : Nat) (B : Nat) (w : World) (i : Nat) (c : List Value) (t : TypeId) (z : Nat) : Prop :=
  ∃ b o cs, E.ρ i = ⟨b, o, none⟩ ∧ B ≤ b ∧ w.heap[b]? = some (.cells cs t (0, 0)) ∧ o + E.κ i ≤ cs.size ∧ c.length ≤ E.κ i ∧ E.ζ i = z ∧ RepL E n c ((cs.toList.drop o).take c.length)
def RMap (E : Env) (n : Nat) (B : Nat) (w : World) (i : Nat) (es : List (Value × Value)) : Prop :=
  ∃ b es' clk, E.ρ i = ⟨b, 0, none⟩ ∧ B ≤ b ∧ w.heap[b]? = some (.map es' clk) ∧ RepL E n (es.map (·.1)) (es'.toList.map (·.key)) ∧ RepL E n (es.map (·.2)) (es'.toList.map (·.val))
def RView (E : Env) (n : Nat) (B : Nat) (w : World) (i : Nat) (c : List Value) : Prop :=
  ∀ j v, c[j]? = some v → ((E.ρ i).add j).block < B ∧ ∃ u, w.cell? ((E.ρ i).add j) = some u ∧ Rep E n v u
def RLoop (E : Env) (B : Nat) (w : World) (i : Nat) (st : LoopState) (pe : Option Code) : Prop :=
  ∃ b, E.ρ i = ⟨b, 0, none⟩ ∧ B ≤ b ∧ w.heap[b]? = some (.loop { E.L i with state := st, pending := pe })

def RObj (E : Env) (n : Nat) (B : Nat) (w : World) (i : Nat) : AObj → Prop
  | .cells c t z => ROwn E n B w i c t z
  | .map es => RMap E n B w i es
  | .view c => RView E n B w i c
  | .loop st pe => RLoop E B w i st pe

structure Rel (E : Env) (m : Mem) (w : World) (B : Nat) : Prop where
  lt : ∀ i o, m.get i = some o → i < m.next
  obj : ∀ i o, m.get i = some o → RObj E m.next B w i o
  inj : ∀ i j o o', m.get i = some o → m.get j = some o' → o.own = true → o'.own = true → (E.ρ i).block = (E.ρ j).block → i = j
  hB : B ≤ w.heap.size

structure Evo (E : Env) (m : Mem) (w : World) (E' : Env) (m' : Mem) (w' : World) : Prop where
  next : m.next ≤ m'.next
  ext : E.Agrees E' m.next
  os : w'.os = w.os
  tape : w'.tape = w.tape
  output : w'.output = w.output
  size : w.heap.size ≤ w'.heap.size
  same : ∀ k, k < w.heap.size → (∀ i o, m.get i = some o → o.own = true → (E.ρ i).block ≠ k) → w'.heap[k]? = w.heap[k]?
  fresh : ∀ i o, m'.get i = some o → o.own = true → (∃ j o', m.get j = some o' ∧ o'.own = true ∧ (E.ρ j).block = (E'.ρ i).block) ∨ w.heap.size ≤ (E'.ρ i).block

theorem Evo.refl (E : Env) (m : Mem) (w : World) : Evo E m w E m w :=
  ⟨Nat.le_refl _, Env.Agrees.refl _ _, rfl, rfl, rfl, Nat.le_refl _, fun _ _ _ => rfl, fun i o h1 h2 => .inl ⟨i, o, h1, h2, rfl⟩⟩

theorem Evo.trans {E E1 E2 : Env} {m m1 m2 : Mem} {w w1 w2 : World} (h : Evo E m w E1 m1 w1) (k : Evo E1 m1 w1 E2 m2 w2) : Evo E m w E2 m2 w2 where
  next := Nat.le_trans h.next k.next
  ext := h.ext.trans k.ext h.next
  os := k.os.trans h.os
  tape := k.tape.trans h.tape
  output := k.output.trans h.output
  size := Nat.le_trans h.size k.size
  same := fun x hx ho => by
    refine (k.same x (Nat.lt_of_lt_of_le hx h.size) fun i o hi hoo he => ?_).trans (h.same x hx ho)
    rcases h.fresh i o hi hoo with ⟨j, o', hj, ho', hb⟩ | hb
    · exact ho j o' hj ho' (hb.trans he)
    · omega
  fresh := fun i o hi hoo => by
    rcases k.fresh i o hi hoo with ⟨j, o', hj, ho', hb⟩ | hb
    · rcases h.fresh j o' hj ho' with ⟨j2, o2, hj2, ho2, hb2⟩ | hb2
      · exact .inl ⟨j2, o2, hj2, ho2, hb2.trans hb⟩
      · exact .inr (by omega)
    · exact .inr (Nat.le_trans h.size hb)

theorem Rel.own_block {E : Env} {m : Mem} {w : World} {B : Nat} (h : Rel E m w B) {i : Nat} {o : AObj} (hi : m.get i = some o) (ho : o.own = true) :
    ∃ b x, (E.ρ i).block = b ∧ B ≤ b ∧ w.heap[b]? = some x := by
  have := h.obj i o hi
  cases o with
  | cells c t z => obtain ⟨b, o, cs, h1, h2, h3, _⟩ := this; exact ⟨b, _, by rw [h1], h2, h3⟩
  | map es => obtain ⟨b, es', clk, h1, h2, h3, _⟩ := this; exact ⟨b, _, by rw [h1], h2, h3⟩
  | view c => simp [AObj.own] at ho
  | loop st pe => obtain ⟨b, h1, h2, h3⟩ := this; exact ⟨b, _, by rw [h1], h2, h3⟩

theorem Evo.below {E E' : Env} {m m' : Mem} {w w' : World} {B : Nat} (h : Evo E m w E' m' w') (r : Rel E m w B) : Below B w w' :=
  ⟨h.os, h.tape, h.output, h.size, fun k hk => h.same k (Nat.lt_of_lt_of_le hk r.hB) fun i o hi ho he => by
    obtain ⟨b, x, h1, h2, _⟩ := r.own_block hi ho
    omega⟩

/-- A draw turns nothing. -/
theorem Rel.drew {E : Env} {m : Mem} {w : World} {B : Nat} (h : Rel E m w B) : Rel E m w.drew B :=
  ⟨h.lt, fun i o hi => by
    have := h.obj i o hi
    cases o <;> exact this, h.inj, h.hB⟩
theorem Evo.drew {E E' : Env} {m m' : Mem} {w w' : World} (h : Evo E m w E' m' w') : Evo E m w E' m' w'.drew :=
  ⟨h.next, h.ext, h.os, h.tape, h.output, h.size, h.same, h.fresh⟩

end Go.Proofs.Ytnhodgonmceojaa.Sh
