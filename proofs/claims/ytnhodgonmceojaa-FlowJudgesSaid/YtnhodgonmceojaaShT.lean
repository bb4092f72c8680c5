/- A run of code over the abstract memory, by which a closed call is settled by computing. Memories lie in trees. -/
import Derived.Test.YtnhodgonmceojaaShR
set_option linter.unusedVariables false
set_option linter.unusedSimpArgs false
namespace Go.Proofs.Ytnhodgonmceojaa.Sh
open Go.RowKit

/-! ### Trees -/
inductive BT (α : Type) where
  | leaf
  | node (v : Option α) (l r : BT α)
def bitsF : Nat → Nat → List Bool
  | 0, _ => []
  | f + 1, i => match i with
    | 0 => []
    | j + 1 => Nat.beq (Nat.mod j 2) 1 :: bitsF f (Nat.div j 2)
def bits (i : Nat) : List Bool := bitsF (i + 1) i
def ofBits : List Bool → Nat
  | [] => 0
  | b :: r => 2 * ofBits r + (if b then 1 else 0) + 1
theorem ofBits_bitsF : ∀ (f i : Nat), i < f → ofBits (bitsF f i) = i
  | 0, i, h => by omega
  | f + 1, 0, h => rfl
  | f + 1, j + 1, h => by
    have hd : j / 2 ≤ j := Nat.div_le_self j 2
    have ih := ofBits_bitsF f (j / 2) (by omega)
    show 2 * ofBits (bitsF f (j / 2)) + (if Nat.beq (j % 2) 1 = true then 1 else 0) + 1 = j + 1
    rw [ih]
    have hm : j % 2 < 2 := Nat.mod_lt _ (by omega)
    split
    · rename_i hb; have := Nat.eq_of_beq_eq_true hb; omega
    · rename_i hb
      have : j % 2 ≠ 1 := fun e => hb (by rw [e]; rfl)
      omega
theorem bits_inj {i j : Nat} (h : bits i = bits j) : i = j := by
  have h1 := ofBits_bitsF (i + 1) i (by omega)
  have h2 := ofBits_bitsF (j + 1) j (by omega)
  unfold bits at h
  rw [← h1, h, h2]

section
variable {α : Type}
def BT.get : BT α → List Bool → Option α
  | .leaf, _ => none
  | .node v _ _, [] => v
  | .node _ l r, b :: bs => match b with
    | true => l.get bs
    | false => r.get bs
def BT.upd : List Bool → Option α → BT α → BT α
  | [], x, .leaf => .node x .leaf .leaf
  | [], x, .node _ l r => .node x l r
  | b :: bs, x, .leaf => match b with
    | true => .node none (BT.upd bs x .leaf) .leaf
    | false => .node none .leaf (BT.upd bs x .leaf)
  | b :: bs, x, .node v l r => match b with
    | true => .node v (BT.upd bs x l) r
    | false => .node v l (BT.upd bs x r)
theorem BT.get_upd : ∀ (bs cs : List Bool) (x : Option α) (t : BT α), (BT.upd bs x t).get cs = if cs = bs then x else t.get cs
  | [], [], x, .leaf => rfl
  | [], [], x, .node _ l r => rfl
  | [], c :: cs, x, .leaf => by cases c <;> simp [BT.upd, BT.get]
  | [], c :: cs, x, .node _ l r => by cases c <;> simp [BT.upd, BT.get]
  | b :: bs, [], x, .leaf => by cases b <;> simp [BT.upd, BT.get]
  | b :: bs, [], x, .node v l r => by cases b <;> simp [BT.upd, BT.get]
  | b :: bs, c :: cs, x, .leaf => by
    have ih := BT.get_upd bs cs x .leaf
    cases b <;> cases c <;> simp [BT.upd, BT.get, ih]
  | b :: bs, c :: cs, x, .node v l r => by
    have ihl := BT.get_upd bs cs x l
    have ihr := BT.get_upd bs cs x r
    cases b <;> cases c <;> simp [BT.upd, BT.get, ihl, ihr]
end

structure MX where
  t : BT AObj
  next : Nat
def memOf (m : MX) : Mem := ⟨fun i => m.t.get (bits i), m.next⟩
def MX.new (m : MX) (o : AObj) : MX := ⟨BT.upd (bits m.next) (some o) m.t, m.next + 1⟩
def MX.set (m : MX) (i : Nat) (o : AObj) : MX := ⟨BT.upd (bits i) (some o) m.t, m.next⟩
def MX.kill (m : MX) (i : Nat) : MX := ⟨BT.upd (bits i) none m.t, m.next⟩
def MX.get (m : MX) (i : Nat) : Option AObj := m.t.get (bits i)
theorem upd_fun {m : MX} (i : Nat) (x : Option AObj) : (fun j => (BT.upd (bits i) x m.t).get (bits j)) = fun j => if j = i then x else m.t.get (bits j) := by
  funext j
  rw [BT.get_upd]
  by_cases h : j = i
  · subst h; simp
  · rw [if_neg h, if_neg fun e => h (bits_inj e)]
theorem memOf_new (m : MX) (o : AObj) : memOf (m.new o) = (memOf m).new o := by simp only [memOf, MX.new, Mem.new, upd_fun]; rfl
theorem memOf_set (m : MX) (i : Nat) (o : AObj) : memOf (m.set i o) = (memOf m).set i o := by simp only [memOf, MX.set, Mem.set, upd_fun]
theorem memOf_kill (m : MX) (i : Nat) : memOf (m.kill i) = (memOf m).kill i := by simp only [memOf, MX.kill, Mem.kill, upd_fun]
theorem memOf_get (m : MX) (i : Nat) : (memOf m).get i = m.get i := rfl
theorem memOf_next (m : MX) : (memOf m).next = m.next := rfl

section
variable (P : Program)
def appX (e : TypeId) (z bytes : Nat) (s : Value) (n : Nat) (news : List Value) (m : MX) : Option (Value × MX) :=
    if news.all okCell = true then
    match s with
    | .slice none 0 0 =>
      if n = 0 then some (.slice none 0 0, m)
      else if n * bytes ≤ 140737488355328 ∧ n ≤ maxLen then some (.slice (some ⟨m.next, 0, none⟩) n (big + n), m.new (.cells news e z)) else none
    | .slice (some a) l c =>
      match m.get a.block with
      | some (.cells cs t z') =>
        if l + n ≤ (if c < big then c else c - big) then
          if a.off + l * z + n * z ≤ cs.length then some (.slice (some a) (l + n) c, m.set a.block (.cells (splice cs (a.off + l * z) news) t z')) else none
        else if l + n ≤ maxLen ∧ (l + n) * bytes ≤ 140737488355328 then
          if c < big then
            if a.off + l * z ≤ cs.length then some (.slice (some ⟨m.next, 0, none⟩) (l + n) (big + (l + n)), m.new (.cells ((cs.drop a.off).take (l * z) ++ news) e z)) else none
          else if cs.length = a.off + l * z ∧ t = e ∧ z' = z then some (.slice (some ⟨m.next, 0, none⟩) (l + n) (big + (l + n)), (m.kill a.block).new (.cells (cs.drop a.off ++ news) e z)) else none
        else none
      | some (.view cs) =>
        if l + n ≤ c then none
        else if c < big ∧ a.off + l * z ≤ cs.length ∧ l + n ≤ maxLen ∧ (l + n) * bytes ≤ 140737488355328 then some (.slice (some ⟨m.next, 0, none⟩) (l + n) (big + (l + n)), m.new (.cells ((cs.drop a.off).take (l * z) ++ news) e z)) else none
      | _ => none
    | _ => none
    else none
def lift (r : Option (Value × MX)) : Option (Value × Mem) := r.map fun p => (p.1, memOf p.2)
theorem appX_eq (e : TypeId) (z bytes : Nat) (s : Value) (n : Nat) (news : List Value) (m : MX) : appL e z bytes s n news (memOf m) = lift (appX e z bytes s n news m) := by
  unfold appL appX
  split
  · split
    · split
      · rfl
      · split
        · simp [lift, memOf_new, memOf_next]
        · rfl
    · simp only [memOf_get, memOf_next]
      rename_i a l c
      generalize m.get a.block = g
      cases g with
      | none => rfl
      | some ob =>
        cases ob <;> dsimp only <;> (repeat' split) <;> first
          | rfl
          | (simp only [lift, Option.map_some, memOf_new, memOf_set, memOf_kill, memOf_next]; done)
    · rename_i h1 h2
      split
      · exact absurd rfl h1
      · exact absurd rfl (h2 _ _ _)
      · rfl
  · rfl

def stepX : AOp → (Operand → Value) → MX → Option (Value × MX)
  | .new t z, ev, m => some (.pointer (some ⟨m.next, 0, none⟩), m.new (.cells (Zc P t) t z))
  | .box t z x, ev, m => if okVal (ev x) = true ∧ (ev x).cells.size = z then some (.pointer (some ⟨m.next, 0, none⟩), m.new (.cells (ev x).cells.toList t z)) else none
  | .bslice e z len parts, ev, m => (buildA (zeros P e len) (parts.map fun p => (p.1, p.2.1, ev p.2.2))).map fun c => (.slice (some ⟨m.next, 0, none⟩) len len, m.new (.cells c e z))
  | .st n x v, ev, m => match ev x with
    | .pointer (some a) => match m.get a.block with
      | some (.cells c t z) => if okVal (ev v) = true ∧ (ev v).cells.size = n ∧ a.off + n ≤ c.length ∧ (ev v).cells.toList.all okCell = true then some (undef, m.set a.block (.cells (splice c a.off (ev v).cells.toList) t z)) else none
      | _ => none
    | _ => none
  | .mkmap, ev, m => some (.map (some m.next), m.new (.map []))
  | .mkslice e z bytes l c, ev, m => match ev l, ev c with
    | .int _ n, .int _ q => if n = q ∧ 0 ≤ n ∧ n ≤ 9223372036854775807 ∧ (bytes : Int) * n ≤ 281474976710656 then some (.slice (some ⟨m.next, 0, none⟩) n.toNat n.toNat, m.new (.cells (zeros P e n.toNat) e z)) else none
    | _, _ => none
  | .app e z bytes s x, ev, m => match srcA z (memOf m) (ev x) with
    | none => none
    | some (n, news) => appX e z bytes (ev s) n news m
  | .mapset x i v, ev, m => if isInt (ev i) = true then match ev x with
    | .map (some r) => match m.get r with
      | some (.map es) => match findA (ev i) es 0 with
        | some none => some (undef, m.set r (.map (es ++ [(ev i, ev v)])))
        | some (some j) => some (undef, m.set r (.map (es.set j (ev i, ev v))))
        | none => none
      | _ => none
    | _ => none
    else none
  | ao, ev, m => if Nat.ble ao.memA 1 = true then (step P ao ev (memOf m)).map fun r => (r.1, m) else none

theorem stepX_sound {ao : AOp} {ev : Operand → Value} {m m' : MX} {v : Value} (h : stepX P ao ev m = some (v, m')) : step P ao ev (memOf m) = some (v, memOf m') := by
  have quiet : ∀ {ao : AOp}, (if Nat.ble ao.memA 1 = true then (step P ao ev (memOf m)).map fun r => (r.1, m) else none) = some (v, m') → step P ao ev (memOf m) = some (v, memOf m') := by
    intro ao h
    split at h
    · rename_i hq
      obtain ⟨⟨v', m2⟩, h1, h2⟩ := Option.map_eq_some_iff.1 h
      cases h2
      have := step_quiet (by simpa using hq) h1
      subst this
      exact h1
    · cases h
  cases ao with
  | new t z => simp only [stepX, Option.some.injEq, Prod.mk.injEq] at h; obtain ⟨rfl, rfl⟩ := h; simp [step, memOf_new, memOf_next]
  | box t z x =>
    simp only [stepX] at h
    split at h
    · rename_i hc; cases h; simp only [step, if_pos hc, memOf_new, memOf_next]
    · cases h
  | bslice e z len parts =>
    simp only [stepX] at h
    obtain ⟨c, h1, h2⟩ := Option.map_eq_some_iff.1 h
    cases h2
    simp only [step, h1, Option.map_some, memOf_new, memOf_next]
  | st n x v' =>
    simp only [stepX] at h
    split at h
    · rename_i a hx
      split at h
      · rename_i c t z hg
        split at h
        · rename_i hc; cases h; simp only [step, hx, memOf_get, hg, if_pos hc, memOf_set]
        · cases h
      · cases h
    · cases h
  | mkmap => simp only [stepX, Option.some.injEq, Prod.mk.injEq] at h; obtain ⟨rfl, rfl⟩ := h; simp [step, memOf_new, memOf_next]
  | mkslice e z bytes l c =>
    simp only [stepX] at h
    split at h
    · rename_i k1 n k2 q h1 h2
      split at h
      · rename_i hc; cases h; simp only [step, h1, h2, if_pos hc, memOf_new, memOf_next]
      · cases h
    · cases h
  | app e z bytes s x =>
    simp only [stepX] at h
    split at h
    · cases h
    · rename_i n news hs
      simp only [step, appA, hs, appX_eq, h, lift, Option.map_some]
  | mapset x i v' =>
    simp only [stepX] at h
    split at h
    · rename_i hi
      split at h
      · rename_i r hx
        split at h
        · rename_i es hg
          split at h
          · rename_i hf; cases h; simp only [step, if_pos hi, hx, memOf_get, hg, hf, memOf_set]
          · rename_i j hf; cases h; simp only [step, if_pos hi, hx, memOf_get, hg, hf, memOf_set]
          · cases h
        · cases h
      · cases h
    · cases h
  | _ => exact quiet h
end

end Go.Proofs.Ytnhodgonmceojaa.Sh
