/- How the abstract memory goes on with the world: a new object, an object that is turned, a row that an append takes over. -/
import Derived.Test.YtnhodgonmceojaaShA
set_option linter.unusedVariables false
set_option linter.unusedSimpArgs false
namespace Go.Proofs.Ytnhodgonmceojaa.Sh
open Go.RowKit

def Mem.new (m : Mem) (o : AObj) : Mem := ⟨fun i => if i = m.next then some o else m.get i, m.next + 1⟩
def Mem.set (m : Mem) (i : Nat) (o : AObj) : Mem := ⟨fun j => if j = i then some o else m.get j, m.next⟩
def Mem.kill (m : Mem) (i : Nat) : Mem := ⟨fun j => if j = i then none else m.get j, m.next⟩

theorem Mem.get_new (m : Mem) (o : AObj) : (m.new o).get m.next = some o := by simp [Mem.new]
theorem Mem.get_new_ne (m : Mem) (o : AObj) {j : Nat} (h : j ≠ m.next) : (m.new o).get j = m.get j := by simp [Mem.new, h]
theorem Mem.get_set (m : Mem) (i : Nat) (o : AObj) : (m.set i o).get i = some o := by simp [Mem.set]
theorem Mem.get_set_ne (m : Mem) (i : Nat) (o : AObj) {j : Nat} (h : j ≠ i) : (m.set i o).get j = m.get j := by simp [Mem.set, h]
theorem Mem.get_kill (m : Mem) (i : Nat) : (m.kill i).get i = none := by simp [Mem.kill]
theorem Mem.get_kill_ne (m : Mem) (i : Nat) {j : Nat} (h : j ≠ i) : (m.kill i).get j = m.get j := by simp [Mem.kill, h]
theorem Mem.next_new (m : Mem) (o : AObj) : (m.new o).next = m.next + 1 := rfl
theorem Mem.next_set (m : Mem) (i : Nat) (o : AObj) : (m.set i o).next = m.next := rfl
theorem Mem.next_kill (m : Mem) (i : Nat) : (m.kill i).next = m.next := rfl

def Env.put (E : Env) (i : Nat) (a : Addr) (k z : Nat) (l : Loop) : Env := ⟨fun j => if j = i then a else E.ρ j, fun j => if j = i then k else E.κ j, fun j => if j = i then z else E.ζ j, fun j => if j = i then l else E.L j⟩

theorem Env.agrees_put (E : Env) (n : Nat) (a : Addr) (k z : Nat) (l : Loop) : E.Agrees (E.put n a k z l) n :=
  ⟨fun i hi => by simp [Env.put, Nat.ne_of_lt hi], fun i hi => by simp [Env.put, Nat.ne_of_lt hi], fun i hi => by simp [Env.put, Nat.ne_of_lt hi], fun i hi => by simp [Env.put, Nat.ne_of_lt hi]⟩

theorem RObj.keep {E : Env} {n B : Nat} {w w' : World} {i : Nat} {o : AObj} (h : RObj E n B w i o)
    (h1 : o.own = true → w'.heap[(E.ρ i).block]? = w.heap[(E.ρ i).block]?) (h2 : ∀ k, k < B → w'.heap[k]? = w.heap[k]?) : RObj E n B w' i o := by
  cases o with
  | cells c t z =>
    obtain ⟨b, o, cs, e1, e2, e3, r⟩ := h
    have := h1 rfl; rw [e1] at this; simp only at this
    exact ⟨b, o, cs, e1, e2, this.trans e3, r⟩
  | map es =>
    obtain ⟨b, es', clk, e1, e2, e3, r⟩ := h
    have := h1 rfl; rw [e1] at this; simp only at this
    exact ⟨b, es', clk, e1, e2, this.trans e3, r⟩
  | view c =>
    intro j v hj
    obtain ⟨a1, u, a2, a3⟩ := h j v hj
    exact ⟨a1, u, (World.cell?_of_block (h2 _ a1)).trans a2, a3⟩
  | loop st pe =>
    obtain ⟨b, e1, e2, e3⟩ := h
    have := h1 rfl; rw [e1] at this; simp only at this
    exact ⟨b, e1, e2, this.trans e3⟩

theorem RObj.mono {E E' : Env} {n n' B : Nat} {w : World} {i : Nat} {o : AObj} (h : RObj E n B w i o) (ha : E.Agrees E' n) (hn : n ≤ n') (hi : i < n) : RObj E' n' B w i o := by
  cases o with
  | cells c t z =>
    obtain ⟨b, o, cs, e1, e2, e3, e4, e5, e6, e7⟩ := h
    exact ⟨b, o, cs, (ha.ρ i hi).trans e1, e2, e3, by rw [ha.κ i hi]; exact e4, by rw [ha.κ i hi]; exact e5, by rw [ha.ζ i hi]; exact e6, e7.mono ha hn⟩
  | map es =>
    obtain ⟨b, es', clk, e1, e2, e3, r1, r2⟩ := h
    exact ⟨b, es', clk, (ha.ρ i hi).trans e1, e2, e3, r1.mono ha hn, r2.mono ha hn⟩
  | view c =>
    intro j v hj
    obtain ⟨a1, u, a2, a3⟩ := h j v hj
    rw [ha.ρ i hi]
    exact ⟨a1, u, a2, a3.mono ha hn⟩
  | loop st pe =>
    obtain ⟨b, e1, e2, e3⟩ := h
    exact ⟨b, (ha.ρ i hi).trans e1, e2, by rw [ha.L i hi]; exact e3⟩

theorem Rel.grown {E : Env} {m : Mem} {w w' : World} {B : Nat} (h : Rel E m w B) (hg : w.grownBy w' none) : Rel E m w' B ∧ Evo E m w E m w' := by
  have same : ∀ k, k < w.heap.size → w'.heap[k]? = w.heap[k]? := fun k hk => hg.block k hk (by simp)
  refine ⟨⟨h.lt, fun i o hi => (h.obj i o hi).keep (fun ho => ?_) (fun k hk => same k (Nat.lt_of_lt_of_le hk h.hB)), h.inj, Nat.le_trans h.hB hg.size⟩,
    ⟨Nat.le_refl _, Env.Agrees.refl _ _, hg.os, hg.tape, hg.output, hg.size, fun k hk _ => same k hk, fun i o h1 h2 => .inl ⟨i, o, h1, h2, rfl⟩⟩⟩
  obtain ⟨b, x, e1, _, e3⟩ := h.own_block hi ho
  rw [e1]
  exact same b (Array.getElem?_eq_some_iff.1 e3).1

theorem Rel.new {E : Env} {m : Mem} {w : World} {B : Nat} (h : Rel E m w B) (o : AObj) (ob : Obj) (k z : Nat) (l : Loop)
    (ho : RObj (E.put m.next ⟨w.heap.size, 0, none⟩ k z l) (m.next + 1) B (w.alloc ob) m.next o) :
    Rel (E.put m.next ⟨w.heap.size, 0, none⟩ k z l) (m.new o) (w.alloc ob) B ∧ Evo E m w (E.put m.next ⟨w.heap.size, 0, none⟩ k z l) (m.new o) (w.alloc ob) := by
  have ha := E.agrees_put m.next ⟨w.heap.size, 0, none⟩ k z l
  have hgt : ∀ i o', (m.new o).get i = some o' → (i = m.next ∧ o' = o) ∨ (i < m.next ∧ m.get i = some o') := by
    intro i o' hi
    simp only [Mem.new] at hi
    split at hi
    · rename_i e; exact .inl ⟨e, by cases hi; rfl⟩
    · exact .inr ⟨h.lt i o' hi, hi⟩
  have same : ∀ j, j < w.heap.size → (w.alloc ob).heap[j]? = w.heap[j]? := fun j hj => Below.heap_alloc w ob j hj
  have hown : ∀ i o', m.get i = some o' → o'.own = true → (E.ρ i).block < w.heap.size := by
    intro i o' hi ho'
    obtain ⟨b, x, e1, _, e3⟩ := h.own_block hi ho'
    rw [e1]; exact (Array.getElem?_eq_some_iff.1 e3).1
  have hnew : ((E.put m.next ⟨w.heap.size, 0, none⟩ k z l).ρ m.next).block = w.heap.size := by simp [Env.put]
  refine ⟨⟨fun i o' hi => ?_, fun i o' hi => ?_, fun i j o1 o2 h1 h2 g1 g2 hb => ?_, by have := h.hB; simp; omega⟩,
    ⟨by simp [Mem.new], ha, rfl, rfl, rfl, by simp, fun j hj _ => same j hj, fun i o' hi ho' => ?_⟩⟩
  · rcases hgt i o' hi with ⟨rfl, _⟩ | ⟨hl, _⟩ <;> simp [Mem.new] <;> omega
  · rcases hgt i o' hi with ⟨rfl, rfl⟩ | ⟨hl, hg⟩
    · exact ho
    · refine ((h.obj i o' hg).keep (fun ho' => same _ (hown i o' hg ho')) (fun j hj => same j (Nat.lt_of_lt_of_le hj h.hB))).mono ha (by simp [Mem.new]) hl
  · rcases hgt i o1 h1 with ⟨rfl, _⟩ | ⟨hl1, hg1⟩ <;> rcases hgt j o2 h2 with ⟨rfl, _⟩ | ⟨hl2, hg2⟩
    · rfl
    · rw [hnew, ha.ρ j hl2] at hb; have := hown j o2 hg2 g2; omega
    · rw [hnew, ha.ρ i hl1] at hb; have := hown i o1 hg1 g1; omega
    · rw [ha.ρ i hl1, ha.ρ j hl2] at hb; exact h.inj i j o1 o2 hg1 hg2 g1 g2 hb
  · rcases hgt i o' hi with ⟨rfl, _⟩ | ⟨hl, hg⟩
    · exact .inr (by rw [hnew]; exact Nat.le_refl _)
    · exact .inl ⟨i, o', hg, ho', by rw [ha.ρ i hl]⟩

/-- The world turned at one block alone. -/
theorem Rel.set {E : Env} {m : Mem} {w w' : World} {B : Nat} (h : Rel E m w B) {i : Nat} {o : AObj} (hi : m.get i = some o) (ho : o.own = true) (o' : AObj) (ho' : o'.own = true)
    (hg : w.grownBy w' (some (E.ρ i).block)) (hr : RObj E m.next B w' i o') : Rel E (m.set i o') w' B ∧ Evo E m w E (m.set i o') w' := by
  obtain ⟨b, x, e1, e2, e3⟩ := h.own_block hi ho
  have hb : (E.ρ i).block = b := e1
  have hgt : ∀ j p, (m.set i o').get j = some p → (j = i ∧ p = o') ∨ (j ≠ i ∧ m.get j = some p) := by
    intro j p hj
    simp only [Mem.set] at hj
    split at hj
    · rename_i e; exact .inl ⟨e, by cases hj; rfl⟩
    · rename_i e; exact .inr ⟨e, hj⟩
  have same : ∀ k, k < w.heap.size → k ≠ b → w'.heap[k]? = w.heap[k]? := fun k hk hne => hg.block k hk (by rw [hb]; simpa using hne)
  refine ⟨⟨fun j p hj => ?_, fun j p hj => ?_, fun j1 j2 p1 p2 h1 h2 g1 g2 hbb => ?_, Nat.le_trans h.hB hg.size⟩,
    ⟨Nat.le_refl _, Env.Agrees.refl _ _, hg.os, hg.tape, hg.output, hg.size, fun k hk hn => same k hk fun e => hn i o hi ho (by rw [hb, e]), fun j p hj hp => ?_⟩⟩
  · rcases hgt j p hj with ⟨rfl, _⟩ | ⟨_, hg'⟩
    · exact h.lt _ _ hi
    · exact h.lt _ _ hg'
  · rcases hgt j p hj with ⟨rfl, rfl⟩ | ⟨hne, hg'⟩
    · exact hr
    · refine (h.obj j p hg').keep (fun hp => ?_) (fun k hk => same k (Nat.lt_of_lt_of_le hk h.hB) (by omega))
      obtain ⟨b2, x2, f1, f2, f3⟩ := h.own_block hg' hp
      refine same _ (by rw [f1]; exact (Array.getElem?_eq_some_iff.1 f3).1) fun e => hne ?_
      exact h.inj j i p o hg' hi hp ho (by rw [e, hb])
  · rcases hgt j1 p1 h1 with ⟨rfl, _⟩ | ⟨n1, k1⟩ <;> rcases hgt j2 p2 h2 with ⟨rfl, _⟩ | ⟨n2, k2⟩
    · rfl
    · exact h.inj _ _ _ _ hi k2 ho g2 hbb
    · exact h.inj _ _ _ _ k1 hi g1 ho hbb
    · exact h.inj _ _ _ _ k1 k2 g1 g2 hbb
  · rcases hgt j p hj with ⟨rfl, _⟩ | ⟨_, hg'⟩
    · exact .inl ⟨j, o, hi, ho, rfl⟩
    · exact .inl ⟨j, p, hg', hp, rfl⟩

theorem Rel.kill {E : Env} {m : Mem} {w : World} {B : Nat} (h : Rel E m w B) (i : Nat) : Rel E (m.kill i) w B ∧ Evo E m w E (m.kill i) w := by
  have hgt : ∀ j p, (m.kill i).get j = some p → m.get j = some p := by
    intro j p hj
    simp only [Mem.kill] at hj
    split at hj
    · cases hj
    · exact hj
  exact ⟨⟨fun j p hj => h.lt j p (hgt j p hj), fun j p hj => h.obj j p (hgt j p hj), fun j1 j2 p1 p2 h1 h2 => h.inj j1 j2 p1 p2 (hgt _ _ h1) (hgt _ _ h2), h.hB⟩,
    ⟨Nat.le_refl _, Env.Agrees.refl _ _, rfl, rfl, rfl, Nat.le_refl _, fun _ _ _ => rfl, fun j p hj hp => .inl ⟨j, p, hgt j p hj, hp, rfl⟩⟩⟩

/-- A new name takes over an old one's block. -/
theorem Rel.move {E : Env} {m : Mem} {w w' : World} {B : Nat} (h : Rel E m w B) {i : Nat} {o : AObj} (hi : m.get i = some o) (ho : o.own = true) (o' : AObj) (ho' : o'.own = true)
    (hg : w.grownBy w' (some (E.ρ i).block)) (ad : Addr) (had : ad.block = (E.ρ i).block) (k z : Nat) (l : Loop) (hr : RObj (E.put m.next ad k z l) (m.next + 1) B w' m.next o') :
    Rel (E.put m.next ad k z l) ((m.kill i).new o') w' B ∧ Evo E m w (E.put m.next ad k z l) ((m.kill i).new o') w' := by
  obtain ⟨b, x, e1, e2, e3⟩ := h.own_block hi ho
  have ha := E.agrees_put m.next ad k z l
  have hb : (E.ρ i).block = b := e1
  have hil := h.lt i o hi
  have hnew : ((E.put m.next ad k z l).ρ m.next).block = b := by simp [Env.put, had, hb]
  have hgt : ∀ j p, ((m.kill i).new o').get j = some p → (j = m.next ∧ p = o') ∨ (j < m.next ∧ j ≠ i ∧ m.get j = some p) := by
    intro j p hj
    by_cases c1 : j = m.next
    · subst c1
      have h0 := (m.kill i).get_new o'
      rw [Mem.next_kill] at h0
      rw [h0] at hj; exact .inl ⟨rfl, by cases hj; rfl⟩
    · rw [Mem.get_new_ne _ _ (by rw [Mem.next_kill]; exact c1)] at hj
      by_cases c2 : j = i
      · subst c2; rw [Mem.get_kill] at hj; cases hj
      · rw [Mem.get_kill_ne _ _ c2] at hj; exact .inr ⟨h.lt j p hj, c2, hj⟩
  have same : ∀ k, k < w.heap.size → k ≠ b → w'.heap[k]? = w.heap[k]? := fun k hk hne => hg.block k hk (by rw [hb]; simpa using hne)
  refine ⟨⟨fun j p hj => ?_, fun j p hj => ?_, fun j1 j2 p1 p2 h1 h2 g1 g2 hbb => ?_, Nat.le_trans h.hB hg.size⟩,
    ⟨by simp [Mem.new, Mem.kill], ha, hg.os, hg.tape, hg.output, hg.size, fun k hk hn => same k hk fun e => hn i o hi ho (by rw [hb, e]), fun j p hj hp => ?_⟩⟩
  · rcases hgt j p hj with ⟨rfl, _⟩ | ⟨hl, _, _⟩ <;> simp [Mem.new, Mem.kill] <;> omega
  · rcases hgt j p hj with ⟨rfl, rfl⟩ | ⟨hl, hne, hg'⟩
    · exact hr
    · refine ((h.obj j p hg').keep (fun hp => ?_) (fun k hk => same k (Nat.lt_of_lt_of_le hk h.hB) (by omega))).mono ha (by simp [Mem.new, Mem.kill]) hl
      obtain ⟨b2, x2, f1, f2, f3⟩ := h.own_block hg' hp
      refine same _ (by rw [f1]; exact (Array.getElem?_eq_some_iff.1 f3).1) fun e => hne ?_
      exact h.inj j i p o hg' hi hp ho (by rw [e, hb])
  · rcases hgt j1 p1 h1 with ⟨rfl, _⟩ | ⟨l1, n1, k1⟩ <;> rcases hgt j2 p2 h2 with ⟨rfl, _⟩ | ⟨l2, n2, k2⟩
    · rfl
    · rw [hnew, ha.ρ j2 l2, ← hb] at hbb; exact absurd (h.inj _ _ _ _ hi k2 ho g2 hbb).symm n2
    · rw [hnew, ha.ρ j1 l1, ← hb] at hbb; exact absurd (h.inj _ _ _ _ k1 hi g1 ho hbb) n1
    · rw [ha.ρ j1 l1, ha.ρ j2 l2] at hbb; exact h.inj _ _ _ _ k1 k2 g1 g2 hbb
  · rcases hgt j p hj with ⟨rfl, _⟩ | ⟨hl, _, hg'⟩
    · exact .inl ⟨i, o, hi, ho, by rw [hnew, hb]⟩
    · exact .inl ⟨j, p, hg', hp, by rw [ha.ρ j hl]⟩

/-! ### Reading and writing rows -/
def Mem.row (m : Mem) (i : Nat) : Option (List Value) :=
  match m.get i with
  | some (.cells c _ _) => some c
  | some (.view c) => some c
  | _ => none
def Mem.cell (m : Mem) (i o : Nat) : Option Value := (m.row i).bind (·[o]?)
/-- n cells from o on. -/
def Mem.cells (m : Mem) (i o n : Nat) : Option (List Value) := (m.row i).bind fun c => if o + n ≤ c.length then some ((c.drop o).take n) else none

theorem add_off (a : Addr) (j : Nat) (k : Nat) : (a.add j).add k = a.add (j + k) := by
  unfold Addr.add
  by_cases h1 : j = 0 <;> by_cases h2 : k = 0 <;> simp [h1, h2, Nat.add_assoc]
theorem add_mk (b o j : Nat) : (⟨b, o, none⟩ : Addr).add j = ⟨b, o + j, none⟩ := by unfold Addr.add; split <;> simp_all

theorem Rel.cell {E : Env} {m : Mem} {w : World} {B : Nat} (h : Rel E m w B) {i o : Nat} {v : Value} (hv : m.cell i o = some v) : ∃ u, w.cell? ((E.ρ i).add o) = some u ∧ Rep E m.next v u := by
  unfold Mem.cell Mem.row at hv
  cases hg : m.get i with
  | none => simp [hg] at hv
  | some ob =>
    have hr := h.obj i ob hg
    cases ob with
    | cells c t z =>
      simp only [hg, Option.bind_some] at hv
      obtain ⟨b, ob, cs, e1, e2, e3, e4, e5, _, e6⟩ := hr
      obtain ⟨u, hu, hrep⟩ := e6.get hv
      refine ⟨u, ?_, hrep⟩
      rw [e1, add_mk]
      have ho : o < c.length := (List.getElem?_eq_some_iff.1 hv).1
      rw [List.getElem?_take, if_pos ho, List.getElem?_drop] at hu
      simp only [World.cell?, e3]
      simpa using hu
    | view c =>
      simp only [hg, Option.bind_some] at hv
      exact (hr o v hv).2
    | map es => simp [hg] at hv
    | loop st pe => simp [hg] at hv

theorem Rel.cells {E : Env} {m : Mem} {w : World} {B : Nat} (h : Rel E m w B) {i o n : Nat} {vs : List Value} (hv : m.cells i o n = some vs) :
    vs.length = n ∧ ∃ us, RepL E m.next vs us ∧ ∀ j u, us[j]? = some u → w.cell? (((E.ρ i).add o).add j) = some u := by
  unfold Mem.cells at hv
  obtain ⟨c, hc, hv⟩ := Option.bind_eq_some_iff.1 hv
  split at hv
  · rename_i hl
    cases hv
    have hlen : ((c.drop o).take n).length = n := by simp; omega
    refine ⟨hlen, ?_⟩
    have hex : ∀ j, j < n → ∃ u, w.cell? (((E.ρ i).add o).add j) = some u ∧ ∃ v, ((c.drop o).take n)[j]? = some v ∧ Rep E m.next v u := by
      intro j hj
      have hcell : m.cell i (o + j) = some c[o + j] := by unfold Mem.cell; rw [hc]; simp [List.getElem?_eq_getElem (show o + j < c.length by omega)]
      obtain ⟨u, hu, hr⟩ := h.cell hcell
      refine ⟨u, by rw [add_off]; exact hu, c[o + j], ?_, hr⟩
      rw [List.getElem?_take, if_pos hj, List.getElem?_drop]
      exact List.getElem?_eq_getElem (by omega)
    refine ⟨(List.range n).map fun j => (w.cell? (((E.ρ i).add o).add j)).getD undef, ⟨by simp; omega, fun j v u h1 h2 => ?_⟩, fun j u h1 => ?_⟩
    · rw [List.getElem?_map] at h2
      obtain ⟨j', hj', he⟩ := Option.map_eq_some_iff.1 h2
      have hj : j < n := by have := (List.getElem?_eq_some_iff.1 h1).1; rw [hlen] at this; exact this
      have hjj : j' = j := by
        have h3 := (List.getElem?_eq_some_iff.1 hj').2
        simpa using h3.symm
      rw [hjj] at he
      obtain ⟨u', hu', v', hv', hr⟩ := hex j hj
      rw [hv'] at h1; cases h1
      rw [hu'] at he
      simp only [Option.getD_some] at he
      subst he
      exact hr
    · rw [List.getElem?_map] at h1
      obtain ⟨j', hj', he⟩ := Option.map_eq_some_iff.1 h1
      have hj : j < n := by
        have := (List.getElem?_eq_some_iff.1 hj').1
        simpa using this
      have : j' = j := by
        have h3 := (List.getElem?_eq_some_iff.1 hj').2
        simpa using h3.symm
      subst this
      obtain ⟨u', hu', _⟩ := hex j' hj
      rw [hu'] at he ⊢
      simp at he
      rw [he]
  · cases hv

/-- The cells of an own row with some of them written. -/
def splice (c : List Value) (o : Nat) (vs : List Value) : List Value :=
  match vs with
  | [] => c
  | v :: r => splice (c.set o v) (o + 1) r
theorem splice_eq : ∀ (vs c : List Value) (o : Nat), o + vs.length ≤ c.length → splice c o vs = c.take o ++ vs ++ c.drop (o + vs.length)
  | [], c, o, _ => by simp [splice]
  | v :: r, c, o, h => by
    simp only [List.length_cons] at h
    rw [splice, splice_eq r (c.set o v) (o + 1) (by simp; omega)]
    have h1 : (c.set o v).take (o + 1) = c.take o ++ [v] := by
      rw [List.take_succ_eq_append_getElem (by simp; omega)]
      simp [List.take_set_of_le]
    have h2 : (c.set o v).drop (o + 1 + r.length) = c.drop (o + 1 + r.length) := by
      rw [List.drop_set_of_lt (by omega)]
    rw [h1, h2]
    simp [Nat.add_assoc, Nat.add_comm, Nat.add_left_comm]
theorem splice_length (vs c : List Value) (o : Nat) : (splice c o vs).length = c.length := by
  induction vs generalizing c o with
  | nil => rfl
  | cons v r ih => rw [splice, ih]; simp
theorem RepL.splice {E : Env} {n : Nat} : ∀ {vs us : List Value} {c d : List Value} (o : Nat), RepL E n c d → RepL E n vs us → RepL E n (splice c o vs) (splice d o us)
  | [], [], c, d, o, h, _ => h
  | [], u :: us, _, _, _, _, r => by have := r.1; simp at this
  | v :: vs, [], _, _, _, _, r => by have := r.1; simp at this
  | v :: vs, u :: us, c, d, o, h, r => by
    rw [Sh.splice, Sh.splice]
    refine RepL.splice (o + 1) (h.set o (r.2 0 v u rfl rfl)) ⟨by have := r.1; simpa using this, fun i a b h1 h2 => r.2 (i + 1) a b (by simpa using h1) (by simpa using h2)⟩

end Go.Proofs.Ytnhodgonmceojaa.Sh
