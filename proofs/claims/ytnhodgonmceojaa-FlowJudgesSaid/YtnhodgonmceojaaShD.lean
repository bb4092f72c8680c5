/- Each operation of the abstract memory is sound: where it answers, the model's operation answers likewise. Part 1. -/
import Derived.Test.YtnhodgonmceojaaShC
set_option linter.unusedVariables false
set_option linter.unusedSimpArgs false
namespace Go.Proofs.Ytnhodgonmceojaa.Sh
open Go.RowKit

def Snd (P : Program) (E : Env) (m : Mem) (w : World) (B : Nat) (sem : Sem Next) (v : Value) (m' : Mem) : Prop :=
  ∃ nx u w' E', sem.run P w = .ok nx w' ∧ (nx = .value u ∨ (nx = .skip ∧ u = undef)) ∧ Evo E m w E' m' w' ∧ Rel E' m' w' B ∧ Rep E' m'.next v u

section
variable {P : Program} {E : Env} {m : Mem} {w : World} {B : Nat}

theorem Snd.pure (hR : Rel E m w B) {sem : Sem Next} {v u : Value} (h : sem.run P w = .ok (.value u) w) (hr : Rep E m.next v u) : Snd P E m w B sem v m :=
  ⟨_, u, w, E, h, .inl rfl, Evo.refl _ _ _, hR, hr⟩

theorem Rep.int_inv {n : Nat} {k : IntKind} {i : Int} {u : Value} (h : Rep E n (.int k i) u) : u = .int k i := by cases h; rfl
theorem Rep.bool_inv {n : Nat} {b : Bool} {u : Value} (h : Rep E n (.bool b) u) : u = .bool b := by cases h; rfl
theorem Rep.str_inv {n : Nat} {s : ByteArray} {u : Value} (h : Rep E n (.string s) u) : u = .string s := by cases h; rfl
theorem Rep.ptr_inv {n : Nat} {a : Addr} {u : Value} (h : Rep E n (.pointer (some a)) u) : u = .pointer (some (E.emb a)) ∧ a.block < n ∧ a.spot = none := by
  cases h with | ptr _ h hs => exact ⟨rfl, h, hs⟩
theorem Rep.slice_inv {n : Nat} {a : Addr} {l c : Nat} {u : Value} (h : Rep E n (.slice (some a) l c) u) :
    ∃ c', u = .slice (some (E.emb a)) l c' ∧ a.block < n ∧ a.spot = none ∧ l ≤ c' ∧ capOk c c' ∧ (big ≤ c → a.off + c' * E.ζ a.block ≤ E.κ a.block) ∧ c' ≤ maxLen := by
  cases h with | slice _ _ _ c' h hs hl hc hk hm => exact ⟨c', rfl, h, hs, hl, hc, hk, hm⟩
theorem Rep.agg_inv {n : Nat} {cs : Array Value} {u : Value} (h : Rep E n (.agg cs) u) : ∃ us, u = .agg us ∧ cs.size = us.size ∧ RepL E n cs.toList us.toList := by
  cases h with
  | agg _ xs' hx hh => exact ⟨xs', rfl, hx, ⟨by simpa using hx, fun i v u h1 h2 => hh i v u (by simpa using h1) (by simpa using h2)⟩⟩
theorem Rep.agg_mk {n : Nat} {cs us : List Value} (h : RepL E n cs us) : Rep E n (.agg cs.toArray) (.agg us.toArray) :=
  .agg _ _ (by simpa using h.1) fun i v u h1 h2 => h.2 i v u (by simpa using h1) (by simpa using h2)
theorem RepL.of_arr {n : Nat} {cs us : Array Value} (h : RepL E n cs.toList us.toList) {i : Nat} {v : Value} (hv : cs[i]? = some v) : ∃ u, us[i]? = some u ∧ Rep E n v u := by
  obtain ⟨u, hu, hr⟩ := h.get (by simpa using hv); exact ⟨u, by simpa using hu, hr⟩

theorem tsz_info {t : TypeId} {z : Nat} (h : tsz P t = some z) : ∃ i, P.info? t = some i ∧ i.size = z := by
  obtain ⟨i, hi, hz⟩ := Option.map_eq_some_iff.1 h; exact ⟨i, hi, hz⟩
theorem zok_info {t : TypeId} {z : Nat} (h : zok P t z = true) : ∃ i v, P.info? t = some i ∧ i.zero = some v ∧ Zc P t = v.cells.toList ∧ (Zc P t).length = z ∧ (Zc P t).all simple = true ∧ Zv P t = v := by
  simp only [zok, Bool.and_eq_true, beq_iff_eq] at h
  obtain ⟨⟨h1, h2⟩, h3⟩ := h
  obtain ⟨v, hv⟩ := Option.isSome_iff_exists.1 h3
  obtain ⟨i, hi, hz⟩ := Option.bind_eq_some_iff.1 hv
  exact ⟨i, v, hi, hz, by simp [Zc, hi, hz], h1, h2, by simp [Zv, hi, hz]⟩

theorem emb_add (a : Addr) (hs : a.spot = none) (k : Nat) : E.emb ⟨a.block, a.off + k, none⟩ = (E.emb a).add k := by
  unfold Env.emb; rw [add_off]
theorem emb_eq (a : Addr) : E.emb ⟨a.block, a.off, none⟩ = E.emb a := rfl

theorem ROwn.newRow (hR : Rel E m w B) (cs : List Value) (us : List Value) (t : TypeId) (z : Nat) (l : Loop) (hr : RepL E m.next cs (us.take cs.length)) :
    RObj (E.put m.next ⟨w.heap.size, 0, none⟩ us.length z l) (m.next + 1) B (w.alloc (.cells us.toArray t)) m.next (.cells cs t z) := by
  refine ⟨w.heap.size, 0, us.toArray, by simp [Env.put], hR.hB, World.alloc_heap_new _ _, by simp [Env.put], ?_, by simp [Env.put], ?_⟩
  · have := hr.1; simp [Env.put] at this ⊢; omega
  · simpa using hr.mono (E.agrees_put m.next _ us.length z l) (by omega)

/-- A new row of cells, and the address of it. -/
theorem Snd.alloc (hR : Rel E m w B) {sem : Sem Next} {cs us : List Value} {t : TypeId} {z : Nat} (hr : RepL E m.next cs (us.take cs.length)) {v u : Value}
    (h : sem.run P w = .ok (.value u) (w.alloc (.cells us.toArray t)))
    (hv : Rep (E.put m.next ⟨w.heap.size, 0, none⟩ us.length z default) (m.next + 1) v u) : Snd P E m w B sem v (m.new (.cells cs t z)) := by
  obtain ⟨h1, h2⟩ := hR.new (.cells cs t z) (.cells us.toArray t) us.length z default (ROwn.newRow hR cs us t z default hr)
  exact ⟨_, u, _, _, h, .inl rfl, h2, h1, hv⟩

theorem emb_new (a : Addr) (k z : Nat) (l : Loop) : (E.put m.next a k z l).emb ⟨m.next, 0, none⟩ = a := by simp [Env.emb, Env.put, Addr.add]
theorem Rep.newPtr (b k z : Nat) (l : Loop) : Rep (E.put m.next ⟨b, 0, none⟩ k z l) (m.next + 1) (.pointer (some ⟨m.next, 0, none⟩)) (.pointer (some ⟨b, 0, none⟩)) := by
  have := Rep.ptr (E := E.put m.next ⟨b, 0, none⟩ k z l) (n := m.next + 1) ⟨m.next, 0, none⟩ (by simp) rfl
  rwa [emb_new] at this
theorem Rep.newSlice (ad : Addr) (k z : Nat) (l : Loop) (n c c' : Nat) (hl : n ≤ c') (hc : capOk c c') (hk : big ≤ c → c' * z ≤ k) (hm : c' ≤ maxLen) :
    Rep (E.put m.next ad k z l) (m.next + 1) (.slice (some ⟨m.next, 0, none⟩) n c) (.slice (some ad) n c') := by
  have := Rep.slice (E := E.put m.next ad k z l) (n := m.next + 1) ⟨m.next, 0, none⟩ n c c' (by simp) rfl hl hc (fun h => by simpa [Env.put] using hk h) hm
  rwa [emb_new] at this

variable {ev ev' : Operand → Value} (hR : Rel E m w B) (hev : ∀ x, Rep E m.next (ev x) (ev' x))
include hR hev

theorem snd_mov {o : Oper} {x : Operand} (ho : o.op = .move x ∨ o.op = .assign x) : Snd P E m w B (execOp ev' o) (ev x) m := by
  refine Snd.pure hR (u := ev' x) ?_ (hev x)
  rcases ho with ho | ho <;> simp [execOp, ho]

theorem snd_pick {o : Oper} {c a b : Operand} {v : Value} {m' : Mem} (ho : o.op = .pick c a b) (h : step P (.pick c a b) ev m = some (v, m')) : Snd P E m w B (execOp ev' o) v m' := by
  simp only [step] at h
  split at h
  · rename_i t hc
    cases h
    have := hev c; rw [hc] at this
    refine Snd.pure hR (u := if t then ev' a else ev' b) ?_ (by cases t <;> simp [hev])
    simp [execOp, ho, this.bool_inv, asBool]
  · cases h

omit hev in
theorem snd_new {o : Oper} {t : TypeId} {z : Nat} {v : Value} {m' : Mem} (ho : o.op = .alloc t) (hz : tsz P t = some z) (hk : zok P t z = true) (h : step P (.new t z) ev m = some (v, m')) : Snd P E m w B (execOp ev' o) v m' := by
  simp only [step, Option.some.injEq, Prod.mk.injEq] at h
  obtain ⟨rfl, rfl⟩ := h
  obtain ⟨i, zv, hi, hz0, hc, hl, hs, _⟩ := zok_info hk
  refine Snd.alloc hR (us := Zc P t) ?_ ?_ (Rep.newPtr _ _ _ _)
  · rw [List.take_length]; exact simple_repL hs _ _
  · simp [execOp, ho, Instr.alloc, zeroValue, typeInfo, hi, hz0, newVar, newRow, hc]

theorem snd_box {o : Oper} {t : TypeId} {z : Nat} {x : Operand} {v : Value} {m' : Mem} (ho : o.op = .box t x) (h : step P (.box t z x) ev m = some (v, m')) : Snd P E m w B (execOp ev' o) v m' := by
  simp only [step] at h
  split at h
  · rename_i hc
    cases h
    have hr := (hev x).cells hc.1
    refine Snd.alloc hR (us := (ev' x).cells.toList) ?_ ?_ (Rep.newPtr _ _ _ _)
    · rw [hr.1, List.take_length]; exact hr
    · simp [execOp, ho, Instr.box, newVar, newRow]
  · cases h

/-! #### literals -/
omit hR hev in
theorem foldl_splice : ∀ (vs : List Value) (off k : Nat) (cells : Array Value), (((vs.zipIdx k).foldl (fun cs (x : Value × Nat) => cs.setIfInBounds (off + x.2) x.1) cells)).toList = splice cells.toList (off + k) vs
  | [], off, k, cells => rfl
  | v :: r, off, k, cells => by
    simp only [List.zipIdx_cons, List.foldl_cons, splice]
    rw [foldl_splice r off (k + 1) (cells.setIfInBounds (off + k) v)]
    simp [Nat.add_assoc]

omit hR hev in
theorem splice_array (off : Nat) (vs cells : Array Value) : (vs.zipIdx.foldl (fun cs (x : Value × Nat) => cs.setIfInBounds (off + x.2) x.1) cells) = (splice cells.toList off vs.toList).toArray := by
  have := foldl_splice vs.toList off 0 cells
  rw [Nat.add_zero] at this
  rw [← this]
  rw [← Array.foldl_toList, Array.toList_zipIdx]

omit hR in
theorem fill_rep (pl : Nat → Option (Nat × Nat)) : ∀ (parts : List (Nat × Operand)) (aps : List (Nat × Nat × Operand)) (cells us r : List Value), partsOf pl parts = some aps → RepL E m.next cells us →
    buildA cells (aps.map fun p => (p.1, p.2.1, ev p.2.2)) = some r →
    ∃ s : List Value, Instr.fill pl us.toArray (parts.map fun p => (p.1, ev' p.2)) = some s.toArray ∧ RepL E m.next r s ∧ r.length = cells.length
  | [], aps, cells, us, r, hp, hr, hb => by
    simp only [partsOf, Option.some.injEq] at hp
    subst hp
    simp only [List.map_nil, buildA, Option.some.injEq] at hb
    subst hb
    exact ⟨us, by simp [Instr.fill], hr, rfl⟩
  | (i, x) :: ps, aps, cells, us, r, hp, hr, hb => by
    simp only [partsOf] at hp
    split at hp
    · rename_i o n r' h1 h2
      cases hp
      simp only [List.map_cons, buildA] at hb
      split at hb
      · rename_i hc
        obtain ⟨c1, c2, c3⟩ := hc
        have hx := (hev x).cells c1
        obtain ⟨s, hs1, hs2, hs3⟩ := fill_rep pl ps r' _ (splice us o (ev' x).cells.toList) r h2 (RepL.splice o hr hx) hb
        refine ⟨s, ?_, hs2, by rw [hs3, splice_length]⟩
        have hsz : (ev' x).cells.size = n := by have := hx.1; simp at this; omega
        have hul : us.length = cells.length := hr.1.symm
        simp only [List.map_cons, Instr.fill, h1]
        rw [if_neg (by simp [hsz]; omega)]
        have := splice_array o (ev' x).cells us.toArray
        simp only at this
        rw [this]
        exact hs1
      · cases hb
    · cases hp

theorem snd_build {o : Oper} {t : TypeId} {parts : Array (Nat × Operand)} {pl : Nat → Option (Nat × Nat)} {z : Nat} {aps : List (Nat × Nat × Operand)} {v : Value} {m' : Mem} (ho : o.op = .build t parts) (hpl : placesOf P t = some pl)
    (hk : zok P t z = true) (hp : partsOf pl parts.toList = some aps) (h : step P (.build t aps) ev m = some (v, m')) : Snd P E m w B (execOp ev' o) v m' := by
  simp only [step] at h
  obtain ⟨c, hb, hcv⟩ := Option.map_eq_some_iff.1 h
  cases hcv
  obtain ⟨i, zv, hi, hz0, hc, hl, hs, _⟩ := zok_info hk
  obtain ⟨s, hs1, hs2, _⟩ := fill_rep hev pl parts.toList aps (Zc P t) (Zc P t) c hp (simple_repL hs _ _) hb
  refine Snd.pure hR (u := .agg s.toArray) ?_ (Rep.agg_mk hs2)
  have hbuilt : P.built t (parts.map fun (i, x) => (i, ev' x)).toList = some s.toArray := by
    unfold Program.built
    rw [hi]
    unfold placesOf at hpl
    cases hu : P.underlying t with
    | none => simp [hu] at hpl
    | some d =>
      simp only [hu] at hpl
      cases d <;> try (simp at hpl; done)
      case array n e =>
        obtain ⟨ie, hie, rfl⟩ := Option.map_eq_some_iff.1 hpl
        simp only [hz0, hie]
        rw [show zv.cells = (Zc P t).toArray from by rw [hc]]
        simpa using hs1
      case struct fields =>
        obtain ⟨places, hpp, rfl⟩ := Option.map_eq_some_iff.1 hpl
        simp only [hz0, hpp]
        rw [show zv.cells = (Zc P t).toArray from by rw [hc]]
        simpa using hs1
  simp [execOp, ho, run_build w t _ _ hbuilt]

end
end Go.Proofs.Ytnhodgonmceojaa.Sh
