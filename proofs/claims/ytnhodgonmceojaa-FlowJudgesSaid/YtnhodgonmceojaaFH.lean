/- Contracts of flow: Members. Contracts of flow: net. Contracts of flow: the arcs of a net, one after the other. Contracts of flow: capacity. Contracts of flow: Capacity. Contracts of flow: tame. -/
import Derived.Test.YtnhodgonmceojaaFC
set_option linter.unusedVariables false
set_option linter.unusedSimpArgs false
namespace Go.Proofs.Ytnhodgonmceojaa.Sh
open Go.RowKit

/-! ### Contracts of flow: Members. -/
theorem zeros31 : zeros Try.prog 3 1 = [.int .i64 0] := by kernel_rfl
theorem build31 (x : Int) : buildA (zeros Try.prog 3 1) [(0, 1, .int .i64 x)] = some [.int .i64 x] := by rw [zeros31]; rfl

def mem1 (p : Int) (i : Nat) : Bool := decide ((p.fdiv (2 ^ i)).tmod 2 = 1)
/-- The places of a set that is told by a number's binary digits. -/
def members (p : Int) (n : Nat) : List Int := ((List.range n).filter (mem1 p)).map fun (i : Nat) => (i : Int)
theorem members_succ (p : Int) (n : Nat) : members p (n + 1) = if mem1 p n then members p n ++ [(n : Int)] else members p n := by
  unfold members
  rw [List.range_succ, List.filter_append]
  by_cases h : mem1 p n <;> simp [h]

theorem members_spec {Γ : YEnv} (hΓ : YMono Γ) (n : Nat) (p : Int) (m : Mem) (hn : n ≤ 24) :
    ACalls Try.prog Γ 11 [.int .i64 n, .int .i64 p] m fun r m' => Acc m m' r (intCells (members p n)) 3 1 ∧ Mext m m' := by
  refine acallsW hΓ fok11 (by simp [X11]) fun Q hQ => ?_
  simp (decide := true) only [S11_0, S11_1, S11_2, S11_3, S11_4, S11_5, S11_6, S11_7, S11_8, S11_9, S11_10, S11_11, S11_12, S11_13, S11_14, S11_15, S11_16, S11_17, S11_18, S11_19, S11_20, S11_21, S11, X11, G11, EV, step, List.map_cons, List.map_nil, Option.map_some, Option.map_none, if_true, if_false, reduceIte, List.getElem?_cons_zero, List.getElem?_cons_succ, Option.getD_some, List.nil_append, List.append_nil, List.cons_append, List.getElem?_nil, Option.getD_none, true_implies, false_implies, not_true_eq_false, not_false_eq_true, and_true, true_and, decide_true, decide_false, Int.natCast_nonneg, Int.toNat_natCast, Nat.mul_one, List.size_toArray, List.getElem?_toArray, List.length_cons, List.length_nil, Nat.zero_add, Nat.add_zero, List.drop_zero, List.take_succ_cons, List.take_zero, List.drop_succ_cons, List.all_cons, List.all_nil, Bool.and_true, Bool.and_self, and_self]
  refine W_loop (fun k s m' => ∃ (i : Nat) (v : Value) (x9 x17 : Slot), i ≤ n ∧ k = n - i ∧ Mext m m' ∧ Acc m m' v (intCells (members p i)) 3 1 ∧
    s = sem [(0, .val (.int .i64 n)), (1, .val (.int .i64 p)), (4, .val (.slice none 0 0)), (5, .val v), (6, .val (.int .i64 i)), (9, x9), (17, x17)])
    n ⟨0, _, _, _, Nat.zero_le _, rfl, Mext.refl m, .inl ⟨rfl, by simp [intCells, members]⟩, rfl⟩ hΓ ?_
  rintro k s m' ⟨i, v, x9, x17, hi, rfl, hm, hacc, rfl⟩ Q' hnx he hret
  by_cases hlt : i < n
  · have hlt' : (i : Int) < n := by omega
    have hw : IntKind.wrap .i64 ((i : Int) + 1) = ((i + 1 : Nat) : Int) := by rw [wrap_i64 (by omega) (by omega)]; omega
    have hu : IntKind.wrap .u64 (i : Int) = (i : Int) := wrap_u64 (by omega) (by omega)
    have hneg : ((i : Int) < 0) = False := eq_false (by omega)
    have hmin : min i 64 = i := by omega
    have h20 : ((2 : Int) = 0) = False := eq_false (by omega)
    by_cases h1 : mem1 p i
    · have h1' : ((p.fdiv (2 ^ i)).tmod 2 = 1) = True := eq_true (by simpa [mem1] using h1)
      have hlen : (intCells (members p i)).length < 1000000 := by
        have : (members p i).length ≤ i := by unfold members; rw [List.length_map]; exact Nat.le_trans (List.length_filter_le ..) (by simp)
        unfold intCells; rw [List.length_map]; omega
      obtain ⟨v', m2, ha, hacc2, hnext, hkeep⟩ := app1_acc (bytes := 8) (x := [.int .i64 (i : Int)]) hacc hm.next (by intro x hx; obtain ⟨y, _, rfl⟩ := List.mem_map.1 hx; rfl) rfl rfl hlen (by omega)
      have hm2 : Mext m m2 := ⟨by have := hm.next; omega, fun j hj => by
        rw [hkeep j (by have := hm.next; omega) ?_]
        · exact hm.get j hj
        · intro a nn cc hv hb
          rcases hacc with ⟨rfl, _⟩ | ⟨i', q1, q2, rfl, _⟩
          · cases hv
          · cases hv; simp at hb; omega⟩
      simp (decide := true) only [hlt', hw, hu, hneg, hmin, h20, h1', bits_i64, build31, ha, EV, step, List.map_cons, List.map_nil, Option.map_some, Option.map_none, if_true, if_false, reduceIte, List.getElem?_cons_zero, List.getElem?_cons_succ, Option.getD_some, List.nil_append, List.append_nil, List.cons_append, List.getElem?_nil, Option.getD_none, true_implies, false_implies, not_true_eq_false, not_false_eq_true, and_true, true_and, decide_true, decide_false, Int.natCast_nonneg, Int.toNat_natCast, Nat.mul_one, List.size_toArray, List.getElem?_toArray, List.length_cons, List.length_nil, Nat.zero_add, Nat.add_zero, List.drop_zero, List.take_succ_cons, List.take_zero, List.drop_succ_cons, List.all_cons, List.all_nil, Bool.and_true, Bool.and_self, and_self]
      refine hnx _ _ _ (by omega) ⟨i + 1, v', _, _, hlt, rfl, hm2, ?_, rfl⟩
      rw [members_succ, if_pos h1]; simpa [intCells] using hacc2
    · have h1' : ((p.fdiv (2 ^ i)).tmod 2 = 1) = False := eq_false (by simpa [mem1] using h1)
      simp (decide := true) only [hlt', hw, hu, hneg, hmin, h20, h1', bits_i64, EV, step, List.map_cons, List.map_nil, Option.map_some, Option.map_none, if_true, if_false, reduceIte, List.getElem?_cons_zero, List.getElem?_cons_succ, Option.getD_some, List.nil_append, List.append_nil, List.cons_append, List.getElem?_nil, Option.getD_none, true_implies, false_implies, not_true_eq_false, not_false_eq_true, and_true, true_and, decide_true, decide_false, Int.natCast_nonneg, Int.toNat_natCast, Nat.mul_one, List.size_toArray, List.getElem?_toArray, List.length_cons, List.length_nil, Nat.zero_add, Nat.add_zero, List.drop_zero, List.take_succ_cons, List.take_zero, List.drop_succ_cons, List.all_cons, List.all_nil, Bool.and_true, Bool.and_self, and_self]
      refine hnx _ _ _ (by omega) ⟨i + 1, v, _, _, hlt, rfl, hm, ?_, rfl⟩
      rw [members_succ, if_neg h1]; exact hacc
  · have hlt' : ¬ (i : Int) < n := by omega
    have hin : i = n := by omega
    subst hin
    simp (decide := true) only [hlt', EV, step, List.map_cons, List.map_nil, Option.map_some, Option.map_none, if_true, if_false, reduceIte, List.getElem?_cons_zero, List.getElem?_cons_succ, Option.getD_some, List.nil_append, List.append_nil, List.cons_append, List.getElem?_nil, Option.getD_none, true_implies, false_implies, not_true_eq_false, not_false_eq_true, and_true, true_and, decide_true, decide_false, Int.natCast_nonneg, Int.toNat_natCast, Nat.mul_one, List.size_toArray, List.getElem?_toArray, List.length_cons, List.length_nil, Nat.zero_add, Nat.add_zero, List.drop_zero, List.take_succ_cons, List.take_zero, List.drop_succ_cons, List.all_cons, List.all_nil, Bool.and_true, Bool.and_self, and_self]
    refine he _ _ _ ?_
    simp (decide := true) only [EV, step, List.map_cons, List.map_nil, Option.map_some, Option.map_none, if_true, if_false, reduceIte, List.getElem?_cons_zero, List.getElem?_cons_succ, Option.getD_some, List.nil_append, List.append_nil, List.cons_append, List.getElem?_nil, Option.getD_none, true_implies, false_implies, not_true_eq_false, not_false_eq_true, and_true, true_and, decide_true, decide_false, Int.natCast_nonneg, Int.toNat_natCast, Nat.mul_one, List.size_toArray, List.getElem?_toArray, List.length_cons, List.length_nil, Nat.zero_add, Nat.add_zero, List.drop_zero, List.take_succ_cons, List.take_zero, List.drop_succ_cons, List.all_cons, List.all_nil, Bool.and_true, Bool.and_self, and_self]
    refine hQ _ _ _ ⟨.inr rfl, [v], ?_, hacc, hm⟩
    simp [X11, R11, resL, sem, Slot.v]

/-! ### Contracts of flow: net. -/
theorem zc32 : Zc Try.prog 32 = [.int .i64 0, .slice none 0 0] := by kernel_rfl
theorem build32 (x : Int) : buildA (Zc Try.prog 32) [(0, 1, .int .i64 x)] = some [.int .i64 x, .slice none 0 0] := by rw [zc32]; rfl

def arcCells (l : List ArcI) : List (List Value) := l.map ArcI.cells

theorem net_spec {Γ : YEnv} (hΓ : YMono Γ) (n : Int) (l : List ArcI) (v : Value) (m : Mem) (h : Arcs m v l) (hl : l.length < 1000000) :
    ACalls Try.prog Γ 10 [.agg #[.int .i64 n, v]] m fun r m' => ∃ v', r = .agg #[.int .i64 n, v'] ∧ Acc m m' v' (arcCells l) 73 3 ∧ Mext m m' := by
  refine acallsW hΓ fok10 (by simp [X10]) fun Q hQ => ?_
  obtain ⟨ao, c, rfl⟩ := h.len
  let mb : Mem := ⟨fun _ => none, m.next + 3⟩
  simp (decide := true) only [S10_0, S10_1, S10_2, S10_3, S10_4, S10_5, S10_6, S10_7, S10_8, S10_9, S10_10, S10_11, S10_12, S10_13, S10_14, S10_15, S10_16, S10_17, S10_18, S10_19, S10_20, S10, X10, G10, get_new_at, get_set_at, next_set, cell_new_at, cells_new_at, cell_set_at, cells_set_at, cellG_cells, cellsG_cells, splice_nil, splice_cons, List.set_cons_zero, List.set_cons_succ, zc32, ne1, ne1', ne2, ne2', ne3, ne3', cancel1, buildA_nil, buildA_cons, List.toList_toArray, EV, step, List.map_cons, List.map_nil, Option.map_some, Option.map_none, if_true, if_false, reduceIte, List.getElem?_cons_zero, List.getElem?_cons_succ, Option.getD_some, List.nil_append, List.append_nil, List.cons_append, List.getElem?_nil, Option.getD_none, true_implies, false_implies, not_true_eq_false, not_false_eq_true, and_true, true_and, decide_true, decide_false, Int.natCast_nonneg, Int.toNat_natCast, Nat.mul_one, List.size_toArray, List.getElem?_toArray, List.length_cons, List.length_nil, Nat.zero_add, Nat.add_zero, List.drop_zero, List.take_succ_cons, List.take_zero, List.drop_succ_cons, List.all_cons, List.all_nil, Bool.and_true, Bool.and_self, and_self]
  refine W_loop (fun k s m' => ∃ (i : Nat) (v : Value) (x5 x13 : Slot), i ≤ l.length ∧ k = l.length - i ∧ Mext m m' ∧ m.next + 3 ≤ m'.next ∧ Acc mb m' v (arcCells (l.take i)) 73 3 ∧
    m'.get m.next = some (.cells [.int .i64 n, .slice ao l.length c] 24 2) ∧ m'.get (m.next + 1) = some (.cells [.int .i64 0, .slice none 0 0] 32 2) ∧ m'.get (m.next + 1 + 1) = some (.cells [.int .i64 n, v] 32 2) ∧
    s = sem [(0, .val (.agg #[.int .i64 n, .slice ao l.length c])), (1, .val (.pointer (some ⟨m.next, 0, none⟩))), (2, .val (.pointer (some ⟨m.next + 1, 0, none⟩))), (3, .val (.pointer (some ⟨m.next + 1 + 1, 0, none⟩))), (4, .val (.int .i64 i)), (5, x5), (13, x13)])
    l.length ⟨0, .slice none 0 0, _, _, Nat.zero_le _, rfl, (((((Mext.refl m).new _).new _).new _).set (by omega) _), by simp only [next_set, Mem.next_new]; omega, .inl ⟨rfl, by simp [arcCells]⟩, by simp (decide := true) only [get_new_at, get_set_at, next_set, cell_new_at, cells_new_at, cell_set_at, cells_set_at, cellG_cells, cellsG_cells, splice_nil, splice_cons, List.set_cons_zero, List.set_cons_succ, zc32, ne1, ne1', ne2, ne2', ne3, ne3', cancel1, buildA_nil, buildA_cons, List.toList_toArray, EV, step, List.map_cons, List.map_nil, Option.map_some, Option.map_none, if_true, if_false, reduceIte, List.getElem?_cons_zero, List.getElem?_cons_succ, Option.getD_some, List.nil_append, List.append_nil, List.cons_append, List.getElem?_nil, Option.getD_none, true_implies, false_implies, not_true_eq_false, not_false_eq_true, and_true, true_and, decide_true, decide_false, Int.natCast_nonneg, Int.toNat_natCast, Nat.mul_one, List.size_toArray, List.getElem?_toArray, List.length_cons, List.length_nil, Nat.zero_add, Nat.add_zero, List.drop_zero, List.take_succ_cons, List.take_zero, List.drop_succ_cons, List.all_cons, List.all_nil, Bool.and_true, Bool.and_self, and_self], by simp (decide := true) only [get_new_at, get_set_at, next_set, cell_new_at, cells_new_at, cell_set_at, cells_set_at, cellG_cells, cellsG_cells, splice_nil, splice_cons, List.set_cons_zero, List.set_cons_succ, zc32, ne1, ne1', ne2, ne2', ne3, ne3', cancel1, buildA_nil, buildA_cons, List.toList_toArray, EV, step, List.map_cons, List.map_nil, Option.map_some, Option.map_none, if_true, if_false, reduceIte, List.getElem?_cons_zero, List.getElem?_cons_succ, Option.getD_some, List.nil_append, List.append_nil, List.cons_append, List.getElem?_nil, Option.getD_none, true_implies, false_implies, not_true_eq_false, not_false_eq_true, and_true, true_and, decide_true, decide_false, Int.natCast_nonneg, Int.toNat_natCast, Nat.mul_one, List.size_toArray, List.getElem?_toArray, List.length_cons, List.length_nil, Nat.zero_add, Nat.add_zero, List.drop_zero, List.take_succ_cons, List.take_zero, List.drop_succ_cons, List.all_cons, List.all_nil, Bool.and_true, Bool.and_self, and_self], by simp (decide := true) only [get_new_at, get_set_at, next_set, cell_new_at, cells_new_at, cell_set_at, cells_set_at, cellG_cells, cellsG_cells, splice_nil, splice_cons, List.set_cons_zero, List.set_cons_succ, zc32, ne1, ne1', ne2, ne2', ne3, ne3', cancel1, buildA_nil, buildA_cons, List.toList_toArray, EV, step, List.map_cons, List.map_nil, Option.map_some, Option.map_none, if_true, if_false, reduceIte, List.getElem?_cons_zero, List.getElem?_cons_succ, Option.getD_some, List.nil_append, List.append_nil, List.cons_append, List.getElem?_nil, Option.getD_none, true_implies, false_implies, not_true_eq_false, not_false_eq_true, and_true, true_and, decide_true, decide_false, Int.natCast_nonneg, Int.toNat_natCast, Nat.mul_one, List.size_toArray, List.getElem?_toArray, List.length_cons, List.length_nil, Nat.zero_add, Nat.add_zero, List.drop_zero, List.take_succ_cons, List.take_zero, List.drop_succ_cons, List.all_cons, List.all_nil, Bool.and_true, Bool.and_self, and_self], rfl⟩ hΓ ?_
  rintro k s m' ⟨i, v, x5, x13, hi, rfl, hm, hnx, hacc, g1, g2, g3, rfl⟩ Q' hn he hret
  have hc1 : m'.cell m.next 1 = some (.slice ao l.length c) := by rw [cell_of g1]; rfl
  have hc3 : m'.cell (m.next + 1 + 1) 1 = some v := by rw [cell_of g3]; rfl
  by_cases hlt : i < l.length
  · have hlt' : (i : Int) < l.length := by omega
    have hw : IntKind.wrap .i64 ((i : Int) + 1) = ((i + 1 : Nat) : Int) := by rw [wrap_i64 (by omega) (by omega)]; omega
    have hx : l[i]? = some l[i] := List.getElem?_eq_getElem hlt
    generalize hxe : l[i] = y at hx
    have htake : l.take (i + 1) = l.take i ++ [y] := by rw [← hxe]; exact (List.take_append_getElem hlt).symm
    cases ao with
    | none => have := h.nil _ _ rfl; subst this; simp at hlt
    | some a =>
      have hcs := (h.mext hm).get a _ _ rfl i y hx
      obtain ⟨v', m2, ha, hacc2, hnext, hkeep⟩ := app1_acc (bytes := 24) (x := y.cells) hacc hnx (by intro x hx; obtain ⟨z, _, rfl⟩ := List.mem_map.1 hx; rfl) rfl rfl (by unfold arcCells; rw [List.length_map, List.length_take]; omega) (by omega)
      simp only [ArcI.cells] at ha hcs
      have hk : ∀ j, j < m.next + 3 → m2.get j = m'.get j := fun j hj => hkeep j (by omega) (hacc.off hj)
      have g1' := (hk m.next (by omega)).trans g1
      have g2' := (hk (m.next + 1) (by omega)).trans g2
      have g3' := (hk (m.next + 1 + 1) (by omega)).trans g3
      obtain ⟨hv1, hv2, hv3⟩ := hacc2.ok
      have hm2 : Mext m m2 := ⟨by have := hm.next; omega, fun j hj => (hk j (by omega)).trans (hm.get j hj)⟩
      have hz : zeros Try.prog 73 1 = [.int .i64 0, .int .i64 0, .int .i64 0] := by kernel_rfl
      simp (decide := true) only [hlt', hw, hc1, hc3, hcs, hz, ha, g3', hv1, hv2, hv3, buildA_nil, buildA_cons, splice_nil, splice_cons, List.set_cons_zero, List.set_cons_succ, List.toList_toArray, EV, step, List.map_cons, List.map_nil, Option.map_some, Option.map_none, if_true, if_false, reduceIte, List.getElem?_cons_zero, List.getElem?_cons_succ, Option.getD_some, List.nil_append, List.append_nil, List.cons_append, List.getElem?_nil, Option.getD_none, true_implies, false_implies, not_true_eq_false, not_false_eq_true, and_true, true_and, decide_true, decide_false, Int.natCast_nonneg, Int.toNat_natCast, Nat.mul_one, List.size_toArray, List.getElem?_toArray, List.length_cons, List.length_nil, Nat.zero_add, Nat.add_zero, List.drop_zero, List.take_succ_cons, List.take_zero, List.drop_succ_cons, List.all_cons, List.all_nil, Bool.and_true, Bool.and_self, and_self]
      refine hn _ _ _ (by omega) ⟨i + 1, v', _, _, hlt, rfl, hm2.set (by omega) _, by rw [next_set]; omega, ?_, ?_, ?_, ?_, rfl⟩
      · rw [htake]; unfold arcCells at hacc2 ⊢; rw [List.map_append]; exact hacc2.set (by show m.next + 1 + 1 < m.next + 3; omega) _
      · rw [Mem.get_set_ne _ _ _ (by omega)]; exact g1'
      · rw [Mem.get_set_ne _ _ _ (by omega)]; exact g2'
      · rw [Mem.get_set]
  · have hlt' : ¬ (i : Int) < l.length := by omega
    have hin : i = l.length := by omega
    subst hin
    rw [List.take_length] at hacc
    have hcN : m'.cells (m.next + 1 + 1) 0 2 = some [.int .i64 n, v] := by rw [cells_of g3]; rfl
    obtain ⟨hv1, hv2, hv3⟩ := hacc.ok
    simp (decide := true) only [hlt', hc1, EV, step, List.map_cons, List.map_nil, Option.map_some, Option.map_none, if_true, if_false, reduceIte, List.getElem?_cons_zero, List.getElem?_cons_succ, Option.getD_some, List.nil_append, List.append_nil, List.cons_append, List.getElem?_nil, Option.getD_none, true_implies, false_implies, not_true_eq_false, not_false_eq_true, and_true, true_and, decide_true, decide_false, Int.natCast_nonneg, Int.toNat_natCast, Nat.mul_one, List.size_toArray, List.getElem?_toArray, List.length_cons, List.length_nil, Nat.zero_add, Nat.add_zero, List.drop_zero, List.take_succ_cons, List.take_zero, List.drop_succ_cons, List.all_cons, List.all_nil, Bool.and_true, Bool.and_self, and_self]
    refine he _ _ _ ?_
    simp (decide := true) only [hcN, g2, hv1, hv2, hv3, splice_nil, splice_cons, List.set_cons_zero, List.set_cons_succ, List.toList_toArray, EV, step, List.map_cons, List.map_nil, Option.map_some, Option.map_none, if_true, if_false, reduceIte, List.getElem?_cons_zero, List.getElem?_cons_succ, Option.getD_some, List.nil_append, List.append_nil, List.cons_append, List.getElem?_nil, Option.getD_none, true_implies, false_implies, not_true_eq_false, not_false_eq_true, and_true, true_and, decide_true, decide_false, Int.natCast_nonneg, Int.toNat_natCast, Nat.mul_one, List.size_toArray, List.getElem?_toArray, List.length_cons, List.length_nil, Nat.zero_add, Nat.add_zero, List.drop_zero, List.take_succ_cons, List.take_zero, List.drop_succ_cons, List.all_cons, List.all_nil, Bool.and_true, Bool.and_self, and_self]
    refine hQ _ _ _ ⟨.inr rfl, [.agg #[.int .i64 n, v]], ?_, v, rfl, (hacc.set (by show m.next + 1 < m.next + 3; omega) _).base (by show m.next ≤ m.next + 3; omega), hm.set (by omega) _⟩
    simp [X10, R10, resL, sem, Slot.v, cells_set_at, cellsG, rowG]

/-! ### Contracts of flow: the arcs of a net, one after the other. -/
theorem arcs_spec {Γ : YEnv} (hΓ : YMono Γ) (p : Addr) (m : Mem) :
    ACalls Try.prog Γ 76 [.pointer (some p)] m fun r m' => r = .func (.func 78) #[] #[.pointer (some ⟨m.next, 0, none⟩)] ∧ m' = m.new (.cells [.pointer (some p)] 72 1) := by
  refine acallsW hΓ fok76 (by simp [X76]) fun Q hQ => ?_
  simp (decide := true) only [S76_0, S76_1, S76_2, S76_3, S76, X76, G76, get_new_at, get_set_at, next_set, cell_new_at, cells_new_at, cell_set_at, cells_set_at, cellG_cells, cellsG_cells, splice_nil, splice_cons, List.set_cons_zero, List.set_cons_succ, zc32, ne1, ne1', ne2, ne2', ne3, ne3', cancel1, buildA_nil, buildA_cons, List.toList_toArray, EV, step, List.map_cons, List.map_nil, Option.map_some, Option.map_none, if_true, if_false, reduceIte, List.getElem?_cons_zero, List.getElem?_cons_succ, Option.getD_some, List.nil_append, List.append_nil, List.cons_append, List.getElem?_nil, Option.getD_none, true_implies, false_implies, not_true_eq_false, not_false_eq_true, and_true, true_and, decide_true, decide_false, Int.natCast_nonneg, Int.toNat_natCast, Nat.mul_one, List.size_toArray, List.getElem?_toArray, List.length_cons, List.length_nil, Nat.zero_add, Nat.add_zero, List.drop_zero, List.take_succ_cons, List.take_zero, List.drop_succ_cons, List.all_cons, List.all_nil, Bool.and_true, Bool.and_self, and_self]
  refine hQ _ _ _ ⟨.inr rfl, [.func (.func 78) #[] #[.pointer (some ⟨m.next, 0, none⟩)]], ?_, rfl, rfl⟩
  simp [X76, R76, resL, sem, Slot.v]

theorem arcs1_spec {Γ : YEnv} (hΓ : YMono Γ) (iy : Nat) (q p : Addr) (l : List ArcI) (v : Value) (m : Mem) (J : Nat → Mem → Prop) (h : Arcs m v l) (hl : l.length < 1000000)
    (hq : m.cell q.block q.off = some (.pointer (some p))) (hp : m.cell p.block (p.off + 1) = some v)
    (h0 : J 0 m) (hst : ∀ j m1 m2, J j m1 → Mext m1 m2 → J j m2) (hext : ∀ j m1, J j m1 → Arcs m1 v l)
    (hy : ∀ j x m1, l[j]? = some x → J j m1 → Γ iy [x.val, .int .i64 0] m1 fun r m2 => r = .bool true ∧ J (j + 1) m2) :
    ACalls Try.prog Γ 78 [.func (.yield iy) #[] #[], .pointer (some q)] m fun _ m' => J l.length m' := by
  refine acallsW hΓ fok78 (by simp [X78]) fun Q hQ => ?_
  obtain ⟨ao, c, rfl⟩ := h.len
  simp (decide := true) only [S78_0, S78_1, S78_2, S78_3, S78_4, S78_5, S78_6, S78_7, S78_8, S78_9, S78_10, S78_11, S78_12, S78_13, S78_14, S78_15, S78, X78, G78, hq, hp, EV, step, List.map_cons, List.map_nil, Option.map_some, Option.map_none, if_true, if_false, reduceIte, List.getElem?_cons_zero, List.getElem?_cons_succ, Option.getD_some, List.nil_append, List.append_nil, List.cons_append, List.getElem?_nil, Option.getD_none, true_implies, false_implies, not_true_eq_false, not_false_eq_true, and_true, true_and, decide_true, decide_false, Int.natCast_nonneg, Int.toNat_natCast, Nat.mul_one, List.size_toArray, List.getElem?_toArray, List.length_cons, List.length_nil, Nat.zero_add, Nat.add_zero, List.drop_zero, List.take_succ_cons, List.take_zero, List.drop_succ_cons, List.all_cons, List.all_nil, Bool.and_true, Bool.and_self, and_self]
  refine W_loop (fun k s m' => ∃ (i : Nat) (x4 x11 x17 : Slot), i ≤ l.length ∧ k = l.length - i ∧ J i m' ∧
    s = sem [(0, .val (.func (.yield iy) #[] #[])), (1, .val (.pointer (some q))), (4, x4), (8, .val (.slice ao l.length c)), (9, .val (.int .i64 l.length)), (10, .val (.int .i64 i)), (11, x11), (17, x17)])
    l.length ⟨0, _, _, _, Nat.zero_le _, rfl, h0, rfl⟩ hΓ ?_
  rintro k s m' ⟨i, x4, x11, x17, hi, rfl, hj, rfl⟩ Q' hn he hret
  by_cases hlt : i < l.length
  · have hlt' : (i : Int) < l.length := by omega
    have hw : IntKind.wrap .i64 ((i : Int) + 1) = ((i + 1 : Nat) : Int) := by rw [wrap_i64 (by omega) (by omega)]; omega
    have hx : l[i]? = some l[i] := List.getElem?_eq_getElem hlt
    generalize hxe : l[i] = y at hx
    have hz73 : Zc Try.prog 73 = [.int .i64 0, .int .i64 0, .int .i64 0] := by kernel_rfl
    cases ao with
    | none => have := h.nil _ _ rfl; subst this; simp at hlt
    | some a =>
      have hcs := (hext i m' hj).get a _ _ rfl i y hx
      simp only [ArcI.cells] at hcs
      simp (decide := true) only [hlt', hw, hcs, hz73, get_new_at, get_set_at, next_set, cell_new_at, cells_new_at, cell_set_at, cells_set_at, cellG_cells, cellsG_cells, splice_nil, splice_cons, List.set_cons_zero, List.set_cons_succ, zc32, ne1, ne1', ne2, ne2', ne3, ne3', cancel1, buildA_nil, buildA_cons, List.toList_toArray, EV, step, List.map_cons, List.map_nil, Option.map_some, Option.map_none, if_true, if_false, reduceIte, List.getElem?_cons_zero, List.getElem?_cons_succ, Option.getD_some, List.nil_append, List.append_nil, List.cons_append, List.getElem?_nil, Option.getD_none, true_implies, false_implies, not_true_eq_false, not_false_eq_true, and_true, true_and, decide_true, decide_false, Int.natCast_nonneg, Int.toNat_natCast, Nat.mul_one, List.size_toArray, List.getElem?_toArray, List.length_cons, List.length_nil, Nat.zero_add, Nat.add_zero, List.drop_zero, List.take_succ_cons, List.take_zero, List.drop_succ_cons, List.all_cons, List.all_nil, Bool.and_true, Bool.and_self, and_self]
      refine callK_yield (hΓ _ _ _ _ _ ?_ (hy i y _ hx (hst i m' _ hj (((Mext.refl m').new _).set (Nat.le_refl _) _))))
      rintro r m2 ⟨rfl, hj2⟩
      simp (decide := true) only [hw, Bool.not_true, EV, step, List.map_cons, List.map_nil, Option.map_some, Option.map_none, if_true, if_false, reduceIte, List.getElem?_cons_zero, List.getElem?_cons_succ, Option.getD_some, List.nil_append, List.append_nil, List.cons_append, List.getElem?_nil, Option.getD_none, true_implies, false_implies, not_true_eq_false, not_false_eq_true, and_true, true_and, decide_true, decide_false, Int.natCast_nonneg, Int.toNat_natCast, Nat.mul_one, List.size_toArray, List.getElem?_toArray, List.length_cons, List.length_nil, Nat.zero_add, Nat.add_zero, List.drop_zero, List.take_succ_cons, List.take_zero, List.drop_succ_cons, List.all_cons, List.all_nil, Bool.and_true, Bool.and_self, and_self]
      exact hn _ _ _ (by omega) ⟨i + 1, _, _, _, hlt, rfl, hj2, rfl⟩
  · have hlt' : ¬ (i : Int) < l.length := by omega
    have hin : i = l.length := by omega
    subst hin
    simp (decide := true) only [hlt', EV, step, List.map_cons, List.map_nil, Option.map_some, Option.map_none, if_true, if_false, reduceIte, List.getElem?_cons_zero, List.getElem?_cons_succ, Option.getD_some, List.nil_append, List.append_nil, List.cons_append, List.getElem?_nil, Option.getD_none, true_implies, false_implies, not_true_eq_false, not_false_eq_true, and_true, true_and, decide_true, decide_false, Int.natCast_nonneg, Int.toNat_natCast, Nat.mul_one, List.size_toArray, List.getElem?_toArray, List.length_cons, List.length_nil, Nat.zero_add, Nat.add_zero, List.drop_zero, List.take_succ_cons, List.take_zero, List.drop_succ_cons, List.all_cons, List.all_nil, Bool.and_true, Bool.and_self, and_self]
    refine he _ _ _ ?_
    simp (decide := true) only [EV, step, List.map_cons, List.map_nil, Option.map_some, Option.map_none, if_true, if_false, reduceIte, List.getElem?_cons_zero, List.getElem?_cons_succ, Option.getD_some, List.nil_append, List.append_nil, List.cons_append, List.getElem?_nil, Option.getD_none, true_implies, false_implies, not_true_eq_false, not_false_eq_true, and_true, true_and, decide_true, decide_false, Int.natCast_nonneg, Int.toNat_natCast, Nat.mul_one, List.size_toArray, List.getElem?_toArray, List.length_cons, List.length_nil, Nat.zero_add, Nat.add_zero, List.drop_zero, List.take_succ_cons, List.take_zero, List.drop_succ_cons, List.all_cons, List.all_nil, Bool.and_true, Bool.and_self, and_self]
    exact hQ _ _ _ ⟨.inl rfl, [], rfl, hj⟩

/-! ### Contracts of flow: capacity. -/
theorem meth76 : methA Try.prog 72 "minikin/flow.arcs" = some 76 := by kernel_rfl
theorem invK_meth {P : Program} {Γ : YEnv} {t : TypeId} {v : Value} {nm : String} {f : FuncId} {args : List Value} {m : Mem} {K : Value → Mem → Prop} (h : methA P t nm = some f) (hk : ACalls P Γ f (v :: args) m K) : invK P Γ (.iface t v) nm args m K := by
  unfold invK; simp only [h]; exact hk

def capSum (set : List Int) : List ArcI → Int
  | [] => 0
  | a :: r => (if a.f ∈ set ∧ a.t ∉ set then a.c else 0) + capSum set r

theorem capSum_append (set : List Int) : ∀ (l r : List ArcI), capSum set (l ++ r) = capSum set l + capSum set r
  | [], r => by simp [capSum]
  | a :: l, r => by simp only [List.cons_append, capSum, capSum_append set l r]; omega
theorem capSum_bound (set : List Int) : ∀ (l : List ArcI), (∀ a ∈ l, 0 ≤ a.c ∧ a.c ≤ 1000000000) → 0 ≤ capSum set l ∧ capSum set l ≤ (l.length : Int) * 1000000000
  | [], _ => by simp [capSum]
  | a :: l, h => by
    have h1 := h a (by simp)
    have h2 := capSum_bound set l fun b hb => h b (by simp [hb])
    simp only [capSum, List.length_cons]
    split <;> omega

set_option maxRecDepth 100000 in
theorem capacity_spec {Γ : YEnv} (hΓ : YMono Γ) (set : List Int) (sv : Value) (p : Addr) (l : List ArcI) (v : Value) (m : Mem) (hs : Ints m sv set) (h : Arcs m v l) (hp : m.cell p.block (p.off + 1) = some v) (hpl : p.block < m.next)
    (hc : ∀ a ∈ l, 0 ≤ a.c ∧ a.c ≤ 1000000000) (hl : l.length ≤ 200) (hsl : set.length < 1000000) :
    ACalls Try.prog Γ 31 [.iface 72 (.pointer (some p)), sv] m fun r m' => r = .int .i64 (capSum set l) ∧ Mext m m' := by
  refine acallsW hΓ fok31 (by simp [X31]) fun Q hQ => ?_
  obtain ⟨so, sc, rfl⟩ := hs.len
  have hz2 : Zc Try.prog 2 = [.int .i64 0] := by kernel_rfl
  simp (decide := true) only [S31_0, S31_1, S31_2, S31_3, S31_4, S31_5, S31_6, S31_7, S31_8, S31_9, S31_10, S31_11, S31_12, S31_13, S31_14, S31_15, S31_16, S31_17, S31_18, S31_19, S31_20, S31_21, S31_22, S31_23, S31_24, S31_25, S31, X31, G31, hz2, get_new_at, get_set_at, next_set, cell_new_at, cells_new_at, cell_set_at, cells_set_at, cellG_cells, cellsG_cells, splice_nil, splice_cons, List.set_cons_zero, List.set_cons_succ, zc32, ne1, ne1', ne2, ne2', ne3, ne3', cancel1, buildA_nil, buildA_cons, List.toList_toArray, EV, step, List.map_cons, List.map_nil, Option.map_some, Option.map_none, if_true, if_false, reduceIte, List.getElem?_cons_zero, List.getElem?_cons_succ, Option.getD_some, List.nil_append, List.append_nil, List.cons_append, List.getElem?_nil, Option.getD_none, true_implies, false_implies, not_true_eq_false, not_false_eq_true, and_true, true_and, decide_true, decide_false, Int.natCast_nonneg, Int.toNat_natCast, Nat.mul_one, List.size_toArray, List.getElem?_toArray, List.length_cons, List.length_nil, Nat.zero_add, Nat.add_zero, List.drop_zero, List.take_succ_cons, List.take_zero, List.drop_succ_cons, List.all_cons, List.all_nil, Bool.and_true, Bool.and_self, and_self]
  refine invK_meth (f := 76) meth76 ?_
  refine (arcs_spec hΓ p _).mono ?_
  rintro r m' ⟨rfl, rfl⟩
  simp (decide := true) only [get_new_at, get_set_at, next_set, cell_new_at, cells_new_at, cell_set_at, cells_set_at, cellG_cells, cellsG_cells, splice_nil, splice_cons, List.set_cons_zero, List.set_cons_succ, zc32, ne1, ne1', ne2, ne2', ne3, ne3', cancel1, buildA_nil, buildA_cons, List.toList_toArray, EV, step, List.map_cons, List.map_nil, Option.map_some, Option.map_none, if_true, if_false, reduceIte, List.getElem?_cons_zero, List.getElem?_cons_succ, Option.getD_some, List.nil_append, List.append_nil, List.cons_append, List.getElem?_nil, Option.getD_none, true_implies, false_implies, not_true_eq_false, not_false_eq_true, and_true, true_and, decide_true, decide_false, Int.natCast_nonneg, Int.toNat_natCast, Nat.mul_one, List.size_toArray, List.getElem?_toArray, List.length_cons, List.length_nil, Nat.zero_add, Nat.add_zero, List.drop_zero, List.take_succ_cons, List.take_zero, List.drop_succ_cons, List.all_cons, List.all_nil, Bool.and_true, Bool.and_self, and_self]
  refine W_rfunc hΓ 78 #[] #[.pointer (some ⟨m.next + 1 + 1, 0, none⟩)] (by simp (decide := true) only [get_new_at, get_set_at, next_set, cell_new_at, cells_new_at, cell_set_at, cells_set_at, cellG_cells, cellsG_cells, splice_nil, splice_cons, List.set_cons_zero, List.set_cons_succ, zc32, ne1, ne1', ne2, ne2', ne3, ne3', cancel1, buildA_nil, buildA_cons, List.toList_toArray, EV, step, List.map_cons, List.map_nil, Option.map_some, Option.map_none, if_true, if_false, reduceIte, List.getElem?_cons_zero, List.getElem?_cons_succ, Option.getD_some, List.nil_append, List.append_nil, List.cons_append, List.getElem?_nil, Option.getD_none, true_implies, false_implies, not_true_eq_false, not_false_eq_true, and_true, true_and, decide_true, decide_false, Int.natCast_nonneg, Int.toNat_natCast, Nat.mul_one, List.size_toArray, List.getElem?_toArray, List.length_cons, List.length_nil, Nat.zero_add, Nat.add_zero, List.drop_zero, List.take_succ_cons, List.take_zero, List.drop_succ_cons, List.all_cons, List.all_nil, Bool.and_true, Bool.and_self, and_self]) ?_
  intro Γ' hΓ' hround
  simp only [Mem.next_new, next_set] at hround ⊢
  generalize hmm : ((((m.new (AObj.cells [Value.slice so set.length sc] 34 1)).new (AObj.cells [Value.int IntKind.i64 0] 2 1)).set (m.next + 1) (AObj.cells [Value.int IntKind.i64 0] 2 1)).new (AObj.cells [Value.pointer (some p)] 72 1)).new (AObj.loop LoopState.ready none) = mm
  have hext : Mext m mm := by rw [← hmm]; exact (((((Mext.refl m).new _).new _).set (by omega) _).new _).new _
  have hnx : mm.next = m.next + 4 := by rw [← hmm]; simp only [Mem.next_new, next_set]
  have e0 : mm.get m.next = some (.cells [.slice so set.length sc] 34 1) := by rw [← hmm]; simp (decide := true) only [get_new_at, get_set_at, next_set, cell_new_at, cells_new_at, cell_set_at, cells_set_at, cellG_cells, cellsG_cells, splice_nil, splice_cons, List.set_cons_zero, List.set_cons_succ, zc32, ne1, ne1', ne2, ne2', ne3, ne3', cancel1, buildA_nil, buildA_cons, List.toList_toArray, EV, step, List.map_cons, List.map_nil, Option.map_some, Option.map_none, if_true, if_false, reduceIte, List.getElem?_cons_zero, List.getElem?_cons_succ, Option.getD_some, List.nil_append, List.append_nil, List.cons_append, List.getElem?_nil, Option.getD_none, true_implies, false_implies, not_true_eq_false, not_false_eq_true, and_true, true_and, decide_true, decide_false, Int.natCast_nonneg, Int.toNat_natCast, Nat.mul_one, List.size_toArray, List.getElem?_toArray, List.length_cons, List.length_nil, Nat.zero_add, Nat.add_zero, List.drop_zero, List.take_succ_cons, List.take_zero, List.drop_succ_cons, List.all_cons, List.all_nil, Bool.and_true, Bool.and_self, and_self]
  have e1 : mm.get (m.next + 1) = some (.cells [.int .i64 0] 2 1) := by rw [← hmm]; simp (decide := true) only [get_new_at, get_set_at, next_set, cell_new_at, cells_new_at, cell_set_at, cells_set_at, cellG_cells, cellsG_cells, splice_nil, splice_cons, List.set_cons_zero, List.set_cons_succ, zc32, ne1, ne1', ne2, ne2', ne3, ne3', cancel1, buildA_nil, buildA_cons, List.toList_toArray, EV, step, List.map_cons, List.map_nil, Option.map_some, Option.map_none, if_true, if_false, reduceIte, List.getElem?_cons_zero, List.getElem?_cons_succ, Option.getD_some, List.nil_append, List.append_nil, List.cons_append, List.getElem?_nil, Option.getD_none, true_implies, false_implies, not_true_eq_false, not_false_eq_true, and_true, true_and, decide_true, decide_false, Int.natCast_nonneg, Int.toNat_natCast, Nat.mul_one, List.size_toArray, List.getElem?_toArray, List.length_cons, List.length_nil, Nat.zero_add, Nat.add_zero, List.drop_zero, List.take_succ_cons, List.take_zero, List.drop_succ_cons, List.all_cons, List.all_nil, Bool.and_true, Bool.and_self, and_self]
  have e2 : mm.get (m.next + 1 + 1) = some (.cells [.pointer (some p)] 72 1) := by rw [← hmm]; simp (decide := true) only [get_new_at, get_set_at, next_set, cell_new_at, cells_new_at, cell_set_at, cells_set_at, cellG_cells, cellsG_cells, splice_nil, splice_cons, List.set_cons_zero, List.set_cons_succ, zc32, ne1, ne1', ne2, ne2', ne3, ne3', cancel1, buildA_nil, buildA_cons, List.toList_toArray, EV, step, List.map_cons, List.map_nil, Option.map_some, Option.map_none, if_true, if_false, reduceIte, List.getElem?_cons_zero, List.getElem?_cons_succ, Option.getD_some, List.nil_append, List.append_nil, List.cons_append, List.getElem?_nil, Option.getD_none, true_implies, false_implies, not_true_eq_false, not_false_eq_true, and_true, true_and, decide_true, decide_false, Int.natCast_nonneg, Int.toNat_natCast, Nat.mul_one, List.size_toArray, List.getElem?_toArray, List.length_cons, List.length_nil, Nat.zero_add, Nat.add_zero, List.drop_zero, List.take_succ_cons, List.take_zero, List.drop_succ_cons, List.all_cons, List.all_nil, Bool.and_true, Bool.and_self, and_self]
  have e3 : mm.get (m.next + 1 + 1 + 1) = some (.loop .ready none) := by rw [← hmm]; simp (decide := true) only [get_new_at, get_set_at, next_set, cell_new_at, cells_new_at, cell_set_at, cells_set_at, cellG_cells, cellsG_cells, splice_nil, splice_cons, List.set_cons_zero, List.set_cons_succ, zc32, ne1, ne1', ne2, ne2', ne3, ne3', cancel1, buildA_nil, buildA_cons, List.toList_toArray, EV, step, List.map_cons, List.map_nil, Option.map_some, Option.map_none, if_true, if_false, reduceIte, List.getElem?_cons_zero, List.getElem?_cons_succ, Option.getD_some, List.nil_append, List.append_nil, List.cons_append, List.getElem?_nil, Option.getD_none, true_implies, false_implies, not_true_eq_false, not_false_eq_true, and_true, true_and, decide_true, decide_false, Int.natCast_nonneg, Int.toNat_natCast, Nat.mul_one, List.size_toArray, List.getElem?_toArray, List.length_cons, List.length_nil, Nat.zero_add, Nat.add_zero, List.drop_zero, List.take_succ_cons, List.take_zero, List.drop_succ_cons, List.all_cons, List.all_nil, Bool.and_true, Bool.and_self, and_self]
  let J : Nat → Mem → Prop := fun j m1 => Mext m m1 ∧ m.next + 4 ≤ m1.next ∧ m1.get m.next = some (.cells [.slice so set.length sc] 34 1) ∧ m1.get (m.next + 1) = some (.cells [.int .i64 (capSum set (l.take j))] 2 1) ∧ m1.get (m.next + 1 + 1 + 1) = some (.loop .ready none)
  refine (arcs1_spec hΓ' (m.next + 1 + 1 + 1) ⟨m.next + 1 + 1, 0, none⟩ p l v mm J (h.mext hext) (by omega) (by rw [cell_of e2]; rfl) (by rw [hext.cell hpl]; exact hp)
    ⟨hext, by omega, e0, by simpa [capSum] using e1, e3⟩ ?_ (fun j m1 hj => h.mext hj.1) ?_).mono ?_
  · rintro j m1 m2 ⟨j1, j2, j3, j4, j5⟩ hm12
    exact ⟨j1.trans hm12, Nat.le_trans j2 hm12.next, (hm12.get _ (by omega)).trans j3, (hm12.get _ (by omega)).trans j4, (hm12.get _ (by omega)).trans j5⟩
  · rintro j x m1 hx ⟨j1, j2, j3, j4, j5⟩
    have hz73 : Zc Try.prog 73 = [.int .i64 0, .int .i64 0, .int .i64 0] := by kernel_rfl
    refine hround _ _ _ j5 rfl fun Q1 hQ1 => ?_
    clear hround
    simp (decide := true) only [ArcI.val, hz73, Mem.next_kill, get_new_at, get_set_at, next_set, cell_new_at, cells_new_at, cell_set_at, cells_set_at, cellG_cells, cellsG_cells, splice_nil, splice_cons, List.set_cons_zero, List.set_cons_succ, zc32, ne1, ne1', ne2, ne2', ne3, ne3', cancel1, buildA_nil, buildA_cons, List.toList_toArray, EV, step, List.map_cons, List.map_nil, Option.map_some, Option.map_none, if_true, if_false, reduceIte, List.getElem?_cons_zero, List.getElem?_cons_succ, Option.getD_some, List.nil_append, List.append_nil, List.cons_append, List.getElem?_nil, Option.getD_none, true_implies, false_implies, not_true_eq_false, not_false_eq_true, and_true, true_and, decide_true, decide_false, Int.natCast_nonneg, Int.toNat_natCast, Nat.mul_one, List.size_toArray, List.getElem?_toArray, List.length_cons, List.length_nil, Nat.zero_add, Nat.add_zero, List.drop_zero, List.take_succ_cons, List.take_zero, List.drop_succ_cons, List.all_cons, List.all_nil, Bool.and_true, Bool.and_self, and_self]
    refine hQ1 _ _ ?_
    generalize hmk : ((m1.kill (m.next + 1 + 1 + 1)).new (AObj.cells [Value.int IntKind.i64 0, Value.int IntKind.i64 0, Value.int IntKind.i64 0] 73 3)).set m1.next (AObj.cells [Value.int IntKind.i64 x.f, Value.int IntKind.i64 x.t, Value.int IntKind.i64 x.c] 73 3) = mk
    have k0 : mk.get m.next = some (.cells [.slice so set.length sc] 34 1) := by rw [← hmk, Mem.get_set_ne _ _ _ (by omega), Mem.get_new_ne _ _ (by rw [Mem.next_kill]; omega), Mem.get_kill_ne _ _ (by omega)]; exact j3
    have k1 : mk.get (m.next + 1) = some (.cells [.int .i64 (capSum set (l.take j))] 2 1) := by rw [← hmk, Mem.get_set_ne _ _ _ (by omega), Mem.get_new_ne _ _ (by rw [Mem.next_kill]; omega), Mem.get_kill_ne _ _ (by omega)]; exact j4
    have k2 : mk.get m1.next = some (.cells [.int .i64 x.f, .int .i64 x.t, .int .i64 x.c] 73 3) := by rw [← hmk, Mem.get_set]
    have kn : mk.next = m1.next + 1 := by rw [← hmk, next_set, Mem.next_new, Mem.next_kill]
    have km : Mext m mk := by rw [← hmk]; exact ((j1.kill (by omega)).new _).set (by omega) _
    have c0 : mk.cell m.next 0 = some (.slice so set.length sc) := by rw [cell_of k0]; rfl
    have c1 : mk.cell (m.next + 1) 0 = some (.int .i64 (capSum set (l.take j))) := by rw [cell_of k1]; rfl
    have c2 : mk.cell m1.next 0 = some (.int .i64 x.f) := by rw [cell_of k2]; rfl
    have c3 : mk.cell m1.next 1 = some (.int .i64 x.t) := by rw [cell_of k2]; rfl
    have c4 : mk.cell m1.next 2 = some (.int .i64 x.c) := by rw [cell_of k2]; rfl
    clear hQ1
    have hints := hs.mext km
    simp (decide := true) only [qv, qvK, c0, c1, c2, c3, c4, EV, step, List.map_cons, List.map_nil, Option.map_some, Option.map_none, if_true, if_false, reduceIte, List.getElem?_cons_zero, List.getElem?_cons_succ, Option.getD_some, List.nil_append, List.append_nil, List.cons_append, List.getElem?_nil, Option.getD_none, true_implies, false_implies, not_true_eq_false, not_false_eq_true, and_true, true_and, decide_true, decide_false, Int.natCast_nonneg, Int.toNat_natCast, Nat.mul_one, List.size_toArray, List.getElem?_toArray, List.length_cons, List.length_nil, Nat.zero_add, Nat.add_zero, List.drop_zero, List.take_succ_cons, List.take_zero, List.drop_succ_cons, List.all_cons, List.all_nil, Bool.and_true, Bool.and_self, and_self]
    refine Wt_m hΓ rfl ?_
    simp (decide := true) only [opN, EV, step, List.map_cons, List.map_nil, Option.map_some, Option.map_none, if_true, if_false, reduceIte, List.getElem?_cons_zero, List.getElem?_cons_succ, Option.getD_some, List.nil_append, List.append_nil, List.cons_append, List.getElem?_nil, Option.getD_none, true_implies, false_implies, not_true_eq_false, not_false_eq_true, and_true, true_and, decide_true, decide_false, Int.natCast_nonneg, Int.toNat_natCast, Nat.mul_one, List.size_toArray, List.getElem?_toArray, List.length_cons, List.length_nil, Nat.zero_add, Nat.add_zero, List.drop_zero, List.take_succ_cons, List.take_zero, List.drop_succ_cons, List.all_cons, List.all_nil, Bool.and_true, Bool.and_self, and_self]
    refine (contains_spec hΓ x.f set _ mk hints hsl).mono ?_
    rintro r m3 ⟨rfl, rfl⟩
    refine ⟨fun _ _ _ => rfl, ?_⟩
    refine Wt_m hΓ rfl ?_
    simp (decide := true) only [opN, EV, step, List.map_cons, List.map_nil, Option.map_some, Option.map_none, if_true, if_false, reduceIte, List.getElem?_cons_zero, List.getElem?_cons_succ, Option.getD_some, List.nil_append, List.append_nil, List.cons_append, List.getElem?_nil, Option.getD_none, true_implies, false_implies, not_true_eq_false, not_false_eq_true, and_true, true_and, decide_true, decide_false, Int.natCast_nonneg, Int.toNat_natCast, Nat.mul_one, List.size_toArray, List.getElem?_toArray, List.length_cons, List.length_nil, Nat.zero_add, Nat.add_zero, List.drop_zero, List.take_succ_cons, List.take_zero, List.drop_succ_cons, List.all_cons, List.all_nil, Bool.and_true, Bool.and_self, and_self]
    refine (contains_spec hΓ x.t set _ _ hints hsl).mono ?_
    rintro r m3 ⟨rfl, rfl⟩
    refine ⟨fun _ _ _ => rfl, ?_⟩
    simp (decide := true) only [qv, qvK, c0, c1, c2, c3, c4, EV, step, List.map_cons, List.map_nil, Option.map_some, Option.map_none, if_true, if_false, reduceIte, List.getElem?_cons_zero, List.getElem?_cons_succ, Option.getD_some, List.nil_append, List.append_nil, List.cons_append, List.getElem?_nil, Option.getD_none, true_implies, false_implies, not_true_eq_false, not_false_eq_true, and_true, true_and, decide_true, decide_false, Int.natCast_nonneg, Int.toNat_natCast, Nat.mul_one, List.size_toArray, List.getElem?_toArray, List.length_cons, List.length_nil, Nat.zero_add, Nat.add_zero, List.drop_zero, List.take_succ_cons, List.take_zero, List.drop_succ_cons, List.all_cons, List.all_nil, Bool.and_true, Bool.and_self, and_self]
    have htake : l.take (j + 1) = l.take j ++ [x] := by
      have hjl : j < l.length := (List.getElem?_eq_some_iff.1 hx).1
      rw [List.getElem?_eq_getElem hjl] at hx
      cases hx
      exact (List.take_append_getElem hjl).symm
    have hmem : x ∈ l := List.mem_of_getElem? hx
    have hb := capSum_bound set (l.take j) fun a ha => hc a (List.mem_of_mem_take ha)
    have hlen : (l.take j).length ≤ 200 := by rw [List.length_take]; omega
    have hxc := hc x hmem
    have hsum : capSum set (l.take (j + 1)) = capSum set (l.take j) + (if x.f ∈ set ∧ x.t ∉ set then x.c else 0) := by rw [htake, capSum_append]; simp [capSum]
    have fin : ∀ (s : Fr) (mf : Mem), Mext m mf → mf.next = m1.next + 1 → mf.get m.next = some (.cells [.slice so set.length sc] 34 1) → mf.get (m.next + 1) = some (.cells [.int .i64 (capSum set (l.take (j + 1)))] 2 1) →
        RQ (m.next + 1 + 1 + 1) (fun r m2 => r = .bool true ∧ J (j + 1) m2) .normal s mf := by
      intro s mf q1 q2 q3 q4
      exact ⟨rfl, q1.set (by omega) _, by rw [next_set]; omega, by rw [Mem.get_set_ne _ _ _ (by omega)]; exact q3, by rw [Mem.get_set_ne _ _ _ (by omega)]; exact q4, Mem.get_set _ _ _⟩
    have hw1 : IntKind.wrap .i64 (capSum set (l.take j) + x.c) = capSum set (l.take j) + x.c := wrap_i64 (by omega) (by omega)
    have hw2 : IntKind.wrap .i64 (capSum set (l.take j) + 0) = capSum set (l.take j) := by rw [wrap_i64 (by omega) (by omega)]; omega
    by_cases hf : x.f ∈ set
    · by_cases ht : x.t ∈ set
      · simp (decide := true) only [hf, ht, c0, c1, c2, c3, c4, Bool.not_true, Bool.not_false, EV, step, List.map_cons, List.map_nil, Option.map_some, Option.map_none, if_true, if_false, reduceIte, List.getElem?_cons_zero, List.getElem?_cons_succ, Option.getD_some, List.nil_append, List.append_nil, List.cons_append, List.getElem?_nil, Option.getD_none, true_implies, false_implies, not_true_eq_false, not_false_eq_true, and_true, true_and, decide_true, decide_false, Int.natCast_nonneg, Int.toNat_natCast, Nat.mul_one, List.size_toArray, List.getElem?_toArray, List.length_cons, List.length_nil, Nat.zero_add, Nat.add_zero, List.drop_zero, List.take_succ_cons, List.take_zero, List.drop_succ_cons, List.all_cons, List.all_nil, Bool.and_true, Bool.and_self, and_self]
        exact fin _ _ km kn k0 (by rw [hsum]; simpa [hf, ht] using k1)
      · simp (decide := true) only [hf, ht, c0, c1, c2, c3, c4, hw1, k1, splice_nil, splice_cons, List.set_cons_zero, List.set_cons_succ, List.toList_toArray, Bool.not_true, Bool.not_false, EV, step, List.map_cons, List.map_nil, Option.map_some, Option.map_none, if_true, if_false, reduceIte, List.getElem?_cons_zero, List.getElem?_cons_succ, Option.getD_some, List.nil_append, List.append_nil, List.cons_append, List.getElem?_nil, Option.getD_none, true_implies, false_implies, not_true_eq_false, not_false_eq_true, and_true, true_and, decide_true, decide_false, Int.natCast_nonneg, Int.toNat_natCast, Nat.mul_one, List.size_toArray, List.getElem?_toArray, List.length_cons, List.length_nil, Nat.zero_add, Nat.add_zero, List.drop_zero, List.take_succ_cons, List.take_zero, List.drop_succ_cons, List.all_cons, List.all_nil, Bool.and_true, Bool.and_self, and_self]
        refine fin _ _ (km.set (by omega) _) (by rw [next_set]; exact kn) (by rw [Mem.get_set_ne _ _ _ (by omega)]; exact k0) ?_
        rw [Mem.get_set, hsum]; simp [hf, ht]
    · by_cases ht : x.t ∈ set
      · simp (decide := true) only [hf, ht, c0, c1, c2, c3, c4, hw2, k1, splice_nil, splice_cons, List.set_cons_zero, List.set_cons_succ, List.toList_toArray, Bool.not_true, Bool.not_false, EV, step, List.map_cons, List.map_nil, Option.map_some, Option.map_none, if_true, if_false, reduceIte, List.getElem?_cons_zero, List.getElem?_cons_succ, Option.getD_some, List.nil_append, List.append_nil, List.cons_append, List.getElem?_nil, Option.getD_none, true_implies, false_implies, not_true_eq_false, not_false_eq_true, and_true, true_and, decide_true, decide_false, Int.natCast_nonneg, Int.toNat_natCast, Nat.mul_one, List.size_toArray, List.getElem?_toArray, List.length_cons, List.length_nil, Nat.zero_add, Nat.add_zero, List.drop_zero, List.take_succ_cons, List.take_zero, List.drop_succ_cons, List.all_cons, List.all_nil, Bool.and_true, Bool.and_self, and_self]
        refine fin _ _ (km.set (by omega) _) (by rw [next_set]; exact kn) (by rw [Mem.get_set_ne _ _ _ (by omega)]; exact k0) ?_
        rw [Mem.get_set, hsum]; simp [hf, ht]
      · simp (decide := true) only [hf, ht, c0, c1, c2, c3, c4, Bool.not_true, Bool.not_false, EV, step, List.map_cons, List.map_nil, Option.map_some, Option.map_none, if_true, if_false, reduceIte, List.getElem?_cons_zero, List.getElem?_cons_succ, Option.getD_some, List.nil_append, List.append_nil, List.cons_append, List.getElem?_nil, Option.getD_none, true_implies, false_implies, not_true_eq_false, not_false_eq_true, and_true, true_and, decide_true, decide_false, Int.natCast_nonneg, Int.toNat_natCast, Nat.mul_one, List.size_toArray, List.getElem?_toArray, List.length_cons, List.length_nil, Nat.zero_add, Nat.add_zero, List.drop_zero, List.take_succ_cons, List.take_zero, List.drop_succ_cons, List.all_cons, List.all_nil, Bool.and_true, Bool.and_self, and_self]
        exact fin _ _ km kn k0 (by rw [hsum]; simpa [hf, ht] using k1)
  · rintro r m2 ⟨j1, j2, j3, j4, j5⟩
    refine ⟨j5, ?_⟩
    have c1 : (m2.kill (m.next + 1 + 1 + 1)).cell (m.next + 1) 0 = some (.int .i64 (capSum set l)) := by
      rw [List.take_length] at j4
      rw [cell_of (c := [.int .i64 (capSum set l)]) (t := 2) (z := 1) (by rw [Mem.get_kill_ne _ _ (by omega)]; exact j4)]; rfl
    simp (decide := true) only [c1, EV, step, List.map_cons, List.map_nil, Option.map_some, Option.map_none, if_true, if_false, reduceIte, List.getElem?_cons_zero, List.getElem?_cons_succ, Option.getD_some, List.nil_append, List.append_nil, List.cons_append, List.getElem?_nil, Option.getD_none, true_implies, false_implies, not_true_eq_false, not_false_eq_true, and_true, true_and, decide_true, decide_false, Int.natCast_nonneg, Int.toNat_natCast, Nat.mul_one, List.size_toArray, List.getElem?_toArray, List.length_cons, List.length_nil, Nat.zero_add, Nat.add_zero, List.drop_zero, List.take_succ_cons, List.take_zero, List.drop_succ_cons, List.all_cons, List.all_nil, Bool.and_true, Bool.and_self, and_self]
    refine hQ _ _ _ ⟨.inr rfl, [.int .i64 (capSum set l)], ?_, rfl, j1.kill (by omega)⟩
    simp [X31, R31, resL, sem, Slot.v]

/-! ### Contracts of flow: Capacity. -/
def capRes (n : Int) (l : List ArcI) (set : List Int) : Int × Int := if NetOk n l then if rising n (-1) set = true then (capSum set l, 0) else (0, 1) else (0, 30)
set_option maxRecDepth 100000 in
theorem Capacity_spec {Γ : YEnv} (hΓ : YMono Γ) (n : Int) (set : List Int) (sv : Value) (l : List ArcI) (v : Value) (m : Mem) (hs : Ints m sv set) (h : Arcs m v l) (hl : l.length < 1000000) (hsl : set.length < 1000000) :
    ACalls Try.prog Γ 9 [.agg #[.int .i64 n, v], sv] m fun r m' => r = .tuple #[.int .i64 (capRes n l set).1, .int .i64 (capRes n l set).2] ∧ Mext m m' := by
  refine acallsW hΓ fok9 (by simp [X9]) fun Q hQ => ?_
  have res : ∀ a b : Int, capRes n l set = (a, b) → ∀ e s m', Mext m m' → (e = .normal ∨ e = .ret) → (s 4).v = .int .i64 a → (s 5).v = .int .i64 b → Q e s m' := by
    intro a b hb e s m' hm h1 h2 h3
    refine hQ _ _ _ ⟨h1, [.int .i64 a, .int .i64 b], ?_, by rw [hb]; rfl, hm⟩
    simp [X9, R9, resL, h2, h3]
  have hm1 := (Mext.refl m).new (.cells [.int .i64 n, v] 32 2)
  have hv : okVal v = true ∧ v.cells = #[v] := by obtain ⟨a, c, rfl⟩ := h.len; exact ⟨rfl, rfl⟩
  simp (decide := true) only [S9_0, S9_1, S9_2, S9_3, S9_4, S9_5, S9_6, S9_7, S9_8, S9_9, S9_10, S9_11, S9_12, S9_13, S9_14, S9_15, S9_16, S9_17, S9, X9, G9, get_new_at, get_set_at, next_set, cell_new_at, cells_new_at, cell_set_at, cells_set_at, cellG_cells, cellsG_cells, splice_nil, splice_cons, List.set_cons_zero, List.set_cons_succ, zc32, ne1, ne1', ne2, ne2', ne3, ne3', cancel1, buildA_nil, buildA_cons, List.toList_toArray, EV, step, List.map_cons, List.map_nil, Option.map_some, Option.map_none, if_true, if_false, reduceIte, List.getElem?_cons_zero, List.getElem?_cons_succ, Option.getD_some, List.nil_append, List.append_nil, List.cons_append, List.getElem?_nil, Option.getD_none, true_implies, false_implies, not_true_eq_false, not_false_eq_true, and_true, true_and, decide_true, decide_false, Int.natCast_nonneg, Int.toNat_natCast, Nat.mul_one, List.size_toArray, List.getElem?_toArray, List.length_cons, List.length_nil, Nat.zero_add, Nat.add_zero, List.drop_zero, List.take_succ_cons, List.take_zero, List.drop_succ_cons, List.all_cons, List.all_nil, Bool.and_true, Bool.and_self, and_self]
  refine (check_spec hΓ n l v _ (h.mext hm1) hl).mono ?_
  rintro r m2 ⟨rfl, hm2⟩
  have g : m2.get m.next = some (.cells [.int .i64 n, v] 32 2) := (hm2.get _ (by rw [Mem.next_new]; omega)).trans (Mem.get_new _ _)
  have c0 : m2.cell m.next 0 = some (.int .i64 n) := by rw [cell_of g]; rfl
  by_cases h1 : NetOk n l
  · have h1' : NetOk n l = True := eq_true h1
    simp (decide := true) only [h1', c0, ne_eq, EV, step, List.map_cons, List.map_nil, Option.map_some, Option.map_none, if_true, if_false, reduceIte, List.getElem?_cons_zero, List.getElem?_cons_succ, Option.getD_some, List.nil_append, List.append_nil, List.cons_append, List.getElem?_nil, Option.getD_none, true_implies, false_implies, not_true_eq_false, not_false_eq_true, and_true, true_and, decide_true, decide_false, Int.natCast_nonneg, Int.toNat_natCast, Nat.mul_one, List.size_toArray, List.getElem?_toArray, List.length_cons, List.length_nil, Nat.zero_add, Nat.add_zero, List.drop_zero, List.take_succ_cons, List.take_zero, List.drop_succ_cons, List.all_cons, List.all_nil, Bool.and_true, Bool.and_self, and_self]
    refine (isSet_spec hΓ n set sv m2 (hs.mext (hm1.trans hm2)) hsl).mono ?_
    rintro r m3 ⟨rfl, rfl⟩
    cases h2 : rising n (-1) set with
    | false =>
      simp (decide := true) only [Bool.not_false, EV, step, List.map_cons, List.map_nil, Option.map_some, Option.map_none, if_true, if_false, reduceIte, List.getElem?_cons_zero, List.getElem?_cons_succ, Option.getD_some, List.nil_append, List.append_nil, List.cons_append, List.getElem?_nil, Option.getD_none, true_implies, false_implies, not_true_eq_false, not_false_eq_true, and_true, true_and, decide_true, decide_false, Int.natCast_nonneg, Int.toNat_natCast, Nat.mul_one, List.size_toArray, List.getElem?_toArray, List.length_cons, List.length_nil, Nat.zero_add, Nat.add_zero, List.drop_zero, List.take_succ_cons, List.take_zero, List.drop_succ_cons, List.all_cons, List.all_nil, Bool.and_true, Bool.and_self, and_self]
      exact res 0 1 (by simp [capRes, h1, h2]) _ _ _ (hm1.trans hm2) (.inr rfl) (by simp (decide := true) only [EV, step, List.map_cons, List.map_nil, Option.map_some, Option.map_none, if_true, if_false, reduceIte, List.getElem?_cons_zero, List.getElem?_cons_succ, Option.getD_some, List.nil_append, List.append_nil, List.cons_append, List.getElem?_nil, Option.getD_none, true_implies, false_implies, not_true_eq_false, not_false_eq_true, and_true, true_and, decide_true, decide_false, Int.natCast_nonneg, Int.toNat_natCast, Nat.mul_one, List.size_toArray, List.getElem?_toArray, List.length_cons, List.length_nil, Nat.zero_add, Nat.add_zero, List.drop_zero, List.take_succ_cons, List.take_zero, List.drop_succ_cons, List.all_cons, List.all_nil, Bool.and_true, Bool.and_self, and_self]) (by simp (decide := true) only [EV, step, List.map_cons, List.map_nil, Option.map_some, Option.map_none, if_true, if_false, reduceIte, List.getElem?_cons_zero, List.getElem?_cons_succ, Option.getD_some, List.nil_append, List.append_nil, List.cons_append, List.getElem?_nil, Option.getD_none, true_implies, false_implies, not_true_eq_false, not_false_eq_true, and_true, true_and, decide_true, decide_false, Int.natCast_nonneg, Int.toNat_natCast, Nat.mul_one, List.size_toArray, List.getElem?_toArray, List.length_cons, List.length_nil, Nat.zero_add, Nat.add_zero, List.drop_zero, List.take_succ_cons, List.take_zero, List.drop_succ_cons, List.all_cons, List.all_nil, Bool.and_true, Bool.and_self, and_self])
    | true =>
      simp (decide := true) only [Bool.not_true, EV, step, List.map_cons, List.map_nil, Option.map_some, Option.map_none, if_true, if_false, reduceIte, List.getElem?_cons_zero, List.getElem?_cons_succ, Option.getD_some, List.nil_append, List.append_nil, List.cons_append, List.getElem?_nil, Option.getD_none, true_implies, false_implies, not_true_eq_false, not_false_eq_true, and_true, true_and, decide_true, decide_false, Int.natCast_nonneg, Int.toNat_natCast, Nat.mul_one, List.size_toArray, List.getElem?_toArray, List.length_cons, List.length_nil, Nat.zero_add, Nat.add_zero, List.drop_zero, List.take_succ_cons, List.take_zero, List.drop_succ_cons, List.all_cons, List.all_nil, Bool.and_true, Bool.and_self, and_self]
      have hp : m3.cell (Addr.mk m.next 0 none).block ((Addr.mk m.next 0 none).off + 1) = some v := by rw [cell_of g]; rfl
      refine (capacity_spec hΓ set sv ⟨m.next, 0, none⟩ l v m3 (hs.mext (hm1.trans hm2)) (h.mext (hm1.trans hm2)) hp (by have := hm2.next; rw [Mem.next_new] at this; show m.next < m3.next; omega) (fun a ha => ⟨(h1.2.2.2 a ha).2.2.2.1, (h1.2.2.2 a ha).2.2.2.2⟩) h1.2.2.1 hsl).mono ?_
      rintro r m4 ⟨rfl, hm4⟩
      exact res (capSum set l) 0 (by simp [capRes, h1, h2]) _ _ _ ((hm1.trans hm2).trans hm4) (.inr rfl) (by simp (decide := true) only [EV, step, List.map_cons, List.map_nil, Option.map_some, Option.map_none, if_true, if_false, reduceIte, List.getElem?_cons_zero, List.getElem?_cons_succ, Option.getD_some, List.nil_append, List.append_nil, List.cons_append, List.getElem?_nil, Option.getD_none, true_implies, false_implies, not_true_eq_false, not_false_eq_true, and_true, true_and, decide_true, decide_false, Int.natCast_nonneg, Int.toNat_natCast, Nat.mul_one, List.size_toArray, List.getElem?_toArray, List.length_cons, List.length_nil, Nat.zero_add, Nat.add_zero, List.drop_zero, List.take_succ_cons, List.take_zero, List.drop_succ_cons, List.all_cons, List.all_nil, Bool.and_true, Bool.and_self, and_self]) (by simp (decide := true) only [EV, step, List.map_cons, List.map_nil, Option.map_some, Option.map_none, if_true, if_false, reduceIte, List.getElem?_cons_zero, List.getElem?_cons_succ, Option.getD_some, List.nil_append, List.append_nil, List.cons_append, List.getElem?_nil, Option.getD_none, true_implies, false_implies, not_true_eq_false, not_false_eq_true, and_true, true_and, decide_true, decide_false, Int.natCast_nonneg, Int.toNat_natCast, Nat.mul_one, List.size_toArray, List.getElem?_toArray, List.length_cons, List.length_nil, Nat.zero_add, Nat.add_zero, List.drop_zero, List.take_succ_cons, List.take_zero, List.drop_succ_cons, List.all_cons, List.all_nil, Bool.and_true, Bool.and_self, and_self])
  · have h1' : NetOk n l = False := eq_false h1
    simp (decide := true) only [h1', c0, ne_eq, EV, step, List.map_cons, List.map_nil, Option.map_some, Option.map_none, if_true, if_false, reduceIte, List.getElem?_cons_zero, List.getElem?_cons_succ, Option.getD_some, List.nil_append, List.append_nil, List.cons_append, List.getElem?_nil, Option.getD_none, true_implies, false_implies, not_true_eq_false, not_false_eq_true, and_true, true_and, decide_true, decide_false, Int.natCast_nonneg, Int.toNat_natCast, Nat.mul_one, List.size_toArray, List.getElem?_toArray, List.length_cons, List.length_nil, Nat.zero_add, Nat.add_zero, List.drop_zero, List.take_succ_cons, List.take_zero, List.drop_succ_cons, List.all_cons, List.all_nil, Bool.and_true, Bool.and_self, and_self]
    exact res 0 30 (by simp [capRes, h1]) _ _ _ (hm1.trans hm2) (.inr rfl) (by simp (decide := true) only [EV, step, List.map_cons, List.map_nil, Option.map_some, Option.map_none, if_true, if_false, reduceIte, List.getElem?_cons_zero, List.getElem?_cons_succ, Option.getD_some, List.nil_append, List.append_nil, List.cons_append, List.getElem?_nil, Option.getD_none, true_implies, false_implies, not_true_eq_false, not_false_eq_true, and_true, true_and, decide_true, decide_false, Int.natCast_nonneg, Int.toNat_natCast, Nat.mul_one, List.size_toArray, List.getElem?_toArray, List.length_cons, List.length_nil, Nat.zero_add, Nat.add_zero, List.drop_zero, List.take_succ_cons, List.take_zero, List.drop_succ_cons, List.all_cons, List.all_nil, Bool.and_true, Bool.and_self, and_self]) (by simp (decide := true) only [EV, step, List.map_cons, List.map_nil, Option.map_some, Option.map_none, if_true, if_false, reduceIte, List.getElem?_cons_zero, List.getElem?_cons_succ, Option.getD_some, List.nil_append, List.append_nil, List.cons_append, List.getElem?_nil, Option.getD_none, true_implies, false_implies, not_true_eq_false, not_false_eq_true, and_true, true_and, decide_true, decide_false, Int.natCast_nonneg, Int.toNat_natCast, Nat.mul_one, List.size_toArray, List.getElem?_toArray, List.length_cons, List.length_nil, Nat.zero_add, Nat.add_zero, List.drop_zero, List.take_succ_cons, List.take_zero, List.drop_succ_cons, List.all_cons, List.all_nil, Bool.and_true, Bool.and_self, and_self])

/-! ### Contracts of flow: tame. -/
theorem zc24 : Zc Try.prog 24 = [.int .i64 0, .slice none 0 0] := by kernel_rfl
theorem zc55 : Zc Try.prog 55 = [.int .i64 0, .int .i64 0, .int .i64 0] := by kernel_rfl
theorem zeros55 : zeros Try.prog 55 1 = [.int .i64 0, .int .i64 0, .int .i64 0] := by kernel_rfl
set_option maxRecDepth 100000 in
theorem tame_spec {Γ : YEnv} (hΓ : YMono Γ) (places arcs n : Int) (hp : 3 ≤ places) (hp2 : places ≤ 24) (ha0 : 0 ≤ arcs) (ha : arcs ≤ 200) (l : List ArcI) (v : Value) (m : Mem) (h : Arcs m v l) (hl : l.length < 9223372036854775808) :
    ACalls Try.prog Γ 8 [.agg #[.int .i64 n, v], .int .i64 places, .int .i64 arcs] m fun r m' => ∃ N l' v', r = .agg #[.int .i64 N, v'] ∧ 2 ≤ N ∧ N ≤ places ∧ (l'.length : Int) ≤ arcs ∧ (∀ a ∈ l', a.ok N) ∧ Acc m m' v' (arcCells l') 55 3 ∧ Mext m m' := by
  refine acallsW hΓ fok8 (by simp [X8]) fun Q hQ => ?_
  obtain ⟨ao, c, rfl⟩ := h.len
  have hpm : IntKind.wrap .u64 (IntKind.wrap .i64 (places - 1)) = places - 1 := by rw [wrap_i64 (by omega) (by omega), wrap_u64 (by omega) (by omega)]
  have hpz : (places - 1 = 0) = False := eq_false (by omega)
  let mb : Mem := ⟨fun _ => none, m.next + 3⟩
  simp (decide := true) only [S8_0, S8_1, S8_2, S8_3, S8_4, S8_5, S8_6, S8_7, S8_8, S8_9, S8_10, S8_11, S8_12, S8_13, S8_14, S8_15, S8_16, S8_17, S8_18, S8_19, S8_20, S8_21, S8_22, S8_23, S8_24, S8_25, S8_26, S8_27, S8_28, S8_29, S8, X8, G8, zc24, hpm, hpz, get_new_at, get_set_at, next_set, cell_new_at, cells_new_at, cell_set_at, cells_set_at, cellG_cells, cellsG_cells, splice_nil, splice_cons, List.set_cons_zero, List.set_cons_succ, zc32, ne1, ne1', ne2, ne2', ne3, ne3', cancel1, buildA_nil, buildA_cons, List.toList_toArray, EV, step, List.map_cons, List.map_nil, Option.map_some, Option.map_none, if_true, if_false, reduceIte, List.getElem?_cons_zero, List.getElem?_cons_succ, Option.getD_some, List.nil_append, List.append_nil, List.cons_append, List.getElem?_nil, Option.getD_none, true_implies, false_implies, not_true_eq_false, not_false_eq_true, and_true, true_and, decide_true, decide_false, Int.natCast_nonneg, Int.toNat_natCast, Nat.mul_one, List.size_toArray, List.getElem?_toArray, List.length_cons, List.length_nil, Nat.zero_add, Nat.add_zero, List.drop_zero, List.take_succ_cons, List.take_zero, List.drop_succ_cons, List.all_cons, List.all_nil, Bool.and_true, Bool.and_self, and_self]
  have hr := low_range (IntKind.wrap .i64 (n - 2)) (k := places - 1) (by omega) (by omega)
  unfold low at hr
  generalize hN0 : IntKind.wrap .i64 ((IntKind.wrap .u64 (IntKind.wrap .i64 (n - 2))).tmod (places - 1)) = N0 at hr ⊢
  have hN : IntKind.wrap .i64 (2 + N0) = 2 + N0 := wrap_i64 (by omega) (by omega)
  rw [hN]
  refine W_loop (fun k s m' => ∃ (i : Nat) (l' : List ArcI) (v : Value) (x9 x10 x11 x32 x66 : Slot), i ≤ l.length ∧ (i : Int) ≤ arcs ∧ l'.length = i ∧ k = l.length - i ∧ Mext m m' ∧ m.next + 3 ≤ m'.next ∧ Acc mb m' v (arcCells l') 55 3 ∧ (∀ a ∈ l', a.ok (2 + N0)) ∧
    m'.get m.next = some (.cells [.int .i64 n, .slice ao l.length c] 24 2) ∧ m'.get (m.next + 1) = some (.cells [.int .i64 0, .slice none 0 0] 24 2) ∧ m'.get (m.next + 1 + 1) = some (.cells [.int .i64 (2 + N0), v] 24 2) ∧
    s = sem [(0, .val (.agg #[.int .i64 n, .slice ao l.length c])), (1, .val (.int .i64 places)), (2, .val (.int .i64 arcs)), (3, .val (.pointer (some ⟨m.next, 0, none⟩))), (6, .val (.pointer (some ⟨m.next + 1, 0, none⟩))), (7, .val (.pointer (some ⟨m.next + 1 + 1, 0, none⟩))), (8, .val (.int .i64 i)), (9, x9), (10, x10), (11, x11), (32, x32), (66, x66)])
    l.length ⟨0, [], .slice none 0 0, _, _, _, _, _, Nat.zero_le _, by omega, rfl, rfl, (((((Mext.refl m).new _).new _).new _).set (by omega) _), by simp only [next_set, Mem.next_new]; omega, .inl ⟨rfl, rfl⟩, by simp, by simp (decide := true) only [get_new_at, get_set_at, next_set, cell_new_at, cells_new_at, cell_set_at, cells_set_at, cellG_cells, cellsG_cells, splice_nil, splice_cons, List.set_cons_zero, List.set_cons_succ, zc32, ne1, ne1', ne2, ne2', ne3, ne3', cancel1, buildA_nil, buildA_cons, List.toList_toArray, EV, step, List.map_cons, List.map_nil, Option.map_some, Option.map_none, if_true, if_false, reduceIte, List.getElem?_cons_zero, List.getElem?_cons_succ, Option.getD_some, List.nil_append, List.append_nil, List.cons_append, List.getElem?_nil, Option.getD_none, true_implies, false_implies, not_true_eq_false, not_false_eq_true, and_true, true_and, decide_true, decide_false, Int.natCast_nonneg, Int.toNat_natCast, Nat.mul_one, List.size_toArray, List.getElem?_toArray, List.length_cons, List.length_nil, Nat.zero_add, Nat.add_zero, List.drop_zero, List.take_succ_cons, List.take_zero, List.drop_succ_cons, List.all_cons, List.all_nil, Bool.and_true, Bool.and_self, and_self], by simp (decide := true) only [get_new_at, get_set_at, next_set, cell_new_at, cells_new_at, cell_set_at, cells_set_at, cellG_cells, cellsG_cells, splice_nil, splice_cons, List.set_cons_zero, List.set_cons_succ, zc32, ne1, ne1', ne2, ne2', ne3, ne3', cancel1, buildA_nil, buildA_cons, List.toList_toArray, EV, step, List.map_cons, List.map_nil, Option.map_some, Option.map_none, if_true, if_false, reduceIte, List.getElem?_cons_zero, List.getElem?_cons_succ, Option.getD_some, List.nil_append, List.append_nil, List.cons_append, List.getElem?_nil, Option.getD_none, true_implies, false_implies, not_true_eq_false, not_false_eq_true, and_true, true_and, decide_true, decide_false, Int.natCast_nonneg, Int.toNat_natCast, Nat.mul_one, List.size_toArray, List.getElem?_toArray, List.length_cons, List.length_nil, Nat.zero_add, Nat.add_zero, List.drop_zero, List.take_succ_cons, List.take_zero, List.drop_succ_cons, List.all_cons, List.all_nil, Bool.and_true, Bool.and_self, and_self], by simp (decide := true) only [get_new_at, get_set_at, next_set, cell_new_at, cells_new_at, cell_set_at, cells_set_at, cellG_cells, cellsG_cells, splice_nil, splice_cons, List.set_cons_zero, List.set_cons_succ, zc32, ne1, ne1', ne2, ne2', ne3, ne3', cancel1, buildA_nil, buildA_cons, List.toList_toArray, EV, step, List.map_cons, List.map_nil, Option.map_some, Option.map_none, if_true, if_false, reduceIte, List.getElem?_cons_zero, List.getElem?_cons_succ, Option.getD_some, List.nil_append, List.append_nil, List.cons_append, List.getElem?_nil, Option.getD_none, true_implies, false_implies, not_true_eq_false, not_false_eq_true, and_true, true_and, decide_true, decide_false, Int.natCast_nonneg, Int.toNat_natCast, Nat.mul_one, List.size_toArray, List.getElem?_toArray, List.length_cons, List.length_nil, Nat.zero_add, Nat.add_zero, List.drop_zero, List.take_succ_cons, List.take_zero, List.drop_succ_cons, List.all_cons, List.all_nil, Bool.and_true, Bool.and_self, and_self], rfl⟩ hΓ ?_
  rintro k s m' ⟨i, l', v, x9, x10, x11, x32, x66, hi, hia, hl', rfl, hm, hnx, hacc, hok, g1, g2, g3, rfl⟩ Q' hn he hret
  have hc1 : m'.cell m.next 1 = some (.slice ao l.length c) := by rw [cell_of g1]; rfl
  have hcN : m'.cells (m.next + 1 + 1) 0 2 = some [.int .i64 (2 + N0), v] := by rw [cells_of g3]; rfl
  obtain ⟨hv1, hv2, hv3⟩ := hacc.ok
  have fin : ∀ s : Fr, (s 6).v = .pointer (some ⟨m.next + 1, 0, none⟩) → Q .ret s (m'.set (m.next + 1) (.cells [.int .i64 (2 + N0), v] 24 2)) := by
    intro s hs6
    refine hQ _ _ _ ⟨.inr rfl, [.agg #[.int .i64 (2 + N0), v]], ?_, 2 + N0, l', v, rfl, by omega, by omega, by omega, hok, (hacc.set (by show m.next + 1 < m.next + 3; omega) _).base (by show m.next ≤ m.next + 3; omega), hm.set (by omega) _⟩
    simp [X8, R8, resL, hs6, cells_set_at, cellsG, rowG]
  by_cases hlt : i < l.length
  · by_cases hlt2 : (i : Int) < arcs
    · have hlt' : (i : Int) < l.length := by omega
      have hw : IntKind.wrap .i64 ((i : Int) + 1) = ((i + 1 : Nat) : Int) := by rw [wrap_i64 (by omega) (by omega)]; omega
      have hx : l[i]? = some l[i] := List.getElem?_eq_getElem hlt
      generalize hxe : l[i] = y at hx
      have hN2 : IntKind.wrap .u64 (2 + N0) = 2 + N0 := wrap_u64 (by omega) (by omega)
      have hNz : (2 + N0 = 0) = False := eq_false (by omega)
      have hBz : ((1000000001 : Int) = 0) = False := eq_false (by omega)
      have d0 : (m.next = m'.next) = False := eq_false (by omega)
      have d1 : (m.next + 1 = m'.next) = False := eq_false (by omega)
      have d2 : (m.next + 1 + 1 = m'.next) = False := eq_false (by omega)
      have hc7 : m'.cell (m.next + 1 + 1) 0 = some (.int .i64 (2 + N0)) := by rw [cell_of g3]; rfl
      cases ao with
      | none => have := h.nil _ _ rfl; subst this; simp at hlt
      | some a =>
        have hcs := (h.mext hm).get a _ _ rfl i y hx
        simp only [ArcI.cells] at hcs
        simp (decide := true) only [hlt', hlt2, hc1, hc7, hcs, hN2, hNz, hBz, d0, d2, zc55, qv, qvK, get_new_at, get_set_at, next_set, cell_new_at, cells_new_at, cell_set_at, cells_set_at, cellG_cells, cellsG_cells, splice_nil, splice_cons, List.set_cons_zero, List.set_cons_succ, zc32, ne1, ne1', ne2, ne2', ne3, ne3', cancel1, buildA_nil, buildA_cons, List.toList_toArray, EV, step, List.map_cons, List.map_nil, Option.map_some, Option.map_none, if_true, if_false, reduceIte, List.getElem?_cons_zero, List.getElem?_cons_succ, Option.getD_some, List.nil_append, List.append_nil, List.cons_append, List.getElem?_nil, Option.getD_none, true_implies, false_implies, not_true_eq_false, not_false_eq_true, and_true, true_and, decide_true, decide_false, Int.natCast_nonneg, Int.toNat_natCast, Nat.mul_one, List.size_toArray, List.getElem?_toArray, List.length_cons, List.length_nil, Nat.zero_add, Nat.add_zero, List.drop_zero, List.take_succ_cons, List.take_zero, List.drop_succ_cons, List.all_cons, List.all_nil, Bool.and_true, Bool.and_self, and_self]
        refine Wt_m hΓ rfl ?_
        simp (decide := true) only [opN, optK_some, EV, step, List.map_cons, List.map_nil, Option.map_some, Option.map_none, if_true, if_false, reduceIte, List.getElem?_cons_zero, List.getElem?_cons_succ, Option.getD_some, List.nil_append, List.append_nil, List.cons_append, List.getElem?_nil, Option.getD_none, true_implies, false_implies, not_true_eq_false, not_false_eq_true, and_true, true_and, decide_true, decide_false, Int.natCast_nonneg, Int.toNat_natCast, Nat.mul_one, List.size_toArray, List.getElem?_toArray, List.length_cons, List.length_nil, Nat.zero_add, Nat.add_zero, List.drop_zero, List.take_succ_cons, List.take_zero, List.drop_succ_cons, List.all_cons, List.all_nil, Bool.and_true, Bool.and_self, and_self]
        refine ⟨by intro q hq hcq; simp only [List.mem_cons, List.not_mem_nil, or_false] at hq; rcases hq with rfl | rfl | rfl | rfl | rfl <;> simp (decide := true) only [d0, d1, d2, hc7, zc55, get_new_at, get_set_at, next_set, cell_new_at, cells_new_at, cell_set_at, cells_set_at, cellG_cells, cellsG_cells, splice_nil, splice_cons, List.set_cons_zero, List.set_cons_succ, zc32, ne1, ne1', ne2, ne2', ne3, ne3', cancel1, buildA_nil, buildA_cons, List.toList_toArray, EV, step, List.map_cons, List.map_nil, Option.map_some, Option.map_none, if_true, if_false, reduceIte, List.getElem?_cons_zero, List.getElem?_cons_succ, Option.getD_some, List.nil_append, List.append_nil, List.cons_append, List.getElem?_nil, Option.getD_none, true_implies, false_implies, not_true_eq_false, not_false_eq_true, and_true, true_and, decide_true, decide_false, Int.natCast_nonneg, Int.toNat_natCast, Nat.mul_one, List.size_toArray, List.getElem?_toArray, List.length_cons, List.length_nil, Nat.zero_add, Nat.add_zero, List.drop_zero, List.take_succ_cons, List.take_zero, List.drop_succ_cons, List.all_cons, List.all_nil, Bool.and_true, Bool.and_self, and_self], ?_⟩
        refine Wt_m hΓ rfl ?_
        have hF := low_range y.f (k := 2 + N0) (by omega) (by omega)
        have hT := low_range y.t (k := 2 + N0) (by omega) (by omega)
        have hC := low_range y.c (k := 1000000001) (by omega) (by omega)
        unfold low at hF hT hC
        generalize IntKind.wrap .i64 ((IntKind.wrap .u64 y.f).tmod (2 + N0)) = F at hF ⊢
        generalize IntKind.wrap .i64 ((IntKind.wrap .u64 y.t).tmod (2 + N0)) = T at hT ⊢
        generalize IntKind.wrap .i64 ((IntKind.wrap .u64 y.c).tmod 1000000001) = C at hC ⊢
        have hFw : IntKind.wrap .i64 (F + 1) = F + 1 := wrap_i64 (by omega) (by omega)
        have hc71 : m'.cell (m.next + 1 + 1) 1 = some v := by rw [cell_of g3]; rfl
        have hmo := tmod_range (a := F + 1) (k := 2 + N0) (by omega) (by omega)
        have hne : (F + 1).tmod (2 + N0) ≠ F := by
          rw [Int.tmod_eq_emod_of_nonneg (by omega)]
          by_cases hq : F + 1 = 2 + N0
          · rw [hq, Int.emod_self]; omega
          · rw [Int.emod_eq_of_lt (by omega) (by omega)]; omega
        have fl0 : ∀ (fl : FL) (m1 m2 : Mem), FlOk [] fl m1 m2 := fun fl m1 m2 p hp hc => by simp at hc
        -- the arc is appended
        have app : ∀ (T' : Int) (M : Mem), 0 ≤ T' → T' < 2 + N0 → T' ≠ F → Mext m' M → ∃ v' m2, appL 55 3 24 v 1 [.int .i64 F, .int .i64 T', .int .i64 C] M = some (v', m2) ∧ okVal v' = true ∧ v'.cells = #[v'] ∧ okCell v' = true ∧
            m2.get (m.next + 1 + 1) = some (.cells [.int .i64 (2 + N0), v] 24 2) ∧
            ∀ x9 x10 x11 x32 x66, Q' .normal (sem [(0, .val (.agg #[.int .i64 n, .slice (some a) l.length c])), (1, .val (.int .i64 places)), (2, .val (.int .i64 arcs)), (3, .val (.pointer (some ⟨m.next, 0, none⟩))), (6, .val (.pointer (some ⟨m.next + 1, 0, none⟩))), (7, .val (.pointer (some ⟨m.next + 1 + 1, 0, none⟩))), (8, .val (.int .i64 ((i + 1 : Nat) : Int))), (9, x9), (10, x10), (11, x11), (32, x32), (66, x66)])
              (m2.set (m.next + 1 + 1) (.cells [.int .i64 (2 + N0), v'] 24 2)) := by
          intro T' M hT0 hT1 hTF hM
          obtain ⟨v', m2, q1, q2, q3, q4⟩ := app1_acc (bytes := 24) (x := [.int .i64 F, .int .i64 T', .int .i64 C]) (hacc.mext hM) (Nat.le_trans hnx hM.next) (by intro x hx; obtain ⟨z, _, rfl⟩ := List.mem_map.1 hx; rfl) rfl rfl (by unfold arcCells; rw [List.length_map]; omega) (by omega)
          have hk : ∀ j, j < m.next + 3 → m2.get j = m'.get j := fun j hj => (q4 j (by have := hM.next; omega) (hacc.off hj)).trans (hM.get j (by omega))
          obtain ⟨r1, r2, r3⟩ := q2.ok
          have hm2 : Mext m m2 := ⟨by have := hm.next; have := hM.next; omega, fun j hj => (hk j (by omega)).trans (hm.get j hj)⟩
          refine ⟨v', m2, q1, r1, r2, r3, (hk _ (by omega)).trans g3, fun x9 x10 x11 x32 x66 => ?_⟩
          refine hn _ _ _ (by omega) ⟨i + 1, l' ++ [⟨F, T', C⟩], v', _, _, _, _, _, hlt, by omega, by simp [hl'], rfl, hm2.set (by omega) _, by rw [next_set]; have := hM.next; omega, ?_, ?_, ?_, ?_, ?_, rfl⟩
          · unfold arcCells at q2 ⊢; rw [List.map_append]; exact q2.set (by show m.next + 1 + 1 < m.next + 3; omega) _
          · intro b hb
            rcases List.mem_append.1 hb with hb | hb
            · exact hok b hb
            · have : b = ⟨F, T', C⟩ := by simpa using hb
              subst this
              exact ⟨by show 0 ≤ min F T'; omega, by show max F T' < 2 + N0; omega, fun e => hTF e.symm, hC.1, by show C ≤ 1000000000; omega⟩
          · rw [Mem.get_set_ne _ _ _ (by omega)]; exact (hk _ (by omega)).trans g1
          · rw [Mem.get_set_ne _ _ _ (by omega)]; exact (hk _ (by omega)).trans g2
          · rw [Mem.get_set]
        by_cases hFT : F = T
        · have hFT' : (F = T) = True := eq_true hFT
          simp (decide := true) only [opN, optK_some, zc55, zeros55, d0, d1, d2, hc7, hc71, hFT', hFw, hNz, get_new_at, get_set_at, next_set, cell_new_at, cells_new_at, cell_set_at, cells_set_at, cellG_cells, cellsG_cells, splice_nil, splice_cons, List.set_cons_zero, List.set_cons_succ, zc32, ne1, ne1', ne2, ne2', ne3, ne3', cancel1, buildA_nil, buildA_cons, List.toList_toArray, EV, step, List.map_cons, List.map_nil, Option.map_some, Option.map_none, if_true, if_false, reduceIte, List.getElem?_cons_zero, List.getElem?_cons_succ, Option.getD_some, List.nil_append, List.append_nil, List.cons_append, List.getElem?_nil, Option.getD_none, true_implies, false_implies, not_true_eq_false, not_false_eq_true, and_true, true_and, decide_true, decide_false, Int.natCast_nonneg, Int.toNat_natCast, Nat.mul_one, List.size_toArray, List.getElem?_toArray, List.length_cons, List.length_nil, Nat.zero_add, Nat.add_zero, List.drop_zero, List.take_succ_cons, List.take_zero, List.drop_succ_cons, List.all_cons, List.all_nil, Bool.and_true, Bool.and_self, and_self]
          refine ⟨fl0 _ _ _, ?_⟩
          obtain ⟨v', m2, q1, r1, r2, r3, r4, q5⟩ := app ((F + 1).tmod (2 + N0)) _ hmo.1 hmo.2 hne
            ((((((Mext.refl m').new (.cells [.int .i64 0, .int .i64 0, .int .i64 0] 55 3)).set (Nat.le_refl _) (.cells [.int .i64 y.f, .int .i64 y.t, .int .i64 y.c] 55 3)).new (.cells [.int .i64 0, .int .i64 0, .int .i64 0] 55 3)).set (i := m'.next + 1) (by omega) (.cells [.int .i64 F, .int .i64 T, .int .i64 C] 55 3)).set (i := m'.next + 1) (by omega) (.cells [.int .i64 F, .int .i64 ((F + 1).tmod (2 + N0)), .int .i64 C] 55 3))
          simp (decide := true) only [q1, r1, r2, r3, r4, hw, splice_nil, splice_cons, List.set_cons_zero, List.set_cons_succ, List.toList_toArray, EV, step, List.map_cons, List.map_nil, Option.map_some, Option.map_none, if_true, if_false, reduceIte, List.getElem?_cons_zero, List.getElem?_cons_succ, Option.getD_some, List.nil_append, List.append_nil, List.cons_append, List.getElem?_nil, Option.getD_none, true_implies, false_implies, not_true_eq_false, not_false_eq_true, and_true, true_and, decide_true, decide_false, Int.natCast_nonneg, Int.toNat_natCast, Nat.mul_one, List.size_toArray, List.getElem?_toArray, List.length_cons, List.length_nil, Nat.zero_add, Nat.add_zero, List.drop_zero, List.take_succ_cons, List.take_zero, List.drop_succ_cons, List.all_cons, List.all_nil, Bool.and_true, Bool.and_self, and_self]
          exact q5 _ _ _ _ _
        · simp (decide := true) only [opN, optK_some, zc55, zeros55, d0, d1, d2, hc7, hc71, hFT, get_new_at, get_set_at, next_set, cell_new_at, cells_new_at, cell_set_at, cells_set_at, cellG_cells, cellsG_cells, splice_nil, splice_cons, List.set_cons_zero, List.set_cons_succ, zc32, ne1, ne1', ne2, ne2', ne3, ne3', cancel1, buildA_nil, buildA_cons, List.toList_toArray, EV, step, List.map_cons, List.map_nil, Option.map_some, Option.map_none, if_true, if_false, reduceIte, List.getElem?_cons_zero, List.getElem?_cons_succ, Option.getD_some, List.nil_append, List.append_nil, List.cons_append, List.getElem?_nil, Option.getD_none, true_implies, false_implies, not_true_eq_false, not_false_eq_true, and_true, true_and, decide_true, decide_false, Int.natCast_nonneg, Int.toNat_natCast, Nat.mul_one, List.size_toArray, List.getElem?_toArray, List.length_cons, List.length_nil, Nat.zero_add, Nat.add_zero, List.drop_zero, List.take_succ_cons, List.take_zero, List.drop_succ_cons, List.all_cons, List.all_nil, Bool.and_true, Bool.and_self, and_self]
          refine ⟨fl0 _ _ _, ?_⟩
          obtain ⟨v', m2, q1, r1, r2, r3, r4, q5⟩ := app T _ hT.1 hT.2 (fun e => hFT e.symm)
            (((((Mext.refl m').new (.cells [.int .i64 0, .int .i64 0, .int .i64 0] 55 3)).set (Nat.le_refl _) (.cells [.int .i64 y.f, .int .i64 y.t, .int .i64 y.c] 55 3)).new (.cells [.int .i64 0, .int .i64 0, .int .i64 0] 55 3)).set (i := m'.next + 1) (by omega) (.cells [.int .i64 F, .int .i64 T, .int .i64 C] 55 3))
          simp (decide := true) only [q1, r1, r2, r3, r4, hw, splice_nil, splice_cons, List.set_cons_zero, List.set_cons_succ, List.toList_toArray, EV, step, List.map_cons, List.map_nil, Option.map_some, Option.map_none, if_true, if_false, reduceIte, List.getElem?_cons_zero, List.getElem?_cons_succ, Option.getD_some, List.nil_append, List.append_nil, List.cons_append, List.getElem?_nil, Option.getD_none, true_implies, false_implies, not_true_eq_false, not_false_eq_true, and_true, true_and, decide_true, decide_false, Int.natCast_nonneg, Int.toNat_natCast, Nat.mul_one, List.size_toArray, List.getElem?_toArray, List.length_cons, List.length_nil, Nat.zero_add, Nat.add_zero, List.drop_zero, List.take_succ_cons, List.take_zero, List.drop_succ_cons, List.all_cons, List.all_nil, Bool.and_true, Bool.and_self, and_self]
          exact q5 _ _ _ _ _
    · have hlt' : (i : Int) < l.length := by omega
      simp (decide := true) only [hlt', hlt2, hc1, EV, step, List.map_cons, List.map_nil, Option.map_some, Option.map_none, if_true, if_false, reduceIte, List.getElem?_cons_zero, List.getElem?_cons_succ, Option.getD_some, List.nil_append, List.append_nil, List.cons_append, List.getElem?_nil, Option.getD_none, true_implies, false_implies, not_true_eq_false, not_false_eq_true, and_true, true_and, decide_true, decide_false, Int.natCast_nonneg, Int.toNat_natCast, Nat.mul_one, List.size_toArray, List.getElem?_toArray, List.length_cons, List.length_nil, Nat.zero_add, Nat.add_zero, List.drop_zero, List.take_succ_cons, List.take_zero, List.drop_succ_cons, List.all_cons, List.all_nil, Bool.and_true, Bool.and_self, and_self]
      refine he _ _ _ ?_
      simp (decide := true) only [hcN, g2, hv1, hv2, hv3, splice_nil, splice_cons, List.set_cons_zero, List.set_cons_succ, List.toList_toArray, EV, step, List.map_cons, List.map_nil, Option.map_some, Option.map_none, if_true, if_false, reduceIte, List.getElem?_cons_zero, List.getElem?_cons_succ, Option.getD_some, List.nil_append, List.append_nil, List.cons_append, List.getElem?_nil, Option.getD_none, true_implies, false_implies, not_true_eq_false, not_false_eq_true, and_true, true_and, decide_true, decide_false, Int.natCast_nonneg, Int.toNat_natCast, Nat.mul_one, List.size_toArray, List.getElem?_toArray, List.length_cons, List.length_nil, Nat.zero_add, Nat.add_zero, List.drop_zero, List.take_succ_cons, List.take_zero, List.drop_succ_cons, List.all_cons, List.all_nil, Bool.and_true, Bool.and_self, and_self]
      exact fin _ (by simp (decide := true) only [EV, step, List.map_cons, List.map_nil, Option.map_some, Option.map_none, if_true, if_false, reduceIte, List.getElem?_cons_zero, List.getElem?_cons_succ, Option.getD_some, List.nil_append, List.append_nil, List.cons_append, List.getElem?_nil, Option.getD_none, true_implies, false_implies, not_true_eq_false, not_false_eq_true, and_true, true_and, decide_true, decide_false, Int.natCast_nonneg, Int.toNat_natCast, Nat.mul_one, List.size_toArray, List.getElem?_toArray, List.length_cons, List.length_nil, Nat.zero_add, Nat.add_zero, List.drop_zero, List.take_succ_cons, List.take_zero, List.drop_succ_cons, List.all_cons, List.all_nil, Bool.and_true, Bool.and_self, and_self])
  · have hlt' : ¬ (i : Int) < l.length := by omega
    simp (decide := true) only [hlt', hc1, EV, step, List.map_cons, List.map_nil, Option.map_some, Option.map_none, if_true, if_false, reduceIte, List.getElem?_cons_zero, List.getElem?_cons_succ, Option.getD_some, List.nil_append, List.append_nil, List.cons_append, List.getElem?_nil, Option.getD_none, true_implies, false_implies, not_true_eq_false, not_false_eq_true, and_true, true_and, decide_true, decide_false, Int.natCast_nonneg, Int.toNat_natCast, Nat.mul_one, List.size_toArray, List.getElem?_toArray, List.length_cons, List.length_nil, Nat.zero_add, Nat.add_zero, List.drop_zero, List.take_succ_cons, List.take_zero, List.drop_succ_cons, List.all_cons, List.all_nil, Bool.and_true, Bool.and_self, and_self]
    refine he _ _ _ ?_
    simp (decide := true) only [hcN, g2, hv1, hv2, hv3, splice_nil, splice_cons, List.set_cons_zero, List.set_cons_succ, List.toList_toArray, EV, step, List.map_cons, List.map_nil, Option.map_some, Option.map_none, if_true, if_false, reduceIte, List.getElem?_cons_zero, List.getElem?_cons_succ, Option.getD_some, List.nil_append, List.append_nil, List.cons_append, List.getElem?_nil, Option.getD_none, true_implies, false_implies, not_true_eq_false, not_false_eq_true, and_true, true_and, decide_true, decide_false, Int.natCast_nonneg, Int.toNat_natCast, Nat.mul_one, List.size_toArray, List.getElem?_toArray, List.length_cons, List.length_nil, Nat.zero_add, Nat.add_zero, List.drop_zero, List.take_succ_cons, List.take_zero, List.drop_succ_cons, List.all_cons, List.all_nil, Bool.and_true, Bool.and_self, and_self]
    exact fin _ (by simp (decide := true) only [EV, step, List.map_cons, List.map_nil, Option.map_some, Option.map_none, if_true, if_false, reduceIte, List.getElem?_cons_zero, List.getElem?_cons_succ, Option.getD_some, List.nil_append, List.append_nil, List.cons_append, List.getElem?_nil, Option.getD_none, true_implies, false_implies, not_true_eq_false, not_false_eq_true, and_true, true_and, decide_true, decide_false, Int.natCast_nonneg, Int.toNat_natCast, Nat.mul_one, List.size_toArray, List.getElem?_toArray, List.length_cons, List.length_nil, Nat.zero_add, Nat.add_zero, List.drop_zero, List.take_succ_cons, List.take_zero, List.drop_succ_cons, List.all_cons, List.all_nil, Bool.and_true, Bool.and_self, and_self])
end Go.Proofs.Ytnhodgonmceojaa.Sh
