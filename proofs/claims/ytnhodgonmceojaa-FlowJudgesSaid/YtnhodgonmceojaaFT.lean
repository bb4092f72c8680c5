/- Contracts: areEnds, size, ends, Ends, same, bits. What is left of capacities: the row of a work, its arcs by number. Contracts of flow: newWork. -/
import Derived.Test.YtnhodgonmceojaaFH
import Derived.Test.YtnhodgonmceojaaFB
import Derived.Test.YtnhodgonmceojaaFS
set_option linter.unusedVariables false
set_option linter.unusedSimpArgs false
namespace Go.Proofs.Ytnhodgonmceojaa.Sh
open Go.RowKit

/-! ### Contracts: areEnds, size, ends, Ends, same, bits. -/
def EndsOk (n s t : Int) : Prop := 0 ≤ min s t ∧ max s t < n ∧ s ≠ t
instance (n s t : Int) : Decidable (EndsOk n s t) := by unfold EndsOk; infer_instance
theorem areEnds_spec {Γ : YEnv} (hΓ : YMono Γ) (n s t : Int) (m : Mem) : ACalls Try.prog Γ 33 [.int .i64 n, .int .i64 s, .int .i64 t] m fun r m' => r = .bool (decide (EndsOk n s t)) ∧ m' = m := by
  refine acallsW hΓ fok33 (by simp [X33]) fun Q hQ => ?_
  have res : ∀ (b : Bool), decide (EndsOk n s t) = b → ∀ e s, (e = .normal ∨ e = .ret) → (s 6).v = .bool b → Q e s m := by
    intro b hb e s h1 h2
    exact hQ _ _ _ ⟨h1, [.bool b], by simp [X33, R33, resL, h2], by rw [hb]; rfl, rfl⟩
  by_cases h1 : 0 ≤ min s t
  · by_cases h2 : max s t < n
    · by_cases h3 : s = t
      · have h3' : (s = t) = True := eq_true h3
        simp (decide := true) only [S33_0, S33_1, S33_2, S33_3, S33, X33, G33, h1, h2, h3', ne_eq, EV2, MVn, qv, qvK, List.set_cons_zero, List.set_cons_succ, List.toList_toArray, Int.reduceToNat, Nat.reduceAdd, Nat.reduceMul, Nat.one_mul, Bool.not_true, Bool.not_false, EV, step, List.map_cons, List.map_nil, Option.map_some, Option.map_none, if_true, if_false, reduceIte, List.getElem?_cons_zero, List.getElem?_cons_succ, Option.getD_some, List.nil_append, List.append_nil, List.cons_append, List.getElem?_nil, Option.getD_none, true_implies, false_implies, not_true_eq_false, not_false_eq_true, and_true, true_and, decide_true, decide_false, Int.natCast_nonneg, Int.toNat_natCast, Nat.mul_one, List.size_toArray, List.getElem?_toArray, List.length_cons, List.length_nil, Nat.zero_add, Nat.add_zero, List.drop_zero, List.take_succ_cons, List.take_zero, List.drop_succ_cons, List.all_cons, List.all_nil, Bool.and_true, Bool.and_self, and_self]
        exact res false (by simp [EndsOk, h3]) _ _ (.inr rfl) rfl
      · simp (decide := true) only [S33_0, S33_1, S33_2, S33_3, S33, X33, G33, h1, h2, h3, ne_eq, EV2, MVn, qv, qvK, List.set_cons_zero, List.set_cons_succ, List.toList_toArray, Int.reduceToNat, Nat.reduceAdd, Nat.reduceMul, Nat.one_mul, Bool.not_true, Bool.not_false, EV, step, List.map_cons, List.map_nil, Option.map_some, Option.map_none, if_true, if_false, reduceIte, List.getElem?_cons_zero, List.getElem?_cons_succ, Option.getD_some, List.nil_append, List.append_nil, List.cons_append, List.getElem?_nil, Option.getD_none, true_implies, false_implies, not_true_eq_false, not_false_eq_true, and_true, true_and, decide_true, decide_false, Int.natCast_nonneg, Int.toNat_natCast, Nat.mul_one, List.size_toArray, List.getElem?_toArray, List.length_cons, List.length_nil, Nat.zero_add, Nat.add_zero, List.drop_zero, List.take_succ_cons, List.take_zero, List.drop_succ_cons, List.all_cons, List.all_nil, Bool.and_true, Bool.and_self, and_self]
        exact res true (by simp [EndsOk, h1, h2, h3]) _ _ (.inr rfl) rfl
    · simp (decide := true) only [S33_0, S33_1, S33_2, S33_3, S33, X33, G33, h1, h2, EV2, MVn, qv, qvK, List.set_cons_zero, List.set_cons_succ, List.toList_toArray, Int.reduceToNat, Nat.reduceAdd, Nat.reduceMul, Nat.one_mul, Bool.not_true, Bool.not_false, EV, step, List.map_cons, List.map_nil, Option.map_some, Option.map_none, if_true, if_false, reduceIte, List.getElem?_cons_zero, List.getElem?_cons_succ, Option.getD_some, List.nil_append, List.append_nil, List.cons_append, List.getElem?_nil, Option.getD_none, true_implies, false_implies, not_true_eq_false, not_false_eq_true, and_true, true_and, decide_true, decide_false, Int.natCast_nonneg, Int.toNat_natCast, Nat.mul_one, List.size_toArray, List.getElem?_toArray, List.length_cons, List.length_nil, Nat.zero_add, Nat.add_zero, List.drop_zero, List.take_succ_cons, List.take_zero, List.drop_succ_cons, List.all_cons, List.all_nil, Bool.and_true, Bool.and_self, and_self]
      exact res false (by simp [EndsOk, h2]) _ _ (.inr rfl) rfl
  · simp (decide := true) only [S33_0, S33_1, S33_2, S33_3, S33, X33, G33, h1, EV2, MVn, qv, qvK, List.set_cons_zero, List.set_cons_succ, List.toList_toArray, Int.reduceToNat, Nat.reduceAdd, Nat.reduceMul, Nat.one_mul, Bool.not_true, Bool.not_false, EV, step, List.map_cons, List.map_nil, Option.map_some, Option.map_none, if_true, if_false, reduceIte, List.getElem?_cons_zero, List.getElem?_cons_succ, Option.getD_some, List.nil_append, List.append_nil, List.cons_append, List.getElem?_nil, Option.getD_none, true_implies, false_implies, not_true_eq_false, not_false_eq_true, and_true, true_and, decide_true, decide_false, Int.natCast_nonneg, Int.toNat_natCast, Nat.mul_one, List.size_toArray, List.getElem?_toArray, List.length_cons, List.length_nil, Nat.zero_add, Nat.add_zero, List.drop_zero, List.take_succ_cons, List.take_zero, List.drop_succ_cons, List.all_cons, List.all_nil, Bool.and_true, Bool.and_self, and_self]
    exact res false (by simp [EndsOk, h1]) _ _ (.inr rfl) rfl

theorem rEnds_spec {Γ : YEnv} (hΓ : YMono Γ) (n s t : Int) (m : Mem) : ACalls Try.prog Γ 39 [.int .i64 n, .int .i64 s, .int .i64 t] m fun r m' => r = .int .i64 (if EndsOk n s t then 0 else 1) ∧ m' = m := by
  refine acallsW hΓ fok39 (by simp [X39]) fun Q hQ => ?_
  have res : ∀ (b : Int), (if EndsOk n s t then 0 else 1) = b → ∀ e s, (e = .normal ∨ e = .ret) → (s 6).v = .int .i64 b → Q e s m := by
    intro b hb e s h1 h2
    exact hQ _ _ _ ⟨h1, [.int .i64 b], by simp [X39, R39, resL, h2], by rw [hb]; rfl, rfl⟩
  have no : ∀ {p : Prop}, p → ¬ EndsOk n s t → (if EndsOk n s t then (0 : Int) else 1) = 1 := fun _ h => if_neg h
  by_cases h1 : s < 0
  · simp (decide := true) only [S39_0, S39_1, S39_2, S39_3, S39_4, S39_5, S39_6, S39_7, S39_8, S39_9, S39, X39, G39, h1, EV2, MVn, qv, qvK, List.set_cons_zero, List.set_cons_succ, List.toList_toArray, Int.reduceToNat, Nat.reduceAdd, Nat.reduceMul, Nat.one_mul, Bool.not_true, Bool.not_false, EV, step, List.map_cons, List.map_nil, Option.map_some, Option.map_none, if_true, if_false, reduceIte, List.getElem?_cons_zero, List.getElem?_cons_succ, Option.getD_some, List.nil_append, List.append_nil, List.cons_append, List.getElem?_nil, Option.getD_none, true_implies, false_implies, not_true_eq_false, not_false_eq_true, and_true, true_and, decide_true, decide_false, Int.natCast_nonneg, Int.toNat_natCast, Nat.mul_one, List.size_toArray, List.getElem?_toArray, List.length_cons, List.length_nil, Nat.zero_add, Nat.add_zero, List.drop_zero, List.take_succ_cons, List.take_zero, List.drop_succ_cons, List.all_cons, List.all_nil, Bool.and_true, Bool.and_self, and_self]
    exact res 1 (if_neg (by unfold EndsOk; omega)) _ _ (.inr rfl) rfl
  · by_cases h2 : n ≤ s
    · simp (decide := true) only [S39_0, S39_1, S39_2, S39_3, S39_4, S39_5, S39_6, S39_7, S39_8, S39_9, S39, X39, G39, h1, h2, EV2, MVn, qv, qvK, List.set_cons_zero, List.set_cons_succ, List.toList_toArray, Int.reduceToNat, Nat.reduceAdd, Nat.reduceMul, Nat.one_mul, Bool.not_true, Bool.not_false, EV, step, List.map_cons, List.map_nil, Option.map_some, Option.map_none, if_true, if_false, reduceIte, List.getElem?_cons_zero, List.getElem?_cons_succ, Option.getD_some, List.nil_append, List.append_nil, List.cons_append, List.getElem?_nil, Option.getD_none, true_implies, false_implies, not_true_eq_false, not_false_eq_true, and_true, true_and, decide_true, decide_false, Int.natCast_nonneg, Int.toNat_natCast, Nat.mul_one, List.size_toArray, List.getElem?_toArray, List.length_cons, List.length_nil, Nat.zero_add, Nat.add_zero, List.drop_zero, List.take_succ_cons, List.take_zero, List.drop_succ_cons, List.all_cons, List.all_nil, Bool.and_true, Bool.and_self, and_self]
      exact res 1 (if_neg (by unfold EndsOk; omega)) _ _ (.inr rfl) rfl
    · by_cases h3 : t < 0
      · simp (decide := true) only [S39_0, S39_1, S39_2, S39_3, S39_4, S39_5, S39_6, S39_7, S39_8, S39_9, S39, X39, G39, h1, h2, h3, EV2, MVn, qv, qvK, List.set_cons_zero, List.set_cons_succ, List.toList_toArray, Int.reduceToNat, Nat.reduceAdd, Nat.reduceMul, Nat.one_mul, Bool.not_true, Bool.not_false, EV, step, List.map_cons, List.map_nil, Option.map_some, Option.map_none, if_true, if_false, reduceIte, List.getElem?_cons_zero, List.getElem?_cons_succ, Option.getD_some, List.nil_append, List.append_nil, List.cons_append, List.getElem?_nil, Option.getD_none, true_implies, false_implies, not_true_eq_false, not_false_eq_true, and_true, true_and, decide_true, decide_false, Int.natCast_nonneg, Int.toNat_natCast, Nat.mul_one, List.size_toArray, List.getElem?_toArray, List.length_cons, List.length_nil, Nat.zero_add, Nat.add_zero, List.drop_zero, List.take_succ_cons, List.take_zero, List.drop_succ_cons, List.all_cons, List.all_nil, Bool.and_true, Bool.and_self, and_self]
        exact res 1 (if_neg (by unfold EndsOk; omega)) _ _ (.inr rfl) rfl
      · by_cases h4 : n ≤ t
        · simp (decide := true) only [S39_0, S39_1, S39_2, S39_3, S39_4, S39_5, S39_6, S39_7, S39_8, S39_9, S39, X39, G39, h1, h2, h3, h4, EV2, MVn, qv, qvK, List.set_cons_zero, List.set_cons_succ, List.toList_toArray, Int.reduceToNat, Nat.reduceAdd, Nat.reduceMul, Nat.one_mul, Bool.not_true, Bool.not_false, EV, step, List.map_cons, List.map_nil, Option.map_some, Option.map_none, if_true, if_false, reduceIte, List.getElem?_cons_zero, List.getElem?_cons_succ, Option.getD_some, List.nil_append, List.append_nil, List.cons_append, List.getElem?_nil, Option.getD_none, true_implies, false_implies, not_true_eq_false, not_false_eq_true, and_true, true_and, decide_true, decide_false, Int.natCast_nonneg, Int.toNat_natCast, Nat.mul_one, List.size_toArray, List.getElem?_toArray, List.length_cons, List.length_nil, Nat.zero_add, Nat.add_zero, List.drop_zero, List.take_succ_cons, List.take_zero, List.drop_succ_cons, List.all_cons, List.all_nil, Bool.and_true, Bool.and_self, and_self]
          exact res 1 (if_neg (by unfold EndsOk; omega)) _ _ (.inr rfl) rfl
        · by_cases h5 : s = t
          · have h5' : (s = t) = True := eq_true h5
            simp (decide := true) only [S39_0, S39_1, S39_2, S39_3, S39_4, S39_5, S39_6, S39_7, S39_8, S39_9, S39, X39, G39, h1, h2, h3, h4, h5', EV2, MVn, qv, qvK, List.set_cons_zero, List.set_cons_succ, List.toList_toArray, Int.reduceToNat, Nat.reduceAdd, Nat.reduceMul, Nat.one_mul, Bool.not_true, Bool.not_false, EV, step, List.map_cons, List.map_nil, Option.map_some, Option.map_none, if_true, if_false, reduceIte, List.getElem?_cons_zero, List.getElem?_cons_succ, Option.getD_some, List.nil_append, List.append_nil, List.cons_append, List.getElem?_nil, Option.getD_none, true_implies, false_implies, not_true_eq_false, not_false_eq_true, and_true, true_and, decide_true, decide_false, Int.natCast_nonneg, Int.toNat_natCast, Nat.mul_one, List.size_toArray, List.getElem?_toArray, List.length_cons, List.length_nil, Nat.zero_add, Nat.add_zero, List.drop_zero, List.take_succ_cons, List.take_zero, List.drop_succ_cons, List.all_cons, List.all_nil, Bool.and_true, Bool.and_self, and_self]
            exact res 1 (if_neg (by unfold EndsOk; omega)) _ _ (.inr rfl) rfl
          · simp (decide := true) only [S39_0, S39_1, S39_2, S39_3, S39_4, S39_5, S39_6, S39_7, S39_8, S39_9, S39, X39, G39, h1, h2, h3, h4, h5, EV2, MVn, qv, qvK, List.set_cons_zero, List.set_cons_succ, List.toList_toArray, Int.reduceToNat, Nat.reduceAdd, Nat.reduceMul, Nat.one_mul, Bool.not_true, Bool.not_false, EV, step, List.map_cons, List.map_nil, Option.map_some, Option.map_none, if_true, if_false, reduceIte, List.getElem?_cons_zero, List.getElem?_cons_succ, Option.getD_some, List.nil_append, List.append_nil, List.cons_append, List.getElem?_nil, Option.getD_none, true_implies, false_implies, not_true_eq_false, not_false_eq_true, and_true, true_and, decide_true, decide_false, Int.natCast_nonneg, Int.toNat_natCast, Nat.mul_one, List.size_toArray, List.getElem?_toArray, List.length_cons, List.length_nil, Nat.zero_add, Nat.add_zero, List.drop_zero, List.take_succ_cons, List.take_zero, List.drop_succ_cons, List.all_cons, List.all_nil, Bool.and_true, Bool.and_self, and_self]
            exact res 0 (if_pos (by unfold EndsOk; omega)) _ _ (.inr rfl) rfl

theorem size_spec {Γ : YEnv} (hΓ : YMono Γ) (N : Int) (a : Addr) (v : Value) (t : TypeId) (z : Nat) (m : Mem) (h : m.get a.block = some (.cells [.int .i64 N, v] t z)) (ho : a.off = 0) : ACalls Try.prog Γ 77 [.pointer (some a)] m fun r m' => r = .int .i64 N ∧ m' = m := by
  refine acallsW hΓ fok77 (by simp [X77]) fun Q hQ => ?_
  simp (decide := true) only [S77_0, S77_1, S77_2, S77_3, S77, X77, G77, h, ho, EV2, MVn, qv, qvK, List.set_cons_zero, List.set_cons_succ, List.toList_toArray, Int.reduceToNat, Nat.reduceAdd, Nat.reduceMul, Nat.one_mul, Bool.not_true, Bool.not_false, EV, step, List.map_cons, List.map_nil, Option.map_some, Option.map_none, if_true, if_false, reduceIte, List.getElem?_cons_zero, List.getElem?_cons_succ, Option.getD_some, List.nil_append, List.append_nil, List.cons_append, List.getElem?_nil, Option.getD_none, true_implies, false_implies, not_true_eq_false, not_false_eq_true, and_true, true_and, decide_true, decide_false, Int.natCast_nonneg, Int.toNat_natCast, Nat.mul_one, List.size_toArray, List.getElem?_toArray, List.length_cons, List.length_nil, Nat.zero_add, Nat.add_zero, List.drop_zero, List.take_succ_cons, List.take_zero, List.drop_succ_cons, List.all_cons, List.all_nil, Bool.and_true, Bool.and_self, and_self]
  refine hQ _ _ _ ⟨.inr rfl, [.int .i64 N], by simp [X77, R77, resL, sem, Slot.v], rfl, rfl⟩

theorem ends_spec {Γ : YEnv} (hΓ : YMono Γ) (N a b : Int) (hN : 2 ≤ N) (hN2 : N ≤ 24) (m : Mem) : ACalls Try.prog Γ 13 [.int .i64 N, .agg #[.int .i64 a, .int .i64 b]] m fun r m' => ∃ s t : Int, r = .tuple #[.int .i64 s, .int .i64 t] ∧ 0 ≤ s ∧ s < N ∧ 0 ≤ t ∧ t < N ∧ s ≠ t ∧ Mext m m' := by
  refine acallsW hΓ fok13 (by simp [X13]) fun Q hQ => ?_
  have hu : IntKind.wrap .u64 N = N := wrap_u64 (by omega) (by omega)
  have hz : (N = 0) = False := eq_false (by omega)
  have hs := low_range a (k := N) (by omega) (by omega)
  have ht := low_range b (k := N) (by omega) (by omega)
  have la : ∀ x, IntKind.wrap .i64 ((IntKind.wrap .u64 x).tmod N) = low x N := fun x => rfl
  have hm : Mext m _ := (Mext.refl m).new (.cells [.int .i64 a, .int .i64 b] 38 2)
  have hw : IntKind.wrap .i64 (low a N + 1) = low a N + 1 := wrap_i64 (by omega) (by omega)
  have res : ∀ (s t : Int), 0 ≤ s → s < N → 0 ≤ t → t < N → s ≠ t → ∀ e f m', Mext m m' → (e = .normal ∨ e = .ret) → (f 4).v = .int .i64 s → (f 5).v = .int .i64 t → Q e f m' := by
    intro s t h1 h2 h3 h4 h5 e f m' hm he hf4 hf5
    exact hQ _ _ _ ⟨he, [.int .i64 s, .int .i64 t], by simp [X13, R13, resL, hf4, hf5], s, t, rfl, h1, h2, h3, h4, h5, hm⟩
  by_cases h : low a N = low b N
  · have h' : (low a N = low b N) = True := eq_true h
    simp (decide := true) only [S13_0, S13_1, S13_2, S13_3, S13_4, S13_5, S13_6, S13_7, S13_8, S13_9, S13_10, S13_11, S13_12, S13, X13, G13, hu, hz, la, hw, h', EV2, MVn, qv, qvK, List.set_cons_zero, List.set_cons_succ, List.toList_toArray, Int.reduceToNat, Nat.reduceAdd, Nat.reduceMul, Nat.one_mul, Bool.not_true, Bool.not_false, EV, step, List.map_cons, List.map_nil, Option.map_some, Option.map_none, if_true, if_false, reduceIte, List.getElem?_cons_zero, List.getElem?_cons_succ, Option.getD_some, List.nil_append, List.append_nil, List.cons_append, List.getElem?_nil, Option.getD_none, true_implies, false_implies, not_true_eq_false, not_false_eq_true, and_true, true_and, decide_true, decide_false, Int.natCast_nonneg, Int.toNat_natCast, Nat.mul_one, List.size_toArray, List.getElem?_toArray, List.length_cons, List.length_nil, Nat.zero_add, Nat.add_zero, List.drop_zero, List.take_succ_cons, List.take_zero, List.drop_succ_cons, List.all_cons, List.all_nil, Bool.and_true, Bool.and_self, and_self]
    have hr := tmod_range (a := low a N + 1) (k := N) (by omega) (by omega)
    refine res (low a N) ((low a N + 1).tmod N) hs.1 hs.2 hr.1 hr.2 ?_ _ _ _ hm (.inr rfl) (by rfl) (by rfl)
    rw [Int.tmod_eq_emod_of_nonneg (by omega)]
    by_cases hq : low a N + 1 = N
    · rw [hq, Int.emod_self]; omega
    · rw [Int.emod_eq_of_lt (by omega) (by omega)]; omega
  · simp (decide := true) only [S13_0, S13_1, S13_2, S13_3, S13_4, S13_5, S13_6, S13_7, S13_8, S13_9, S13_10, S13_11, S13_12, S13, X13, G13, hu, hz, la, hw, h, EV2, MVn, qv, qvK, List.set_cons_zero, List.set_cons_succ, List.toList_toArray, Int.reduceToNat, Nat.reduceAdd, Nat.reduceMul, Nat.one_mul, Bool.not_true, Bool.not_false, EV, step, List.map_cons, List.map_nil, Option.map_some, Option.map_none, if_true, if_false, reduceIte, List.getElem?_cons_zero, List.getElem?_cons_succ, Option.getD_some, List.nil_append, List.append_nil, List.cons_append, List.getElem?_nil, Option.getD_none, true_implies, false_implies, not_true_eq_false, not_false_eq_true, and_true, true_and, decide_true, decide_false, Int.natCast_nonneg, Int.toNat_natCast, Nat.mul_one, List.size_toArray, List.getElem?_toArray, List.length_cons, List.length_nil, Nat.zero_add, Nat.add_zero, List.drop_zero, List.take_succ_cons, List.take_zero, List.drop_succ_cons, List.all_cons, List.all_nil, Bool.and_true, Bool.and_self, and_self]
    exact res (low a N) (low b N) hs.1 hs.2 ht.1 ht.2 h _ _ _ hm (.inr rfl) (by rfl) (by rfl)

theorem same_spec {Γ : YEnv} (hΓ : YMono Γ) (l r : List Int) (v w : Value) (m : Mem) (h1 : Ints m v l) (h2 : Ints m w r) (hl : l.length < 1000000) (hr : r.length < 1000000) :
    ACalls Try.prog Γ 18 [v, w] m fun x m' => x = .bool (decide (l = r)) ∧ m' = m := by
  refine acallsW hΓ fok18 (by simp [X18]) fun Q hQ => ?_
  obtain ⟨ao, c, rfl⟩ := h1.len
  obtain ⟨bo, d, rfl⟩ := h2.len
  have res : ∀ (b : Bool), decide (l = r) = b → ∀ e s, (e = .normal ∨ e = .ret) → (s 4).v = .bool b → Q e s m := by
    intro b hb e s h1 h2
    exact hQ _ _ _ ⟨h1, [.bool b], by simp [X18, R18, resL, h2], by rw [hb]; rfl, rfl⟩
  by_cases hn : l.length = r.length
  · have hn' : ((l.length : Int) = r.length) = True := eq_true (by omega)
    simp (decide := true) only [S18_0, S18_1, S18_2, S18_3, S18_4, S18_5, S18_6, S18_7, S18_8, S18_9, S18_10, S18_11, S18_12, S18_13, S18_14, S18_15, S18_16, S18_17, S18_18, S18_19, S18_20, S18_21, S18_22, S18_23, S18_24, S18_25, S18_26, S18, X18, G18, hn', ne_eq, EV2, MVn, qv, qvK, List.set_cons_zero, List.set_cons_succ, List.toList_toArray, Int.reduceToNat, Nat.reduceAdd, Nat.reduceMul, Nat.one_mul, Bool.not_true, Bool.not_false, EV, step, List.map_cons, List.map_nil, Option.map_some, Option.map_none, if_true, if_false, reduceIte, List.getElem?_cons_zero, List.getElem?_cons_succ, Option.getD_some, List.nil_append, List.append_nil, List.cons_append, List.getElem?_nil, Option.getD_none, true_implies, false_implies, not_true_eq_false, not_false_eq_true, and_true, true_and, decide_true, decide_false, Int.natCast_nonneg, Int.toNat_natCast, Nat.mul_one, List.size_toArray, List.getElem?_toArray, List.length_cons, List.length_nil, Nat.zero_add, Nat.add_zero, List.drop_zero, List.take_succ_cons, List.take_zero, List.drop_succ_cons, List.all_cons, List.all_nil, Bool.and_true, Bool.and_self, and_self]
    refine W_loop (fun k s m' => ∃ i : Nat, i ≤ l.length ∧ k = l.length - i ∧ m' = m ∧ l.take i = r.take i ∧ (s 0).v = .slice ao l.length c ∧ (s 1).v = .slice bo r.length d ∧ (s 5).v = .int .i64 i)
      l.length ⟨0, by omega, rfl, rfl, rfl, rfl, rfl, rfl⟩ hΓ ?_
    rintro k s m' ⟨i, hi, rfl, rfl, htk, s0, s1, s5⟩ Q' hnx he hret
    by_cases hlt : i < l.length
    · have hlt' : ((i : Int) < l.length) = True := eq_true (by omega)
      have hlt2 : ((i : Int) < r.length) = True := eq_true (by omega)
      have hw : IntKind.wrap .i64 ((i : Int) + 1) = ((i + 1 : Nat) : Int) := by rw [wrap_i64 (by omega) (by omega)]; omega
      obtain ⟨a, rfl, _, _, c1⟩ := h1.ld hlt
      obtain ⟨b, rfl, _, _, c2⟩ := h2.ld (j := i) (by omega)
      by_cases hx : l[i] = r[i]'(by omega)
      · have hx' : (l[i] = r[i]'(by omega)) = True := eq_true hx
        simp (decide := true) only [s0, s1, s5, hlt', hlt2, c1, c2, hx', hw, ne_eq, EV2, MVn, qv, qvK, List.set_cons_zero, List.set_cons_succ, List.toList_toArray, Int.reduceToNat, Nat.reduceAdd, Nat.reduceMul, Nat.one_mul, Bool.not_true, Bool.not_false, EV, step, List.map_cons, List.map_nil, Option.map_some, Option.map_none, if_true, if_false, reduceIte, List.getElem?_cons_zero, List.getElem?_cons_succ, Option.getD_some, List.nil_append, List.append_nil, List.cons_append, List.getElem?_nil, Option.getD_none, true_implies, false_implies, not_true_eq_false, not_false_eq_true, and_true, true_and, decide_true, decide_false, Int.natCast_nonneg, Int.toNat_natCast, Nat.mul_one, List.size_toArray, List.getElem?_toArray, List.length_cons, List.length_nil, Nat.zero_add, Nat.add_zero, List.drop_zero, List.take_succ_cons, List.take_zero, List.drop_succ_cons, List.all_cons, List.all_nil, Bool.and_true, Bool.and_self, and_self]
        refine hnx _ _ _ (by omega) ⟨i + 1, hlt, rfl, rfl, ?_, by simp [sem, s0], by simp [sem, s1], by simp [sem, Slot.v]⟩
        rw [← List.take_append_getElem hlt, ← List.take_append_getElem (by omega : i < r.length), htk, hx]
      · simp (decide := true) only [s0, s1, s5, hlt', hlt2, c1, c2, hx, ne_eq, EV2, MVn, qv, qvK, List.set_cons_zero, List.set_cons_succ, List.toList_toArray, Int.reduceToNat, Nat.reduceAdd, Nat.reduceMul, Nat.one_mul, Bool.not_true, Bool.not_false, EV, step, List.map_cons, List.map_nil, Option.map_some, Option.map_none, if_true, if_false, reduceIte, List.getElem?_cons_zero, List.getElem?_cons_succ, Option.getD_some, List.nil_append, List.append_nil, List.cons_append, List.getElem?_nil, Option.getD_none, true_implies, false_implies, not_true_eq_false, not_false_eq_true, and_true, true_and, decide_true, decide_false, Int.natCast_nonneg, Int.toNat_natCast, Nat.mul_one, List.size_toArray, List.getElem?_toArray, List.length_cons, List.length_nil, Nat.zero_add, Nat.add_zero, List.drop_zero, List.take_succ_cons, List.take_zero, List.drop_succ_cons, List.all_cons, List.all_nil, Bool.and_true, Bool.and_self, and_self]
        refine hret _ _ ?_
        simp (decide := true) only [EV2, MVn, qv, qvK, List.set_cons_zero, List.set_cons_succ, List.toList_toArray, Int.reduceToNat, Nat.reduceAdd, Nat.reduceMul, Nat.one_mul, Bool.not_true, Bool.not_false, EV, step, List.map_cons, List.map_nil, Option.map_some, Option.map_none, if_true, if_false, reduceIte, List.getElem?_cons_zero, List.getElem?_cons_succ, Option.getD_some, List.nil_append, List.append_nil, List.cons_append, List.getElem?_nil, Option.getD_none, true_implies, false_implies, not_true_eq_false, not_false_eq_true, and_true, true_and, decide_true, decide_false, Int.natCast_nonneg, Int.toNat_natCast, Nat.mul_one, List.size_toArray, List.getElem?_toArray, List.length_cons, List.length_nil, Nat.zero_add, Nat.add_zero, List.drop_zero, List.take_succ_cons, List.take_zero, List.drop_succ_cons, List.all_cons, List.all_nil, Bool.and_true, Bool.and_self, and_self]
        refine res false ?_ _ _ (.inr rfl) rfl
        simp only [decide_eq_false_iff_not]
        rintro rfl; exact hx rfl
    · have hlt' : ((i : Int) < l.length) = False := eq_false (by omega)
      simp (decide := true) only [s0, s1, s5, hlt', EV2, MVn, qv, qvK, List.set_cons_zero, List.set_cons_succ, List.toList_toArray, Int.reduceToNat, Nat.reduceAdd, Nat.reduceMul, Nat.one_mul, Bool.not_true, Bool.not_false, EV, step, List.map_cons, List.map_nil, Option.map_some, Option.map_none, if_true, if_false, reduceIte, List.getElem?_cons_zero, List.getElem?_cons_succ, Option.getD_some, List.nil_append, List.append_nil, List.cons_append, List.getElem?_nil, Option.getD_none, true_implies, false_implies, not_true_eq_false, not_false_eq_true, and_true, true_and, decide_true, decide_false, Int.natCast_nonneg, Int.toNat_natCast, Nat.mul_one, List.size_toArray, List.getElem?_toArray, List.length_cons, List.length_nil, Nat.zero_add, Nat.add_zero, List.drop_zero, List.take_succ_cons, List.take_zero, List.drop_succ_cons, List.all_cons, List.all_nil, Bool.and_true, Bool.and_self, and_self]
      refine he _ _ _ ?_
      simp (decide := true) only [EV2, MVn, qv, qvK, List.set_cons_zero, List.set_cons_succ, List.toList_toArray, Int.reduceToNat, Nat.reduceAdd, Nat.reduceMul, Nat.one_mul, Bool.not_true, Bool.not_false, EV, step, List.map_cons, List.map_nil, Option.map_some, Option.map_none, if_true, if_false, reduceIte, List.getElem?_cons_zero, List.getElem?_cons_succ, Option.getD_some, List.nil_append, List.append_nil, List.cons_append, List.getElem?_nil, Option.getD_none, true_implies, false_implies, not_true_eq_false, not_false_eq_true, and_true, true_and, decide_true, decide_false, Int.natCast_nonneg, Int.toNat_natCast, Nat.mul_one, List.size_toArray, List.getElem?_toArray, List.length_cons, List.length_nil, Nat.zero_add, Nat.add_zero, List.drop_zero, List.take_succ_cons, List.take_zero, List.drop_succ_cons, List.all_cons, List.all_nil, Bool.and_true, Bool.and_self, and_self]
      refine res true ?_ _ _ (.inr rfl) rfl
      simp only [decide_eq_true_eq]
      rwa [List.take_of_length_le (by omega), List.take_of_length_le (by omega)] at htk
  · have hn' : ((l.length : Int) = r.length) = False := eq_false (by omega)
    simp (decide := true) only [S18_0, S18_1, S18_2, S18_3, S18_4, S18_5, S18_6, S18_7, S18_8, S18_9, S18_10, S18_11, S18_12, S18_13, S18_14, S18_15, S18_16, S18_17, S18_18, S18_19, S18_20, S18_21, S18_22, S18_23, S18_24, S18_25, S18_26, S18, X18, G18, hn', ne_eq, EV2, MVn, qv, qvK, List.set_cons_zero, List.set_cons_succ, List.toList_toArray, Int.reduceToNat, Nat.reduceAdd, Nat.reduceMul, Nat.one_mul, Bool.not_true, Bool.not_false, EV, step, List.map_cons, List.map_nil, Option.map_some, Option.map_none, if_true, if_false, reduceIte, List.getElem?_cons_zero, List.getElem?_cons_succ, Option.getD_some, List.nil_append, List.append_nil, List.cons_append, List.getElem?_nil, Option.getD_none, true_implies, false_implies, not_true_eq_false, not_false_eq_true, and_true, true_and, decide_true, decide_false, Int.natCast_nonneg, Int.toNat_natCast, Nat.mul_one, List.size_toArray, List.getElem?_toArray, List.length_cons, List.length_nil, Nat.zero_add, Nat.add_zero, List.drop_zero, List.take_succ_cons, List.take_zero, List.drop_succ_cons, List.all_cons, List.all_nil, Bool.and_true, Bool.and_self, and_self]
    refine res false ?_ _ _ (.inr rfl) rfl
    simp only [decide_eq_false_iff_not]
    rintro rfl; exact hn rfl

/-! ### What is left of capacities: the row of a work, its arcs by number. -/
def wk (N : Int) (to left : Nat → Int) (at_ : Nat → Value) : List Value := .int .i64 N :: (iv to 400 ++ (iv left 400 ++ gv at_ 24))
section
variable (N : Int) (to left : Nat → Int) (at_ : Nat → Value)
theorem wk_len : (wk N to left at_).length = 825 := by simp [wk, iv_len, gv_len]
theorem wk_0 : (wk N to left at_)[0]? = some (.int .i64 N) := rfl
theorem wk_to {k : Nat} (h : k < 400) : (wk N to left at_)[1 + k]? = some (.int .i64 (to k)) := by
  unfold wk
  rw [Nat.add_comm, List.getElem?_cons_succ, List.getElem?_append_left (by rw [iv_len]; exact h), iv_get _ h]
theorem wk_left {k : Nat} (h : k < 400) : (wk N to left at_)[401 + k]? = some (.int .i64 (left k)) := by
  unfold wk
  rw [show 401 + k = (400 + k) + 1 by omega, List.getElem?_cons_succ, List.getElem?_append_right (by rw [iv_len]; omega), iv_len, show 400 + k - 400 = k by omega, List.getElem?_append_left (by rw [iv_len]; exact h), iv_get _ h]
theorem wk_at {k : Nat} (h : k < 24) : (wk N to left at_)[801 + k]? = some (at_ k) := by
  unfold wk
  rw [show 801 + k = (800 + k) + 1 by omega, List.getElem?_cons_succ, List.getElem?_append_right (by rw [iv_len]; omega), iv_len, show 800 + k - 400 = 400 + k by omega, List.getElem?_append_right (by rw [iv_len]; omega), iv_len, show 400 + k - 400 = k by omega, gv_get _ h]
theorem wk_set_to {k : Nat} (x : Int) (h : k < 400) : (wk N to left at_).set (1 + k) (.int .i64 x) = wk N (upd to k x) left at_ := by
  unfold wk
  rw [Nat.add_comm, List.set_cons_succ, List.set_append_left _ _ (by rw [iv_len]; exact h), iv_set]
theorem wk_set_left {k : Nat} (x : Int) (h : k < 400) : (wk N to left at_).set (401 + k) (.int .i64 x) = wk N to (upd left k x) at_ := by
  unfold wk
  rw [show 401 + k = (400 + k) + 1 by omega, List.set_cons_succ, List.set_append_right _ _ (by rw [iv_len]; omega), iv_len, show 400 + k - 400 = k by omega, List.set_append_left _ _ (by rw [iv_len]; exact h), iv_set]
theorem wk_set_at {k : Nat} (v : Value) (h : k < 24) : (wk N to left at_).set (801 + k) v = wk N to left (upd at_ k v) := by
  unfold wk
  rw [show 801 + k = (800 + k) + 1 by omega, List.set_cons_succ, List.set_append_right _ _ (by rw [iv_len]; omega), iv_len, show 800 + k - 400 = 400 + k by omega, List.set_append_right _ _ (by rw [iv_len]; omega), iv_len, show 400 + k - 400 = k by omega, gv_set]
theorem wk_set_0 (x : Int) : (wk N to left at_).set 0 (.int .i64 x) = wk x to left at_ := rfl
end
theorem wk_congr {N : Int} {to to' left left' : Nat → Int} {at_ : Nat → Value} (h1 : ∀ i, i < 400 → to i = to' i) (h2 : ∀ i, i < 400 → left i = left' i) : wk N to left at_ = wk N to' left' at_ := by
  unfold wk; rw [iv_congr h1, iv_congr h2]
theorem zc89 : Zc Try.prog 89 = wk 0 (fun _ => 0) (fun _ => 0) (fun _ => .slice none 0 0) := by kernel_rfl

/-! ### Arcs by number -/
def toOf (l : List ArcI) (j : Nat) : Int := match l[j / 2]? with
  | some a => if j % 2 = 0 then a.t else a.f
  | none => 0
def tailOf (l : List ArcI) (j : Nat) : Int := match l[j / 2]? with
  | some a => if j % 2 = 0 then a.f else a.t
  | none => -1
def capOf (l : List ArcI) (j : Nat) : Int := match l[j / 2]? with
  | some a => if j % 2 = 0 then a.c else 0
  | none => 0
def adjN (l : List ArcI) (p : Nat) : List Nat := (List.range (2 * l.length)).filter fun j => tailOf l j = p
def adjOf (l : List ArcI) (p : Nat) : List Int := (adjN l p).map fun (j : Nat) => (j : Int)

theorem half_at (l : List ArcI) (a : ArcI) (j : Nat) : (l ++ [a])[j / 2]? = if j = 2 * l.length ∨ j = 2 * l.length + 1 then some a else l[j / 2]? := by
  by_cases h : j / 2 < l.length
  · rw [List.getElem?_append_left h, if_neg (by omega)]
  · rw [List.getElem?_append_right (by omega)]
    by_cases h2 : j / 2 = l.length
    · rw [h2, Nat.sub_self, if_pos (by omega)]; rfl
    · rw [if_neg (by omega), List.getElem?_eq_none (by simp; omega), List.getElem?_eq_none (by omega)]
theorem toOf_snoc (l : List ArcI) (a : ArcI) : toOf (l ++ [a]) = upd (upd (toOf l) (2 * l.length) a.t) (2 * l.length + 1) a.f := by
  funext j
  unfold toOf
  rw [half_at, upd_at, upd_at]
  by_cases h1 : j = 2 * l.length + 1
  · rw [if_pos h1, if_pos (.inr h1)]; simp only [show ¬ j % 2 = 0 by omega, if_false]
  · by_cases h0 : j = 2 * l.length
    · rw [if_neg h1, if_pos h0, if_pos (.inl h0)]; simp only [show j % 2 = 0 by omega, if_true]
    · rw [if_neg h1, if_neg h0, if_neg (by omega)]
theorem capOf_snoc (l : List ArcI) (a : ArcI) : capOf (l ++ [a]) = upd (upd (capOf l) (2 * l.length) a.c) (2 * l.length + 1) 0 := by
  funext j
  unfold capOf
  rw [half_at, upd_at, upd_at]
  by_cases h1 : j = 2 * l.length + 1
  · rw [if_pos h1, if_pos (.inr h1)]; simp only [show ¬ j % 2 = 0 by omega, if_false]
  · by_cases h0 : j = 2 * l.length
    · rw [if_neg h1, if_pos h0, if_pos (.inl h0)]; simp only [show j % 2 = 0 by omega, if_true]
    · rw [if_neg h1, if_neg h0, if_neg (by omega)]
theorem tailOf_snoc (l : List ArcI) (a : ArcI) : tailOf (l ++ [a]) = upd (upd (tailOf l) (2 * l.length) a.f) (2 * l.length + 1) a.t := by
  funext j
  unfold tailOf
  rw [half_at, upd_at, upd_at]
  by_cases h1 : j = 2 * l.length + 1
  · rw [if_pos h1, if_pos (.inr h1)]; simp only [show ¬ j % 2 = 0 by omega, if_false]
  · by_cases h0 : j = 2 * l.length
    · rw [if_neg h1, if_pos h0, if_pos (.inl h0)]; simp only [show j % 2 = 0 by omega, if_true]
    · rw [if_neg h1, if_neg h0, if_neg (by omega)]
theorem adjN_snoc (l : List ArcI) (a : ArcI) (p : Nat) : adjN (l ++ [a]) p = adjN l p ++ (if a.f = p then [2 * l.length] else []) ++ (if a.t = p then [2 * l.length + 1] else []) := by
  unfold adjN
  rw [List.length_append, List.length_singleton, show 2 * (l.length + 1) = (2 * l.length + 1) + 1 by omega, List.range_succ, List.range_succ, List.filter_append, List.filter_append, tailOf_snoc]
  congr 1
  · congr 1
    · refine List.filter_congr fun j hj => ?_
      have := List.mem_range.1 hj
      rw [upd_ne _ _ (by omega), upd_ne _ _ (by omega)]
    · rw [List.filter_cons, List.filter_nil, upd_ne _ _ (by omega), upd_same]
      by_cases h : a.f = p <;> simp [h]
  · rw [List.filter_cons, List.filter_nil, upd_same]
    by_cases h : a.t = p <;> simp [h]
theorem adjOf_snoc (l : List ArcI) (a : ArcI) (p : Nat) : adjOf (l ++ [a]) p = adjOf l p ++ (if a.f = p then [((2 * l.length : Nat) : Int)] else []) ++ (if a.t = p then [((2 * l.length + 1 : Nat) : Int)] else []) := by
  unfold adjOf
  rw [adjN_snoc, List.map_append, List.map_append]
  congr 1
  · congr 1
    split <;> rfl
  · split <;> rfl
theorem adjN_len (l : List ArcI) (p : Nat) : (adjN l p).length ≤ 2 * l.length := by
  unfold adjN; exact Nat.le_trans (List.length_filter_le ..) (by simp)
theorem adjOf_len (l : List ArcI) (p : Nat) : (adjOf l p).length ≤ 2 * l.length := by
  unfold adjOf; rw [List.length_map]; exact adjN_len l p
theorem adjN_mem {l : List ArcI} {p j : Nat} : j ∈ adjN l p ↔ j < 2 * l.length ∧ tailOf l j = p := by
  unfold adjN; simp
theorem ok_nat {N : Int} {a : ArcI} (h : a.ok N) : ∃ f t : Nat, a.f = f ∧ a.t = t ∧ (f : Int) < N ∧ (t : Int) < N ∧ f ≠ t := by
  obtain ⟨h1, h2, h3, h4, h5⟩ := h
  refine ⟨a.f.toNat, a.t.toNat, by omega, by omega, by omega, by omega, by omega⟩
theorem take_snoc {l : List ArcI} {j : Nat} {x : ArcI} (h : l[j]? = some x) : l.take (j + 1) = l.take j ++ [x] ∧ (l.take j).length = j := by
  obtain ⟨hj, rfl⟩ := List.getElem?_eq_some_iff.1 h
  exact ⟨(List.take_append_getElem hj).symm, by rw [List.length_take]; omega⟩

/-! ### Contracts of flow: newWork. -/
def WorkAt (m : Mem) (b : Nat) (N : Int) (l : List ArcI) (left : Nat → Int) (at_ : Nat → Value) : Prop :=
  m.get b = some (.cells (wk N (toOf l) left at_) 89 825) ∧ b < m.next ∧ ∀ p, p < 24 → SlI m (· = b) (at_ p) (adjOf l p)
def Work (m : Mem) (b : Nat) (N : Int) (l : List ArcI) (left : Nat → Int) : Prop := ∃ at_, WorkAt m b N l left at_

theorem meth72s : methA Try.prog 72 "minikin/flow.size" = some 77 := by kernel_rfl
theorem zc82 : Zc Try.prog 82 = [.pointer none] := by kernel_rfl
theorem zc3 : Zc Try.prog 3 = [.int .i64 0] := by kernel_rfl
theorem zc73 : Zc Try.prog 73 = [.int .i64 0, .int .i64 0, .int .i64 0] := by kernel_rfl

def Distinct (at_ : Nat → Value) : Prop := ∀ p q a b n c n' c', p < 24 → q < 24 → p ≠ q → at_ p = .slice (some a) n c → at_ q = .slice (some b) n' c' → a.block ≠ b.block

theorem acc_sl {m0 m : Mem} {S : Nat → Prop} {v : Value} {l : List Int} {t : TypeId} (h : Acc m0 m v (intCells l) t 1) (hS : ∀ i, m0.next ≤ i → ¬ S i) : SlI m S v l := by
  have hi := h.ints
  refine ⟨hi.len, hi.get, hi.nil, fun a n c hv => ⟨hi.lt a n c hv, hS _ ?_⟩⟩
  rcases h with ⟨rfl, _⟩ | ⟨i, h1, h2, rfl, h3⟩
  · cases hv
  · cases hv; exact h1

theorem Acc.of_get2 {m0 m m' : Mem} {v : Value} {l : List (List Value)} {e : TypeId} {z : Nat} (h : Acc m0 m v l e z) (hn : m.next ≤ m'.next) (hg : ∀ a n c, v = .slice (some a) n c → m0.next ≤ a.block → a.block < m.next → m'.get a.block = m.get a.block) : Acc m0 m' v l e z := by
  rcases h with h | ⟨i, h1, h2, h3, h4⟩
  · exact .inl h
  · exact .inr ⟨i, h1, Nat.lt_of_lt_of_le h2 hn, h3, (hg _ _ _ h3 h1 h2).trans h4⟩

set_option maxRecDepth 100000 in
theorem newWork_spec {Γ : YEnv} (hΓ : YMono Γ) (N : Int) (a : Addr) (l : List ArcI) (v : Value) (t : TypeId) (z : Nat) (m : Mem) (h : Arcs m v l) (hg : m.get a.block = some (.cells [.int .i64 N, v] t z)) (ho : a.off = 0) (hal : a.block < m.next)
    (hN : 2 ≤ N) (hN2 : N ≤ 24) (hok : ∀ x ∈ l, ArcI.ok N x) (hl : l.length ≤ 200) :
    ACalls Try.prog Γ 34 [.iface 72 (.pointer (some a))] m fun r m' => ∃ b, r = .pointer (some ⟨b, 0, none⟩) ∧ m.next ≤ b ∧ Work m' b N l (capOf l) ∧ Mext m m' := by
  refine acallsW hΓ fok34 (by simp [X34]) fun Q hQ => ?_
  simp (decide := true) only [S34_0, S34_1, S34_2, S34_3, S34_4, S34_5, S34_6, S34_7, S34_8, S34_9, S34_10, S34_11, S34_12, S34_13, S34_14, S34_15, S34_16, S34_17, S34_18, S34_19, S34_20, S34_21, S34_22, S34_23, S34, X34, G34, EV2, MVn, qv, qvK, List.set_cons_zero, List.set_cons_succ, List.toList_toArray, Int.reduceToNat, Nat.reduceAdd, Nat.reduceMul, Nat.one_mul, Bool.not_true, Bool.not_false, EV, step, List.map_cons, List.map_nil, Option.map_some, Option.map_none, if_true, if_false, reduceIte, List.getElem?_cons_zero, List.getElem?_cons_succ, Option.getD_some, List.nil_append, List.append_nil, List.cons_append, List.getElem?_nil, Option.getD_none, true_implies, false_implies, not_true_eq_false, not_false_eq_true, and_true, true_and, decide_true, decide_false, Int.natCast_nonneg, Int.toNat_natCast, Nat.mul_one, List.size_toArray, List.getElem?_toArray, List.length_cons, List.length_nil, Nat.zero_add, Nat.add_zero, List.drop_zero, List.take_succ_cons, List.take_zero, List.drop_succ_cons, List.all_cons, List.all_nil, Bool.and_true, Bool.and_self, and_self]
  refine invK_meth meth72s ((size_spec hΓ N a v t z m hg ho).mono ?_)
  rintro r m' ⟨rfl, rfl⟩
  have hlen : (wk N (fun _ => 0) (fun _ => 0) (fun _ => .slice none 0 0)).length = 825 := wk_len _ _ _ _
  have hall : (wk N (fun _ => 0) (fun _ => 0) (fun _ => .slice none 0 0)).all okCell = true := by
    simp [wk, iv, gv, okCell]
  simp (decide := true) only [zc89, zc82, zc3, wk_set_0, hlen, hall, wk_len, EV2, MVn, qv, qvK, List.set_cons_zero, List.set_cons_succ, List.toList_toArray, Int.reduceToNat, Nat.reduceAdd, Nat.reduceMul, Nat.one_mul, Bool.not_true, Bool.not_false, EV, step, List.map_cons, List.map_nil, Option.map_some, Option.map_none, if_true, if_false, reduceIte, List.getElem?_cons_zero, List.getElem?_cons_succ, Option.getD_some, List.nil_append, List.append_nil, List.cons_append, List.getElem?_nil, Option.getD_none, true_implies, false_implies, not_true_eq_false, not_false_eq_true, and_true, true_and, decide_true, decide_false, Int.natCast_nonneg, Int.toNat_natCast, Nat.mul_one, List.size_toArray, List.getElem?_toArray, List.length_cons, List.length_nil, Nat.zero_add, Nat.add_zero, List.drop_zero, List.take_succ_cons, List.take_zero, List.drop_succ_cons, List.all_cons, List.all_nil, Bool.and_true, Bool.and_self, and_self]
  refine invK_meth (f := 76) meth76 ((arcs_spec hΓ a _).mono ?_)
  rintro r m1 ⟨rfl, rfl⟩
  simp (decide := true) only [EV2, MVn, qv, qvK, List.set_cons_zero, List.set_cons_succ, List.toList_toArray, Int.reduceToNat, Nat.reduceAdd, Nat.reduceMul, Nat.one_mul, Bool.not_true, Bool.not_false, EV, step, List.map_cons, List.map_nil, Option.map_some, Option.map_none, if_true, if_false, reduceIte, List.getElem?_cons_zero, List.getElem?_cons_succ, Option.getD_some, List.nil_append, List.append_nil, List.cons_append, List.getElem?_nil, Option.getD_none, true_implies, false_implies, not_true_eq_false, not_false_eq_true, and_true, true_and, decide_true, decide_false, Int.natCast_nonneg, Int.toNat_natCast, Nat.mul_one, List.size_toArray, List.getElem?_toArray, List.length_cons, List.length_nil, Nat.zero_add, Nat.add_zero, List.drop_zero, List.take_succ_cons, List.take_zero, List.drop_succ_cons, List.all_cons, List.all_nil, Bool.and_true, Bool.and_self, and_self]
  refine W_rfunc hΓ 78 #[] #[.pointer (some ⟨m'.next + 1 + 1 + 1, 0, none⟩)] (by simp (decide := true) only [EV2, MVn, qv, qvK, List.set_cons_zero, List.set_cons_succ, List.toList_toArray, Int.reduceToNat, Nat.reduceAdd, Nat.reduceMul, Nat.one_mul, Bool.not_true, Bool.not_false, EV, step, List.map_cons, List.map_nil, Option.map_some, Option.map_none, if_true, if_false, reduceIte, List.getElem?_cons_zero, List.getElem?_cons_succ, Option.getD_some, List.nil_append, List.append_nil, List.cons_append, List.getElem?_nil, Option.getD_none, true_implies, false_implies, not_true_eq_false, not_false_eq_true, and_true, true_and, decide_true, decide_false, Int.natCast_nonneg, Int.toNat_natCast, Nat.mul_one, List.size_toArray, List.getElem?_toArray, List.length_cons, List.length_nil, Nat.zero_add, Nat.add_zero, List.drop_zero, List.take_succ_cons, List.take_zero, List.drop_succ_cons, List.all_cons, List.all_nil, Bool.and_true, Bool.and_self, and_self]) ?_
  intro Γ' hΓ' hround
  simp only [Mem.next_new, next_set] at hround ⊢
  generalize hmm : Mem.new _ (AObj.loop LoopState.ready none) = mm at hround ⊢
  have hext : Mext m' mm := by rw [← hmm]; exact (((((((Mext.refl m').new _).new _).set (by omega) _).new _).set (by omega) _).new _).new _
  have hnx : mm.next = m'.next + 5 := by rw [← hmm]; simp only [Mem.next_new, next_set]
  have e0 : mm.get m'.next = some (.cells (wk N (fun _ => 0) (fun _ => 0) (fun _ => .slice none 0 0)) 89 825) := by rw [← hmm]; simp (decide := true) only [EV2, MVn, qv, qvK, List.set_cons_zero, List.set_cons_succ, List.toList_toArray, Int.reduceToNat, Nat.reduceAdd, Nat.reduceMul, Nat.one_mul, Bool.not_true, Bool.not_false, EV, step, List.map_cons, List.map_nil, Option.map_some, Option.map_none, if_true, if_false, reduceIte, List.getElem?_cons_zero, List.getElem?_cons_succ, Option.getD_some, List.nil_append, List.append_nil, List.cons_append, List.getElem?_nil, Option.getD_none, true_implies, false_implies, not_true_eq_false, not_false_eq_true, and_true, true_and, decide_true, decide_false, Int.natCast_nonneg, Int.toNat_natCast, Nat.mul_one, List.size_toArray, List.getElem?_toArray, List.length_cons, List.length_nil, Nat.zero_add, Nat.add_zero, List.drop_zero, List.take_succ_cons, List.take_zero, List.drop_succ_cons, List.all_cons, List.all_nil, Bool.and_true, Bool.and_self, and_self]
  have e1 : mm.get (m'.next + 1) = some (.cells [.pointer (some ⟨m'.next, 0, none⟩)] 82 1) := by rw [← hmm]; simp (decide := true) only [EV2, MVn, qv, qvK, List.set_cons_zero, List.set_cons_succ, List.toList_toArray, Int.reduceToNat, Nat.reduceAdd, Nat.reduceMul, Nat.one_mul, Bool.not_true, Bool.not_false, EV, step, List.map_cons, List.map_nil, Option.map_some, Option.map_none, if_true, if_false, reduceIte, List.getElem?_cons_zero, List.getElem?_cons_succ, Option.getD_some, List.nil_append, List.append_nil, List.cons_append, List.getElem?_nil, Option.getD_none, true_implies, false_implies, not_true_eq_false, not_false_eq_true, and_true, true_and, decide_true, decide_false, Int.natCast_nonneg, Int.toNat_natCast, Nat.mul_one, List.size_toArray, List.getElem?_toArray, List.length_cons, List.length_nil, Nat.zero_add, Nat.add_zero, List.drop_zero, List.take_succ_cons, List.take_zero, List.drop_succ_cons, List.all_cons, List.all_nil, Bool.and_true, Bool.and_self, and_self]
  have e2 : mm.get (m'.next + 1 + 1) = some (.cells [.int .i64 0] 3 1) := by rw [← hmm]; simp (decide := true) only [EV2, MVn, qv, qvK, List.set_cons_zero, List.set_cons_succ, List.toList_toArray, Int.reduceToNat, Nat.reduceAdd, Nat.reduceMul, Nat.one_mul, Bool.not_true, Bool.not_false, EV, step, List.map_cons, List.map_nil, Option.map_some, Option.map_none, if_true, if_false, reduceIte, List.getElem?_cons_zero, List.getElem?_cons_succ, Option.getD_some, List.nil_append, List.append_nil, List.cons_append, List.getElem?_nil, Option.getD_none, true_implies, false_implies, not_true_eq_false, not_false_eq_true, and_true, true_and, decide_true, decide_false, Int.natCast_nonneg, Int.toNat_natCast, Nat.mul_one, List.size_toArray, List.getElem?_toArray, List.length_cons, List.length_nil, Nat.zero_add, Nat.add_zero, List.drop_zero, List.take_succ_cons, List.take_zero, List.drop_succ_cons, List.all_cons, List.all_nil, Bool.and_true, Bool.and_self, and_self]
  have e3 : mm.get (m'.next + 1 + 1 + 1) = some (.cells [.pointer (some a)] 72 1) := by rw [← hmm]; simp (decide := true) only [EV2, MVn, qv, qvK, List.set_cons_zero, List.set_cons_succ, List.toList_toArray, Int.reduceToNat, Nat.reduceAdd, Nat.reduceMul, Nat.one_mul, Bool.not_true, Bool.not_false, EV, step, List.map_cons, List.map_nil, Option.map_some, Option.map_none, if_true, if_false, reduceIte, List.getElem?_cons_zero, List.getElem?_cons_succ, Option.getD_some, List.nil_append, List.append_nil, List.cons_append, List.getElem?_nil, Option.getD_none, true_implies, false_implies, not_true_eq_false, not_false_eq_true, and_true, true_and, decide_true, decide_false, Int.natCast_nonneg, Int.toNat_natCast, Nat.mul_one, List.size_toArray, List.getElem?_toArray, List.length_cons, List.length_nil, Nat.zero_add, Nat.add_zero, List.drop_zero, List.take_succ_cons, List.take_zero, List.drop_succ_cons, List.all_cons, List.all_nil, Bool.and_true, Bool.and_self, and_self]
  have e4 : mm.get (m'.next + 1 + 1 + 1 + 1) = some (.loop .ready none) := by rw [← hmm]; simp (decide := true) only [EV2, MVn, qv, qvK, List.set_cons_zero, List.set_cons_succ, List.toList_toArray, Int.reduceToNat, Nat.reduceAdd, Nat.reduceMul, Nat.one_mul, Bool.not_true, Bool.not_false, EV, step, List.map_cons, List.map_nil, Option.map_some, Option.map_none, if_true, if_false, reduceIte, List.getElem?_cons_zero, List.getElem?_cons_succ, Option.getD_some, List.nil_append, List.append_nil, List.cons_append, List.getElem?_nil, Option.getD_none, true_implies, false_implies, not_true_eq_false, not_false_eq_true, and_true, true_and, decide_true, decide_false, Int.natCast_nonneg, Int.toNat_natCast, Nat.mul_one, List.size_toArray, List.getElem?_toArray, List.length_cons, List.length_nil, Nat.zero_add, Nat.add_zero, List.drop_zero, List.take_succ_cons, List.take_zero, List.drop_succ_cons, List.all_cons, List.all_nil, Bool.and_true, Bool.and_self, and_self]
  clear hmm
  let mb : Mem := ⟨fun _ => none, m'.next + 5⟩
  let J : Nat → Mem → Prop := fun j m1 => Mext m' m1 ∧ m'.next + 5 ≤ m1.next ∧ m1.get (m'.next + 1) = some (.cells [.pointer (some ⟨m'.next, 0, none⟩)] 82 1) ∧ m1.get (m'.next + 1 + 1) = some (.cells [.int .i64 ((2 * j : Nat) : Int)] 3 1) ∧ m1.get (m'.next + 1 + 1 + 1 + 1) = some (.loop .ready none) ∧
    ∃ at_, m1.get m'.next = some (.cells (wk N (toOf (l.take j)) (capOf (l.take j)) at_) 89 825) ∧ (∀ p, p < 24 → Acc mb m1 (at_ p) (intCells (adjOf (l.take j) p)) 3 1) ∧ Distinct at_
  refine (arcs1_spec hΓ' (m'.next + 1 + 1 + 1 + 1) ⟨m'.next + 1 + 1 + 1, 0, none⟩ a l v mm J (h.mext hext) (by omega) (by simp only [cell_get, e3, cellO_cells]; rfl) (by rw [hext.cell hal]; simp only [cell_get, hg, ho, cellO_cells]; rfl)
    ⟨hext, by omega, e1, e2, e4, _, ?_, fun p hp => .inl ⟨rfl, rfl⟩, ?_⟩ ?_ (fun j m1 hj => h.mext hj.1) ?_).mono ?_
  · rw [e0]; rfl
  · intro p q a b n c n' c' _ _ _ h1; cases h1
  · rintro j m1 m2 ⟨j1, j2, j3, j4, j5, at_, j6, j7, j8⟩ hm
    exact ⟨j1.trans hm, Nat.le_trans j2 hm.next, (hm.get _ (by omega)).trans j3, (hm.get _ (by omega)).trans j4, (hm.get _ (by omega)).trans j5, at_, (hm.get _ (by omega)).trans j6, fun p hp => (j7 p hp).mext hm, j8⟩
  · rintro j x m1 hx ⟨j1, j2, j3, j4, j5, at_, j6, j7, j8⟩
    obtain ⟨f, g, hf, hg2, hfN, hgN, hfg⟩ := ok_nat (hok x (List.mem_of_getElem? hx))
    have hjl : j < l.length := (List.getElem?_eq_some_iff.1 hx).1
    refine hround _ _ _ j5 rfl fun Q1 hQ1 => ?_
    clear hround
    simp (decide := true) only [ArcI.val, zc73, EV2, MVn, qv, qvK, List.set_cons_zero, List.set_cons_succ, List.toList_toArray, Int.reduceToNat, Nat.reduceAdd, Nat.reduceMul, Nat.one_mul, Bool.not_true, Bool.not_false, EV, step, List.map_cons, List.map_nil, Option.map_some, Option.map_none, if_true, if_false, reduceIte, List.getElem?_cons_zero, List.getElem?_cons_succ, Option.getD_some, List.nil_append, List.append_nil, List.cons_append, List.getElem?_nil, Option.getD_none, true_implies, false_implies, not_true_eq_false, not_false_eq_true, and_true, true_and, decide_true, decide_false, Int.natCast_nonneg, Int.toNat_natCast, Nat.mul_one, List.size_toArray, List.getElem?_toArray, List.length_cons, List.length_nil, Nat.zero_add, Nat.add_zero, List.drop_zero, List.take_succ_cons, List.take_zero, List.drop_succ_cons, List.all_cons, List.all_nil, Bool.and_true, Bool.and_self, and_self]
    refine hQ1 _ _ ?_
    clear hQ1
    have n0 : (m1.next = m'.next) = False := eq_false (by omega)
    have n1 : (m1.next = m'.next + 1) = False := eq_false (by omega)
    have n2 : (m1.next = m'.next + 1 + 1) = False := eq_false (by omega)
    have n4 : (m1.next = m'.next + 1 + 1 + 1 + 1) = False := eq_false (by omega)
    have n0' : (m'.next = m1.next) = False := eq_false (by omega)
    have n1' : (m'.next + 1 = m1.next) = False := eq_false (by omega)
    have n2' : (m'.next + 1 + 1 = m1.next) = False := eq_false (by omega)
    have n4' : (m'.next + 1 + 1 + 1 + 1 = m1.next) = False := eq_false (by omega)
    have i1 : (((2 * j : Nat) : Int) < ((400 : Nat) : Int)) = True := eq_true (by omega)
    have i2 : 2 * j < 400 := by omega
    have i3 : ((f : Int) < ((24 : Nat) : Int)) = True := eq_true (by omega)
    have i4 : ((g : Int) < ((24 : Nat) : Int)) = True := eq_true (by omega)
    have i5 : f < 24 := by omega
    have i6 : g < 24 := by omega
    have i7 : ((((2 * j + 1 : Nat) : Int)) < ((400 : Nat) : Int)) = True := eq_true (by omega)
    have i8 : 2 * j + 1 < 400 := by omega
    have w1 : IntKind.wrap .i64 (((2 * j : Nat) : Int) + 1) = ((2 * j + 1 : Nat) : Int) := by rw [wrap_i64 (by omega) (by omega)]; omega
    have w2 : IntKind.wrap .i64 (((2 * j : Nat) : Int) + 2) = ((2 * (j + 1) : Nat) : Int) := by rw [wrap_i64 (by omega) (by omega)]; omega
    have l1 : ∀ k : Nat, k < 400 → (1 + k + 1 ≤ 825) = True := fun k hk => eq_true (by omega)
    have l2 : ∀ k : Nat, k < 400 → (401 + k + 1 ≤ 825) = True := fun k hk => eq_true (by omega)
    have l3 : ∀ k : Nat, k < 24 → (801 + k + 1 ≤ 825) = True := fun k hk => eq_true (by omega)
    simp (decide := true) only [hf, hg2, j3, j4, j6, n0, n1, n2, n0', n1', n2', i1, i2, i3, i4, i5, i6, i7, i8, w1, l1 _ i2, l2 _ i2, l1 _ i8, l2 _ i8, wk_to, wk_left, wk_at, wk_set_to, wk_set_left, wk_len, zeros31, EV2, MVn, qv, qvK, List.set_cons_zero, List.set_cons_succ, List.toList_toArray, Int.reduceToNat, Nat.reduceAdd, Nat.reduceMul, Nat.one_mul, Bool.not_true, Bool.not_false, EV, step, List.map_cons, List.map_nil, Option.map_some, Option.map_none, if_true, if_false, reduceIte, List.getElem?_cons_zero, List.getElem?_cons_succ, Option.getD_some, List.nil_append, List.append_nil, List.cons_append, List.getElem?_nil, Option.getD_none, true_implies, false_implies, not_true_eq_false, not_false_eq_true, and_true, true_and, decide_true, decide_false, Int.natCast_nonneg, Int.toNat_natCast, Nat.mul_one, List.size_toArray, List.getElem?_toArray, List.length_cons, List.length_nil, Nat.zero_add, Nat.add_zero, List.drop_zero, List.take_succ_cons, List.take_zero, List.drop_succ_cons, List.all_cons, List.all_nil, Bool.and_true, Bool.and_self, and_self]
    generalize hmA : Mem.set _ m'.next (AObj.cells (wk N (upd (upd (toOf (l.take j)) (2 * j) (g : Int)) (2 * j + 1) (f : Int)) (upd (upd (capOf (l.take j)) (2 * j) x.c) (2 * j + 1) 0) at_) 89 825) = mA
    have a0 : mA.get m'.next = some (.cells (wk N (upd (upd (toOf (l.take j)) (2 * j) (g : Int)) (2 * j + 1) (f : Int)) (upd (upd (capOf (l.take j)) (2 * j) x.c) (2 * j + 1) 0) at_) 89 825) := by rw [← hmA, Mem.get_set]
    have a1 : mA.get (m'.next + 1) = some (.cells [.pointer (some ⟨m'.next, 0, none⟩)] 82 1) := by rw [← hmA]; simp (decide := true) only [j3, n1', EV2, MVn, qv, qvK, List.set_cons_zero, List.set_cons_succ, List.toList_toArray, Int.reduceToNat, Nat.reduceAdd, Nat.reduceMul, Nat.one_mul, Bool.not_true, Bool.not_false, EV, step, List.map_cons, List.map_nil, Option.map_some, Option.map_none, if_true, if_false, reduceIte, List.getElem?_cons_zero, List.getElem?_cons_succ, Option.getD_some, List.nil_append, List.append_nil, List.cons_append, List.getElem?_nil, Option.getD_none, true_implies, false_implies, not_true_eq_false, not_false_eq_true, and_true, true_and, decide_true, decide_false, Int.natCast_nonneg, Int.toNat_natCast, Nat.mul_one, List.size_toArray, List.getElem?_toArray, List.length_cons, List.length_nil, Nat.zero_add, Nat.add_zero, List.drop_zero, List.take_succ_cons, List.take_zero, List.drop_succ_cons, List.all_cons, List.all_nil, Bool.and_true, Bool.and_self, and_self]
    have a2 : mA.get (m'.next + 1 + 1) = some (.cells [.int .i64 ((2 * j : Nat) : Int)] 3 1) := by rw [← hmA]; simp (decide := true) only [j4, n2', EV2, MVn, qv, qvK, List.set_cons_zero, List.set_cons_succ, List.toList_toArray, Int.reduceToNat, Nat.reduceAdd, Nat.reduceMul, Nat.one_mul, Bool.not_true, Bool.not_false, EV, step, List.map_cons, List.map_nil, Option.map_some, Option.map_none, if_true, if_false, reduceIte, List.getElem?_cons_zero, List.getElem?_cons_succ, Option.getD_some, List.nil_append, List.append_nil, List.cons_append, List.getElem?_nil, Option.getD_none, true_implies, false_implies, not_true_eq_false, not_false_eq_true, and_true, true_and, decide_true, decide_false, Int.natCast_nonneg, Int.toNat_natCast, Nat.mul_one, List.size_toArray, List.getElem?_toArray, List.length_cons, List.length_nil, Nat.zero_add, Nat.add_zero, List.drop_zero, List.take_succ_cons, List.take_zero, List.drop_succ_cons, List.all_cons, List.all_nil, Bool.and_true, Bool.and_self, and_self]
    have a3 : mA.get m1.next = some (.cells [.int .i64 f, .int .i64 g, .int .i64 x.c] 73 3) := by rw [← hmA]; simp (decide := true) only [n0, EV2, MVn, qv, qvK, List.set_cons_zero, List.set_cons_succ, List.toList_toArray, Int.reduceToNat, Nat.reduceAdd, Nat.reduceMul, Nat.one_mul, Bool.not_true, Bool.not_false, EV, step, List.map_cons, List.map_nil, Option.map_some, Option.map_none, if_true, if_false, reduceIte, List.getElem?_cons_zero, List.getElem?_cons_succ, Option.getD_some, List.nil_append, List.append_nil, List.cons_append, List.getElem?_nil, Option.getD_none, true_implies, false_implies, not_true_eq_false, not_false_eq_true, and_true, true_and, decide_true, decide_false, Int.natCast_nonneg, Int.toNat_natCast, Nat.mul_one, List.size_toArray, List.getElem?_toArray, List.length_cons, List.length_nil, Nat.zero_add, Nat.add_zero, List.drop_zero, List.take_succ_cons, List.take_zero, List.drop_succ_cons, List.all_cons, List.all_nil, Bool.and_true, Bool.and_self, and_self]
    have an : mA.next = m1.next + 1 := by rw [← hmA]; simp only [next_set, Mem.next_new, next_kill]
    have ag : ∀ i, m'.next + 5 ≤ i → i < m1.next → mA.get i = m1.get i := by
      intro i h1 h2
      have q1 : (i = m'.next) = False := eq_false (by omega)
      have q2 : (i = m1.next) = False := eq_false (by omega)
      have q3 : (i = m'.next + 1 + 1 + 1 + 1) = False := eq_false (by omega)
      rw [← hmA]; simp (decide := true) only [q1, q2, q3, EV2, MVn, qv, qvK, List.set_cons_zero, List.set_cons_succ, List.toList_toArray, Int.reduceToNat, Nat.reduceAdd, Nat.reduceMul, Nat.one_mul, Bool.not_true, Bool.not_false, EV, step, List.map_cons, List.map_nil, Option.map_some, Option.map_none, if_true, if_false, reduceIte, List.getElem?_cons_zero, List.getElem?_cons_succ, Option.getD_some, List.nil_append, List.append_nil, List.cons_append, List.getElem?_nil, Option.getD_none, true_implies, false_implies, not_true_eq_false, not_false_eq_true, and_true, true_and, decide_true, decide_false, Int.natCast_nonneg, Int.toNat_natCast, Nat.mul_one, List.size_toArray, List.getElem?_toArray, List.length_cons, List.length_nil, Nat.zero_add, Nat.add_zero, List.drop_zero, List.take_succ_cons, List.take_zero, List.drop_succ_cons, List.all_cons, List.all_nil, Bool.and_true, Bool.and_self, and_self]
    have am : Mext m' mA := by
      rw [← hmA]
      exact ((((((j1.kill (by omega)).new _).set (by omega) _).set (by omega) _).set (by omega) _).set (by omega) _).set (by omega) _
    clear hmA
    have accA : ∀ p, p < 24 → Acc mb mA (at_ p) (intCells (adjOf (l.take j) p)) 3 1 := fun p hp => (j7 p hp).of_get (by omega) fun i h1 h2 _ => ag i h1 h2
    have alen : ∀ p, (intCells (adjOf (l.take j) p)).length < 1000000 := fun p => by
      unfold intCells
      have := adjOf_len (l.take j) p
      rw [List.length_take] at this
      rw [List.length_map]; omega
    have aone : ∀ p, ∀ y ∈ intCells (adjOf (l.take j) p), y.length = 1 := fun p y hy => by obtain ⟨_, _, rfl⟩ := List.mem_map.1 hy; rfl
    obtain ⟨v1, mB, hB, accB, ⟨nn, cc, rfl⟩, bn, bk⟩ := app1_acc2 (bytes := 8) (x := [.int .i64 ((2 * j : Nat) : Int)]) (accA f i5) (by show m'.next + 5 ≤ mA.next; omega) (aone f) rfl rfl (alen f) (by omega)
    have rowF : ∀ i, i < m'.next + 5 ∨ i = m1.next → ∀ a n c, at_ f = .slice (some a) n c → a.block ≠ i := fun i hi a n c hv => by
      have := (j7 f i5).row a n c hv
      simp only [mb] at this
      omega
    have b0 := (bk m'.next (by omega) (rowF _ (by omega))).trans a0
    have b1 := (bk (m'.next + 1) (by omega) (rowF _ (by omega))).trans a1
    have b2 := (bk (m'.next + 1 + 1) (by omega) (rowF _ (by omega))).trans a2
    have b3 := (bk m1.next (by omega) (rowF _ (by omega))).trans a3
    have accBp : ∀ p, p < 24 → p ≠ f → Acc mb mB (at_ p) (intCells (adjOf (l.take j) p)) 3 1 := fun p hp hpf => (accA p hp).of_get2 (by omega) fun a n c hv h1 h2 => bk _ h2 fun a' n' c' hv' => j8 f p _ _ _ _ _ _ i5 hp (Ne.symm hpf) hv' hv
    obtain ⟨v2, mC, hC, accC, ⟨nn2, cc2, rfl⟩, cn, ck⟩ := app1_acc2 (bytes := 8) (x := [.int .i64 ((2 * j + 1 : Nat) : Int)]) (accBp g i6 (Ne.symm hfg)) (by show m'.next + 5 ≤ mB.next; omega) (aone g) rfl rfl (alen g) (by omega)
    have rowG : ∀ i, i < m'.next + 5 ∨ i = m1.next ∨ i = mA.next → ∀ a n c, at_ g = .slice (some a) n c → a.block ≠ i := fun i hi a n c hv => by
      have := (j7 g i6).row a n c hv
      simp only [mb] at this
      omega
    have c0 := (ck m'.next (by omega) (rowG _ (by omega))).trans b0
    have c1 := (ck (m'.next + 1) (by omega) (rowG _ (by omega))).trans b1
    have c2 := (ck (m'.next + 1 + 1) (by omega) (rowG _ (by omega))).trans b2
    have c3 := (ck m1.next (by omega) (rowG _ (by omega))).trans b3
    have hfg' : (g = f) = False := eq_false (Ne.symm hfg)
    simp (decide := true) only [hB, hC, a0, a1, a2, a3, b0, b1, b2, b3, c0, c1, c2, c3, n0', n1', n2', n0, n1, n2, i3, i4, i5, i6, w2, l3 _ i5, l3 _ i6, wk_at, wk_set_at, wk_len, List.length_singleton, EV2, MVn, qv, qvK, List.set_cons_zero, List.set_cons_succ, List.toList_toArray, Int.reduceToNat, Nat.reduceAdd, Nat.reduceMul, Nat.one_mul, Bool.not_true, Bool.not_false, EV, step, List.map_cons, List.map_nil, Option.map_some, Option.map_none, if_true, if_false, reduceIte, List.getElem?_cons_zero, List.getElem?_cons_succ, Option.getD_some, List.nil_append, List.append_nil, List.cons_append, List.getElem?_nil, Option.getD_none, true_implies, false_implies, not_true_eq_false, not_false_eq_true, and_true, true_and, decide_true, decide_false, Int.natCast_nonneg, Int.toNat_natCast, Nat.mul_one, List.size_toArray, List.getElem?_toArray, List.length_cons, List.length_nil, Nat.zero_add, Nat.add_zero, List.drop_zero, List.take_succ_cons, List.take_zero, List.drop_succ_cons, List.all_cons, List.all_nil, Bool.and_true, Bool.and_self, and_self]
    obtain ⟨htake, htl⟩ := take_snoc hx
    have keep : ∀ i, i < mA.next → (∀ a n c, at_ f = .slice (some a) n c → a.block ≠ i) → (∀ a n c, at_ g = .slice (some a) n c → a.block ≠ i) → mC.get i = mA.get i := fun i hi h1 h2 => (ck i (by omega) h2).trans (bk i hi h1)
    have lowrow : ∀ i, i < m'.next + 5 → mC.get i = mA.get i := fun i hi => keep i (by omega) (rowF i (.inl hi)) (rowG i (.inl hi))
    have accF : Acc mb mC (.slice (some ⟨mA.next, 0, none⟩) nn cc) (intCells (adjOf (l.take j) f ++ [((2 * j : Nat) : Int)])) 3 1 := by
      have := accB.of_get2 (m' := mC) (by omega) fun a n c hv h1 h2 => by
        cases hv
        exact ck _ (by show mA.next < mB.next; omega) (rowG _ (.inr (.inr rfl)))
      unfold intCells at this ⊢
      rw [List.map_append]; exact this
    have accG : Acc mb mC (.slice (some ⟨mB.next, 0, none⟩) nn2 cc2) (intCells (adjOf (l.take j) g ++ [((2 * j + 1 : Nat) : Int)])) 3 1 := by
      unfold intCells at accC ⊢
      rw [List.map_append]; exact accC
    have accP : ∀ p, p < 24 → p ≠ f → p ≠ g → Acc mb mC (at_ p) (intCells (adjOf (l.take j) p)) 3 1 := fun p hp h1 h2 =>
      (accA p hp).of_get2 (by omega) fun a n c hv q1 q2 => keep _ q2 (fun a' n' c' hv' => j8 f p _ _ _ _ _ _ i5 hp (Ne.symm h1) hv' hv) (fun a' n' c' hv' => j8 g p _ _ _ _ _ _ i6 hp (Ne.symm h2) hv' hv)
    have setA : ∀ {v : Value} {l : List (List Value)} (i j k : Nat) (o1 o2 o3 o4 : AObj), Acc mb mC v l 3 1 → i < m'.next + 5 → j < m'.next + 5 → k < m'.next + 5 → Acc mb ((((mC.set i o1).set i o2).set j o3).set k o4) v l 3 1 := fun i j k o1 o2 o3 o4 h h1 h2 h3 => (((h.set h1 _).set h1 _).set h2 _).set h3 _
    refine ⟨rfl, ?_, ?_, ?_, ?_, Mem.get_set _ _ _, upd (upd at_ f (.slice (some ⟨mA.next, 0, none⟩) nn cc)) g (.slice (some ⟨mB.next, 0, none⟩) nn2 cc2), ?_, ?_, ?_⟩
    · have hmC : Mext m' mC := ⟨by have := am.next; omega, fun i hi => (lowrow i (by omega)).trans (am.get i hi)⟩
      exact (((hmC.set (by omega) _).set (by omega) _).set (by omega) _).set (by omega) _
    · simp only [next_set]; omega
    · simp (decide := true) only [c1, EV2, MVn, qv, qvK, List.set_cons_zero, List.set_cons_succ, List.toList_toArray, Int.reduceToNat, Nat.reduceAdd, Nat.reduceMul, Nat.one_mul, Bool.not_true, Bool.not_false, EV, step, List.map_cons, List.map_nil, Option.map_some, Option.map_none, if_true, if_false, reduceIte, List.getElem?_cons_zero, List.getElem?_cons_succ, Option.getD_some, List.nil_append, List.append_nil, List.cons_append, List.getElem?_nil, Option.getD_none, true_implies, false_implies, not_true_eq_false, not_false_eq_true, and_true, true_and, decide_true, decide_false, Int.natCast_nonneg, Int.toNat_natCast, Nat.mul_one, List.size_toArray, List.getElem?_toArray, List.length_cons, List.length_nil, Nat.zero_add, Nat.add_zero, List.drop_zero, List.take_succ_cons, List.take_zero, List.drop_succ_cons, List.all_cons, List.all_nil, Bool.and_true, Bool.and_self, and_self]
    · simp (decide := true) only [EV2, MVn, qv, qvK, List.set_cons_zero, List.set_cons_succ, List.toList_toArray, Int.reduceToNat, Nat.reduceAdd, Nat.reduceMul, Nat.one_mul, Bool.not_true, Bool.not_false, EV, step, List.map_cons, List.map_nil, Option.map_some, Option.map_none, if_true, if_false, reduceIte, List.getElem?_cons_zero, List.getElem?_cons_succ, Option.getD_some, List.nil_append, List.append_nil, List.cons_append, List.getElem?_nil, Option.getD_none, true_implies, false_implies, not_true_eq_false, not_false_eq_true, and_true, true_and, decide_true, decide_false, Int.natCast_nonneg, Int.toNat_natCast, Nat.mul_one, List.size_toArray, List.getElem?_toArray, List.length_cons, List.length_nil, Nat.zero_add, Nat.add_zero, List.drop_zero, List.take_succ_cons, List.take_zero, List.drop_succ_cons, List.all_cons, List.all_nil, Bool.and_true, Bool.and_self, and_self]
    · simp (decide := true) only [EV2, MVn, qv, qvK, List.set_cons_zero, List.set_cons_succ, List.toList_toArray, Int.reduceToNat, Nat.reduceAdd, Nat.reduceMul, Nat.one_mul, Bool.not_true, Bool.not_false, EV, step, List.map_cons, List.map_nil, Option.map_some, Option.map_none, if_true, if_false, reduceIte, List.getElem?_cons_zero, List.getElem?_cons_succ, Option.getD_some, List.nil_append, List.append_nil, List.cons_append, List.getElem?_nil, Option.getD_none, true_implies, false_implies, not_true_eq_false, not_false_eq_true, and_true, true_and, decide_true, decide_false, Int.natCast_nonneg, Int.toNat_natCast, Nat.mul_one, List.size_toArray, List.getElem?_toArray, List.length_cons, List.length_nil, Nat.zero_add, Nat.add_zero, List.drop_zero, List.take_succ_cons, List.take_zero, List.drop_succ_cons, List.all_cons, List.all_nil, Bool.and_true, Bool.and_self, and_self]
      rw [htake, toOf_snoc, capOf_snoc, htl, hf, hg2]
    · intro p hp
      refine setA _ _ _ _ _ _ _ ?_ (by omega) (by omega) (by omega)
      rw [htake, adjOf_snoc, htl, hf, hg2]
      by_cases h1 : p = g
      · subst h1
        rw [upd_same, if_neg (by omega), if_pos rfl, List.append_nil]; exact accG
      · rw [upd_ne _ _ h1]
        by_cases h2 : p = f
        · subst h2
          rw [upd_same, if_pos rfl, if_neg (by omega), List.append_nil]; exact accF
        · rw [upd_ne _ _ h2, if_neg (by omega), if_neg (by omega), List.append_nil, List.append_nil]; exact accP p hp h2 h1
    · intro p q a b n c n' c' hp hq hpq hv hw
      have rowp : ∀ p, p < 24 → ∀ a n c, at_ p = .slice (some a) n c → a.block < m1.next := fun p hp a n c hv => ((j7 p hp).row a n c hv).2
      by_cases h1 : p = g
      · subst h1
        rw [upd_same] at hv; cases hv
        rw [upd_ne _ _ (Ne.symm hpq)] at hw
        by_cases h2 : q = f
        · subst h2; rw [upd_same] at hw; cases hw; show mB.next ≠ mA.next; omega
        · rw [upd_ne _ _ h2] at hw; have := rowp q hq _ _ _ hw; show mB.next ≠ b.block; omega
      · rw [upd_ne _ _ h1] at hv
        by_cases h2 : p = f
        · subst h2
          rw [upd_same] at hv; cases hv
          by_cases h3 : q = g
          · subst h3; rw [upd_same] at hw; cases hw; show mA.next ≠ mB.next; omega
          · rw [upd_ne _ _ h3, upd_ne _ _ (Ne.symm hpq)] at hw; have := rowp q hq _ _ _ hw; show mA.next ≠ b.block; omega
        · rw [upd_ne _ _ h2] at hv
          have hr := rowp p hp _ _ _ hv
          by_cases h3 : q = g
          · subst h3; rw [upd_same] at hw; cases hw; show a.block ≠ mB.next; omega
          · rw [upd_ne _ _ h3] at hw
            by_cases h4 : q = f
            · subst h4; rw [upd_same] at hw; cases hw; show a.block ≠ mA.next; omega
            · rw [upd_ne _ _ h4] at hw; exact j8 p q _ _ _ _ _ _ hp hq hpq hv hw
  · rintro r m2 ⟨j1, j2, j3, j4, j5, at_, j6, j7, j8⟩
    refine ⟨j5, ?_⟩
    have n1 : (m'.next + 1 = m'.next + 1 + 1 + 1 + 1) = False := eq_false (by omega)
    simp (decide := true) only [j3, n1, EV2, MVn, qv, qvK, List.set_cons_zero, List.set_cons_succ, List.toList_toArray, Int.reduceToNat, Nat.reduceAdd, Nat.reduceMul, Nat.one_mul, Bool.not_true, Bool.not_false, EV, step, List.map_cons, List.map_nil, Option.map_some, Option.map_none, if_true, if_false, reduceIte, List.getElem?_cons_zero, List.getElem?_cons_succ, Option.getD_some, List.nil_append, List.append_nil, List.cons_append, List.getElem?_nil, Option.getD_none, true_implies, false_implies, not_true_eq_false, not_false_eq_true, and_true, true_and, decide_true, decide_false, Int.natCast_nonneg, Int.toNat_natCast, Nat.mul_one, List.size_toArray, List.getElem?_toArray, List.length_cons, List.length_nil, Nat.zero_add, Nat.add_zero, List.drop_zero, List.take_succ_cons, List.take_zero, List.drop_succ_cons, List.all_cons, List.all_nil, Bool.and_true, Bool.and_self, and_self]
    rw [List.take_length] at j6 j7
    refine hQ _ _ _ ⟨.inr rfl, [.pointer (some ⟨m'.next, 0, none⟩)], by simp [X34, R34, resL, sem, Slot.v], m'.next, rfl, Nat.le_refl _, ⟨at_, ?_, ?_, ?_⟩, j1.kill (by omega)⟩
    · rw [Mem.get_kill_ne _ _ (by omega)]; exact j6
    · rw [next_kill]; omega
    · intro p hp
      have := (j7 p hp).of_get2 (m' := m2.kill (m'.next + 1 + 1 + 1 + 1)) (Nat.le_refl _) fun a n c hv h1 h2 => Mem.get_kill_ne _ _ (by have : m'.next + 5 ≤ a.block := h1; omega)
      exact acc_sl this fun i hi => by have : m'.next + 5 ≤ i := hi; omega
end Go.Proofs.Ytnhodgonmceojaa.Sh
