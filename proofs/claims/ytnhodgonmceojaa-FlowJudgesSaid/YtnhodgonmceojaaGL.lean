/- FlowJudges: Rising, the capacity by the reference, the walk. -/
import Derived.Test.YtnhodgonmceojaaGJ
import Derived.Test.YtnhodgonmceojaaShNc
set_option linter.unusedVariables false
set_option linter.unusedSimpArgs false
namespace Go.Proofs.Ytnhodgonmceojaa.Sh
open Go.RowKit

theorem rising_step (n : Int) : ∀ (l : List Int) (last : Int), rising n last l = true ↔ ∀ i x, l[i]? = some x → (if i = 0 then last else l.getD (i - 1) 0) < x ∧ x < n
  | [], last => by simp [rising]
  | y :: r, last => by
    simp only [rising, Bool.and_eq_true, decide_eq_true_eq, rising_step n r y]
    constructor
    · rintro ⟨⟨h1, h2⟩, h3⟩ i x hx
      cases i with
      | zero => simp at hx; subst hx; exact ⟨h1, h2⟩
      | succ i =>
        simp at hx
        have := h3 i x hx
        cases i with
        | zero => simpa using this
        | succ i => simpa using this
    · intro h
      refine ⟨by simpa using h 0 y rfl, fun i x hx => ?_⟩
      have := h (i + 1) x (by simpa using hx)
      cases i with
      | zero => simpa using this
      | succ i => simpa using this

set_option maxHeartbeats 2000000 in
set_option maxRecDepth 100000 in
theorem rRising_spec {Γ : YEnv} (hΓ : YMono Γ) (n : Int) (l : List Int) (v : Value) (m : Mem) (h : Ints m v l) (hl : l.length < 1000000) :
    ACalls Try.prog Γ 20 [.int .i64 n, v] m fun r m' => r = .bool (rising n (-1) l) ∧ m' = m := by
  refine acallsW hΓ fok20 (by simp [X20]) fun Q hQ => ?_
  obtain ⟨ao, c, rfl⟩ := h.len
  have res : ∀ b : Bool, rising n (-1) l = b → ∀ e s, (e = .normal ∨ e = .ret) → (s 4).v = .bool b → Q e s m := by
    intro b hb e s h1 h2
    exact hQ _ _ _ ⟨h1, [.bool b], by simp [X20, R20, resL, h2], by rw [hb]; rfl, rfl⟩
  have bad : ∀ i x, l[i]? = some x → ¬ ((if i = 0 then -1 else l.getD (i - 1) 0) < x ∧ x < n) → rising n (-1) l = false := fun i x hx hn => by
    cases hr : rising n (-1) l with
    | false => rfl
    | true => exact absurd ((rising_step n l (-1)).1 hr i x hx) hn
  simp (decide := true) only [S20_0, S20_1, S20_2, S20_3, S20_4, S20_5, S20_6, S20_7, S20_8, S20_9, S20_10, S20_11, S20_12, S20_13, S20_14, S20_15, S20_16, S20_17, S20_18, S20_19, S20_20, S20, X20, G20, EV2, MVn, qv, qvK, List.set_cons_zero, List.set_cons_succ, List.toList_toArray, Int.reduceToNat, Nat.reduceAdd, Nat.reduceMul, Nat.one_mul, Bool.not_true, Bool.not_false, EV, step, List.map_cons, List.map_nil, Option.map_some, Option.map_none, if_true, if_false, reduceIte, List.getElem?_cons_zero, List.getElem?_cons_succ, Option.getD_some, List.nil_append, List.append_nil, List.cons_append, List.getElem?_nil, Option.getD_none, true_implies, false_implies, not_true_eq_false, not_false_eq_true, and_true, true_and, decide_true, decide_false, Int.natCast_nonneg, Int.toNat_natCast, Nat.mul_one, List.size_toArray, List.getElem?_toArray, List.length_cons, List.length_nil, Nat.zero_add, Nat.add_zero, List.drop_zero, List.take_succ_cons, List.take_zero, List.drop_succ_cons, List.all_cons, List.all_nil, Bool.and_true, Bool.and_self, and_self]
  refine W_loop (fun k s m' => ∃ i : Nat, i ≤ l.length ∧ k = l.length - i ∧ m' = m ∧ (∀ j x, j < i → l[j]? = some x → (if j = 0 then -1 else l.getD (j - 1) 0) < x ∧ x < n) ∧ (s 0).v = .int .i64 n ∧ (s 1).v = .slice ao l.length c ∧ (s 5).v = .int .i64 i)
    l.length ⟨0, by omega, rfl, rfl, fun j x hj => by omega, rfl, rfl, rfl⟩ hΓ ?_
  rintro k s m' ⟨i, hi, rfl, rfl, hall, s0, s1, s5⟩ Q1 hn he hret
  by_cases hlt : i < l.length
  · have hlt' : ((i : Int) < l.length) = True := eq_true (by omega)
    have hw : IntKind.wrap .i64 ((i : Int) + 1) = ((i + 1 : Nat) : Int) := by rw [wrap_i64 (by omega) (by omega)]; omega
    obtain ⟨a, rfl, _, _, c1⟩ := h.ld hlt
    have hx := List.getElem?_eq_getElem hlt
    have hbad := bad i _ hx
    have next : ((if i = 0 then -1 else l.getD (i - 1) 0) < l[i] ∧ l[i] < n) → ∀ f : Fr, (f 0).v = .int .i64 n → (f 1).v = .slice (some a) l.length c → (f 5).v = .int .i64 ((i + 1 : Nat) : Int) → Q1 .normal f m' := by
      intro hg f q0 q1 q5
      refine hn _ _ _ (by omega) ⟨i + 1, hlt, rfl, rfl, fun j x hj hjx => ?_, q0, q1, q5⟩
      by_cases e : j = i
      · subst e; rw [hx] at hjx; cases hjx; exact hg
      · exact hall j x (by omega) hjx
    by_cases h1 : l[i] < 0
    · simp (decide := true) only [s0, s1, s5, hlt', c1, h1, EV2, MVn, qv, qvK, List.set_cons_zero, List.set_cons_succ, List.toList_toArray, Int.reduceToNat, Nat.reduceAdd, Nat.reduceMul, Nat.one_mul, Bool.not_true, Bool.not_false, EV, step, List.map_cons, List.map_nil, Option.map_some, Option.map_none, if_true, if_false, reduceIte, List.getElem?_cons_zero, List.getElem?_cons_succ, Option.getD_some, List.nil_append, List.append_nil, List.cons_append, List.getElem?_nil, Option.getD_none, true_implies, false_implies, not_true_eq_false, not_false_eq_true, and_true, true_and, decide_true, decide_false, Int.natCast_nonneg, Int.toNat_natCast, Nat.mul_one, List.size_toArray, List.getElem?_toArray, List.length_cons, List.length_nil, Nat.zero_add, Nat.add_zero, List.drop_zero, List.take_succ_cons, List.take_zero, List.drop_succ_cons, List.all_cons, List.all_nil, Bool.and_true, Bool.and_self, and_self]
      refine hret _ _ ?_
      simp (decide := true) only [EV2, MVn, qv, qvK, List.set_cons_zero, List.set_cons_succ, List.toList_toArray, Int.reduceToNat, Nat.reduceAdd, Nat.reduceMul, Nat.one_mul, Bool.not_true, Bool.not_false, EV, step, List.map_cons, List.map_nil, Option.map_some, Option.map_none, if_true, if_false, reduceIte, List.getElem?_cons_zero, List.getElem?_cons_succ, Option.getD_some, List.nil_append, List.append_nil, List.cons_append, List.getElem?_nil, Option.getD_none, true_implies, false_implies, not_true_eq_false, not_false_eq_true, and_true, true_and, decide_true, decide_false, Int.natCast_nonneg, Int.toNat_natCast, Nat.mul_one, List.size_toArray, List.getElem?_toArray, List.length_cons, List.length_nil, Nat.zero_add, Nat.add_zero, List.drop_zero, List.take_succ_cons, List.take_zero, List.drop_succ_cons, List.all_cons, List.all_nil, Bool.and_true, Bool.and_self, and_self]
      refine res false (hbad ?_) _ _ (.inr rfl) (by rfl)
      by_cases e : i = 0
      · rw [if_pos e]; omega
      · rw [if_neg e]
        have hp := hall (i - 1) (l[i - 1]'(by omega)) (by omega) (List.getElem?_eq_getElem (by omega))
        rw [List.getD_eq_getElem?_getD, List.getElem?_eq_getElem (by omega : i - 1 < l.length)]
        have : -1 < l[i - 1]'(by omega) := by
          have key : ∀ j (hj : j < i), -1 < l[j]'(by omega) := by
            intro j
            induction j with
            | zero => intro hj; have := hall 0 _ hj (List.getElem?_eq_getElem (by omega)); simpa using this.1
            | succ j ih =>
              intro hj
              have h3 := (hall (j + 1) _ hj (List.getElem?_eq_getElem (by omega))).1
              have h4 := ih (by omega)
              rw [if_neg (by omega), Nat.add_sub_cancel, List.getD_eq_getElem?_getD, List.getElem?_eq_getElem (by omega : j < l.length)] at h3
              simp at h3; omega
          exact key (i - 1) (by omega)
        simp; omega
    · by_cases h2 : n ≤ l[i]
      · simp (decide := true) only [s0, s1, s5, hlt', c1, h1, h2, EV2, MVn, qv, qvK, List.set_cons_zero, List.set_cons_succ, List.toList_toArray, Int.reduceToNat, Nat.reduceAdd, Nat.reduceMul, Nat.one_mul, Bool.not_true, Bool.not_false, EV, step, List.map_cons, List.map_nil, Option.map_some, Option.map_none, if_true, if_false, reduceIte, List.getElem?_cons_zero, List.getElem?_cons_succ, Option.getD_some, List.nil_append, List.append_nil, List.cons_append, List.getElem?_nil, Option.getD_none, true_implies, false_implies, not_true_eq_false, not_false_eq_true, and_true, true_and, decide_true, decide_false, Int.natCast_nonneg, Int.toNat_natCast, Nat.mul_one, List.size_toArray, List.getElem?_toArray, List.length_cons, List.length_nil, Nat.zero_add, Nat.add_zero, List.drop_zero, List.take_succ_cons, List.take_zero, List.drop_succ_cons, List.all_cons, List.all_nil, Bool.and_true, Bool.and_self, and_self]
        refine hret _ _ ?_
        simp (decide := true) only [EV2, MVn, qv, qvK, List.set_cons_zero, List.set_cons_succ, List.toList_toArray, Int.reduceToNat, Nat.reduceAdd, Nat.reduceMul, Nat.one_mul, Bool.not_true, Bool.not_false, EV, step, List.map_cons, List.map_nil, Option.map_some, Option.map_none, if_true, if_false, reduceIte, List.getElem?_cons_zero, List.getElem?_cons_succ, Option.getD_some, List.nil_append, List.append_nil, List.cons_append, List.getElem?_nil, Option.getD_none, true_implies, false_implies, not_true_eq_false, not_false_eq_true, and_true, true_and, decide_true, decide_false, Int.natCast_nonneg, Int.toNat_natCast, Nat.mul_one, List.size_toArray, List.getElem?_toArray, List.length_cons, List.length_nil, Nat.zero_add, Nat.add_zero, List.drop_zero, List.take_succ_cons, List.take_zero, List.drop_succ_cons, List.all_cons, List.all_nil, Bool.and_true, Bool.and_self, and_self]
        exact res false (hbad (by omega)) _ _ (.inr rfl) (by rfl)
      · by_cases e : i = 0
        · have h0 : ((0 : Int) < (i : Int)) = False := eq_false (by omega)
          simp (decide := true) only [s0, s1, s5, hlt', c1, h1, h2, h0, hw, EV2, MVn, qv, qvK, List.set_cons_zero, List.set_cons_succ, List.toList_toArray, Int.reduceToNat, Nat.reduceAdd, Nat.reduceMul, Nat.one_mul, Bool.not_true, Bool.not_false, EV, step, List.map_cons, List.map_nil, Option.map_some, Option.map_none, if_true, if_false, reduceIte, List.getElem?_cons_zero, List.getElem?_cons_succ, Option.getD_some, List.nil_append, List.append_nil, List.cons_append, List.getElem?_nil, Option.getD_none, true_implies, false_implies, not_true_eq_false, not_false_eq_true, and_true, true_and, decide_true, decide_false, Int.natCast_nonneg, Int.toNat_natCast, Nat.mul_one, List.size_toArray, List.getElem?_toArray, List.length_cons, List.length_nil, Nat.zero_add, Nat.add_zero, List.drop_zero, List.take_succ_cons, List.take_zero, List.drop_succ_cons, List.all_cons, List.all_nil, Bool.and_true, Bool.and_self, and_self]
          exact next (by rw [if_pos e]; omega) _ (by simp [sem, s0]) (by simp [sem, s1]) (by simp [sem, Slot.v])
        · have h0 : ((0 : Int) < (i : Int)) = True := eq_true (by omega)
          have hw1 : IntKind.wrap .i64 ((i : Int) - 1) = ((i - 1 : Nat) : Int) := by rw [wrap_i64 (by omega) (by omega)]; omega
          have hlt1 : (((i - 1 : Nat) : Int) < l.length) = True := eq_true (by omega)
          obtain ⟨a', ha', _, _, c2⟩ := h.ld (j := i - 1) (by omega)
          cases ha'
          have hgd : l.getD (i - 1) 0 = l[i - 1]'(by omega) := by rw [List.getD_eq_getElem?_getD, List.getElem?_eq_getElem (by omega : i - 1 < l.length)]; rfl
          by_cases h3 : l[i] ≤ l[i - 1]'(by omega)
          · simp (decide := true) only [s0, s1, s5, hlt', c1, c2, h1, h2, h0, h3, hw1, hlt1, EV2, MVn, qv, qvK, List.set_cons_zero, List.set_cons_succ, List.toList_toArray, Int.reduceToNat, Nat.reduceAdd, Nat.reduceMul, Nat.one_mul, Bool.not_true, Bool.not_false, EV, step, List.map_cons, List.map_nil, Option.map_some, Option.map_none, if_true, if_false, reduceIte, List.getElem?_cons_zero, List.getElem?_cons_succ, Option.getD_some, List.nil_append, List.append_nil, List.cons_append, List.getElem?_nil, Option.getD_none, true_implies, false_implies, not_true_eq_false, not_false_eq_true, and_true, true_and, decide_true, decide_false, Int.natCast_nonneg, Int.toNat_natCast, Nat.mul_one, List.size_toArray, List.getElem?_toArray, List.length_cons, List.length_nil, Nat.zero_add, Nat.add_zero, List.drop_zero, List.take_succ_cons, List.take_zero, List.drop_succ_cons, List.all_cons, List.all_nil, Bool.and_true, Bool.and_self, and_self]
            refine hret _ _ ?_
            simp (decide := true) only [EV2, MVn, qv, qvK, List.set_cons_zero, List.set_cons_succ, List.toList_toArray, Int.reduceToNat, Nat.reduceAdd, Nat.reduceMul, Nat.one_mul, Bool.not_true, Bool.not_false, EV, step, List.map_cons, List.map_nil, Option.map_some, Option.map_none, if_true, if_false, reduceIte, List.getElem?_cons_zero, List.getElem?_cons_succ, Option.getD_some, List.nil_append, List.append_nil, List.cons_append, List.getElem?_nil, Option.getD_none, true_implies, false_implies, not_true_eq_false, not_false_eq_true, and_true, true_and, decide_true, decide_false, Int.natCast_nonneg, Int.toNat_natCast, Nat.mul_one, List.size_toArray, List.getElem?_toArray, List.length_cons, List.length_nil, Nat.zero_add, Nat.add_zero, List.drop_zero, List.take_succ_cons, List.take_zero, List.drop_succ_cons, List.all_cons, List.all_nil, Bool.and_true, Bool.and_self, and_self]
            exact res false (hbad (by rw [if_neg e, hgd]; omega)) _ _ (.inr rfl) (by rfl)
          · simp (decide := true) only [s0, s1, s5, hlt', c1, c2, h1, h2, h0, h3, hw1, hlt1, hw, EV2, MVn, qv, qvK, List.set_cons_zero, List.set_cons_succ, List.toList_toArray, Int.reduceToNat, Nat.reduceAdd, Nat.reduceMul, Nat.one_mul, Bool.not_true, Bool.not_false, EV, step, List.map_cons, List.map_nil, Option.map_some, Option.map_none, if_true, if_false, reduceIte, List.getElem?_cons_zero, List.getElem?_cons_succ, Option.getD_some, List.nil_append, List.append_nil, List.cons_append, List.getElem?_nil, Option.getD_none, true_implies, false_implies, not_true_eq_false, not_false_eq_true, and_true, true_and, decide_true, decide_false, Int.natCast_nonneg, Int.toNat_natCast, Nat.mul_one, List.size_toArray, List.getElem?_toArray, List.length_cons, List.length_nil, Nat.zero_add, Nat.add_zero, List.drop_zero, List.take_succ_cons, List.take_zero, List.drop_succ_cons, List.all_cons, List.all_nil, Bool.and_true, Bool.and_self, and_self]
            exact next (by rw [if_neg e, hgd]; omega) _ (by simp [sem, s0]) (by simp [sem, s1]) (by simp [sem, Slot.v])
  · have hlt' : ((i : Int) < l.length) = False := eq_false (by omega)
    simp (decide := true) only [s1, s5, hlt', EV2, MVn, qv, qvK, List.set_cons_zero, List.set_cons_succ, List.toList_toArray, Int.reduceToNat, Nat.reduceAdd, Nat.reduceMul, Nat.one_mul, Bool.not_true, Bool.not_false, EV, step, List.map_cons, List.map_nil, Option.map_some, Option.map_none, if_true, if_false, reduceIte, List.getElem?_cons_zero, List.getElem?_cons_succ, Option.getD_some, List.nil_append, List.append_nil, List.cons_append, List.getElem?_nil, Option.getD_none, true_implies, false_implies, not_true_eq_false, not_false_eq_true, and_true, true_and, decide_true, decide_false, Int.natCast_nonneg, Int.toNat_natCast, Nat.mul_one, List.size_toArray, List.getElem?_toArray, List.length_cons, List.length_nil, Nat.zero_add, Nat.add_zero, List.drop_zero, List.take_succ_cons, List.take_zero, List.drop_succ_cons, List.all_cons, List.all_nil, Bool.and_true, Bool.and_self, and_self]
    refine he _ _ _ ?_
    simp (decide := true) only [EV2, MVn, qv, qvK, List.set_cons_zero, List.set_cons_succ, List.toList_toArray, Int.reduceToNat, Nat.reduceAdd, Nat.reduceMul, Nat.one_mul, Bool.not_true, Bool.not_false, EV, step, List.map_cons, List.map_nil, Option.map_some, Option.map_none, if_true, if_false, reduceIte, List.getElem?_cons_zero, List.getElem?_cons_succ, Option.getD_some, List.nil_append, List.append_nil, List.cons_append, List.getElem?_nil, Option.getD_none, true_implies, false_implies, not_true_eq_false, not_false_eq_true, and_true, true_and, decide_true, decide_false, Int.natCast_nonneg, Int.toNat_natCast, Nat.mul_one, List.size_toArray, List.getElem?_toArray, List.length_cons, List.length_nil, Nat.zero_add, Nat.add_zero, List.drop_zero, List.take_succ_cons, List.take_zero, List.drop_succ_cons, List.all_cons, List.all_nil, Bool.and_true, Bool.and_self, and_self]
    refine res true ((rising_step n l (-1)).2 fun j x hj => ?_) _ _ (.inr rfl) (by rfl)
    exact hall j x (by have := (List.getElem?_eq_some_iff.1 hj).1; omega) hj

set_option maxHeartbeats 2000000 in
set_option maxRecDepth 100000 in
theorem rCapacity_spec {Γ : YEnv} (hΓ : YMono Γ) (N : Int) (l : List ArcI) (v : Value) (S : List Int) (sv : Value) (m : Mem) (h : Arcs m v l) (hs : Ints m sv S) (hok : ∀ a ∈ l, ArcI.ok N a) (hl : l.length ≤ 200) (hsl : S.length < 1000000) :
    ACalls Try.prog Γ 21 [.agg #[.int .i64 N, v], sv] m fun r m' => r = .int .i64 (capSum S l) ∧ Mext m m' := by
  refine acallsW hΓ fok21 (by simp [X21]) fun Q hQ => ?_
  obtain ⟨ao, c, rfl⟩ := h.len
  have hm1 : Mext m (m.new (.cells [.int .i64 N, .slice ao l.length c] 24 2)) := (Mext.refl m).new _
  simp (decide := true) only [S21_0, S21_1, S21_2, S21_3, S21_4, S21_5, S21_6, S21_7, S21_8, S21_9, S21_10, S21_11, S21_12, S21_13, S21_14, S21_15, S21_16, S21_17, S21_18, S21_19, S21_20, S21_21, S21, X21, G21, EV2, MVn, qv, qvK, List.set_cons_zero, List.set_cons_succ, List.toList_toArray, Int.reduceToNat, Nat.reduceAdd, Nat.reduceMul, Nat.one_mul, Bool.not_true, Bool.not_false, EV, step, List.map_cons, List.map_nil, Option.map_some, Option.map_none, if_true, if_false, reduceIte, List.getElem?_cons_zero, List.getElem?_cons_succ, Option.getD_some, List.nil_append, List.append_nil, List.cons_append, List.getElem?_nil, Option.getD_none, true_implies, false_implies, not_true_eq_false, not_false_eq_true, and_true, true_and, decide_true, decide_false, Int.natCast_nonneg, Int.toNat_natCast, Nat.mul_one, List.size_toArray, List.getElem?_toArray, List.length_cons, List.length_nil, Nat.zero_add, Nat.add_zero, List.drop_zero, List.take_succ_cons, List.take_zero, List.drop_succ_cons, List.all_cons, List.all_nil, Bool.and_true, Bool.and_self, and_self]
  refine W_loop (fun k f m' => ∃ i : Nat, i ≤ l.length ∧ k = l.length - i ∧ m' = m.new (.cells [.int .i64 N, .slice ao l.length c] 24 2) ∧ (f 1).v = sv ∧ (f 2).v = .pointer (some ⟨m.next, 0, none⟩) ∧ (f 5).v = .int .i64 (capSum S (l.take i)) ∧ (f 6).v = .int .i64 i)
    l.length ⟨0, by omega, rfl, rfl, rfl, rfl, rfl, rfl⟩ hΓ ?_
  rintro k f m' ⟨i, hi, rfl, rfl, f1, f2, f5, f6⟩ Q1 hn he hret
  by_cases hlt : i < l.length
  · have hlt' : ((i : Int) < l.length) = True := eq_true (by omega)
    have hw1 : IntKind.wrap .i64 ((i : Int) + 1) = ((i + 1 : Nat) : Int) := by rw [wrap_i64 (by omega) (by omega)]; omega
    obtain ⟨a, rfl, _, ha, _, c0, c1, c2⟩ := h.ld hlt
    have hmem : l[i] ∈ l := List.getElem_mem hlt
    have htake : l.take (i + 1) = l.take i ++ [l[i]] := (List.take_append_getElem hlt).symm
    generalize l[i] = y at hmem htake c0 c1 c2
    have hyc := (hok y hmem).2.2.2
    have na : (a.block = m.next) = False := eq_false (by omega)
    have hb := capSum_bound S (l.take i) fun b hb => ⟨(hok b (List.mem_of_mem_take hb)).2.2.2.1, (hok b (List.mem_of_mem_take hb)).2.2.2.2⟩
    have hlen : (l.take i).length ≤ 200 := by rw [List.length_take]; omega
    have hsum : capSum S (l.take (i + 1)) = capSum S (l.take i) + (if y.f ∈ S ∧ y.t ∉ S then y.c else 0) := by rw [htake, capSum_append]; simp [capSum]
    have hws : IntKind.wrap .i64 (capSum S (l.take i) + y.c) = capSum S (l.take i) + y.c := wrap_i64 (by omega) (by omega)
    have fin : ∀ (z : Int) (f2 : Fr), z = capSum S (l.take (i + 1)) → (f2 1).v = sv → (f2 2).v = .pointer (some ⟨m.next, 0, none⟩) → (f2 5).v = .int .i64 z → (f2 6).v = .int .i64 ((i + 1 : Nat) : Int) → Q1 .normal f2 (m.new (.cells [.int .i64 N, .slice (some a) l.length c] 24 2)) := by
      intro z f2 hz g1 g2 g5 g6
      exact hn _ _ _ (by omega) ⟨i + 1, hlt, rfl, rfl, g1, g2, by rw [g5, hz], g6⟩
    have hs1 := hs.mext hm1
    simp (decide := true) only [f1, f2, f5, f6, hlt', na, c0, c1, c2, EV2, MVn, qv, qvK, List.set_cons_zero, List.set_cons_succ, List.toList_toArray, Int.reduceToNat, Nat.reduceAdd, Nat.reduceMul, Nat.one_mul, Bool.not_true, Bool.not_false, EV, step, List.map_cons, List.map_nil, Option.map_some, Option.map_none, if_true, if_false, reduceIte, List.getElem?_cons_zero, List.getElem?_cons_succ, Option.getD_some, List.nil_append, List.append_nil, List.cons_append, List.getElem?_nil, Option.getD_none, true_implies, false_implies, not_true_eq_false, not_false_eq_true, and_true, true_and, decide_true, decide_false, Int.natCast_nonneg, Int.toNat_natCast, Nat.mul_one, List.size_toArray, List.getElem?_toArray, List.length_cons, List.length_nil, Nat.zero_add, Nat.add_zero, List.drop_zero, List.take_succ_cons, List.take_zero, List.drop_succ_cons, List.all_cons, List.all_nil, Bool.and_true, Bool.and_self, and_self]
    refine callK_fn ((has_spec hΓ y.f S sv _ hs1 hsl).mono ?_)
    rintro r m2 ⟨rfl, rfl⟩
    by_cases h1 : y.f ∈ S
    · simp (decide := true) only [eq_true h1, f1, f2, f6, hlt', na, c0, c1, c2, EV2, MVn, qv, qvK, List.set_cons_zero, List.set_cons_succ, List.toList_toArray, Int.reduceToNat, Nat.reduceAdd, Nat.reduceMul, Nat.one_mul, Bool.not_true, Bool.not_false, EV, step, List.map_cons, List.map_nil, Option.map_some, Option.map_none, if_true, if_false, reduceIte, List.getElem?_cons_zero, List.getElem?_cons_succ, Option.getD_some, List.nil_append, List.append_nil, List.cons_append, List.getElem?_nil, Option.getD_none, true_implies, false_implies, not_true_eq_false, not_false_eq_true, and_true, true_and, decide_true, decide_false, Int.natCast_nonneg, Int.toNat_natCast, Nat.mul_one, List.size_toArray, List.getElem?_toArray, List.length_cons, List.length_nil, Nat.zero_add, Nat.add_zero, List.drop_zero, List.take_succ_cons, List.take_zero, List.drop_succ_cons, List.all_cons, List.all_nil, Bool.and_true, Bool.and_self, and_self]
      refine callK_fn ((has_spec hΓ y.t S sv _ hs1 hsl).mono ?_)
      rintro r m2 ⟨rfl, rfl⟩
      by_cases h2 : y.t ∈ S
      · simp (decide := true) only [eq_true h2, f5, f6, hw1, EV2, MVn, qv, qvK, List.set_cons_zero, List.set_cons_succ, List.toList_toArray, Int.reduceToNat, Nat.reduceAdd, Nat.reduceMul, Nat.one_mul, Bool.not_true, Bool.not_false, EV, step, List.map_cons, List.map_nil, Option.map_some, Option.map_none, if_true, if_false, reduceIte, List.getElem?_cons_zero, List.getElem?_cons_succ, Option.getD_some, List.nil_append, List.append_nil, List.cons_append, List.getElem?_nil, Option.getD_none, true_implies, false_implies, not_true_eq_false, not_false_eq_true, and_true, true_and, decide_true, decide_false, Int.natCast_nonneg, Int.toNat_natCast, Nat.mul_one, List.size_toArray, List.getElem?_toArray, List.length_cons, List.length_nil, Nat.zero_add, Nat.add_zero, List.drop_zero, List.take_succ_cons, List.take_zero, List.drop_succ_cons, List.all_cons, List.all_nil, Bool.and_true, Bool.and_self, and_self]
        exact fin (capSum S (l.take i)) _ (by rw [hsum, if_neg (fun h => h.2 h2)]; omega) (by simp [sem, f1]) (by simp [sem, f2]) (by simp [sem, f5]) (by simp [sem, Slot.v])
      · simp (decide := true) only [eq_false h2, f2, f5, f6, hlt', na, c0, c1, c2, hws, hw1, EV2, MVn, qv, qvK, List.set_cons_zero, List.set_cons_succ, List.toList_toArray, Int.reduceToNat, Nat.reduceAdd, Nat.reduceMul, Nat.one_mul, Bool.not_true, Bool.not_false, EV, step, List.map_cons, List.map_nil, Option.map_some, Option.map_none, if_true, if_false, reduceIte, List.getElem?_cons_zero, List.getElem?_cons_succ, Option.getD_some, List.nil_append, List.append_nil, List.cons_append, List.getElem?_nil, Option.getD_none, true_implies, false_implies, not_true_eq_false, not_false_eq_true, and_true, true_and, decide_true, decide_false, Int.natCast_nonneg, Int.toNat_natCast, Nat.mul_one, List.size_toArray, List.getElem?_toArray, List.length_cons, List.length_nil, Nat.zero_add, Nat.add_zero, List.drop_zero, List.take_succ_cons, List.take_zero, List.drop_succ_cons, List.all_cons, List.all_nil, Bool.and_true, Bool.and_self, and_self]
        exact fin (capSum S (l.take i) + y.c) _ (by rw [hsum, if_pos ⟨h1, h2⟩]) (by simp [sem, f1]) (by simp [sem, f2]) (by simp [sem, Slot.v]) (by simp [sem, Slot.v])
    · simp (decide := true) only [eq_false h1, f5, f6, hw1, EV2, MVn, qv, qvK, List.set_cons_zero, List.set_cons_succ, List.toList_toArray, Int.reduceToNat, Nat.reduceAdd, Nat.reduceMul, Nat.one_mul, Bool.not_true, Bool.not_false, EV, step, List.map_cons, List.map_nil, Option.map_some, Option.map_none, if_true, if_false, reduceIte, List.getElem?_cons_zero, List.getElem?_cons_succ, Option.getD_some, List.nil_append, List.append_nil, List.cons_append, List.getElem?_nil, Option.getD_none, true_implies, false_implies, not_true_eq_false, not_false_eq_true, and_true, true_and, decide_true, decide_false, Int.natCast_nonneg, Int.toNat_natCast, Nat.mul_one, List.size_toArray, List.getElem?_toArray, List.length_cons, List.length_nil, Nat.zero_add, Nat.add_zero, List.drop_zero, List.take_succ_cons, List.take_zero, List.drop_succ_cons, List.all_cons, List.all_nil, Bool.and_true, Bool.and_self, and_self]
      exact fin (capSum S (l.take i)) _ (by rw [hsum, if_neg (fun h => h1 h.1)]; omega) (by simp [sem, f1]) (by simp [sem, f2]) (by simp [sem, f5]) (by simp [sem, Slot.v])
  · have hlt' : ((i : Int) < l.length) = False := eq_false (by omega)
    simp (decide := true) only [f2, f6, hlt', EV2, MVn, qv, qvK, List.set_cons_zero, List.set_cons_succ, List.toList_toArray, Int.reduceToNat, Nat.reduceAdd, Nat.reduceMul, Nat.one_mul, Bool.not_true, Bool.not_false, EV, step, List.map_cons, List.map_nil, Option.map_some, Option.map_none, if_true, if_false, reduceIte, List.getElem?_cons_zero, List.getElem?_cons_succ, Option.getD_some, List.nil_append, List.append_nil, List.cons_append, List.getElem?_nil, Option.getD_none, true_implies, false_implies, not_true_eq_false, not_false_eq_true, and_true, true_and, decide_true, decide_false, Int.natCast_nonneg, Int.toNat_natCast, Nat.mul_one, List.size_toArray, List.getElem?_toArray, List.length_cons, List.length_nil, Nat.zero_add, Nat.add_zero, List.drop_zero, List.take_succ_cons, List.take_zero, List.drop_succ_cons, List.all_cons, List.all_nil, Bool.and_true, Bool.and_self, and_self]
    refine he _ _ _ ?_
    rw [List.take_of_length_le (by omega)] at f5
    simp (decide := true) only [f5, EV2, MVn, qv, qvK, List.set_cons_zero, List.set_cons_succ, List.toList_toArray, Int.reduceToNat, Nat.reduceAdd, Nat.reduceMul, Nat.one_mul, Bool.not_true, Bool.not_false, EV, step, List.map_cons, List.map_nil, Option.map_some, Option.map_none, if_true, if_false, reduceIte, List.getElem?_cons_zero, List.getElem?_cons_succ, Option.getD_some, List.nil_append, List.append_nil, List.cons_append, List.getElem?_nil, Option.getD_none, true_implies, false_implies, not_true_eq_false, not_false_eq_true, and_true, true_and, decide_true, decide_false, Int.natCast_nonneg, Int.toNat_natCast, Nat.mul_one, List.size_toArray, List.getElem?_toArray, List.length_cons, List.length_nil, Nat.zero_add, Nat.add_zero, List.drop_zero, List.take_succ_cons, List.take_zero, List.drop_succ_cons, List.all_cons, List.all_nil, Bool.and_true, Bool.and_self, and_self]
    exact hQ _ _ _ ⟨.inr rfl, [.int .i64 (capSum S l)], by simp [X21, R21, resL, sem, Slot.v], rfl, hm1⟩
end Go.Proofs.Ytnhodgonmceojaa.Sh
