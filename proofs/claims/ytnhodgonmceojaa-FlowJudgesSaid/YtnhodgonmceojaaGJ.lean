/- FlowEither: Has, sets by digits, the plain law, the walk. -/
import Derived.Test.YtnhodgonmceojaaGG
import Derived.Test.YtnhodgonmceojaaFAw
import Derived.Test.YtnhodgonmceojaaFJ
set_option linter.unusedVariables false
set_option linter.unusedSimpArgs false
namespace Go.Proofs.Ytnhodgonmceojaa.Sh
open Go.RowKit

theorem has_spec {Γ : YEnv} (hΓ : YMono Γ) (x : Int) (l : List Int) (v : Value) (m : Mem) (h : Ints m v l) (hl : l.length < 1000000) : ACalls Try.prog Γ 22 [v, .int .i64 x] m fun r m' => r = .bool (decide (x ∈ l)) ∧ m' = m := by
  refine acallsW hΓ fok22 (by simp [X22]) fun Q hQ => ?_
  obtain ⟨ao, c, rfl⟩ := h.len
  have res : ∀ b : Bool, decide (x ∈ l) = b → ∀ e s, (e = .normal ∨ e = .ret) → (s 4).v = .bool b → Q e s m := by
    intro b hb e s h1 h2
    exact hQ _ _ _ ⟨h1, [.bool b], by simp [X22, R22, resL, h2], by rw [hb]; rfl, rfl⟩
  simp (decide := true) only [S22_0, S22_1, S22_2, S22_3, S22_4, S22_5, S22_6, S22_7, S22_8, S22_9, S22_10, S22_11, S22_12, S22_13, S22_14, S22_15, S22_16, S22_17, S22_18, S22_19, S22_20, S22, X22, G22, EV2, MVn, qv, qvK, List.set_cons_zero, List.set_cons_succ, List.toList_toArray, Int.reduceToNat, Nat.reduceAdd, Nat.reduceMul, Nat.one_mul, Bool.not_true, Bool.not_false, EV, step, List.map_cons, List.map_nil, Option.map_some, Option.map_none, if_true, if_false, reduceIte, List.getElem?_cons_zero, List.getElem?_cons_succ, Option.getD_some, List.nil_append, List.append_nil, List.cons_append, List.getElem?_nil, Option.getD_none, true_implies, false_implies, not_true_eq_false, not_false_eq_true, and_true, true_and, decide_true, decide_false, Int.natCast_nonneg, Int.toNat_natCast, Nat.mul_one, List.size_toArray, List.getElem?_toArray, List.length_cons, List.length_nil, Nat.zero_add, Nat.add_zero, List.drop_zero, List.take_succ_cons, List.take_zero, List.drop_succ_cons, List.all_cons, List.all_nil, Bool.and_true, Bool.and_self, and_self]
  refine W_loop (fun k s m' => ∃ i : Nat, i ≤ l.length ∧ k = l.length - i ∧ m' = m ∧ x ∉ l.take i ∧ (s 0).v = .slice ao l.length c ∧ (s 1).v = .int .i64 x ∧ (s 5).v = .int .i64 i)
    l.length ⟨0, by omega, rfl, rfl, by simp, rfl, rfl, rfl⟩ hΓ ?_
  rintro k s m' ⟨i, hi, rfl, rfl, hx, s0, s1, s5⟩ Q1 hn he hret
  by_cases hlt : i < l.length
  · have hlt' : ((i : Int) < l.length) = True := eq_true (by omega)
    have hw : IntKind.wrap .i64 ((i : Int) + 1) = ((i + 1 : Nat) : Int) := by rw [wrap_i64 (by omega) (by omega)]; omega
    obtain ⟨a, rfl, _, _, c1⟩ := h.ld hlt
    by_cases hy : l[i] = x
    · simp (decide := true) only [s0, s1, s5, hlt', c1, eq_true hy, hw, EV2, MVn, qv, qvK, List.set_cons_zero, List.set_cons_succ, List.toList_toArray, Int.reduceToNat, Nat.reduceAdd, Nat.reduceMul, Nat.one_mul, Bool.not_true, Bool.not_false, EV, step, List.map_cons, List.map_nil, Option.map_some, Option.map_none, if_true, if_false, reduceIte, List.getElem?_cons_zero, List.getElem?_cons_succ, Option.getD_some, List.nil_append, List.append_nil, List.cons_append, List.getElem?_nil, Option.getD_none, true_implies, false_implies, not_true_eq_false, not_false_eq_true, and_true, true_and, decide_true, decide_false, Int.natCast_nonneg, Int.toNat_natCast, Nat.mul_one, List.size_toArray, List.getElem?_toArray, List.length_cons, List.length_nil, Nat.zero_add, Nat.add_zero, List.drop_zero, List.take_succ_cons, List.take_zero, List.drop_succ_cons, List.all_cons, List.all_nil, Bool.and_true, Bool.and_self, and_self]
      refine hret _ _ ?_
      simp (decide := true) only [EV2, MVn, qv, qvK, List.set_cons_zero, List.set_cons_succ, List.toList_toArray, Int.reduceToNat, Nat.reduceAdd, Nat.reduceMul, Nat.one_mul, Bool.not_true, Bool.not_false, EV, step, List.map_cons, List.map_nil, Option.map_some, Option.map_none, if_true, if_false, reduceIte, List.getElem?_cons_zero, List.getElem?_cons_succ, Option.getD_some, List.nil_append, List.append_nil, List.cons_append, List.getElem?_nil, Option.getD_none, true_implies, false_implies, not_true_eq_false, not_false_eq_true, and_true, true_and, decide_true, decide_false, Int.natCast_nonneg, Int.toNat_natCast, Nat.mul_one, List.size_toArray, List.getElem?_toArray, List.length_cons, List.length_nil, Nat.zero_add, Nat.add_zero, List.drop_zero, List.take_succ_cons, List.take_zero, List.drop_succ_cons, List.all_cons, List.all_nil, Bool.and_true, Bool.and_self, and_self]
      exact res true (by simp; rw [← hy]; exact List.getElem_mem hlt) _ _ (.inr rfl) (by rfl)
    · simp (decide := true) only [s0, s1, s5, hlt', c1, hy, hw, EV2, MVn, qv, qvK, List.set_cons_zero, List.set_cons_succ, List.toList_toArray, Int.reduceToNat, Nat.reduceAdd, Nat.reduceMul, Nat.one_mul, Bool.not_true, Bool.not_false, EV, step, List.map_cons, List.map_nil, Option.map_some, Option.map_none, if_true, if_false, reduceIte, List.getElem?_cons_zero, List.getElem?_cons_succ, Option.getD_some, List.nil_append, List.append_nil, List.cons_append, List.getElem?_nil, Option.getD_none, true_implies, false_implies, not_true_eq_false, not_false_eq_true, and_true, true_and, decide_true, decide_false, Int.natCast_nonneg, Int.toNat_natCast, Nat.mul_one, List.size_toArray, List.getElem?_toArray, List.length_cons, List.length_nil, Nat.zero_add, Nat.add_zero, List.drop_zero, List.take_succ_cons, List.take_zero, List.drop_succ_cons, List.all_cons, List.all_nil, Bool.and_true, Bool.and_self, and_self]
      refine hn _ _ _ (by omega) ⟨i + 1, hlt, rfl, rfl, ?_, by simp [sem, s0], by simp [sem, s1], by simp [sem, Slot.v]⟩
      rw [← List.take_append_getElem hlt]
      intro hm
      rcases List.mem_append.1 hm with hm | hm
      · exact hx hm
      · simp at hm; exact hy hm.symm
  · have hlt' : ((i : Int) < l.length) = False := eq_false (by omega)
    simp (decide := true) only [s0, s5, hlt', EV2, MVn, qv, qvK, List.set_cons_zero, List.set_cons_succ, List.toList_toArray, Int.reduceToNat, Nat.reduceAdd, Nat.reduceMul, Nat.one_mul, Bool.not_true, Bool.not_false, EV, step, List.map_cons, List.map_nil, Option.map_some, Option.map_none, if_true, if_false, reduceIte, List.getElem?_cons_zero, List.getElem?_cons_succ, Option.getD_some, List.nil_append, List.append_nil, List.cons_append, List.getElem?_nil, Option.getD_none, true_implies, false_implies, not_true_eq_false, not_false_eq_true, and_true, true_and, decide_true, decide_false, Int.natCast_nonneg, Int.toNat_natCast, Nat.mul_one, List.size_toArray, List.getElem?_toArray, List.length_cons, List.length_nil, Nat.zero_add, Nat.add_zero, List.drop_zero, List.take_succ_cons, List.take_zero, List.drop_succ_cons, List.all_cons, List.all_nil, Bool.and_true, Bool.and_self, and_self]
    refine he _ _ _ ?_
    simp (decide := true) only [EV2, MVn, qv, qvK, List.set_cons_zero, List.set_cons_succ, List.toList_toArray, Int.reduceToNat, Nat.reduceAdd, Nat.reduceMul, Nat.one_mul, Bool.not_true, Bool.not_false, EV, step, List.map_cons, List.map_nil, Option.map_some, Option.map_none, if_true, if_false, reduceIte, List.getElem?_cons_zero, List.getElem?_cons_succ, Option.getD_some, List.nil_append, List.append_nil, List.cons_append, List.getElem?_nil, Option.getD_none, true_implies, false_implies, not_true_eq_false, not_false_eq_true, and_true, true_and, decide_true, decide_false, Int.natCast_nonneg, Int.toNat_natCast, Nat.mul_one, List.size_toArray, List.getElem?_toArray, List.length_cons, List.length_nil, Nat.zero_add, Nat.add_zero, List.drop_zero, List.take_succ_cons, List.take_zero, List.drop_succ_cons, List.all_cons, List.all_nil, Bool.and_true, Bool.and_self, and_self]
    rw [List.take_of_length_le (by omega)] at hx
    exact res false (by simpa using hx) _ _ (.inr rfl) (by rfl)

/-! ### Sets by digits -/
theorem binA_andNot (k : IntKind) (a b : Int) : binA .andNot (.int k a) (.int k b) = some (.int k (k.wrap ((BitVec.ofInt k.bits a &&& ~~~BitVec.ofInt k.bits b).toNat : Int))) := by simp [binA]
theorem bandnot_nat {a b : Nat} (ha : a < 9223372036854775808) (hb : b < 9223372036854775808) : ∃ r : Nat, IntKind.wrap .i64 ((BitVec.ofInt (IntKind.bits .i64) (a : Int) &&& ~~~BitVec.ofInt (IntKind.bits .i64) (b : Int)).toNat : Int) = (r : Int) ∧ r ≤ a ∧ ∀ i, r.testBit i = (a.testBit i && !b.testBit i) := by
  have e1 := ofInt_nat ha
  have e2 := ofInt_nat hb
  refine ⟨(BitVec.ofInt (IntKind.bits .i64) (a : Int) &&& ~~~BitVec.ofInt (IntKind.bits .i64) (b : Int)).toNat, ?_, ?_, fun i => ?_⟩
  · have : (BitVec.ofInt (IntKind.bits .i64) (a : Int) &&& ~~~BitVec.ofInt (IntKind.bits .i64) (b : Int)).toNat ≤ a := by
      rw [BitVec.toNat_and, e1]; exact Nat.and_le_left
    exact wrap_i64 (by omega) (by omega)
  · rw [BitVec.toNat_and, e1]; exact Nat.and_le_left
  · rw [BitVec.toNat_and, Nat.testBit_and, e1, BitVec.testBit_toNat, BitVec.getLsbD_not, ← BitVec.testBit_toNat, e2]
    by_cases hi : i < IntKind.bits .i64
    · simp [hi]
    · have h64 : 64 ≤ i := by have : IntKind.bits .i64 = 64 := rfl; omega
      have : a.testBit i = false := Nat.testBit_lt_two_pow (Nat.lt_of_lt_of_le (show a < 2 ^ 64 by omega) (Nat.pow_le_pow_right (by omega) h64))
      simp [this]

theorem capSum_X {N : Int} {l : List ArcI} (hok : ∀ a ∈ l, ArcI.ok N a) (S : List Int) (X : Nat → Bool) (h : ∀ p : Nat, (p : Int) < N → ((p : Int) ∈ S ↔ X p = true)) : capSum S l = capX X l := by
  have : ∀ l' : List ArcI, (∀ a ∈ l', a ∈ l) → capSum S l' = capX X l' := by
    intro l'
    induction l' with
    | nil => intro _; rfl
    | cons a r ih =>
      intro hh
      obtain ⟨f, t, hf, ht, h1, h2, _⟩ := ok_nat (hok a (hh a (by simp)))
      simp only [capSum, capX]
      rw [ih fun b hb => hh b (by simp [hb]), hf, ht, Int.toNat_natCast, Int.toNat_natCast]
      congr 1
      have q1 := h f h1
      have q2 := h t h2
      cases e1 : X f <;> cases e2 : X t <;> simp_all
  exact this l fun a h => h
theorem cut_law {N : Nat} {l : List ArcI} (hok : ∀ a ∈ l, ArcI.ok N a) (hN : N ≤ 24) {s t : Nat} (hs : s < N) (ht : t < N) (hst : s ≠ t) {value : Int} {left lev : Nat → Int} (h : Found N l s t value left lev) (X : Nat → Bool) (hXs : X s = true) (hXt : X t = false) :
    value ≤ capX X l ∧ (capX X l = value → ∀ p, p < 24 → 0 ≤ lev p → X p = true) := by
  obtain ⟨hflow, hval⟩ := found_flow h hst
  have h1 := cross_le X (flowOf_len l left l.length) hflow.2.1 l.length (Nat.le_refl _)
  rw [List.take_length] at h1
  have h2 := value_cross hok hN hflow X (by omega) hXs hXt
  rw [hval] at h2
  exact ⟨by rw [h2]; exact h1.1, fun he => lev_least hok hN h X hXs (h1.2.2 (by rw [← h2, he]))⟩
theorem lev_cap {N : Nat} {l : List ArcI} (hok : ∀ a ∈ l, ArcI.ok N a) (hN : N ≤ 24) {s t : Nat} (hs : s < N) (hst : s ≠ t) {value : Int} {left lev : Nat → Int} (h : Found N l s t value left lev) : capX (fun p => decide (0 ≤ lev p)) l = value := by
  obtain ⟨hflow, hval⟩ := found_flow h hst
  have h1 := (cross_le (fun p => decide (0 ≤ lev p)) (flowOf_len _ _ _) hflow.2.1 l.length (Nat.le_refl _)).2.1 (lev_cut hok hN h)
  rw [List.take_length] at h1
  rw [← h1, ← value_cross hok hN hflow (fun p => decide (0 ≤ lev p)) (by omega) (by simp; rw [h.levOk.src]; omega) (by simp; exact h.cut), hval]
theorem reachL_mem (lev : Nat → Int) (n : Nat) (p : Nat) : (p : Int) ∈ natI (reachL lev n) ↔ p < n ∧ 0 ≤ lev p := by
  unfold natI reachL
  simp only [List.mem_map, List.mem_filter, List.mem_range, decide_eq_true_eq]
  constructor
  · rintro ⟨q, h1, h2⟩
    have : q = p := by omega
    subst this; exact h1
  · intro h; exact ⟨p, h, rfl⟩
/-- The capacity, as the program tells it, of the first cut. -/
theorem capRes_first {N : Nat} {l : List ArcI} (hnet : NetOk N l) {s t : Nat} (hs : s < N) (ht : t < N) (hst : s ≠ t) {value : Int} {left lev : Nat → Int} (h : Found N l s t value left lev) : capRes N l (natI (reachL lev 24)) = (value, 0) := by
  have hN := hnet.2.1
  have hm := (most_law hnet.2.2.2 (by omega) hs ht hst h).2
  have hr : rising N (-1) (natI (reachL lev 24)) = true := by rw [← hm]; exact members_rising _ _ _ (Int.le_refl _)
  unfold capRes
  rw [if_pos hnet, if_pos hr, capSum_X hnet.2.2.2 _ (fun p => decide (0 ≤ lev p)) fun p hp => by rw [reachL_mem]; simp; omega, lev_cap hnet.2.2.2 (by omega) hs hst h]
theorem capRes_members {N : Nat} {l : List ArcI} (hnet : NetOk N l) (y : Nat) : capRes N l (members (y : Int) N) = (capX y.testBit l, 0) := by
  unfold capRes
  rw [if_pos hnet, if_pos (members_rising _ _ _ (Int.le_refl _)), capSum_X hnet.2.2.2 _ y.testBit fun p hp => ?_]
  rw [members_mem]
  constructor
  · rintro ⟨k, hk, _, h⟩
    have : k = p := by omega
    subst this; exact h
  · intro h; exact ⟨p, rfl, by omega, h⟩

set_option maxHeartbeats 4000000 in
set_option maxRecDepth 100000 in
theorem flowEither_spec {Γ : YEnv} (hΓ : YMono Γ) (n a b : Int) (l : List ArcI) (v : Value) (sets : List Int) (sv : Value) (m : Mem) (h : Arcs m v l) (hl : l.length < 9223372036854775808) (hsv : Ints m sv sets) (hsl : sets.length < 9223372036854775808) :
    ACalls Try.prog Γ 6 [.agg #[.int .i64 n, v], .agg #[.int .i64 a, .int .i64 b], sv] m fun r m' => r = .bool true ∧ Mext m m' := by
  refine acallsW hΓ fok6 (by simp [X6]) fun Q hQ => ?_
  have hv : okVal v = true ∧ v.cells = #[v] := by obtain ⟨a, c, rfl⟩ := h.len; exact ⟨rfl, rfl⟩
  obtain ⟨so, sc, rfl⟩ := hsv.len
  have hm1 : Mext m ((m.new (.cells [.int .i64 n, v] 24 2)).new (.cells [.int .i64 a, .int .i64 b] 38 2)) := ((Mext.refl m).new _).new _
  simp (decide := true) only [S6_0, S6_1, S6_2, S6_3, S6_4, S6_5, S6_6, S6_7, S6_8, S6_9, S6_10, S6_11, S6_12, S6_13, S6_14, S6_15, S6_16, S6_17, S6_18, S6_19, S6_20, S6_21, S6_22, S6_23, S6_24, S6_25, S6_26, S6_27, S6_28, S6_29, S6_30, S6_31, S6_32, S6_33, S6_34, S6_35, S6_36, S6_37, S6_38, S6_39, S6_40, S6_41, S6_42, S6_43, S6_44, S6_45, S6_46, S6_47, S6_48, S6_49, S6_50, S6_51, S6_52, S6_53, S6_54, S6_55, S6_56, S6_57, S6_58, S6_59, S6_60, S6_61, S6_62, S6_63, S6_64, S6, X6, G6, EV2, MVn, qv, qvK, List.set_cons_zero, List.set_cons_succ, List.toList_toArray, Int.reduceToNat, Nat.reduceAdd, Nat.reduceMul, Nat.one_mul, Bool.not_true, Bool.not_false, EV, step, List.map_cons, List.map_nil, Option.map_some, Option.map_none, if_true, if_false, reduceIte, List.getElem?_cons_zero, List.getElem?_cons_succ, Option.getD_some, List.nil_append, List.append_nil, List.cons_append, List.getElem?_nil, Option.getD_none, true_implies, false_implies, not_true_eq_false, not_false_eq_true, and_true, true_and, decide_true, decide_false, Int.natCast_nonneg, Int.toNat_natCast, Nat.mul_one, List.size_toArray, List.getElem?_toArray, List.length_cons, List.length_nil, Nat.zero_add, Nat.add_zero, List.drop_zero, List.take_succ_cons, List.take_zero, List.drop_succ_cons, List.all_cons, List.all_nil, Bool.and_true, Bool.and_self, and_self]
  refine (tame_spec hΓ 20 60 n (by omega) (by omega) (by omega) (by omega) l v _ (h.mext hm1) hl).mono ?_
  rintro r m2 ⟨N, l', v', rfl, hN, hN2, hl', hok, hacc, hm2⟩
  obtain ⟨w1, w2, w3⟩ := hacc.ok
  have hnx := hm2.next
  simp only [Mem.next_new] at hnx
  obtain ⟨K, rfl⟩ : ∃ K : Nat, N = K := ⟨N.toNat, by omega⟩
  have hnet : NetOk K l' := ⟨hN, by omega, by omega, hok⟩
  have n0 : (m.next + 1 = m2.next) = False := eq_false (by omega)
  have g1 : m2.get (m.next + 1) = some (.cells [.int .i64 a, .int .i64 b] 38 2) := (hm2.get _ (by simp only [Mem.next_new]; omega)).trans (by have := (m.new (.cells [.int .i64 n, v] 24 2)).get_new (.cells [.int .i64 a, .int .i64 b] 38 2); rwa [Mem.next_new] at this)
  have hmB : Mext m2 ((m2.new (.cells [.int .i64 0, .slice none 0 0] 24 2)).set m2.next (.cells [.int .i64 K, v'] 24 2)) := ((Mext.refl m2).new _).set (Nat.le_refl _) _
  have ext0 : ∀ M, Mext ((m2.new (.cells [.int .i64 0, .slice none 0 0] 24 2)).set m2.next (.cells [.int .i64 K, v'] 24 2)) M → Mext m M ∧ Arcs M v' l' ∧ M.get m2.next = some (.cells [.int .i64 K, v'] 24 2) := by
    intro M hM
    exact ⟨(hm1.trans (hm2.trans hmB)).trans hM, (hacc.arcs).mext (hmB.trans hM), (hM.get _ (by rw [next_set, Mem.next_new]; omega)).trans (Mem.get_set _ _ _)⟩
  simp (decide := true) only [zc24, w1, w2, w3, n0, g1, EV2, MVn, qv, qvK, List.set_cons_zero, List.set_cons_succ, List.toList_toArray, Int.reduceToNat, Nat.reduceAdd, Nat.reduceMul, Nat.one_mul, Bool.not_true, Bool.not_false, EV, step, List.map_cons, List.map_nil, Option.map_some, Option.map_none, if_true, if_false, reduceIte, List.getElem?_cons_zero, List.getElem?_cons_succ, Option.getD_some, List.nil_append, List.append_nil, List.cons_append, List.getElem?_nil, Option.getD_none, true_implies, false_implies, not_true_eq_false, not_false_eq_true, and_true, true_and, decide_true, decide_false, Int.natCast_nonneg, Int.toNat_natCast, Nat.mul_one, List.size_toArray, List.getElem?_toArray, List.length_cons, List.length_nil, Nat.zero_add, Nat.add_zero, List.drop_zero, List.take_succ_cons, List.take_zero, List.drop_succ_cons, List.all_cons, List.all_nil, Bool.and_true, Bool.and_self, and_self]
  refine (ends_spec hΓ K a b hN (by omega) _).mono ?_
  rintro r m3 ⟨s, t, rfl, hs0, hsK, ht0, htK, hst, hm3⟩
  obtain ⟨s, rfl⟩ : ∃ s' : Nat, s = s' := ⟨s.toNat, by omega⟩
  obtain ⟨t, rfl⟩ : ∃ t' : Nat, t = t' := ⟨t.toNat, by omega⟩
  obtain ⟨e3, a3, g3⟩ := ext0 m3 hm3
  have hst' : s ≠ t := by omega
  simp (decide := true) only [g3, EV2, MVn, qv, qvK, List.set_cons_zero, List.set_cons_succ, List.toList_toArray, Int.reduceToNat, Nat.reduceAdd, Nat.reduceMul, Nat.one_mul, Bool.not_true, Bool.not_false, EV, step, List.map_cons, List.map_nil, Option.map_some, Option.map_none, if_true, if_false, reduceIte, List.getElem?_cons_zero, List.getElem?_cons_succ, Option.getD_some, List.nil_append, List.append_nil, List.cons_append, List.getElem?_nil, Option.getD_none, true_implies, false_implies, not_true_eq_false, not_false_eq_true, and_true, true_and, decide_true, decide_false, Int.natCast_nonneg, Int.toNat_natCast, Nat.mul_one, List.size_toArray, List.getElem?_toArray, List.length_cons, List.length_nil, Nat.zero_add, Nat.add_zero, List.drop_zero, List.take_succ_cons, List.take_zero, List.drop_succ_cons, List.all_cons, List.all_nil, Bool.and_true, Bool.and_self, and_self]
  refine (net_spec hΓ K l' v' m3 a3 (by omega)).mono ?_
  rintro r m4 ⟨v4, rfl, hacc4, hm4⟩
  refine (Most_spec hΓ K l' v4 s t m4 hacc4.arcs hnet hsK htK hst').mono ?_
  rintro r m5 ⟨value, left, lev, vf, rfl, hfound, haccf, hm5⟩
  have h35 := (hm3.trans hm4).trans hm5
  obtain ⟨e5, a5, g5⟩ := ext0 m5 h35
  simp (decide := true) only [g5, EV2, MVn, qv, qvK, List.set_cons_zero, List.set_cons_succ, List.toList_toArray, Int.reduceToNat, Nat.reduceAdd, Nat.reduceMul, Nat.one_mul, Bool.not_true, Bool.not_false, EV, step, List.map_cons, List.map_nil, Option.map_some, Option.map_none, if_true, if_false, reduceIte, List.getElem?_cons_zero, List.getElem?_cons_succ, Option.getD_some, List.nil_append, List.append_nil, List.cons_append, List.getElem?_nil, Option.getD_none, true_implies, false_implies, not_true_eq_false, not_false_eq_true, and_true, true_and, decide_true, decide_false, Int.natCast_nonneg, Int.toNat_natCast, Nat.mul_one, List.size_toArray, List.getElem?_toArray, List.length_cons, List.length_nil, Nat.zero_add, Nat.add_zero, List.drop_zero, List.take_succ_cons, List.take_zero, List.drop_succ_cons, List.all_cons, List.all_nil, Bool.and_true, Bool.and_self, and_self]
  refine (net_spec hΓ K l' v' m5 a5 (by omega)).mono ?_
  rintro r m6 ⟨v6, rfl, hacc6, hm6⟩
  refine (Cut_spec hΓ K l' v6 s t m6 hacc6.arcs hnet hsK htK hst').mono ?_
  rintro r m7 ⟨value2, left2, lev2, vc, rfl, hfound2, haccc, hm7⟩
  have h37 := h35.trans (hm6.trans hm7)
  obtain ⟨e7, a7, g7⟩ := ext0 m7 h37
  obtain ⟨L1, L2⟩ := most_law hok (by omega) (by omega) (by omega) hst' hfound
  obtain ⟨L3, L4⟩ := most_law hok (by omega) (by omega) (by omega) hst' hfound2
  have hvv : value2 = value := by rw [← L3, L1]
  subst hvv
  obtain ⟨hflow, hfv⟩ := found_flow hfound hst'
  have hlenF : (flowOf l' left l'.length).length < 1000000 := by rw [flowOf_len]; omega
  have hF : Ints m7 vf (flowOf l' left l'.length) := (haccf.ints).mext (hm6.trans hm7)
  simp (decide := true) only [g7, EV2, MVn, qv, qvK, List.set_cons_zero, List.set_cons_succ, List.toList_toArray, Int.reduceToNat, Nat.reduceAdd, Nat.reduceMul, Nat.one_mul, Bool.not_true, Bool.not_false, EV, step, List.map_cons, List.map_nil, Option.map_some, Option.map_none, if_true, if_false, reduceIte, List.getElem?_cons_zero, List.getElem?_cons_succ, Option.getD_some, List.nil_append, List.append_nil, List.cons_append, List.getElem?_nil, Option.getD_none, true_implies, false_implies, not_true_eq_false, not_false_eq_true, and_true, true_and, decide_true, decide_false, Int.natCast_nonneg, Int.toNat_natCast, Nat.mul_one, List.size_toArray, List.getElem?_toArray, List.length_cons, List.length_nil, Nat.zero_add, Nat.add_zero, List.drop_zero, List.take_succ_cons, List.take_zero, List.drop_succ_cons, List.all_cons, List.all_nil, Bool.and_true, Bool.and_self, and_self]
  refine (net_spec hΓ K l' v' m7 a7 (by omega)).mono ?_
  rintro r m8 ⟨v8, rfl, hacc8, hm8⟩
  refine (isFlow_spec hΓ K l' v8 vf _ s t m8 hacc8.arcs (hF.mext hm8) hnet (by omega) (by omega) hst' hlenF).mono ?_
  rintro r m9 ⟨hj9, hm9⟩
  have hj9 := hj9.yes hflow
  rw [hfv] at hj9
  subst hj9
  have h39 := h37.trans (hm8.trans hm9)
  obtain ⟨e9, a9, g9⟩ := ext0 m9 h39
  simp (decide := true) only [g9, EV2, MVn, qv, qvK, List.set_cons_zero, List.set_cons_succ, List.toList_toArray, Int.reduceToNat, Nat.reduceAdd, Nat.reduceMul, Nat.one_mul, Bool.not_true, Bool.not_false, EV, step, List.map_cons, List.map_nil, Option.map_some, Option.map_none, if_true, if_false, reduceIte, List.getElem?_cons_zero, List.getElem?_cons_succ, Option.getD_some, List.nil_append, List.append_nil, List.cons_append, List.getElem?_nil, Option.getD_none, true_implies, false_implies, not_true_eq_false, not_false_eq_true, and_true, true_and, decide_true, decide_false, Int.natCast_nonneg, Int.toNat_natCast, Nat.mul_one, List.size_toArray, List.getElem?_toArray, List.length_cons, List.length_nil, Nat.zero_add, Nat.add_zero, List.drop_zero, List.take_succ_cons, List.take_zero, List.drop_succ_cons, List.all_cons, List.all_nil, Bool.and_true, Bool.and_self, and_self]
  refine (net_spec hΓ K l' v' m9 a9 (by omega)).mono ?_
  rintro r m10 ⟨v10, rfl, hacc10, hm10⟩
  have hrl : (natI (reachL lev2 24)).length < 1000000 := by rw [natI_len]; have := reachL_len lev2 24; omega
  have hI10 : Ints m10 vc (natI (reachL lev2 24)) := (haccc.ints).mext ((hm8.trans hm9).trans hm10)
  refine (Capacity_spec hΓ K _ vc l' v10 m10 hI10 hacc10.arcs (by omega) hrl).mono ?_
  rintro r m11 ⟨rfl, hm11⟩
  have hI11 := hI10.mext hm11
  have h311 := h39.trans (hm10.trans hm11)
  obtain ⟨e11, a11, g11⟩ := ext0 m11 h311
  rw [capRes_first hnet (by omega) (by omega) hst' hfound2]
  simp (decide := true) only [ne_eq, EV2, MVn, qv, qvK, List.set_cons_zero, List.set_cons_succ, List.toList_toArray, Int.reduceToNat, Nat.reduceAdd, Nat.reduceMul, Nat.one_mul, Bool.not_true, Bool.not_false, EV, step, List.map_cons, List.map_nil, Option.map_some, Option.map_none, if_true, if_false, reduceIte, List.getElem?_cons_zero, List.getElem?_cons_succ, Option.getD_some, List.nil_append, List.append_nil, List.cons_append, List.getElem?_nil, Option.getD_none, true_implies, false_implies, not_true_eq_false, not_false_eq_true, and_true, true_and, decide_true, decide_false, Int.natCast_nonneg, Int.toNat_natCast, Nat.mul_one, List.size_toArray, List.getElem?_toArray, List.length_cons, List.length_nil, Nat.zero_add, Nat.add_zero, List.drop_zero, List.take_succ_cons, List.take_zero, List.drop_succ_cons, List.all_cons, List.all_nil, Bool.and_true, Bool.and_self, and_self]
  refine (has_spec hΓ s _ vc m11 hI11 hrl).mono ?_
  rintro r m12 ⟨rfl, rfl⟩
  have q1 : (s : Int) ∈ natI (reachL lev2 24) := (reachL_mem _ _ _).2 ⟨by omega, by rw [hfound2.levOk.src]; omega⟩
  have q2 : (t : Int) ∉ natI (reachL lev2 24) := fun hh => by have := ((reachL_mem _ _ _).1 hh).2; have := hfound2.cut; omega
  simp (decide := true) only [eq_true q1, EV2, MVn, qv, qvK, List.set_cons_zero, List.set_cons_succ, List.toList_toArray, Int.reduceToNat, Nat.reduceAdd, Nat.reduceMul, Nat.one_mul, Bool.not_true, Bool.not_false, EV, step, List.map_cons, List.map_nil, Option.map_some, Option.map_none, if_true, if_false, reduceIte, List.getElem?_cons_zero, List.getElem?_cons_succ, Option.getD_some, List.nil_append, List.append_nil, List.cons_append, List.getElem?_nil, Option.getD_none, true_implies, false_implies, not_true_eq_false, not_false_eq_true, and_true, true_and, decide_true, decide_false, Int.natCast_nonneg, Int.toNat_natCast, Nat.mul_one, List.size_toArray, List.getElem?_toArray, List.length_cons, List.length_nil, Nat.zero_add, Nat.add_zero, List.drop_zero, List.take_succ_cons, List.take_zero, List.drop_succ_cons, List.all_cons, List.all_nil, Bool.and_true, Bool.and_self, and_self]
  refine (has_spec hΓ t _ vc m12 hI11 hrl).mono ?_
  rintro r m13 ⟨rfl, rfl⟩
  simp (decide := true) only [eq_false q2, EV2, MVn, qv, qvK, List.set_cons_zero, List.set_cons_succ, List.toList_toArray, Int.reduceToNat, Nat.reduceAdd, Nat.reduceMul, Nat.one_mul, Bool.not_true, Bool.not_false, EV, step, List.map_cons, List.map_nil, Option.map_some, Option.map_none, if_true, if_false, reduceIte, List.getElem?_cons_zero, List.getElem?_cons_succ, Option.getD_some, List.nil_append, List.append_nil, List.cons_append, List.getElem?_nil, Option.getD_none, true_implies, false_implies, not_true_eq_false, not_false_eq_true, and_true, true_and, decide_true, decide_false, Int.natCast_nonneg, Int.toNat_natCast, Nat.mul_one, List.size_toArray, List.getElem?_toArray, List.length_cons, List.length_nil, Nat.zero_add, Nat.add_zero, List.drop_zero, List.take_succ_cons, List.take_zero, List.drop_succ_cons, List.all_cons, List.all_nil, Bool.and_true, Bool.and_self, and_self]
  have hsh := shl1 (n := (K : Int)) (by omega) (by omega)
  have hshs := shl1 (n := (s : Int)) (by omega) (by omega)
  have hsht := shl1 (n := (t : Int)) (by omega) (by omega)
  rw [Int.toNat_natCast] at hsh hshs hsht
  have hpow : ∀ j, j ≤ 24 → 0 < 2 ^ j ∧ 2 ^ j ≤ 16777216 ∧ (2 : Int) ^ j = ((2 ^ j : Nat) : Int) := fun j hj => ⟨Nat.pow_pos (by omega), Nat.pow_le_pow_right (n := 2) (by omega) hj, by simp⟩
  obtain ⟨pK0, pK1, pK2⟩ := hpow K (by omega)
  obtain ⟨ps0, ps1, ps2⟩ := hpow s (by omega)
  obtain ⟨pt0, pt1, pt2⟩ := hpow t (by omega)
  rw [pK2] at hsh; rw [ps2] at hshs; rw [pt2] at hsht
  have hsub : IntKind.wrap .i64 (((2 ^ K : Nat) : Int) - 1) = ((2 ^ K - 1 : Nat) : Int) := by rw [wrap_i64 (by omega) (by omega)]; omega
  have k0 : ∀ x : Nat, x ≤ 24 → (IntKind.wrap .u64 (x : Int) < 0) = False := fun x hx => by rw [wrap_u64 (by omega) (by omega)]; exact eq_false (by omega)
  refine W_loop (fun k f m' => ∃ i : Nat, i ≤ sets.length ∧ i ≤ 12 ∧ k = 12 - i ∧ Mext m13 m' ∧ (f 2).v = .slice so sets.length sc ∧ (f 7).v = .pointer (some ⟨m2.next, 0, none⟩) ∧ (f 8).v = .int .i64 s ∧ (f 9).v = .int .i64 t ∧ (f 10).v = .int .i64 value2 ∧ (f 13).v = vc ∧ (f 20).v = .int .i64 i)
    12 ⟨0, by omega, by omega, rfl, Mext.refl _, rfl, rfl, rfl, rfl, rfl, rfl, rfl⟩ hΓ ?_
  rintro k f M ⟨i, hi, hi12, rfl, hM, f2, f7, f8, f9, f10, f13, f20⟩ Q1 hnr he hret
  obtain ⟨eM, aM, gM⟩ := ext0 M (h311.trans hM)
  by_cases hlt : i < sets.length ∧ i < 12
  · have hlt1 : ((i : Int) < sets.length) = True := eq_true (by omega)
    have hlt2 : ((i : Int) < 12) = True := eq_true (by omega)
    have hw : IntKind.wrap .i64 ((i : Int) + 1) = ((i + 1 : Nat) : Int) := by rw [wrap_i64 (by omega) (by omega)]; omega
    obtain ⟨c, rfl, _, hcb, hcell⟩ := (hsv.mext eM).ld hlt.1
    generalize sets[i]'hlt.1 = x at hcell
    obtain ⟨y0, hy0, hy0l⟩ := band_mask x (y := 2 ^ K - 1) (by omega)
    have hor : bor (y0 : Int) ((2 ^ s : Nat) : Int) = ((y0 ||| 2 ^ s : Nat) : Int) := bor_nat (by omega) (by omega)
    have horlt : y0 ||| 2 ^ s < 2 ^ 25 := Nat.or_lt_two_pow (by omega) (by omega)
    obtain ⟨y, hy, hyl, hyb⟩ := bandnot_nat (a := y0 ||| 2 ^ s) (b := 2 ^ t) (by omega) (by omega)
    unfold band at hy0
    unfold bor at hor
    have hys : y.testBit s = true := by rw [hyb, Nat.testBit_or, Nat.testBit_two_pow_self, Nat.testBit_two_pow_of_ne (Ne.symm hst')]; simp
    have hyt : y.testBit t = false := by rw [hyb, Nat.testBit_two_pow_self]; simp
    simp (decide := true) only [f2, f7, f8, f9, f10, f13, f20, gM, hlt1, hlt2, hcell, hsh, hshs, hsht, hsub, k0 K (by omega), k0 s (by omega), k0 t (by omega), hy0, hor, hy, bits_i64, binA_andNot, EV2, MVn, qv, qvK, List.set_cons_zero, List.set_cons_succ, List.toList_toArray, Int.reduceToNat, Nat.reduceAdd, Nat.reduceMul, Nat.one_mul, Bool.not_true, Bool.not_false, EV, step, List.map_cons, List.map_nil, Option.map_some, Option.map_none, if_true, if_false, reduceIte, List.getElem?_cons_zero, List.getElem?_cons_succ, Option.getD_some, List.nil_append, List.append_nil, List.cons_append, List.getElem?_nil, Option.getD_none, true_implies, false_implies, not_true_eq_false, not_false_eq_true, and_true, true_and, decide_true, decide_false, Int.natCast_nonneg, Int.toNat_natCast, Nat.mul_one, List.size_toArray, List.getElem?_toArray, List.length_cons, List.length_nil, Nat.zero_add, Nat.add_zero, List.drop_zero, List.take_succ_cons, List.take_zero, List.drop_succ_cons, List.all_cons, List.all_nil, Bool.and_true, Bool.and_self, and_self]
    refine (members_spec hΓ K y M (by omega)).mono ?_
    rintro r M1 ⟨hacc1, hM1⟩
    obtain ⟨eM1, aM1, gM1⟩ := ext0 M1 ((h311.trans hM).trans hM1)
    simp (decide := true) only [gM1, EV2, MVn, qv, qvK, List.set_cons_zero, List.set_cons_succ, List.toList_toArray, Int.reduceToNat, Nat.reduceAdd, Nat.reduceMul, Nat.one_mul, Bool.not_true, Bool.not_false, EV, step, List.map_cons, List.map_nil, Option.map_some, Option.map_none, if_true, if_false, reduceIte, List.getElem?_cons_zero, List.getElem?_cons_succ, Option.getD_some, List.nil_append, List.append_nil, List.cons_append, List.getElem?_nil, Option.getD_none, true_implies, false_implies, not_true_eq_false, not_false_eq_true, and_true, true_and, decide_true, decide_false, Int.natCast_nonneg, Int.toNat_natCast, Nat.mul_one, List.size_toArray, List.getElem?_toArray, List.length_cons, List.length_nil, Nat.zero_add, Nat.add_zero, List.drop_zero, List.take_succ_cons, List.take_zero, List.drop_succ_cons, List.all_cons, List.all_nil, Bool.and_true, Bool.and_self, and_self]
    refine (net_spec hΓ K l' v' M1 aM1 (by omega)).mono ?_
    rintro r2 M2 ⟨v20, rfl, hacc20, hM2⟩
    have hmI : Ints M2 r (members (y : Int) K) := (hacc1.ints).mext hM2
    have hml : (members (y : Int) K).length < 1000000 := by have := members_len y K; omega
    refine (Capacity_spec hΓ K _ r l' v20 M2 hmI hacc20.arcs (by omega) hml).mono ?_
    rintro r2 M3 ⟨rfl, hM3⟩
    rw [capRes_members hnet]
    obtain ⟨law1, law2⟩ := cut_law hok (by omega) (by omega) (by omega) hst' hfound2 y.testBit hys hyt
    have hnlt : (capX y.testBit l' < value2) = False := eq_false (by omega)
    have hM13 : Mext m13 M3 := ((hM.trans hM1).trans hM2).trans hM3
    have hmI3 := hmI.mext hM3
    have hI3 := hI11.mext hM13
    have next : ∀ f2 : Fr, (f2 2).v = .slice (some c) sets.length sc → (f2 7).v = .pointer (some ⟨m2.next, 0, none⟩) → (f2 8).v = .int .i64 s → (f2 9).v = .int .i64 t → (f2 10).v = .int .i64 value2 → (f2 13).v = vc → (f2 20).v = .int .i64 ((i + 1 : Nat) : Int) → Q1 .normal f2 M3 := by
      intro f2 u1 u2 u3 u4 u5 u6 u7
      exact hnr _ _ _ (by omega) ⟨i + 1, hlt.1, hlt.2, rfl, hM13, u1, u2, u3, u4, u5, u6, u7⟩
    by_cases heq : capX y.testBit l' = value2
    · simp (decide := true) only [eq_true heq, hnlt, f10, f13, ne_eq, EV2, MVn, qv, qvK, List.set_cons_zero, List.set_cons_succ, List.toList_toArray, Int.reduceToNat, Nat.reduceAdd, Nat.reduceMul, Nat.one_mul, Bool.not_true, Bool.not_false, EV, step, List.map_cons, List.map_nil, Option.map_some, Option.map_none, if_true, if_false, reduceIte, List.getElem?_cons_zero, List.getElem?_cons_succ, Option.getD_some, List.nil_append, List.append_nil, List.cons_append, List.getElem?_nil, Option.getD_none, true_implies, false_implies, not_true_eq_false, not_false_eq_true, and_true, true_and, decide_true, decide_false, Int.natCast_nonneg, Int.toNat_natCast, Nat.mul_one, List.size_toArray, List.getElem?_toArray, List.length_cons, List.length_nil, Nat.zero_add, Nat.add_zero, List.drop_zero, List.take_succ_cons, List.take_zero, List.drop_succ_cons, List.all_cons, List.all_nil, Bool.and_true, Bool.and_self, and_self]
      obtain ⟨co, cd, hcv⟩ := hI3.len
      refine W_loop (fun k f M' => ∃ j : Nat, j ≤ (natI (reachL lev2 24)).length ∧ k = (natI (reachL lev2 24)).length - j ∧ M' = M3 ∧ (f 2).v = .slice (some c) sets.length sc ∧ (f 7).v = .pointer (some ⟨m2.next, 0, none⟩) ∧ (f 8).v = .int .i64 s ∧ (f 9).v = .int .i64 t ∧ (f 10).v = .int .i64 value2 ∧ (f 13).v = vc ∧ (f 20).v = .int .i64 i ∧ (f 22).v = r ∧ (f 25).v = .int .i64 j)
        (natI (reachL lev2 24)).length ⟨0, by omega, rfl, rfl, by simp [sem, f2], by simp [sem, f7], by simp [sem, f8], by simp [sem, f9], by simp [sem, f10], by simp [sem, f13], by simp [sem, f20], by simp [sem, Slot.v], rfl⟩ hΓ ?_
      clear f2 f7 f8 f9 f10 f13 f20
      rintro k f M' ⟨j, hj, rfl, rfl, f2, f7, f8, f9, f10, f13, f20, f22, f25⟩ Q2 hnr2 he2 hret2
      by_cases hjl : j < (natI (reachL lev2 24)).length
      · have hjl' : ((j : Int) < (natI (reachL lev2 24)).length) = True := eq_true (by omega)
        have hwj : IntKind.wrap .i64 ((j : Int) + 1) = ((j + 1 : Nat) : Int) := by rw [wrap_i64 (by omega) (by omega)]; omega
        have hI3' := hI3
        rw [hcv] at hI3'
        obtain ⟨ca, rfl, _, hcab, hcell2⟩ := hI3'.ld hjl
        have hmem : (natI (reachL lev2 24))[j] ∈ natI (reachL lev2 24) := List.getElem_mem hjl
        have hin : (natI (reachL lev2 24))[j] ∈ members (y : Int) K := by
          rw [natI_len] at hjl
          have e : (natI (reachL lev2 24))[j]'(by rw [natI_len]; exact hjl) = (((reachL lev2 24)[j] : Nat) : Int) := by unfold natI; rw [List.getElem_map]
          rw [e] at hmem ⊢
          have hm := (reachL_mem _ _ _).1 hmem
          rw [members_mem]
          refine ⟨_, rfl, ?_, law2 heq _ hm.1 hm.2⟩
          rcases hfound2.levOk.all _ hm.1 with q | q <;> omega
        generalize (natI (reachL lev2 24))[j] = z at hcell2 hin
        simp (decide := true) only [f13, f22, f25, hcv, hjl', hcell2, EV2, MVn, qv, qvK, List.set_cons_zero, List.set_cons_succ, List.toList_toArray, Int.reduceToNat, Nat.reduceAdd, Nat.reduceMul, Nat.one_mul, Bool.not_true, Bool.not_false, EV, step, List.map_cons, List.map_nil, Option.map_some, Option.map_none, if_true, if_false, reduceIte, List.getElem?_cons_zero, List.getElem?_cons_succ, Option.getD_some, List.nil_append, List.append_nil, List.cons_append, List.getElem?_nil, Option.getD_none, true_implies, false_implies, not_true_eq_false, not_false_eq_true, and_true, true_and, decide_true, decide_false, Int.natCast_nonneg, Int.toNat_natCast, Nat.mul_one, List.size_toArray, List.getElem?_toArray, List.length_cons, List.length_nil, Nat.zero_add, Nat.add_zero, List.drop_zero, List.take_succ_cons, List.take_zero, List.drop_succ_cons, List.all_cons, List.all_nil, Bool.and_true, Bool.and_self, and_self]
        refine (has_spec hΓ z _ r M' hmI3 hml).mono ?_
        rintro r3 M4 ⟨rfl, rfl⟩
        simp (decide := true) only [eq_true hin, f25, hwj, EV2, MVn, qv, qvK, List.set_cons_zero, List.set_cons_succ, List.toList_toArray, Int.reduceToNat, Nat.reduceAdd, Nat.reduceMul, Nat.one_mul, Bool.not_true, Bool.not_false, EV, step, List.map_cons, List.map_nil, Option.map_some, Option.map_none, if_true, if_false, reduceIte, List.getElem?_cons_zero, List.getElem?_cons_succ, Option.getD_some, List.nil_append, List.append_nil, List.cons_append, List.getElem?_nil, Option.getD_none, true_implies, false_implies, not_true_eq_false, not_false_eq_true, and_true, true_and, decide_true, decide_false, Int.natCast_nonneg, Int.toNat_natCast, Nat.mul_one, List.size_toArray, List.getElem?_toArray, List.length_cons, List.length_nil, Nat.zero_add, Nat.add_zero, List.drop_zero, List.take_succ_cons, List.take_zero, List.drop_succ_cons, List.all_cons, List.all_nil, Bool.and_true, Bool.and_self, and_self]
        exact hnr2 _ _ _ (by omega) ⟨j + 1, hjl, rfl, rfl, by simp [sem, f2], by simp [sem, f7], by simp [sem, f8], by simp [sem, f9], by simp [sem, f10], by simp [sem, f13], by simp [sem, f20], by simp [sem, f22], by simp [sem, Slot.v]⟩
      · have hjl' : ((j : Int) < (natI (reachL lev2 24)).length) = False := eq_false (by omega)
        simp (decide := true) only [f13, f25, hcv, hjl', EV2, MVn, qv, qvK, List.set_cons_zero, List.set_cons_succ, List.toList_toArray, Int.reduceToNat, Nat.reduceAdd, Nat.reduceMul, Nat.one_mul, Bool.not_true, Bool.not_false, EV, step, List.map_cons, List.map_nil, Option.map_some, Option.map_none, if_true, if_false, reduceIte, List.getElem?_cons_zero, List.getElem?_cons_succ, Option.getD_some, List.nil_append, List.append_nil, List.cons_append, List.getElem?_nil, Option.getD_none, true_implies, false_implies, not_true_eq_false, not_false_eq_true, and_true, true_and, decide_true, decide_false, Int.natCast_nonneg, Int.toNat_natCast, Nat.mul_one, List.size_toArray, List.getElem?_toArray, List.length_cons, List.length_nil, Nat.zero_add, Nat.add_zero, List.drop_zero, List.take_succ_cons, List.take_zero, List.drop_succ_cons, List.all_cons, List.all_nil, Bool.and_true, Bool.and_self, and_self]
        refine he2 _ _ _ ?_
        simp (decide := true) only [f20, hw, EV2, MVn, qv, qvK, List.set_cons_zero, List.set_cons_succ, List.toList_toArray, Int.reduceToNat, Nat.reduceAdd, Nat.reduceMul, Nat.one_mul, Bool.not_true, Bool.not_false, EV, step, List.map_cons, List.map_nil, Option.map_some, Option.map_none, if_true, if_false, reduceIte, List.getElem?_cons_zero, List.getElem?_cons_succ, Option.getD_some, List.nil_append, List.append_nil, List.cons_append, List.getElem?_nil, Option.getD_none, true_implies, false_implies, not_true_eq_false, not_false_eq_true, and_true, true_and, decide_true, decide_false, Int.natCast_nonneg, Int.toNat_natCast, Nat.mul_one, List.size_toArray, List.getElem?_toArray, List.length_cons, List.length_nil, Nat.zero_add, Nat.add_zero, List.drop_zero, List.take_succ_cons, List.take_zero, List.drop_succ_cons, List.all_cons, List.all_nil, Bool.and_true, Bool.and_self, and_self]
        exact next _ (by simp [sem, f2]) (by simp [sem, f7]) (by simp [sem, f8]) (by simp [sem, f9]) (by simp [sem, f10]) (by simp [sem, f13]) (by simp [sem, Slot.v])
    · simp (decide := true) only [heq, hnlt, f10, f13, f20, hw, ne_eq, EV2, MVn, qv, qvK, List.set_cons_zero, List.set_cons_succ, List.toList_toArray, Int.reduceToNat, Nat.reduceAdd, Nat.reduceMul, Nat.one_mul, Bool.not_true, Bool.not_false, EV, step, List.map_cons, List.map_nil, Option.map_some, Option.map_none, if_true, if_false, reduceIte, List.getElem?_cons_zero, List.getElem?_cons_succ, Option.getD_some, List.nil_append, List.append_nil, List.cons_append, List.getElem?_nil, Option.getD_none, true_implies, false_implies, not_true_eq_false, not_false_eq_true, and_true, true_and, decide_true, decide_false, Int.natCast_nonneg, Int.toNat_natCast, Nat.mul_one, List.size_toArray, List.getElem?_toArray, List.length_cons, List.length_nil, Nat.zero_add, Nat.add_zero, List.drop_zero, List.take_succ_cons, List.take_zero, List.drop_succ_cons, List.all_cons, List.all_nil, Bool.and_true, Bool.and_self, and_self]
      exact next _ (by simp [sem, f2]) (by simp [sem, f7]) (by simp [sem, f8]) (by simp [sem, f9]) (by simp [sem, f10]) (by simp [sem, f13]) (by simp [sem, Slot.v])
  · by_cases hl1 : i < sets.length
    · have hlt1 : ((i : Int) < sets.length) = True := eq_true (by omega)
      have hlt2 : ((i : Int) < 12) = False := eq_false (by omega)
      simp (decide := true) only [f2, f20, hlt1, hlt2, EV2, MVn, qv, qvK, List.set_cons_zero, List.set_cons_succ, List.toList_toArray, Int.reduceToNat, Nat.reduceAdd, Nat.reduceMul, Nat.one_mul, Bool.not_true, Bool.not_false, EV, step, List.map_cons, List.map_nil, Option.map_some, Option.map_none, if_true, if_false, reduceIte, List.getElem?_cons_zero, List.getElem?_cons_succ, Option.getD_some, List.nil_append, List.append_nil, List.cons_append, List.getElem?_nil, Option.getD_none, true_implies, false_implies, not_true_eq_false, not_false_eq_true, and_true, true_and, decide_true, decide_false, Int.natCast_nonneg, Int.toNat_natCast, Nat.mul_one, List.size_toArray, List.getElem?_toArray, List.length_cons, List.length_nil, Nat.zero_add, Nat.add_zero, List.drop_zero, List.take_succ_cons, List.take_zero, List.drop_succ_cons, List.all_cons, List.all_nil, Bool.and_true, Bool.and_self, and_self]
      refine he _ _ _ ?_
      simp (decide := true) only [EV2, MVn, qv, qvK, List.set_cons_zero, List.set_cons_succ, List.toList_toArray, Int.reduceToNat, Nat.reduceAdd, Nat.reduceMul, Nat.one_mul, Bool.not_true, Bool.not_false, EV, step, List.map_cons, List.map_nil, Option.map_some, Option.map_none, if_true, if_false, reduceIte, List.getElem?_cons_zero, List.getElem?_cons_succ, Option.getD_some, List.nil_append, List.append_nil, List.cons_append, List.getElem?_nil, Option.getD_none, true_implies, false_implies, not_true_eq_false, not_false_eq_true, and_true, true_and, decide_true, decide_false, Int.natCast_nonneg, Int.toNat_natCast, Nat.mul_one, List.size_toArray, List.getElem?_toArray, List.length_cons, List.length_nil, Nat.zero_add, Nat.add_zero, List.drop_zero, List.take_succ_cons, List.take_zero, List.drop_succ_cons, List.all_cons, List.all_nil, Bool.and_true, Bool.and_self, and_self]
      refine (awake12 Γ M).mono ?_
      rintro r M9 ⟨rfl, rfl⟩
      exact hQ _ _ _ ⟨.inr rfl, [.bool true], by simp [X6, R6, resL, sem, Slot.v], rfl, eM⟩
    · have hlt1 : ((i : Int) < sets.length) = False := eq_false (by omega)
      simp (decide := true) only [f2, f20, hlt1, EV2, MVn, qv, qvK, List.set_cons_zero, List.set_cons_succ, List.toList_toArray, Int.reduceToNat, Nat.reduceAdd, Nat.reduceMul, Nat.one_mul, Bool.not_true, Bool.not_false, EV, step, List.map_cons, List.map_nil, Option.map_some, Option.map_none, if_true, if_false, reduceIte, List.getElem?_cons_zero, List.getElem?_cons_succ, Option.getD_some, List.nil_append, List.append_nil, List.cons_append, List.getElem?_nil, Option.getD_none, true_implies, false_implies, not_true_eq_false, not_false_eq_true, and_true, true_and, decide_true, decide_false, Int.natCast_nonneg, Int.toNat_natCast, Nat.mul_one, List.size_toArray, List.getElem?_toArray, List.length_cons, List.length_nil, Nat.zero_add, Nat.add_zero, List.drop_zero, List.take_succ_cons, List.take_zero, List.drop_succ_cons, List.all_cons, List.all_nil, Bool.and_true, Bool.and_self, and_self]
      refine he _ _ _ ?_
      simp (decide := true) only [EV2, MVn, qv, qvK, List.set_cons_zero, List.set_cons_succ, List.toList_toArray, Int.reduceToNat, Nat.reduceAdd, Nat.reduceMul, Nat.one_mul, Bool.not_true, Bool.not_false, EV, step, List.map_cons, List.map_nil, Option.map_some, Option.map_none, if_true, if_false, reduceIte, List.getElem?_cons_zero, List.getElem?_cons_succ, Option.getD_some, List.nil_append, List.append_nil, List.cons_append, List.getElem?_nil, Option.getD_none, true_implies, false_implies, not_true_eq_false, not_false_eq_true, and_true, true_and, decide_true, decide_false, Int.natCast_nonneg, Int.toNat_natCast, Nat.mul_one, List.size_toArray, List.getElem?_toArray, List.length_cons, List.length_nil, Nat.zero_add, Nat.add_zero, List.drop_zero, List.take_succ_cons, List.take_zero, List.drop_succ_cons, List.all_cons, List.all_nil, Bool.and_true, Bool.and_self, and_self]
      refine (awake12 Γ M).mono ?_
      rintro r M9 ⟨rfl, rfl⟩
      exact hQ _ _ _ ⟨.inr rfl, [.bool true], by simp [X6, R6, resL, sem, Slot.v], rfl, eM⟩
end Go.Proofs.Ytnhodgonmceojaa.Sh
