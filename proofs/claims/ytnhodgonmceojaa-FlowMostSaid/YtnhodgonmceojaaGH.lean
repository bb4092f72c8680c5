/- FlowMost: the walk. -/
import Derived.Test.YtnhodgonmceojaaGG
import Derived.Test.YtnhodgonmceojaaFAw
set_option linter.unusedVariables false
set_option linter.unusedSimpArgs false
namespace Go.Proofs.Ytnhodgonmceojaa.Sh
open Go.RowKit

theorem JudgeP.yes {N : Nat} {l : List ArcI} {s t : Nat} {F : List Int} {r : Value} (h : JudgeP N l s t F r) (hp : FlowP N l s t F) : r = .tuple #[.int .i64 (valN l F s l.length), .bool true] := by
  rcases h with ⟨_, h⟩ | ⟨hn, _⟩
  · exact h
  · exact absurd hp hn
theorem ok_netOk {N : Int} {l : List ArcI} (h2 : 2 ≤ N) (h24 : N ≤ 24) (hl : (l.length : Int) ≤ 200) (hok : ∀ a ∈ l, ArcI.ok N a) : NetOk N l := ⟨h2, h24, by omega, hok⟩

set_option maxHeartbeats 2000000 in
set_option maxRecDepth 100000 in
theorem flowMost_spec {Γ : YEnv} (hΓ : YMono Γ) (n a b : Int) (l : List ArcI) (v : Value) (m : Mem) (h : Arcs m v l) (hl : l.length < 9223372036854775808) :
    ACalls Try.prog Γ 4 [.agg #[.int .i64 n, v], .agg #[.int .i64 a, .int .i64 b]] m fun r m' => r = .bool true ∧ Mext m m' := by
  refine acallsW hΓ fok4 (by simp [X4]) fun Q hQ => ?_
  have hv : okVal v = true ∧ v.cells = #[v] := by obtain ⟨a, c, rfl⟩ := h.len; exact ⟨rfl, rfl⟩
  have hm1 : Mext m ((m.new (.cells [.int .i64 n, v] 24 2)).new (.cells [.int .i64 a, .int .i64 b] 38 2)) := ((Mext.refl m).new _).new _
  simp (decide := true) only [S4_0, S4_1, S4_2, S4_3, S4_4, S4_5, S4_6, S4_7, S4_8, S4_9, S4_10, S4_11, S4_12, S4_13, S4_14, S4_15, S4_16, S4_17, S4_18, S4_19, S4_20, S4_21, S4_22, S4_23, S4, X4, G4, EV2, MVn, qv, qvK, List.set_cons_zero, List.set_cons_succ, List.toList_toArray, Int.reduceToNat, Nat.reduceAdd, Nat.reduceMul, Nat.one_mul, Bool.not_true, Bool.not_false, EV, step, List.map_cons, List.map_nil, Option.map_some, Option.map_none, if_true, if_false, reduceIte, List.getElem?_cons_zero, List.getElem?_cons_succ, Option.getD_some, List.nil_append, List.append_nil, List.cons_append, List.getElem?_nil, Option.getD_none, true_implies, false_implies, not_true_eq_false, not_false_eq_true, and_true, true_and, decide_true, decide_false, Int.natCast_nonneg, Int.toNat_natCast, Nat.mul_one, List.size_toArray, List.getElem?_toArray, List.length_cons, List.length_nil, Nat.zero_add, Nat.add_zero, List.drop_zero, List.take_succ_cons, List.take_zero, List.drop_succ_cons, List.all_cons, List.all_nil, Bool.and_true, Bool.and_self, and_self]
  refine (tame_spec hΓ 9 24 n (by omega) (by omega) (by omega) (by omega) l v _ (h.mext hm1) hl).mono ?_
  rintro r m2 ⟨N, l', v', rfl, hN, hN2, hl', hok, hacc, hm2⟩
  obtain ⟨w1, w2, w3⟩ := hacc.ok
  have hnx := hm2.next
  simp only [Mem.next_new] at hnx
  obtain ⟨K, rfl⟩ : ∃ K : Nat, N = K := ⟨N.toNat, by omega⟩
  have hnet := ok_netOk (l := l') hN (by omega) (by omega) hok
  have n0 : (m.next + 1 = m2.next) = False := eq_false (by omega)
  have g1 : m2.get (m.next + 1) = some (.cells [.int .i64 a, .int .i64 b] 38 2) := (hm2.get _ (by simp only [Mem.next_new]; omega)).trans (by have := (m.new (.cells [.int .i64 n, v] 24 2)).get_new (.cells [.int .i64 a, .int .i64 b] 38 2); rwa [Mem.next_new] at this)
  have hmB : Mext m2 ((m2.new (.cells [.int .i64 0, .slice none 0 0] 24 2)).set m2.next (.cells [.int .i64 K, v'] 24 2)) := ((Mext.refl m2).new _).set (Nat.le_refl _) _
  have ext0 : ∀ M, Mext ((m2.new (.cells [.int .i64 0, .slice none 0 0] 24 2)).set m2.next (.cells [.int .i64 K, v'] 24 2)) M → Mext m M ∧ Arcs M v' l' ∧ M.get m2.next = some (.cells [.int .i64 K, v'] 24 2) := by
    intro M hM
    exact ⟨(hm1.trans (hm2.trans hmB)).trans hM, (hacc.arcs).mext (hmB.trans hM), (hM.get _ (by rw [next_set, Mem.next_new]; omega)).trans (Mem.get_set _ _ _)⟩
  simp (decide := true) only [zc24, w1, w2, w3, n0, g1, EV2, MVn, qv, qvK, List.set_cons_zero, List.set_cons_succ, List.toList_toArray, Int.reduceToNat, Nat.reduceAdd, Nat.reduceMul, Nat.one_mul, Bool.not_true, Bool.not_false, EV, step, List.map_cons, List.map_nil, Option.map_some, Option.map_none, if_true, if_false, reduceIte, List.getElem?_cons_zero, List.getElem?_cons_succ, Option.getD_some, List.nil_append, List.append_nil, List.cons_append, List.getElem?_nil, Option.getD_none, true_implies, false_implies, not_true_eq_false, not_false_eq_true, and_true, true_and, decide_true, decide_false, Int.natCast_nonneg, Int.toNat_natCast, Nat.mul_one, List.size_toArray, List.getElem?_toArray, List.length_cons, List.length_nil, Nat.zero_add, Nat.add_zero, List.drop_zero, List.take_succ_cons, List.take_zero, List.drop_succ_cons, List.all_cons, List.all_nil, Bool.and_true, Bool.and_self, and_self]
  refine (ends_spec hΓ K a b hN (by omega) _).mono ?_
  rintro r m3 ⟨s, t, rfl, hs0, hsK, ht0, htK, hst, hm3⟩
  obtain ⟨s, rfl⟩ : ∃ s' : Nat, s = s' := ⟨s.toNat, by omega⟩
  obtain ⟨t, rfl⟩ : ∃ t' : Nat, t = t' := ⟨t.toNat, by omega⟩
  obtain ⟨e3, a3, g3⟩ := ext0 m3 hm3
  have hst' : s ≠ t := by omega
  simp (decide := true) only [g3, EV2, MVn, qv, qvK, List.set_cons_zero, List.set_cons_succ, List.toList_toArray, Int.reduceToNat, Nat.reduceAdd, Nat.reduceMul, Nat.one_mul, Bool.not_true, Bool.not_false, EV, step, List.map_cons, List.map_nil, Option.map_some, Option.map_none, if_true, if_false, reduceIte, List.getElem?_cons_zero, List.getElem?_cons_succ, Option.getD_some, List.nil_append, List.append_nil, List.cons_append, List.getElem?_nil, Option.getD_none, true_implies, false_implies, not_true_eq_false, not_false_eq_true, and_true, true_and, decide_true, decide_false, Int.natCast_nonneg, Int.toNat_natCast, Nat.mul_one, List.size_toArray, List.getElem?_toArray, List.length_cons, List.length_nil, Nat.zero_add, Nat.add_zero, List.drop_zero, List.take_succ_cons, List.take_zero, List.drop_succ_cons, List.all_cons, List.all_nil, Bool.and_true, Bool.and_self, and_self]
  refine (net_spec hΓ K l' v' m3 a3 (by omega)).mono ?_
  rintro r m4 ⟨v4, rfl, hacc4, hm4⟩
  refine (Most_spec hΓ K l' v4 s t m4 hacc4.arcs hnet hsK htK hst').mono ?_
  rintro r m5 ⟨value, left, lev, vf, rfl, hfound, haccf, hm5⟩
  obtain ⟨e5, a5, g5⟩ := ext0 m5 ((hm3.trans hm4).trans hm5)
  simp (decide := true) only [g5, EV2, MVn, qv, qvK, List.set_cons_zero, List.set_cons_succ, List.toList_toArray, Int.reduceToNat, Nat.reduceAdd, Nat.reduceMul, Nat.one_mul, Bool.not_true, Bool.not_false, EV, step, List.map_cons, List.map_nil, Option.map_some, Option.map_none, if_true, if_false, reduceIte, List.getElem?_cons_zero, List.getElem?_cons_succ, Option.getD_some, List.nil_append, List.append_nil, List.cons_append, List.getElem?_nil, Option.getD_none, true_implies, false_implies, not_true_eq_false, not_false_eq_true, and_true, true_and, decide_true, decide_false, Int.natCast_nonneg, Int.toNat_natCast, Nat.mul_one, List.size_toArray, List.getElem?_toArray, List.length_cons, List.length_nil, Nat.zero_add, Nat.add_zero, List.drop_zero, List.take_succ_cons, List.take_zero, List.drop_succ_cons, List.all_cons, List.all_nil, Bool.and_true, Bool.and_self, and_self]
  refine (net_spec hΓ K l' v' m5 a5 (by omega)).mono ?_
  rintro r m6 ⟨v6, rfl, hacc6, hm6⟩
  refine (Cut_spec hΓ K l' v6 s t m6 hacc6.arcs hnet hsK htK hst').mono ?_
  rintro r m7 ⟨value2, left2, lev2, vc, rfl, hfound2, haccc, hm7⟩
  have h37 := ((hm3.trans hm4).trans hm5).trans (hm6.trans hm7)
  obtain ⟨e7, a7, g7⟩ := ext0 m7 h37
  simp (decide := true) only [g7, EV2, MVn, qv, qvK, List.set_cons_zero, List.set_cons_succ, List.toList_toArray, Int.reduceToNat, Nat.reduceAdd, Nat.reduceMul, Nat.one_mul, Bool.not_true, Bool.not_false, EV, step, List.map_cons, List.map_nil, Option.map_some, Option.map_none, if_true, if_false, reduceIte, List.getElem?_cons_zero, List.getElem?_cons_succ, Option.getD_some, List.nil_append, List.append_nil, List.cons_append, List.getElem?_nil, Option.getD_none, true_implies, false_implies, not_true_eq_false, not_false_eq_true, and_true, true_and, decide_true, decide_false, Int.natCast_nonneg, Int.toNat_natCast, Nat.mul_one, List.size_toArray, List.getElem?_toArray, List.length_cons, List.length_nil, Nat.zero_add, Nat.add_zero, List.drop_zero, List.take_succ_cons, List.take_zero, List.drop_succ_cons, List.all_cons, List.all_nil, Bool.and_true, Bool.and_self, and_self]
  refine (Least_spec hΓ K l' v' s t m7 a7 hok (by omega) (by omega) (by omega) (by omega)).mono ?_
  rintro r m8 ⟨vl, rfl, haccl, hm8⟩
  obtain ⟨e8, a8, g8⟩ := ext0 m8 (h37.trans hm8)
  obtain ⟨L1, L2⟩ := most_law hok (by omega) (by omega) (by omega) hst' hfound
  obtain ⟨L3, L4⟩ := most_law hok (by omega) (by omega) (by omega) hst' hfound2
  obtain ⟨hflow, hfv⟩ := found_flow hfound hst'
  have hvv : value2 = value := by rw [← L3, L1]
  subst hvv
  have hlenF : (flowOf l' left l'.length).length < 1000000 := by rw [flowOf_len]; omega
  have hF : Ints m8 vf (flowOf l' left l'.length) := (haccf.ints).mext ((hm6.trans hm7).trans hm8)
  simp (decide := true) only [g8, L1, EV2, MVn, qv, qvK, List.set_cons_zero, List.set_cons_succ, List.toList_toArray, Int.reduceToNat, Nat.reduceAdd, Nat.reduceMul, Nat.one_mul, Bool.not_true, Bool.not_false, EV, step, List.map_cons, List.map_nil, Option.map_some, Option.map_none, if_true, if_false, reduceIte, List.getElem?_cons_zero, List.getElem?_cons_succ, Option.getD_some, List.nil_append, List.append_nil, List.cons_append, List.getElem?_nil, Option.getD_none, true_implies, false_implies, not_true_eq_false, not_false_eq_true, and_true, true_and, decide_true, decide_false, Int.natCast_nonneg, Int.toNat_natCast, Nat.mul_one, List.size_toArray, List.getElem?_toArray, List.length_cons, List.length_nil, Nat.zero_add, Nat.add_zero, List.drop_zero, List.take_succ_cons, List.take_zero, List.drop_succ_cons, List.all_cons, List.all_nil, Bool.and_true, Bool.and_self, and_self]
  refine (rIsFlow_spec hΓ K l' v' vf _ s t m8 a8 hF hnet (by omega) (by omega) hst' hlenF).mono ?_
  rintro r m9 ⟨hj9, hm9⟩
  have hj9 := hj9.yes hflow
  rw [hfv] at hj9
  subst hj9
  obtain ⟨e9, a9, g9⟩ := ext0 m9 ((h37.trans hm8).trans hm9)
  have hI1 : Ints m9 vc (natI (reachL lev2 24)) := (haccc.ints).mext (hm8.trans hm9)
  have hI2 : Ints m9 vl (natI (reachL lev2 24)) := by rw [← L4]; exact (haccl.ints).mext hm9
  simp (decide := true) only [ne_eq, EV2, MVn, qv, qvK, List.set_cons_zero, List.set_cons_succ, List.toList_toArray, Int.reduceToNat, Nat.reduceAdd, Nat.reduceMul, Nat.one_mul, Bool.not_true, Bool.not_false, EV, step, List.map_cons, List.map_nil, Option.map_some, Option.map_none, if_true, if_false, reduceIte, List.getElem?_cons_zero, List.getElem?_cons_succ, Option.getD_some, List.nil_append, List.append_nil, List.cons_append, List.getElem?_nil, Option.getD_none, true_implies, false_implies, not_true_eq_false, not_false_eq_true, and_true, true_and, decide_true, decide_false, Int.natCast_nonneg, Int.toNat_natCast, Nat.mul_one, List.size_toArray, List.getElem?_toArray, List.length_cons, List.length_nil, Nat.zero_add, Nat.add_zero, List.drop_zero, List.take_succ_cons, List.take_zero, List.drop_succ_cons, List.all_cons, List.all_nil, Bool.and_true, Bool.and_self, and_self]
  have hrl : (natI (reachL lev2 24)).length < 1000000 := by rw [natI_len]; have := reachL_len lev2 24; omega
  refine (same_spec hΓ _ _ vc vl m9 hI1 hI2 hrl hrl).mono ?_
  rintro r m10 ⟨rfl, rfl⟩
  simp (decide := true) only [g9, EV2, MVn, qv, qvK, List.set_cons_zero, List.set_cons_succ, List.toList_toArray, Int.reduceToNat, Nat.reduceAdd, Nat.reduceMul, Nat.one_mul, Bool.not_true, Bool.not_false, EV, step, List.map_cons, List.map_nil, Option.map_some, Option.map_none, if_true, if_false, reduceIte, List.getElem?_cons_zero, List.getElem?_cons_succ, Option.getD_some, List.nil_append, List.append_nil, List.cons_append, List.getElem?_nil, Option.getD_none, true_implies, false_implies, not_true_eq_false, not_false_eq_true, and_true, true_and, decide_true, decide_false, Int.natCast_nonneg, Int.toNat_natCast, Nat.mul_one, List.size_toArray, List.getElem?_toArray, List.length_cons, List.length_nil, Nat.zero_add, Nat.add_zero, List.drop_zero, List.take_succ_cons, List.take_zero, List.drop_succ_cons, List.all_cons, List.all_nil, Bool.and_true, Bool.and_self, and_self]
  refine (net_spec hΓ K l' v' m10 a9 (by omega)).mono ?_
  rintro r m11 ⟨v11, rfl, hacc11, hm11⟩
  refine (isFlow_spec hΓ K l' v11 vf _ s t m11 hacc11.arcs (hF.mext (hm9.trans hm11)) hnet (by omega) (by omega) hst' hlenF).mono ?_
  rintro r m12 ⟨hj12, hm12⟩
  have hj12 := hj12.yes hflow
  rw [hfv] at hj12
  subst hj12
  simp (decide := true) only [EV2, MVn, qv, qvK, List.set_cons_zero, List.set_cons_succ, List.toList_toArray, Int.reduceToNat, Nat.reduceAdd, Nat.reduceMul, Nat.one_mul, Bool.not_true, Bool.not_false, EV, step, List.map_cons, List.map_nil, Option.map_some, Option.map_none, if_true, if_false, reduceIte, List.getElem?_cons_zero, List.getElem?_cons_succ, Option.getD_some, List.nil_append, List.append_nil, List.cons_append, List.getElem?_nil, Option.getD_none, true_implies, false_implies, not_true_eq_false, not_false_eq_true, and_true, true_and, decide_true, decide_false, Int.natCast_nonneg, Int.toNat_natCast, Nat.mul_one, List.size_toArray, List.getElem?_toArray, List.length_cons, List.length_nil, Nat.zero_add, Nat.add_zero, List.drop_zero, List.take_succ_cons, List.take_zero, List.drop_succ_cons, List.all_cons, List.all_nil, Bool.and_true, Bool.and_self, and_self]
  refine callK_fn ((awake12 Γ m12).mono ?_)
  rintro r m13 ⟨rfl, rfl⟩
  exact hQ _ _ _ ⟨.inr rfl, [.bool true], by simp [X4, R4, resL, sem, Slot.v], rfl, e9.trans (hm11.trans hm12)⟩
end Go.Proofs.Ytnhodgonmceojaa.Sh
