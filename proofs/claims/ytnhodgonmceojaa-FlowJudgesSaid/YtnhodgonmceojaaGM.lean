/- FlowJudges: the walk. -/
import Derived.Test.YtnhodgonmceojaaGL
set_option linter.unusedVariables false
set_option linter.unusedSimpArgs false
namespace Go.Proofs.Ytnhodgonmceojaa.Sh
open Go.RowKit

theorem JudgeP.det {N : Nat} {l : List ArcI} {s t : Nat} {F : List Int} {r1 r2 : Value} (h1 : JudgeP N l s t F r1) (h2 : JudgeP N l s t F r2) : ∃ (v : Int) (ok : Bool), r1 = .tuple #[.int .i64 v, .bool ok] ∧ r2 = .tuple #[.int .i64 v, .bool ok] := by
  rcases h1 with ⟨a, rfl⟩ | ⟨a, rfl⟩ <;> rcases h2 with ⟨b, rfl⟩ | ⟨b, rfl⟩
  · exact ⟨_, _, rfl, rfl⟩
  · exact absurd a b
  · exact absurd b a
  · exact ⟨_, _, rfl, rfl⟩
theorem Acc.store {m0 m : Mem} {v : Value} {F : List Int} {e : TypeId} (h : Acc m0 m v (intCells F) e 1) {j : Nat} (hj : j < F.length) (y : Int) :
    ∃ r c, v = .slice (some ⟨r, 0, none⟩) F.length c ∧ m0.next ≤ r ∧ m.get r = some (.cells (F.map (Value.int .i64)) e 1) ∧ Acc m0 (m.set r (.cells ((F.map (Value.int .i64)).set j (.int .i64 y)) e 1)) v (intCells (F.set j y)) e 1 := by
  rcases h with ⟨_, h⟩ | ⟨r, h1, h2, h3, h4⟩
  · have : F = [] := by cases F with
      | nil => rfl
      | cons a r => simp [intCells] at h
    subst this; simp at hj
  · rw [flatten_int] at h4
    rw [intCells_len'] at h3
    refine ⟨r, _, h3, h1, h4, .inr ⟨r, h1, h2, ?_, ?_⟩⟩
    · rw [intCells_len', List.length_set]; exact h3
    · rw [Mem.get_set, flatten_int, List.map_set]

set_option maxHeartbeats 8000000 in
set_option maxRecDepth 100000 in
theorem flowJudges_spec {Γ : YEnv} (hΓ : YMono Γ) (n a b : Int) (l : List ArcI) (v : Value) (L : List Int) (lv : Value) (m : Mem) (h : Arcs m v l) (hl : l.length < 9223372036854775808) (hL : Ints m lv L) (hLl : L.length < 9223372036854775808) (hLa : argOk lv) :
    ACalls Try.prog Γ 5 [.agg #[.int .i64 n, v], .agg #[.int .i64 a, .int .i64 b], lv] m fun r m' => r = .bool true ∧ Mext m m' := by
  refine acallsW hΓ fok5 (by simp [X5]) fun Q hQ => ?_
  have hv : okVal v = true ∧ v.cells = #[v] := by obtain ⟨a, c, rfl⟩ := h.len; exact ⟨rfl, rfl⟩
  obtain ⟨lo, lc, rfl⟩ := hL.len
  have hm1 : Mext m ((m.new (.cells [.int .i64 n, v] 24 2)).new (.cells [.int .i64 a, .int .i64 b] 38 2)) := ((Mext.refl m).new _).new _
  simp (decide := true) only [S5_0, S5_1, S5_2, S5_3, S5_4, S5_5, S5_6, S5_7, S5_8, S5_9, S5_10, S5_11, S5_12, S5_13, S5_14, S5_15, S5_16, S5_17, S5_18, S5_19, S5_20, S5_21, S5_22, S5_23, S5_24, S5_25, S5_26, S5_27, S5_28, S5_29, S5_30, S5_31, S5_32, S5_33, S5_34, S5_35, S5_36, S5_37, S5_38, S5_39, S5_40, S5_41, S5_42, S5_43, S5_44, S5_45, S5_46, S5_47, S5_48, S5_49, S5_50, S5_51, S5_52, S5_53, S5_54, S5_55, S5_56, S5_57, S5_58, S5_59, S5_60, S5_61, S5_62, S5_63, S5_64, S5_65, S5_66, S5_67, S5_68, S5_69, S5_70, S5_71, S5_72, S5_73, S5_74, S5_75, S5_76, S5_77, S5_78, S5_79, S5_80, S5_81, S5_82, S5_83, S5_84, S5_85, S5_86, S5_87, S5_88, S5_89, S5_90, S5_91, S5_92, S5_93, S5_94, S5_95, S5_96, S5_97, S5_98, S5_99, S5_100, S5_101, S5_102, S5_103, S5_104, S5_105, S5_106, S5_107, S5_108, S5_109, S5_110, S5_111, S5_112, S5_113, S5_114, S5_115, S5_116, S5_117, S5, X5, G5, EV2, MVn, qv, qvK, List.set_cons_zero, List.set_cons_succ, List.toList_toArray, Int.reduceToNat, Nat.reduceAdd, Nat.reduceMul, Nat.one_mul, Bool.not_true, Bool.not_false, EV, step, List.map_cons, List.map_nil, Option.map_some, Option.map_none, if_true, if_false, reduceIte, List.getElem?_cons_zero, List.getElem?_cons_succ, Option.getD_some, List.nil_append, List.append_nil, List.cons_append, List.getElem?_nil, Option.getD_none, true_implies, false_implies, not_true_eq_false, not_false_eq_true, and_true, true_and, decide_true, decide_false, Int.natCast_nonneg, Int.toNat_natCast, Nat.mul_one, List.size_toArray, List.getElem?_toArray, List.length_cons, List.length_nil, Nat.zero_add, Nat.add_zero, List.drop_zero, List.take_succ_cons, List.take_zero, List.drop_succ_cons, List.all_cons, List.all_nil, Bool.and_true, Bool.and_self, and_self]
  refine (tame_spec hΓ 6 8 n (by omega) (by omega) (by omega) (by omega) l v _ (h.mext hm1) hl).mono ?_
  rintro r m2 ⟨N, l', v', rfl, hN, hN2, hl', hok, hacc, hm2⟩
  obtain ⟨w1, w2, w3⟩ := hacc.ok
  obtain ⟨ao, ac, rfl⟩ := hacc.arcs.len
  have hnx := hm2.next
  simp only [Mem.next_new] at hnx
  obtain ⟨K, rfl⟩ : ∃ K : Nat, N = K := ⟨N.toNat, by omega⟩
  have hnet : NetOk K l' := ⟨hN, by omega, by omega, hok⟩
  have n0 : (m.next + 1 = m2.next) = False := eq_false (by omega)
  have g1 : m2.get (m.next + 1) = some (.cells [.int .i64 a, .int .i64 b] 38 2) := (hm2.get _ (by simp only [Mem.next_new]; omega)).trans (by have := (m.new (.cells [.int .i64 n, v] 24 2)).get_new (.cells [.int .i64 a, .int .i64 b] 38 2); rwa [Mem.next_new] at this)
  have hmB : Mext m2 ((m2.new (.cells [.int .i64 0, .slice none 0 0] 24 2)).set m2.next (.cells [.int .i64 K, .slice ao l'.length ac] 24 2)) := ((Mext.refl m2).new _).set (Nat.le_refl _) _
  have ext0 : ∀ M, Mext ((m2.new (.cells [.int .i64 0, .slice none 0 0] 24 2)).set m2.next (.cells [.int .i64 K, .slice ao l'.length ac] 24 2)) M → Mext m M ∧ Arcs M (.slice ao l'.length ac) l' ∧ M.get m2.next = some (.cells [.int .i64 K, .slice ao l'.length ac] 24 2) ∧ M.get (m.next + 1) = some (.cells [.int .i64 a, .int .i64 b] 38 2) ∧ m2.next < M.next := by
    intro M hM
    have := hM.next
    rw [next_set, Mem.next_new] at this
    exact ⟨(hm1.trans (hm2.trans hmB)).trans hM, (hacc.arcs).mext (hmB.trans hM), (hM.get _ (by rw [next_set, Mem.next_new]; omega)).trans (Mem.get_set _ _ _), (hM.get _ (by rw [next_set, Mem.next_new]; omega)).trans ((hmB.get _ (by omega)).trans g1), by omega⟩
  simp (decide := true) only [zc24, w1, w2, w3, n0, g1, EV2, MVn, qv, qvK, List.set_cons_zero, List.set_cons_succ, List.toList_toArray, Int.reduceToNat, Nat.reduceAdd, Nat.reduceMul, Nat.one_mul, Bool.not_true, Bool.not_false, EV, step, List.map_cons, List.map_nil, Option.map_some, Option.map_none, if_true, if_false, reduceIte, List.getElem?_cons_zero, List.getElem?_cons_succ, Option.getD_some, List.nil_append, List.append_nil, List.cons_append, List.getElem?_nil, Option.getD_none, true_implies, false_implies, not_true_eq_false, not_false_eq_true, and_true, true_and, decide_true, decide_false, Int.natCast_nonneg, Int.toNat_natCast, Nat.mul_one, List.size_toArray, List.getElem?_toArray, List.length_cons, List.length_nil, Nat.zero_add, Nat.add_zero, List.drop_zero, List.take_succ_cons, List.take_zero, List.drop_succ_cons, List.all_cons, List.all_nil, Bool.and_true, Bool.and_self, and_self]
  refine (ends_spec hΓ K a b hN (by omega) _).mono ?_
  rintro r m3 ⟨s, t, rfl, hs0, hsK, ht0, htK, hst, hm3⟩
  obtain ⟨s, rfl⟩ : ∃ s' : Nat, s = s' := ⟨s.toNat, by omega⟩
  obtain ⟨t, rfl⟩ : ∃ t' : Nat, t = t' := ⟨t.toNat, by omega⟩
  obtain ⟨e3, a3, g3, gb3, hx3⟩ := ext0 m3 hm3
  have hst' : s ≠ t := by omega
  obtain ⟨vp, p1, p2, v2, m4, p3, hacc4, hm4⟩ := prefix_copy 2 (hL.mext e3) hLa 10 (by omega) (by omega)
  have hmin : min (L.length : Int) 10 = ((min L.length 10 : Nat) : Int) := by omega
  have ext : ∀ M, Mext m4 M → Mext m M ∧ Arcs M (.slice ao l'.length ac) l' ∧ M.get m2.next = some (.cells [.int .i64 K, .slice ao l'.length ac] 24 2) ∧ M.get (m.next + 1) = some (.cells [.int .i64 a, .int .i64 b] 38 2) ∧ m2.next < M.next := fun M hM => ext0 M ((hm3.trans hm4).trans hM)
  simp (decide := true) only [hmin, p1, p2, p3, EV2, MVn, qv, qvK, List.set_cons_zero, List.set_cons_succ, List.toList_toArray, Int.reduceToNat, Nat.reduceAdd, Nat.reduceMul, Nat.one_mul, Bool.not_true, Bool.not_false, EV, step, List.map_cons, List.map_nil, Option.map_some, Option.map_none, if_true, if_false, reduceIte, List.getElem?_cons_zero, List.getElem?_cons_succ, Option.getD_some, List.nil_append, List.append_nil, List.cons_append, List.getElem?_nil, Option.getD_none, true_implies, false_implies, not_true_eq_false, not_false_eq_true, and_true, true_and, decide_true, decide_false, Int.natCast_nonneg, Int.toNat_natCast, Nat.mul_one, List.size_toArray, List.getElem?_toArray, List.length_cons, List.length_nil, Nat.zero_add, Nat.add_zero, List.drop_zero, List.take_succ_cons, List.take_zero, List.drop_succ_cons, List.all_cons, List.all_nil, Bool.and_true, Bool.and_self, and_self]
  refine W_loop (fun k f M => ∃ (i : Nat) (own : Value) (F : List Int), i ≤ 3 ∧ k = 3 - i ∧ Mext m4 M ∧ Ints M own F ∧ F.length < 1000000 ∧ (f 2).v = .slice lo L.length lc ∧ (f 4).v = .pointer (some ⟨m.next + 1, 0, none⟩) ∧ (f 7).v = .pointer (some ⟨m2.next, 0, none⟩) ∧ (f 8).v = .int .i64 s ∧ (f 9).v = .int .i64 t ∧ (f 10).v = own ∧ (f 11).v = .int .i64 i)
    3 ⟨0, v2, _, by omega, rfl, Mext.refl _, hacc4.ints, by rw [List.length_take]; omega, rfl, rfl, rfl, rfl, rfl, rfl, rfl⟩ hΓ ?_
  rintro k f M ⟨i, own, F, hi, rfl, hM, hF, hFl, f2, f4, f7, f8, f9, f10, f11⟩ Q1 hnr he hret
  obtain ⟨eM, aM, gM, gbM, hxM⟩ := ext M hM
  by_cases hlt : i < 3
  · have hlt' : ((i : Int) < 3) = True := eq_true (by omega)
    have hw : IntKind.wrap .i64 ((i : Int) + 1) = ((i + 1 : Nat) : Int) := by rw [wrap_i64 (by omega) (by omega)]; omega
    simp (decide := true) only [f2, f4, f7, f8, f9, f10, f11, gM, hlt', EV2, MVn, qv, qvK, List.set_cons_zero, List.set_cons_succ, List.toList_toArray, Int.reduceToNat, Nat.reduceAdd, Nat.reduceMul, Nat.one_mul, Bool.not_true, Bool.not_false, EV, step, List.map_cons, List.map_nil, Option.map_some, Option.map_none, if_true, if_false, reduceIte, List.getElem?_cons_zero, List.getElem?_cons_succ, Option.getD_some, List.nil_append, List.append_nil, List.cons_append, List.getElem?_nil, Option.getD_none, true_implies, false_implies, not_true_eq_false, not_false_eq_true, and_true, true_and, decide_true, decide_false, Int.natCast_nonneg, Int.toNat_natCast, Nat.mul_one, List.size_toArray, List.getElem?_toArray, List.length_cons, List.length_nil, Nat.zero_add, Nat.add_zero, List.drop_zero, List.take_succ_cons, List.take_zero, List.drop_succ_cons, List.all_cons, List.all_nil, Bool.and_true, Bool.and_self, and_self]
    refine (net_spec hΓ K l' _ M aM (by omega)).mono ?_
    rintro r M1 ⟨v5, rfl, hacc5, hM1⟩
    refine (isFlow_spec hΓ K l' v5 own F s t M1 hacc5.arcs (hF.mext hM1) hnet (by omega) (by omega) hst' hFl).mono ?_
    rintro r1 M2 ⟨hj1, hM2⟩
    have h02 := hM1.trans hM2
    obtain ⟨e2, a2, g2, gb2, hx2⟩ := ext M2 (hM.trans h02)
    obtain ⟨vv, ok, hr1, _⟩ := hj1.det hj1
    rw [hr1] at hj1
    subst hr1
    simp (decide := true) only [f7, f8, f9, f10, g2, EV2, MVn, qv, qvK, List.set_cons_zero, List.set_cons_succ, List.toList_toArray, Int.reduceToNat, Nat.reduceAdd, Nat.reduceMul, Nat.one_mul, Bool.not_true, Bool.not_false, EV, step, List.map_cons, List.map_nil, Option.map_some, Option.map_none, if_true, if_false, reduceIte, List.getElem?_cons_zero, List.getElem?_cons_succ, Option.getD_some, List.nil_append, List.append_nil, List.cons_append, List.getElem?_nil, Option.getD_none, true_implies, false_implies, not_true_eq_false, not_false_eq_true, and_true, true_and, decide_true, decide_false, Int.natCast_nonneg, Int.toNat_natCast, Nat.mul_one, List.size_toArray, List.getElem?_toArray, List.length_cons, List.length_nil, Nat.zero_add, Nat.add_zero, List.drop_zero, List.take_succ_cons, List.take_zero, List.drop_succ_cons, List.all_cons, List.all_nil, Bool.and_true, Bool.and_self, and_self]
    refine (rIsFlow_spec hΓ K l' (.slice ao l'.length ac) own F s t M2 a2 (hF.mext h02) hnet (by omega) (by omega) hst' hFl).mono ?_
    rintro r2 M3 ⟨hj2, hM3⟩
    obtain ⟨vv', ok', q1, q2⟩ := hj1.det hj2
    have hr2 : r2 = .tuple #[.int .i64 vv, .bool ok] := by rw [q2, ← q1]
    subst hr2
    have h03 := h02.trans hM3
    obtain ⟨e3', a3', g3', gb3', hx3'⟩ := ext M3 (hM.trans h03)
    have hbeq : ((ok == ok) != true) = false := by cases ok <;> rfl
    have hvv : (vv = vv) = True := eq_true rfl
    -- the next round
    have next : ∀ (M4 : Mem) (own : Value) (F : List Int), Mext m4 M4 → Ints M4 own F → F.length < 1000000 → ∀ f2 : Fr, (f2 2).v = .slice lo L.length lc → (f2 4).v = .pointer (some ⟨m.next + 1, 0, none⟩) → (f2 7).v = .pointer (some ⟨m2.next, 0, none⟩) → (f2 8).v = .int .i64 s → (f2 9).v = .int .i64 t → (f2 10).v = own → (f2 11).v = .int .i64 ((i + 1 : Nat) : Int) → Q1 .normal f2 M4 := by
      intro M4 own F u1 u2 u3 f2 u4 u5 u6 u7 u8 u9 u10
      exact hnr _ _ _ (by omega) ⟨i + 1, own, F, hlt, rfl, u1, u2, u3, u4, u5, u6, u7, u8, u9, u10⟩
    by_cases hi0 : i = 0
    · subst hi0
      have h00 : (((0 : Nat) : Int) = 0) = True := eq_true rfl
      simp (decide := true) only [f2, f7, f11, g3', hbeq, hvv, h00, ne_eq, EV2, MVn, qv, qvK, List.set_cons_zero, List.set_cons_succ, List.toList_toArray, Int.reduceToNat, Nat.reduceAdd, Nat.reduceMul, Nat.one_mul, Bool.not_true, Bool.not_false, EV, step, List.map_cons, List.map_nil, Option.map_some, Option.map_none, if_true, if_false, reduceIte, List.getElem?_cons_zero, List.getElem?_cons_succ, Option.getD_some, List.nil_append, List.append_nil, List.cons_append, List.getElem?_nil, Option.getD_none, true_implies, false_implies, not_true_eq_false, not_false_eq_true, and_true, true_and, decide_true, decide_false, Int.natCast_nonneg, Int.toNat_natCast, Nat.mul_one, List.size_toArray, List.getElem?_toArray, List.length_cons, List.length_nil, Nat.zero_add, Nat.add_zero, List.drop_zero, List.take_succ_cons, List.take_zero, List.drop_succ_cons, List.all_cons, List.all_nil, Bool.and_true, Bool.and_self, and_self]
      have hstep : ∀ (M : Mem) (j : Nat) (w : Value) (G : List Int) (z : Int), Mext M3 M → Acc M3 M w (intCells G) 2 1 → G.length = j → j ≤ 8 → ∃ w' M', appL 2 1 8 w 1 [.int .i64 z] M = some (w', M') ∧ Mext M3 M' ∧ Acc M3 M' w' (intCells (G ++ [z])) 2 1 := by
        intro M j w G z hM hG hj hj8
        obtain ⟨w', M', u1, u2, _, u4, u5⟩ := app1_acc2 (bytes := 8) (x := [.int .i64 z]) hG hM.next (intCells_one _) rfl rfl (by rw [intCells_len]; omega) (by omega)
        exact ⟨w', M', u1, ⟨by have := hM.next; omega, fun q hq => (u5 q (by have := hM.next; omega) (hG.off hq)).trans (hM.get q hq)⟩, by rw [← intCells_snoc]; exact u2⟩
      refine W_loop (fun k f M => ∃ (j : Nat) (w : Value) (G : List Int), j ≤ l'.length ∧ k = l'.length - j ∧ Mext M3 M ∧ Acc M3 M w (intCells G) 2 1 ∧ G.length = j ∧ (f 2).v = .slice lo L.length lc ∧ (f 4).v = .pointer (some ⟨m.next + 1, 0, none⟩) ∧ (f 7).v = .pointer (some ⟨m2.next, 0, none⟩) ∧ (f 8).v = .int .i64 s ∧ (f 9).v = .int .i64 t ∧ (f 10).v = w ∧ (f 11).v = .int .i64 ((0 : Nat) : Int) ∧ (f 16).v = .int .i64 j)
        l'.length ⟨0, _, [], by omega, rfl, Mext.refl _, .inl ⟨rfl, rfl⟩, rfl, by simp [sem, f2], by simp [sem, f4], by simp [sem, f7], by simp [sem, f8], by simp [sem, f9], rfl, by simp [sem, f11], rfl⟩ hΓ ?_
      clear f2 f4 f7 f8 f9 f10 f11
      rintro k f M4 ⟨j, wv, G, hj, rfl, hM4, hG, hGl, f2, f4, f7, f8, f9, f10, f11, f16⟩ Q2 hn2 he2 hret2
      obtain ⟨e4, a4, g4, gb4, hx4⟩ := ext M4 ((hM.trans h03).trans hM4)
      by_cases hjl : j < l'.length
      · have hjl' : ((j : Int) < l'.length) = True := eq_true (by omega)
        have hwj : IntKind.wrap .i64 ((j : Int) + 1) = ((j + 1 : Nat) : Int) := by rw [wrap_i64 (by omega) (by omega)]; omega
        have z2 : zeros Try.prog 2 1 = [.int .i64 0] := by kernel_rfl
        by_cases hjL : j < L.length
        · have hjL' : ((j : Int) < L.length) = True := eq_true (by omega)
          obtain ⟨la, rfl, _, hla, lcell⟩ := (hL.mext e4).ld hjL
          obtain ⟨aa, rfl, _, haa, _, _, _, acell⟩ := a4.ld hjl
          have hyc := (hok _ (List.getElem_mem hjl)).2.2.2
          generalize l'[j] = y at acell hyc
          generalize L[j] = x at lcell
          have hc1 : IntKind.wrap .i64 (y.c + 1) = y.c + 1 := wrap_i64 (by omega) (by omega)
          have hc2 : IntKind.wrap .u64 (y.c + 1) = y.c + 1 := wrap_u64 (by omega) (by omega)
          have hcz : (y.c + 1 = 0) = False := eq_false (by omega)
          obtain ⟨w', M5, u1, u2, u3⟩ := hstep M4 j wv G (IntKind.wrap .i64 ((IntKind.wrap .u64 x).tmod (y.c + 1))) hM4 hG hGl (by omega)
          simp (decide := true) only [f2, f7, f10, f16, g4, hjl', hjL', lcell, acell, hc1, hc2, hcz, z2, u1, hwj, List.length_singleton, EV2, MVn, qv, qvK, List.set_cons_zero, List.set_cons_succ, List.toList_toArray, Int.reduceToNat, Nat.reduceAdd, Nat.reduceMul, Nat.one_mul, Bool.not_true, Bool.not_false, EV, step, List.map_cons, List.map_nil, Option.map_some, Option.map_none, if_true, if_false, reduceIte, List.getElem?_cons_zero, List.getElem?_cons_succ, Option.getD_some, List.nil_append, List.append_nil, List.cons_append, List.getElem?_nil, Option.getD_none, true_implies, false_implies, not_true_eq_false, not_false_eq_true, and_true, true_and, decide_true, decide_false, Int.natCast_nonneg, Int.toNat_natCast, Nat.mul_one, List.size_toArray, List.getElem?_toArray, List.length_cons, List.length_nil, Nat.zero_add, Nat.add_zero, List.drop_zero, List.take_succ_cons, List.take_zero, List.drop_succ_cons, List.all_cons, List.all_nil, Bool.and_true, Bool.and_self, and_self]
          exact hn2 _ _ _ (by omega) ⟨j + 1, w', _, hjl, rfl, u2, u3, by simp [hGl], by simp [sem, f2], by simp [sem, f4], by simp [sem, f7], by simp [sem, f8], by simp [sem, f9], by simp [sem, Slot.v], by simp [sem, f11], by simp [sem, Slot.v]⟩
        · have hjL' : ((j : Int) < L.length) = False := eq_false (by omega)
          obtain ⟨w', M5, u1, u2, u3⟩ := hstep M4 j wv G 0 hM4 hG hGl (by omega)
          simp (decide := true) only [f2, f7, f10, f16, g4, hjl', hjL', z2, u1, hwj, List.length_singleton, EV2, MVn, qv, qvK, List.set_cons_zero, List.set_cons_succ, List.toList_toArray, Int.reduceToNat, Nat.reduceAdd, Nat.reduceMul, Nat.one_mul, Bool.not_true, Bool.not_false, EV, step, List.map_cons, List.map_nil, Option.map_some, Option.map_none, if_true, if_false, reduceIte, List.getElem?_cons_zero, List.getElem?_cons_succ, Option.getD_some, List.nil_append, List.append_nil, List.cons_append, List.getElem?_nil, Option.getD_none, true_implies, false_implies, not_true_eq_false, not_false_eq_true, and_true, true_and, decide_true, decide_false, Int.natCast_nonneg, Int.toNat_natCast, Nat.mul_one, List.size_toArray, List.getElem?_toArray, List.length_cons, List.length_nil, Nat.zero_add, Nat.add_zero, List.drop_zero, List.take_succ_cons, List.take_zero, List.drop_succ_cons, List.all_cons, List.all_nil, Bool.and_true, Bool.and_self, and_self]
          exact hn2 _ _ _ (by omega) ⟨j + 1, w', _, hjl, rfl, u2, u3, by simp [hGl], by simp [sem, f2], by simp [sem, f4], by simp [sem, f7], by simp [sem, f8], by simp [sem, f9], by simp [sem, Slot.v], by simp [sem, f11], by simp [sem, Slot.v]⟩
      · have hjl' : ((j : Int) < l'.length) = False := eq_false (by omega)
        simp (decide := true) only [f7, f16, g4, hjl', EV2, MVn, qv, qvK, List.set_cons_zero, List.set_cons_succ, List.toList_toArray, Int.reduceToNat, Nat.reduceAdd, Nat.reduceMul, Nat.one_mul, Bool.not_true, Bool.not_false, EV, step, List.map_cons, List.map_nil, Option.map_some, Option.map_none, if_true, if_false, reduceIte, List.getElem?_cons_zero, List.getElem?_cons_succ, Option.getD_some, List.nil_append, List.append_nil, List.cons_append, List.getElem?_nil, Option.getD_none, true_implies, false_implies, not_true_eq_false, not_false_eq_true, and_true, true_and, decide_true, decide_false, Int.natCast_nonneg, Int.toNat_natCast, Nat.mul_one, List.size_toArray, List.getElem?_toArray, List.length_cons, List.length_nil, Nat.zero_add, Nat.add_zero, List.drop_zero, List.take_succ_cons, List.take_zero, List.drop_succ_cons, List.all_cons, List.all_nil, Bool.and_true, Bool.and_self, and_self]
        refine he2 _ _ _ ?_
        simp (decide := true) only [f11, hw, EV2, MVn, qv, qvK, List.set_cons_zero, List.set_cons_succ, List.toList_toArray, Int.reduceToNat, Nat.reduceAdd, Nat.reduceMul, Nat.one_mul, Bool.not_true, Bool.not_false, EV, step, List.map_cons, List.map_nil, Option.map_some, Option.map_none, if_true, if_false, reduceIte, List.getElem?_cons_zero, List.getElem?_cons_succ, Option.getD_some, List.nil_append, List.append_nil, List.cons_append, List.getElem?_nil, Option.getD_none, true_implies, false_implies, not_true_eq_false, not_false_eq_true, and_true, true_and, decide_true, decide_false, Int.natCast_nonneg, Int.toNat_natCast, Nat.mul_one, List.size_toArray, List.getElem?_toArray, List.length_cons, List.length_nil, Nat.zero_add, Nat.add_zero, List.drop_zero, List.take_succ_cons, List.take_zero, List.drop_succ_cons, List.all_cons, List.all_nil, Bool.and_true, Bool.and_self, and_self]
        exact next M4 wv G ((hM.trans h03).trans hM4) hG.ints (by omega) _ (by simp [sem, f2]) (by simp [sem, f4]) (by simp [sem, f7]) (by simp [sem, f8]) (by simp [sem, f9]) (by simp [sem, f10]) (by simp [sem, Slot.v])
    · have h00 : ((i : Int) = 0) = False := eq_false (by omega)
      simp (decide := true) only [f2, f7, f8, f9, f10, f11, g3', hbeq, hvv, h00, ne_eq, EV2, MVn, qv, qvK, List.set_cons_zero, List.set_cons_succ, List.toList_toArray, Int.reduceToNat, Nat.reduceAdd, Nat.reduceMul, Nat.one_mul, Bool.not_true, Bool.not_false, EV, step, List.map_cons, List.map_nil, Option.map_some, Option.map_none, if_true, if_false, reduceIte, List.getElem?_cons_zero, List.getElem?_cons_succ, Option.getD_some, List.nil_append, List.append_nil, List.cons_append, List.getElem?_nil, Option.getD_none, true_implies, false_implies, not_true_eq_false, not_false_eq_true, and_true, true_and, decide_true, decide_false, Int.natCast_nonneg, Int.toNat_natCast, Nat.mul_one, List.size_toArray, List.getElem?_toArray, List.length_cons, List.length_nil, Nat.zero_add, Nat.add_zero, List.drop_zero, List.take_succ_cons, List.take_zero, List.drop_succ_cons, List.all_cons, List.all_nil, Bool.and_true, Bool.and_self, and_self]
      refine (net_spec hΓ K l' _ M3 a3' (by omega)).mono ?_
      rintro r M4 ⟨v6, rfl, hacc6, hM4⟩
      refine (Most_spec hΓ K l' v6 s t M4 hacc6.arcs hnet hsK htK hst').mono ?_
      rintro r M5 ⟨value, left, lev, vf, rfl, hfound, haccf, hM5⟩
      have h05 := (h03.trans hM4).trans hM5
      obtain ⟨e5, a5, g5, gb5, hx5⟩ := ext M5 (hM.trans h05)
      obtain ⟨fo, fc, hvf⟩ := (haccf.ints).len
      rw [flowOf_len] at hvf
      subst hvf
      have hll : ((l'.length : Int) = l'.length) = True := eq_true rfl
      simp (decide := true) only [f2, f7, g5, hll, ne_eq, EV2, MVn, qv, qvK, List.set_cons_zero, List.set_cons_succ, List.toList_toArray, Int.reduceToNat, Nat.reduceAdd, Nat.reduceMul, Nat.one_mul, Bool.not_true, Bool.not_false, EV, step, List.map_cons, List.map_nil, Option.map_some, Option.map_none, if_true, if_false, reduceIte, List.getElem?_cons_zero, List.getElem?_cons_succ, Option.getD_some, List.nil_append, List.append_nil, List.cons_append, List.getElem?_nil, Option.getD_none, true_implies, false_implies, not_true_eq_false, not_false_eq_true, and_true, true_and, decide_true, decide_false, Int.natCast_nonneg, Int.toNat_natCast, Nat.mul_one, List.size_toArray, List.getElem?_toArray, List.length_cons, List.length_nil, Nat.zero_add, Nat.add_zero, List.drop_zero, List.take_succ_cons, List.take_zero, List.drop_succ_cons, List.all_cons, List.all_nil, Bool.and_true, Bool.and_self, and_self]
      by_cases hl0 : 0 < l'.length
      · have hl0' : ((0 : Int) < (l'.length : Int)) = True := eq_true (by omega)
        by_cases hL0 : 0 < L.length
        · have hL0' : ((0 : Int) < (L.length : Int)) = True := eq_true (by omega)
          obtain ⟨la, rfl, _, hla, lcell⟩ := (hL.mext e5).ld hL0
          generalize L[0] = x at lcell
          have hu : IntKind.wrap .u64 (l'.length : Int) = (l'.length : Int) := wrap_u64 (by omega) (by omega)
          have hz : ((l'.length : Int) = 0) = False := eq_false (by omega)
          have hlow := low_range x (k := (l'.length : Int)) (by omega) (by omega)
          obtain ⟨ix, hix⟩ : ∃ ix : Nat, low x (l'.length : Int) = ix := ⟨(low x (l'.length : Int)).toNat, by omega⟩
          have hlo : IntKind.wrap .i64 ((IntKind.wrap .u64 x).tmod (l'.length : Int)) = (ix : Int) := hix
          have hixl : ix < l'.length := by omega
          have hixl' : ((ix : Int) < (l'.length : Int)) = True := eq_true (by omega)
          have hFL := flowOf_len l' left l'.length
          obtain ⟨rr, cc, q1, q2, q3, q4⟩ := haccf.store (j := ix) (by rw [hFL]; exact hixl) (IntKind.wrap .i64 ((flowOf l' left l'.length)[ix]'(by rw [hFL]; exact hixl) - 1))
          rw [hFL] at q1
          cases q1
          have hget : ((flowOf l' left l'.length).map (Value.int .i64))[ix]? = some (.int .i64 ((flowOf l' left l'.length)[ix]'(by rw [hFL]; exact hixl))) := by
            rw [List.getElem?_map, List.getElem?_eq_getElem (by rw [hFL]; exact hixl)]; rfl
          have hmlen : ((flowOf l' left l'.length).map (Value.int .i64)).length = l'.length := by rw [List.length_map, hFL]
          have hle : (ix + 1 ≤ l'.length) = True := eq_true (by omega)
          have hl00 : ((0 : Int) < L.length) = True := hL0'
          rw [Nat.add_zero] at lcell
          simp (decide := true) only [f2, hl0', hL0', lcell, hu, hz, hlo, hixl', q3, hget, hmlen, hle, f11, hw, EV2, MVn, qv, qvK, List.set_cons_zero, List.set_cons_succ, List.toList_toArray, Int.reduceToNat, Nat.reduceAdd, Nat.reduceMul, Nat.one_mul, Bool.not_true, Bool.not_false, EV, step, List.map_cons, List.map_nil, Option.map_some, Option.map_none, if_true, if_false, reduceIte, List.getElem?_cons_zero, List.getElem?_cons_succ, Option.getD_some, List.nil_append, List.append_nil, List.cons_append, List.getElem?_nil, Option.getD_none, true_implies, false_implies, not_true_eq_false, not_false_eq_true, and_true, true_and, decide_true, decide_false, Int.natCast_nonneg, Int.toNat_natCast, Nat.mul_one, List.size_toArray, List.getElem?_toArray, List.length_cons, List.length_nil, Nat.zero_add, Nat.add_zero, List.drop_zero, List.take_succ_cons, List.take_zero, List.drop_succ_cons, List.all_cons, List.all_nil, Bool.and_true, Bool.and_self, and_self]
          refine next _ _ _ ?_ q4.ints (by rw [List.length_set, hFL]; omega) _ (by simp [sem, f2]) (by simp [sem, f4]) (by simp [sem, f7]) (by simp [sem, f8]) (by simp [sem, f9]) (by simp [sem, Slot.v]) (by simp [sem, Slot.v])
          exact (hM.trans h05).set (by have := hM4.next; have := (hM.trans h03).next; omega) _
        · have hL0' : ((0 : Int) < (L.length : Int)) = False := eq_false (by omega)
          simp (decide := true) only [f2, hl0', hL0', f11, hw, EV2, MVn, qv, qvK, List.set_cons_zero, List.set_cons_succ, List.toList_toArray, Int.reduceToNat, Nat.reduceAdd, Nat.reduceMul, Nat.one_mul, Bool.not_true, Bool.not_false, EV, step, List.map_cons, List.map_nil, Option.map_some, Option.map_none, if_true, if_false, reduceIte, List.getElem?_cons_zero, List.getElem?_cons_succ, Option.getD_some, List.nil_append, List.append_nil, List.cons_append, List.getElem?_nil, Option.getD_none, true_implies, false_implies, not_true_eq_false, not_false_eq_true, and_true, true_and, decide_true, decide_false, Int.natCast_nonneg, Int.toNat_natCast, Nat.mul_one, List.size_toArray, List.getElem?_toArray, List.length_cons, List.length_nil, Nat.zero_add, Nat.add_zero, List.drop_zero, List.take_succ_cons, List.take_zero, List.drop_succ_cons, List.all_cons, List.all_nil, Bool.and_true, Bool.and_self, and_self]
          exact next _ _ _ (hM.trans h05) haccf.ints (by rw [flowOf_len]; omega) _ (by simp [sem, f2]) (by simp [sem, f4]) (by simp [sem, f7]) (by simp [sem, f8]) (by simp [sem, f9]) (by simp [sem, Slot.v]) (by simp [sem, Slot.v])
      · have hl0' : ((0 : Int) < (l'.length : Int)) = False := eq_false (by omega)
        simp (decide := true) only [f2, hl0', f11, hw, EV2, MVn, qv, qvK, List.set_cons_zero, List.set_cons_succ, List.toList_toArray, Int.reduceToNat, Nat.reduceAdd, Nat.reduceMul, Nat.one_mul, Bool.not_true, Bool.not_false, EV, step, List.map_cons, List.map_nil, Option.map_some, Option.map_none, if_true, if_false, reduceIte, List.getElem?_cons_zero, List.getElem?_cons_succ, Option.getD_some, List.nil_append, List.append_nil, List.cons_append, List.getElem?_nil, Option.getD_none, true_implies, false_implies, not_true_eq_false, not_false_eq_true, and_true, true_and, decide_true, decide_false, Int.natCast_nonneg, Int.toNat_natCast, Nat.mul_one, List.size_toArray, List.getElem?_toArray, List.length_cons, List.length_nil, Nat.zero_add, Nat.add_zero, List.drop_zero, List.take_succ_cons, List.take_zero, List.drop_succ_cons, List.all_cons, List.all_nil, Bool.and_true, Bool.and_self, and_self]
        exact next _ _ _ (hM.trans h05) haccf.ints (by rw [flowOf_len]; omega) _ (by simp [sem, f2]) (by simp [sem, f4]) (by simp [sem, f7]) (by simp [sem, f8]) (by simp [sem, f9]) (by simp [sem, Slot.v]) (by simp [sem, Slot.v])
  · have hlt' : ((i : Int) < 3) = False := eq_false (by omega)
    simp (decide := true) only [f11, hlt', EV2, MVn, qv, qvK, List.set_cons_zero, List.set_cons_succ, List.toList_toArray, Int.reduceToNat, Nat.reduceAdd, Nat.reduceMul, Nat.one_mul, Bool.not_true, Bool.not_false, EV, step, List.map_cons, List.map_nil, Option.map_some, Option.map_none, if_true, if_false, reduceIte, List.getElem?_cons_zero, List.getElem?_cons_succ, Option.getD_some, List.nil_append, List.append_nil, List.cons_append, List.getElem?_nil, Option.getD_none, true_implies, false_implies, not_true_eq_false, not_false_eq_true, and_true, true_and, decide_true, decide_false, Int.natCast_nonneg, Int.toNat_natCast, Nat.mul_one, List.size_toArray, List.getElem?_toArray, List.length_cons, List.length_nil, Nat.zero_add, Nat.add_zero, List.drop_zero, List.take_succ_cons, List.take_zero, List.drop_succ_cons, List.all_cons, List.all_nil, Bool.and_true, Bool.and_self, and_self]
    refine he _ _ _ ?_
    simp (decide := true) only [EV2, MVn, qv, qvK, List.set_cons_zero, List.set_cons_succ, List.toList_toArray, Int.reduceToNat, Nat.reduceAdd, Nat.reduceMul, Nat.one_mul, Bool.not_true, Bool.not_false, EV, step, List.map_cons, List.map_nil, Option.map_some, Option.map_none, if_true, if_false, reduceIte, List.getElem?_cons_zero, List.getElem?_cons_succ, Option.getD_some, List.nil_append, List.append_nil, List.cons_append, List.getElem?_nil, Option.getD_none, true_implies, false_implies, not_true_eq_false, not_false_eq_true, and_true, true_and, decide_true, decide_false, Int.natCast_nonneg, Int.toNat_natCast, Nat.mul_one, List.size_toArray, List.getElem?_toArray, List.length_cons, List.length_nil, Nat.zero_add, Nat.add_zero, List.drop_zero, List.take_succ_cons, List.take_zero, List.drop_succ_cons, List.all_cons, List.all_nil, Bool.and_true, Bool.and_self, and_self]
    have hLM := hL.mext eM
    have hstep : ∀ (M' : Mem) (j : Nat) (w : Value) (G : List Int) (z : Int), Mext M M' → Acc M M' w (intCells G) 3 1 → G.length = j → j ≤ 8 → ∃ w' M'', appL 3 1 8 w 1 [.int .i64 z] M' = some (w', M'') ∧ Mext M M'' ∧ Acc M M'' w' (intCells (G ++ [z])) 3 1 := by
      intro M' j w G z hM' hG hj hj8
      obtain ⟨w', M'', u1, u2, _, u4, u5⟩ := app1_acc2 (bytes := 8) (x := [.int .i64 z]) hG hM'.next (intCells_one _) rfl rfl (by rw [intCells_len]; omega) (by omega)
      exact ⟨w', M'', u1, ⟨by have := hM'.next; omega, fun q hq => (u5 q (by have := hM'.next; omega) (hG.off hq)).trans (hM'.get q hq)⟩, by rw [← intCells_snoc]; exact u2⟩
    refine W_loop (fun k f M' => ∃ (j : Nat) (w : Value) (G : List Int), j ≤ 8 ∧ j ≤ L.length ∧ k = 8 - j ∧ Mext M M' ∧ Acc M M' w (intCells G) 3 1 ∧ G.length = j ∧ (f 2).v = .slice lo L.length lc ∧ (f 4).v = .pointer (some ⟨m.next + 1, 0, none⟩) ∧ (f 7).v = .pointer (some ⟨m2.next, 0, none⟩) ∧ (f 21).v = w ∧ (f 22).v = .int .i64 j)
      8 ⟨0, _, [], by omega, by omega, rfl, Mext.refl _, .inl ⟨rfl, rfl⟩, rfl, by simp [sem, f2], by simp [sem, f4], by simp [sem, f7], rfl, rfl⟩ hΓ ?_
    clear f2 f4 f7 f8 f9 f10 f11
    rintro k f M1 ⟨j, wv, G, hj8, hjL, rfl, hM1, hG, hGl, f2, f4, f7, f21, f22⟩ Q1 hn1 he1 hret1
    obtain ⟨e1, a1, g1', gb1, hx1⟩ := ext M1 (hM.trans hM1)
    by_cases hj : j < L.length ∧ j < 8
    · have hjl' : ((j : Int) < (L.length : Int)) = True := eq_true (by omega)
      have hj8' : ((j : Int) < 8) = True := eq_true (by omega)
      have hwj : IntKind.wrap .i64 ((j : Int) + 1) = ((j + 1 : Nat) : Int) := by rw [wrap_i64 (by omega) (by omega)]; omega
      obtain ⟨la, rfl, _, hla, lcell⟩ := (hL.mext e1).ld hj.1
      generalize L[j] = x at lcell
      obtain ⟨w', M2, u1, u2, u3⟩ := hstep M1 j wv G (x.tmod 10) hM1 hG hGl hj8
      simp (decide := true) only [f2, f21, f22, hjl', hj8', lcell, zeros31, u1, hwj, List.length_singleton, EV2, MVn, qv, qvK, List.set_cons_zero, List.set_cons_succ, List.toList_toArray, Int.reduceToNat, Nat.reduceAdd, Nat.reduceMul, Nat.one_mul, Bool.not_true, Bool.not_false, EV, step, List.map_cons, List.map_nil, Option.map_some, Option.map_none, if_true, if_false, reduceIte, List.getElem?_cons_zero, List.getElem?_cons_succ, Option.getD_some, List.nil_append, List.append_nil, List.cons_append, List.getElem?_nil, Option.getD_none, true_implies, false_implies, not_true_eq_false, not_false_eq_true, and_true, true_and, decide_true, decide_false, Int.natCast_nonneg, Int.toNat_natCast, Nat.mul_one, List.size_toArray, List.getElem?_toArray, List.length_cons, List.length_nil, Nat.zero_add, Nat.add_zero, List.drop_zero, List.take_succ_cons, List.take_zero, List.drop_succ_cons, List.all_cons, List.all_nil, Bool.and_true, Bool.and_self, and_self]
      exact hn1 _ _ _ (by omega) ⟨j + 1, w', _, by omega, by omega, rfl, u2, u3, by simp [hGl], by simp [sem, f2], by simp [sem, f4], by simp [sem, f7], by simp [sem, Slot.v], by simp [sem, Slot.v]⟩
    · have fin : ∀ f3 : Fr, (f3 4).v = .pointer (some ⟨m.next + 1, 0, none⟩) → (f3 7).v = .pointer (some ⟨m2.next, 0, none⟩) → (f3 21).v = wv → Q1 (.exit 4) f3 M1 := by
        clear f2 f4 f7 f21 f22 hn1 hret1
        intro f3 f4 f7 f21
        refine he1 _ _ _ ?_
        simp (decide := true) only [EV2, MVn, qv, qvK, List.set_cons_zero, List.set_cons_succ, List.toList_toArray, Int.reduceToNat, Nat.reduceAdd, Nat.reduceMul, Nat.one_mul, Bool.not_true, Bool.not_false, EV, step, List.map_cons, List.map_nil, Option.map_some, Option.map_none, if_true, if_false, reduceIte, List.getElem?_cons_zero, List.getElem?_cons_succ, Option.getD_some, List.nil_append, List.append_nil, List.cons_append, List.getElem?_nil, Option.getD_none, true_implies, false_implies, not_true_eq_false, not_false_eq_true, and_true, true_and, decide_true, decide_false, Int.natCast_nonneg, Int.toNat_natCast, Nat.mul_one, List.size_toArray, List.getElem?_toArray, List.length_cons, List.length_nil, Nat.zero_add, Nat.add_zero, List.drop_zero, List.take_succ_cons, List.take_zero, List.drop_succ_cons, List.all_cons, List.all_nil, Bool.and_true, Bool.and_self, and_self]
        refine W_loop (fun k f M' => ∃ (j : Nat) (w : Value) (G : List Int), j ≤ 2 ∧ k = 2 - j ∧ Mext M1 M' ∧ Ints M' w G ∧ G.length < 1000000 ∧ (f 4).v = .pointer (some ⟨m.next + 1, 0, none⟩) ∧ (f 7).v = .pointer (some ⟨m2.next, 0, none⟩) ∧ (f 21).v = w ∧ (f 23).v = .int .i64 j)
          2 ⟨0, wv, G, by omega, rfl, Mext.refl _, hG.ints, by omega, by simp [sem, f4], by simp [sem, f7], by simp [sem, f21], rfl⟩ hΓ ?_
        clear f4 f7 f21 f3
        rintro k f M2 ⟨j, w, G, hj, rfl, hM2, hG, hGl, f4, f7, f21, f23⟩ Q2 hn2 he2 hret2
        obtain ⟨e2, a2, g2, gb2, hx2⟩ := ext M2 ((hM.trans hM1).trans hM2)
        by_cases hj2 : j < 2
        · have hj2' : ((j : Int) < 2) = True := eq_true (by omega)
          have hwj : IntKind.wrap .i64 ((j : Int) + 1) = ((j + 1 : Nat) : Int) := by rw [wrap_i64 (by omega) (by omega)]; omega
          simp (decide := true) only [f4, f7, f21, f23, hj2', g2, EV2, MVn, qv, qvK, List.set_cons_zero, List.set_cons_succ, List.toList_toArray, Int.reduceToNat, Nat.reduceAdd, Nat.reduceMul, Nat.one_mul, Bool.not_true, Bool.not_false, EV, step, List.map_cons, List.map_nil, Option.map_some, Option.map_none, if_true, if_false, reduceIte, List.getElem?_cons_zero, List.getElem?_cons_succ, Option.getD_some, List.nil_append, List.append_nil, List.cons_append, List.getElem?_nil, Option.getD_none, true_implies, false_implies, not_true_eq_false, not_false_eq_true, and_true, true_and, decide_true, decide_false, Int.natCast_nonneg, Int.toNat_natCast, Nat.mul_one, List.size_toArray, List.getElem?_toArray, List.length_cons, List.length_nil, Nat.zero_add, Nat.add_zero, List.drop_zero, List.take_succ_cons, List.take_zero, List.drop_succ_cons, List.all_cons, List.all_nil, Bool.and_true, Bool.and_self, and_self]
          refine (net_spec hΓ K l' _ M2 a2 (by omega)).mono ?_
          rintro r M3 ⟨v5, rfl, hacc5, hM3⟩
          refine (Capacity_spec hΓ K G w l' v5 M3 (hG.mext hM3) hacc5.arcs (by omega) hGl).mono ?_
          rintro r M4 ⟨rfl, hM4⟩
          have h04 := hM3.trans hM4
          obtain ⟨e4, a4, g4, gb4, hx4⟩ := ext M4 (((hM.trans hM1).trans hM2).trans h04)
          have hcr : capRes (K : Int) l' G = if rising (K : Int) (-1) G = true then (capSum G l', 0) else (0, 1) := by unfold capRes; rw [if_pos hnet]
          simp (decide := true) only [f7, f21, g4, EV2, MVn, qv, qvK, List.set_cons_zero, List.set_cons_succ, List.toList_toArray, Int.reduceToNat, Nat.reduceAdd, Nat.reduceMul, Nat.one_mul, Bool.not_true, Bool.not_false, EV, step, List.map_cons, List.map_nil, Option.map_some, Option.map_none, if_true, if_false, reduceIte, List.getElem?_cons_zero, List.getElem?_cons_succ, Option.getD_some, List.nil_append, List.append_nil, List.cons_append, List.getElem?_nil, Option.getD_none, true_implies, false_implies, not_true_eq_false, not_false_eq_true, and_true, true_and, decide_true, decide_false, Int.natCast_nonneg, Int.toNat_natCast, Nat.mul_one, List.size_toArray, List.getElem?_toArray, List.length_cons, List.length_nil, Nat.zero_add, Nat.add_zero, List.drop_zero, List.take_succ_cons, List.take_zero, List.drop_succ_cons, List.all_cons, List.all_nil, Bool.and_true, Bool.and_self, and_self]
          refine (rRising_spec hΓ K G w M4 (hG.mext h04) hGl).mono ?_
          rintro r M5 ⟨rfl, rfl⟩
          have hKw : IntKind.wrap .u64 (K : Int) = K := wrap_u64 (by omega) (by omega)
          have hK0 : ((K : Int) < 0) = False := eq_false (by omega)
          have hsh : IntKind.wrap .u64 (1 * 2 ^ (min K (IntKind.bits .u64))) = 2 ^ K := by
            have e0 : IntKind.bits .u64 = 64 := rfl
            have e : min K 64 = K := by omega
            rw [e0, e, Int.one_mul]
            have h1 : ((2 : Int) ^ K) = ((2 ^ K : Nat) : Int) := by norm_cast
            have h2 : (2 : Nat) ^ K ≤ 2 ^ 6 := Nat.pow_le_pow_right (by omega) (by omega)
            rw [h1]
            generalize (2 : Nat) ^ K = z at h2 ⊢
            exact wrap_u64 (by omega) (by omega)
          have hp0 : (((2 : Int) ^ K) = 0) = False := by
            have h2 : (0 : Int) < (2 : Int) ^ K := Int.pow_pos (by omega)
            exact eq_false (by omega)
          have hml := members_len (IntKind.wrap .i64 ((IntKind.wrap .u64 a).tmod (2 ^ K))) K
          have fin2 : ∀ M6 (f3 : Fr) (v : Value), Mext M5 M6 → Acc M5 M6 v (intCells (members (IntKind.wrap .i64 ((IntKind.wrap .u64 a).tmod (2 ^ K))) K)) 3 1 → (f3 4).v = .pointer (some ⟨m.next + 1, 0, none⟩) → (f3 7).v = .pointer (some ⟨m2.next, 0, none⟩) → (f3 21).v = v → (f3 23).v = .int .i64 ((j + 1 : Nat) : Int) → Q2 .normal f3 M6 := by
            intro M6 f3 v u1 u2 u3 u4 u5 u6
            exact hn2 _ _ _ (by omega) ⟨j + 1, v, members (IntKind.wrap .i64 ((IntKind.wrap .u64 a).tmod (2 ^ K))) K, by omega, rfl, (hM2.trans h04).trans u1, u2.ints, by omega, u3, u4, u5, u6⟩
          cases hr : rising (K : Int) (-1) G with
          | false =>
            rw [hr] at hcr
            simp (decide := true) only [hcr, hr, f4, f7, g4, gb4, hKw, hK0, hsh, hp0, ne_eq, EV2, MVn, qv, qvK, List.set_cons_zero, List.set_cons_succ, List.toList_toArray, Int.reduceToNat, Nat.reduceAdd, Nat.reduceMul, Nat.one_mul, Bool.not_true, Bool.not_false, EV, step, List.map_cons, List.map_nil, Option.map_some, Option.map_none, if_true, if_false, reduceIte, List.getElem?_cons_zero, List.getElem?_cons_succ, Option.getD_some, List.nil_append, List.append_nil, List.cons_append, List.getElem?_nil, Option.getD_none, true_implies, false_implies, not_true_eq_false, not_false_eq_true, and_true, true_and, decide_true, decide_false, Int.natCast_nonneg, Int.toNat_natCast, Nat.mul_one, List.size_toArray, List.getElem?_toArray, List.length_cons, List.length_nil, Nat.zero_add, Nat.add_zero, List.drop_zero, List.take_succ_cons, List.take_zero, List.drop_succ_cons, List.all_cons, List.all_nil, Bool.and_true, Bool.and_self, and_self]
            refine (members_spec hΓ K _ M5 (by omega)).mono ?_
            rintro r M6 ⟨hacc6, hM6⟩
            simp (decide := true) only [f23, hwj, EV2, MVn, qv, qvK, List.set_cons_zero, List.set_cons_succ, List.toList_toArray, Int.reduceToNat, Nat.reduceAdd, Nat.reduceMul, Nat.one_mul, Bool.not_true, Bool.not_false, EV, step, List.map_cons, List.map_nil, Option.map_some, Option.map_none, if_true, if_false, reduceIte, List.getElem?_cons_zero, List.getElem?_cons_succ, Option.getD_some, List.nil_append, List.append_nil, List.cons_append, List.getElem?_nil, Option.getD_none, true_implies, false_implies, not_true_eq_false, not_false_eq_true, and_true, true_and, decide_true, decide_false, Int.natCast_nonneg, Int.toNat_natCast, Nat.mul_one, List.size_toArray, List.getElem?_toArray, List.length_cons, List.length_nil, Nat.zero_add, Nat.add_zero, List.drop_zero, List.take_succ_cons, List.take_zero, List.drop_succ_cons, List.all_cons, List.all_nil, Bool.and_true, Bool.and_self, and_self]
            exact fin2 M6 _ r hM6 hacc6 (by simp [sem, f4]) (by simp [sem, f7]) (by simp [sem, Slot.v]) (by simp [sem, Slot.v])
          | true =>
            rw [hr, if_pos rfl] at hcr
            simp (decide := true) only [hcr, hr, f4, f7, f21, g4, gb4, hKw, hK0, hsh, hp0, ne_eq, EV2, MVn, qv, qvK, List.set_cons_zero, List.set_cons_succ, List.toList_toArray, Int.reduceToNat, Nat.reduceAdd, Nat.reduceMul, Nat.one_mul, Bool.not_true, Bool.not_false, EV, step, List.map_cons, List.map_nil, Option.map_some, Option.map_none, if_true, if_false, reduceIte, List.getElem?_cons_zero, List.getElem?_cons_succ, Option.getD_some, List.nil_append, List.append_nil, List.cons_append, List.getElem?_nil, Option.getD_none, true_implies, false_implies, not_true_eq_false, not_false_eq_true, and_true, true_and, decide_true, decide_false, Int.natCast_nonneg, Int.toNat_natCast, Nat.mul_one, List.size_toArray, List.getElem?_toArray, List.length_cons, List.length_nil, Nat.zero_add, Nat.add_zero, List.drop_zero, List.take_succ_cons, List.take_zero, List.drop_succ_cons, List.all_cons, List.all_nil, Bool.and_true, Bool.and_self, and_self]
            refine (rCapacity_spec hΓ K l' _ G w M5 a4 (hG.mext h04) hok (by omega) hGl).mono ?_
            rintro r M6 ⟨rfl, hM6⟩
            have hcs : (capSum G l' = capSum G l') = True := eq_true rfl
            obtain ⟨e6, a6, g6, gb6, hx6⟩ := ext M6 ((((hM.trans hM1).trans hM2).trans h04).trans hM6)
            simp (decide := true) only [hcs, f4, f7, g6, gb6, hKw, hK0, hsh, hp0, ne_eq, EV2, MVn, qv, qvK, List.set_cons_zero, List.set_cons_succ, List.toList_toArray, Int.reduceToNat, Nat.reduceAdd, Nat.reduceMul, Nat.one_mul, Bool.not_true, Bool.not_false, EV, step, List.map_cons, List.map_nil, Option.map_some, Option.map_none, if_true, if_false, reduceIte, List.getElem?_cons_zero, List.getElem?_cons_succ, Option.getD_some, List.nil_append, List.append_nil, List.cons_append, List.getElem?_nil, Option.getD_none, true_implies, false_implies, not_true_eq_false, not_false_eq_true, and_true, true_and, decide_true, decide_false, Int.natCast_nonneg, Int.toNat_natCast, Nat.mul_one, List.size_toArray, List.getElem?_toArray, List.length_cons, List.length_nil, Nat.zero_add, Nat.add_zero, List.drop_zero, List.take_succ_cons, List.take_zero, List.drop_succ_cons, List.all_cons, List.all_nil, Bool.and_true, Bool.and_self, and_self]
            refine (members_spec hΓ K _ M6 (by omega)).mono ?_
            rintro r M7 ⟨hacc7, hM7⟩
            simp (decide := true) only [f23, hwj, EV2, MVn, qv, qvK, List.set_cons_zero, List.set_cons_succ, List.toList_toArray, Int.reduceToNat, Nat.reduceAdd, Nat.reduceMul, Nat.one_mul, Bool.not_true, Bool.not_false, EV, step, List.map_cons, List.map_nil, Option.map_some, Option.map_none, if_true, if_false, reduceIte, List.getElem?_cons_zero, List.getElem?_cons_succ, Option.getD_some, List.nil_append, List.append_nil, List.cons_append, List.getElem?_nil, Option.getD_none, true_implies, false_implies, not_true_eq_false, not_false_eq_true, and_true, true_and, decide_true, decide_false, Int.natCast_nonneg, Int.toNat_natCast, Nat.mul_one, List.size_toArray, List.getElem?_toArray, List.length_cons, List.length_nil, Nat.zero_add, Nat.add_zero, List.drop_zero, List.take_succ_cons, List.take_zero, List.drop_succ_cons, List.all_cons, List.all_nil, Bool.and_true, Bool.and_self, and_self]
            exact hn2 _ _ _ (by omega) ⟨j + 1, r, members (IntKind.wrap .i64 ((IntKind.wrap .u64 a).tmod (2 ^ K))) K, by omega, rfl, ((hM2.trans h04).trans hM6).trans hM7, hacc7.ints, by omega, by simp [sem, f4], by simp [sem, f7], by simp [sem, Slot.v], by simp [sem, Slot.v]⟩
        · have hj2' : ((j : Int) < 2) = False := eq_false (by omega)
          simp (decide := true) only [f23, hj2', EV2, MVn, qv, qvK, List.set_cons_zero, List.set_cons_succ, List.toList_toArray, Int.reduceToNat, Nat.reduceAdd, Nat.reduceMul, Nat.one_mul, Bool.not_true, Bool.not_false, EV, step, List.map_cons, List.map_nil, Option.map_some, Option.map_none, if_true, if_false, reduceIte, List.getElem?_cons_zero, List.getElem?_cons_succ, Option.getD_some, List.nil_append, List.append_nil, List.cons_append, List.getElem?_nil, Option.getD_none, true_implies, false_implies, not_true_eq_false, not_false_eq_true, and_true, true_and, decide_true, decide_false, Int.natCast_nonneg, Int.toNat_natCast, Nat.mul_one, List.size_toArray, List.getElem?_toArray, List.length_cons, List.length_nil, Nat.zero_add, Nat.add_zero, List.drop_zero, List.take_succ_cons, List.take_zero, List.drop_succ_cons, List.all_cons, List.all_nil, Bool.and_true, Bool.and_self, and_self]
          refine he2 _ _ _ ?_
          simp (decide := true) only [EV2, MVn, qv, qvK, List.set_cons_zero, List.set_cons_succ, List.toList_toArray, Int.reduceToNat, Nat.reduceAdd, Nat.reduceMul, Nat.one_mul, Bool.not_true, Bool.not_false, EV, step, List.map_cons, List.map_nil, Option.map_some, Option.map_none, if_true, if_false, reduceIte, List.getElem?_cons_zero, List.getElem?_cons_succ, Option.getD_some, List.nil_append, List.append_nil, List.cons_append, List.getElem?_nil, Option.getD_none, true_implies, false_implies, not_true_eq_false, not_false_eq_true, and_true, true_and, decide_true, decide_false, Int.natCast_nonneg, Int.toNat_natCast, Nat.mul_one, List.size_toArray, List.getElem?_toArray, List.length_cons, List.length_nil, Nat.zero_add, Nat.add_zero, List.drop_zero, List.take_succ_cons, List.take_zero, List.drop_succ_cons, List.all_cons, List.all_nil, Bool.and_true, Bool.and_self, and_self]
          refine (awake12 Γ M2).mono ?_
          rintro r M3 ⟨rfl, rfl⟩
          exact hQ _ _ _ ⟨.inr rfl, [.bool true], by simp [X5, R5, resL, sem, Slot.v], rfl, e2⟩
      by_cases hjL : j < L.length
      · have hjl' : ((j : Int) < (L.length : Int)) = True := eq_true (by omega)
        have hj8' : ((j : Int) < 8) = False := eq_false (by omega)
        simp (decide := true) only [f2, f22, hjl', hj8', EV2, MVn, qv, qvK, List.set_cons_zero, List.set_cons_succ, List.toList_toArray, Int.reduceToNat, Nat.reduceAdd, Nat.reduceMul, Nat.one_mul, Bool.not_true, Bool.not_false, EV, step, List.map_cons, List.map_nil, Option.map_some, Option.map_none, if_true, if_false, reduceIte, List.getElem?_cons_zero, List.getElem?_cons_succ, Option.getD_some, List.nil_append, List.append_nil, List.cons_append, List.getElem?_nil, Option.getD_none, true_implies, false_implies, not_true_eq_false, not_false_eq_true, and_true, true_and, decide_true, decide_false, Int.natCast_nonneg, Int.toNat_natCast, Nat.mul_one, List.size_toArray, List.getElem?_toArray, List.length_cons, List.length_nil, Nat.zero_add, Nat.add_zero, List.drop_zero, List.take_succ_cons, List.take_zero, List.drop_succ_cons, List.all_cons, List.all_nil, Bool.and_true, Bool.and_self, and_self]
        exact fin _ (by simp [sem, f4]) (by simp [sem, f7]) (by simp [sem, f21])
      · have hjl' : ((j : Int) < (L.length : Int)) = False := eq_false (by omega)
        simp (decide := true) only [f2, f22, hjl', EV2, MVn, qv, qvK, List.set_cons_zero, List.set_cons_succ, List.toList_toArray, Int.reduceToNat, Nat.reduceAdd, Nat.reduceMul, Nat.one_mul, Bool.not_true, Bool.not_false, EV, step, List.map_cons, List.map_nil, Option.map_some, Option.map_none, if_true, if_false, reduceIte, List.getElem?_cons_zero, List.getElem?_cons_succ, Option.getD_some, List.nil_append, List.append_nil, List.cons_append, List.getElem?_nil, Option.getD_none, true_implies, false_implies, not_true_eq_false, not_false_eq_true, and_true, true_and, decide_true, decide_false, Int.natCast_nonneg, Int.toNat_natCast, Nat.mul_one, List.size_toArray, List.getElem?_toArray, List.length_cons, List.length_nil, Nat.zero_add, Nat.add_zero, List.drop_zero, List.take_succ_cons, List.take_zero, List.drop_succ_cons, List.all_cons, List.all_nil, Bool.and_true, Bool.and_self, and_self]
        exact fin _ (by simp [sem, f4]) (by simp [sem, f7]) (by simp [sem, f21])
end Go.Proofs.Ytnhodgonmceojaa.Sh
