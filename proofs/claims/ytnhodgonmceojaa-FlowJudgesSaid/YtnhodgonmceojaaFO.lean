/- FlowSums: the walk. -/
import Derived.Test.YtnhodgonmceojaaFH
import Derived.Test.YtnhodgonmceojaaFN
import Derived.Test.YtnhodgonmceojaaFAw
set_option linter.unusedVariables false
set_option linter.unusedSimpArgs false
namespace Go.Proofs.Ytnhodgonmceojaa.Sh
open Go.RowKit

theorem Acc.arcs {m0 m : Mem} {v : Value} {l : List ArcI} {t : TypeId} (h : Acc m0 m v (arcCells l) t 3) : Arcs m v l := by
  rcases h with ⟨rfl, hl⟩ | ⟨i, h1, h2, rfl, h3⟩
  · have : l = [] := by cases l with
      | nil => rfl
      | cons a r => simp [arcCells] at hl
    subst this
    exact ⟨⟨none, 0, rfl⟩, fun a n c hv => (by cases hv), fun _ _ _ => rfl, fun a n c hv => (by cases hv)⟩
  · refine ⟨⟨some ⟨i, 0, none⟩, big + (arcCells l).length, by simp [arcCells]⟩, fun a n c hv j x hx => ?_, fun n c hv => (by cases hv), fun a n c hv => (by cases hv; exact h2)⟩
    cases hv
    rw [cells_of h3]
    have hj := (List.getElem?_eq_some_iff.1 hx).1
    have key : ∀ (l : List ArcI) (j : Nat), l[j]? = some x → 0 + j * 3 + 3 ≤ (arcCells l).flatten.length ∧ ((arcCells l).flatten.drop (0 + j * 3)).take 3 = x.cells := by
      intro l
      induction l with
      | nil => intro j h; simp at h
      | cons y r ih =>
        intro j h
        cases j with
        | zero => simp at h; subst h; simp [arcCells, ArcI.cells]
        | succ j =>
          simp at h
          obtain ⟨e1, e2⟩ := ih j h
          have e : (arcCells (y :: r)).flatten = y.cells ++ (arcCells r).flatten := rfl
          have hl : y.cells.length = 3 := rfl
          rw [e]
          refine ⟨by rw [List.length_append, hl]; omega, ?_⟩
          have : 0 + (j + 1) * 3 = y.cells.length + (0 + j * 3) := by rw [hl]; omega
          rw [this, List.drop_append, List.drop_of_length_le (by omega)]
          have : y.cells.length + (0 + j * 3) - y.cells.length = 0 + j * 3 := by omega
          rw [this]
          simpa using e2
    obtain ⟨e1, e2⟩ := key l j hx
    rw [if_pos e1, e2]

/-- What FlowSums asks of a tamed network. -/
def SumsOk (N : Int) (l : List ArcI) (p q : Int) : Prop :=
  (capRes N l (members p N.toNat)).2 = 0 ∧ (capRes N l (members q N.toNat)).2 = 0 ∧ (capRes N l (members (bor p q) N.toNat)).2 = 0 ∧ (capRes N l (members (band p q) N.toNat)).2 = 0 ∧
  IntKind.wrap .i64 ((capRes N l (members (bor p q) N.toNat)).1 + (capRes N l (members (band p q) N.toNat)).1) ≤ IntKind.wrap .i64 ((capRes N l (members p N.toNat)).1 + (capRes N l (members q N.toNat)).1)

theorem members_len (p : Int) (n : Nat) : (members p n).length ≤ n := by unfold members; rw [List.length_map]; exact Nat.le_trans (List.length_filter_le ..) (by simp)
theorem capcall {c : Cx} (hP : c.P = Try.prog) (hΓ : YMono c.Γ) {i1 i2 i3 : Nat} {chk : List Nat} {d1 d2 d3 a1 a2 a3 : Tmp} {t : Tr} {fl : FL} {ks : List KI} {Q : KQ} {s : Fr} {m : Mem} (N p : Int) (l : List ArcI) (v : Value) (ha : Arcs m v l) (hl : l.length ≤ 60) (hN : 2 ≤ N) (hN2 : N ≤ 20)
    (e1 : (s a1).v = .agg #[.int .i64 N, v]) (e2 : (s a2).v = .int .i64 N) (e3 : (s a3).v = .int .i64 p) (n1 : (a2 = d1) = False) (n2 : (a3 = d1) = False) (n3 : (d1 = d2) = False) (hfl : ∀ m', Mext m m' → FlOk chk fl m m')
    (k : ∀ x1 x2 m', Mext m m' → Wt c t fl ks Q (putO (putO (putO s (some d1) x1) (some d2) x2) (some d3) (.val (.tuple #[.int .i64 (capRes N l (members p N.toNat)).1, .int .i64 (capRes N l (members p N.toNat)).2]))) m') :
    Wt c (.m i1 chk ⟨some d1, .call (.func 10) [.tmp a1], none⟩ <| .m i2 [] ⟨some d2, .call (.func 11) [.tmp a2, .tmp a3], none⟩ <| .m i3 [] ⟨some d3, .call (.func 9) [.tmp d1, .tmp d2], none⟩ t) fl ks Q s m := by
  obtain ⟨P, G, Γ⟩ := c
  cases hP
  have fl0 : ∀ (fl : FL) (m1 m2 : Mem), FlOk [] fl m1 m2 := fun fl m1 m2 p hp hc => by simp at hc
  refine Wt_m hΓ rfl ?_
  simp only [opN, evalO_func, List.map_cons, List.map_nil, evalO_tmp, e1]
  refine callK_fn ((net_spec hΓ N l v m ha (by omega)).mono ?_)
  rintro r m1 ⟨v1, rfl, hacc1, hm1⟩
  refine ⟨hfl _ hm1, ?_⟩
  refine Wt_m hΓ rfl ?_
  simp only [opN, evalO_func, List.map_cons, List.map_nil, evalO_tmp, putO_some, n1, n2, if_false, e2, e3]
  have hmem := members_spec hΓ N.toNat p m1 (by omega)
  rw [show ((N.toNat : Nat) : Int) = N by omega] at hmem
  refine callK_fn (hmem.mono ?_)
  rintro r m2 ⟨hacc2, hm2⟩
  refine ⟨fl0 _ _ _, ?_⟩
  refine Wt_m hΓ rfl ?_
  simp only [opN, evalO_func, List.map_cons, List.map_nil, evalO_tmp, putO_some, n3, if_false, if_true, v_val]
  refine callK_fn ((Capacity_spec hΓ N (members p N.toNat) r l v1 m2 hacc2.ints ((hacc1.arcs).mext hm2) (by omega) (by have := members_len p N.toNat; omega)).mono ?_)
  rintro r2 m3 ⟨rfl, hm3⟩
  exact ⟨fl0 _ _ _, k _ _ _ ((hm1.trans hm2).trans hm3)⟩

set_option maxRecDepth 100000 in
theorem flowSums_spec {Γ : YEnv} (hΓ : YMono Γ) (n a b : Int) (l : List ArcI) (v : Value) (m : Mem) (h : Arcs m v l) (hl : l.length < 9223372036854775808)
    (law : ∀ N l, 2 ≤ N → N ≤ 20 → l.length ≤ 60 → (∀ a ∈ l, ArcI.ok N a) → SumsOk N l (band a (2 ^ N.toNat - 1)) (band b (2 ^ N.toNat - 1))) :
    ACalls Try.prog Γ 3 [.agg #[.int .i64 n, v], .int .i64 a, .int .i64 b] m fun r m' => r = .bool true ∧ Mext m m' := by
  refine acallsW hΓ fok3 (by simp [X3]) fun Q hQ => ?_
  have hv : okVal v = true ∧ v.cells = #[v] := by obtain ⟨a, c, rfl⟩ := h.len; exact ⟨rfl, rfl⟩
  have hm1 : Mext m _ := (Mext.refl m).new (.cells [.int .i64 n, v] 24 2)
  simp (decide := true) only [X3, G3, S3, S3_17, S3_0, S3_16, S3_1, get_new_at, get_set_at, next_set, cell_new_at, cells_new_at, cell_set_at, cells_set_at, cellG_cells, cellsG_cells, splice_nil, splice_cons, List.set_cons_zero, List.set_cons_succ, zc32, ne1, ne1', ne2, ne2', ne3, ne3', cancel1, buildA_nil, buildA_cons, List.toList_toArray, EV, step, List.map_cons, List.map_nil, Option.map_some, Option.map_none, if_true, if_false, reduceIte, List.getElem?_cons_zero, List.getElem?_cons_succ, Option.getD_some, List.nil_append, List.append_nil, List.cons_append, List.getElem?_nil, Option.getD_none, true_implies, false_implies, not_true_eq_false, not_false_eq_true, and_true, true_and, decide_true, decide_false, Int.natCast_nonneg, Int.toNat_natCast, Nat.mul_one, List.size_toArray, List.getElem?_toArray, List.length_cons, List.length_nil, Nat.zero_add, Nat.add_zero, List.drop_zero, List.take_succ_cons, List.take_zero, List.drop_succ_cons, List.all_cons, List.all_nil, Bool.and_true, Bool.and_self, and_self]
  refine (tame_spec hΓ 20 60 n (by omega) (by omega) (by omega) (by omega) l v _ (h.mext hm1) hl).mono ?_
  rintro r m2 ⟨N, l', v', rfl, hN, hN2, hl', hok, hacc, hm2⟩
  obtain ⟨w1, w2, w3⟩ := hacc.ok
  have hnx := hm2.next
  rw [Mem.next_new] at hnx
  have d0 : (m.next = m2.next) = False := eq_false (by omega)
  have hsh := shl1 (n := N) (by omega) (by omega)
  have hpow : (0 : Int) ≤ 2 ^ N.toNat - 1 ∧ (2 : Int) ^ N.toNat - 1 < 9223372036854775808 := by
    have h1 := Nat.pow_le_pow_right (n := 2) (by omega) (show N.toNat ≤ 24 by omega)
    have h2 : ((2 ^ N.toNat : Nat) : Int) ≤ ((2 ^ 24 : Nat) : Int) := by omega
    have h3 : (0 : Int) < 2 ^ N.toNat := Int.pow_pos (by omega)
    have h4 : ((2 ^ N.toNat : Nat) : Int) = 2 ^ N.toNat := by simp
    omega
  have hsub := wrap_i64 (x := 2 ^ N.toNat - 1) (by omega) hpow.2
  have hcN : (IntKind.wrap .u64 N < 0) = False := by rw [wrap_u64 (by omega) (by omega)]; exact eq_false (by omega)
  have hlaw := law N l' hN hN2 (by omega) hok
  have ba : ∀ x y : Int, IntKind.wrap .i64 ((BitVec.ofInt (IntKind.bits .i64) x &&& BitVec.ofInt (IntKind.bits .i64) y).toNat : Int) = band x y := fun _ _ => rfl
  have bo : ∀ x y : Int, IntKind.wrap .i64 ((BitVec.ofInt (IntKind.bits .i64) x ||| BitVec.ofInt (IntKind.bits .i64) y).toNat : Int) = bor x y := fun _ _ => rfl
  have ext0 : ∀ M, Mext ((m2.new (.cells [.int .i64 0, .slice none 0 0] 24 2)).set m2.next (.cells [.int .i64 N, v'] 24 2)) M → Mext m M ∧ Arcs M v' l' ∧ M.cell m2.next 0 = some (.int .i64 N) ∧ M.cells m2.next 0 2 = some [.int .i64 N, v'] := by
    intro M hM
    have hg : M.get m2.next = some (.cells [.int .i64 N, v'] 24 2) := (hM.get _ (by rw [next_set, Mem.next_new]; omega)).trans (Mem.get_set _ _ _)
    exact ⟨(hm1.trans (hm2.trans (((Mext.refl m2).new _).set (Nat.le_refl _) _))).trans hM, (hacc.arcs).mext ((((Mext.refl m2).new _).set (Nat.le_refl _) _).trans hM), by rw [cell_of hg]; rfl, by rw [cells_of hg]; rfl⟩
  obtain ⟨r1, r2, r3, r4⟩ := ext0 _ (Mext.refl _)
  have flk : ∀ (fl : FL) (M M' : Mem), fl = [(3, fun m => Option.map (fun r => Slot.val r.fst) (Option.map (fun v => (v, m)) (m.cell m2.next 0)))] → m2.next < M.next → Mext M M' → FlOk [3] fl M M' := by
    intro fl M M' e hlt hM q hq hc
    subst e
    rw [List.mem_singleton] at hq
    subst hq
    simp only [hM.cell hlt, Option.map_map]
    rfl
  have lt0 : ∀ M, Mext ((m2.new (.cells [.int .i64 0, .slice none 0 0] 24 2)).set m2.next (.cells [.int .i64 N, v'] 24 2)) M → m2.next < M.next := fun M hM => by have := hM.next; rw [next_set, Mem.next_new] at this; omega
  simp (decide := true) only [S3_15, S3_2, S3_14, S3_3, S3_13, S3_4, zc24, w1, w2, w3, hsh, hsub, hcN, ba, bits_i64, qv, qvK, get_new_at, get_set_at, next_set, cell_new_at, cells_new_at, cell_set_at, cells_set_at, cellG_cells, cellsG_cells, splice_nil, splice_cons, List.set_cons_zero, List.set_cons_succ, zc32, ne1, ne1', ne2, ne2', ne3, ne3', cancel1, buildA_nil, buildA_cons, List.toList_toArray, EV, step, List.map_cons, List.map_nil, Option.map_some, Option.map_none, if_true, if_false, reduceIte, List.getElem?_cons_zero, List.getElem?_cons_succ, Option.getD_some, List.nil_append, List.append_nil, List.cons_append, List.getElem?_nil, Option.getD_none, true_implies, false_implies, not_true_eq_false, not_false_eq_true, and_true, true_and, decide_true, decide_false, Int.natCast_nonneg, Int.toNat_natCast, Nat.mul_one, List.size_toArray, List.getElem?_toArray, List.length_cons, List.length_nil, Nat.zero_add, Nat.add_zero, List.drop_zero, List.take_succ_cons, List.take_zero, List.drop_succ_cons, List.all_cons, List.all_nil, Bool.and_true, Bool.and_self, and_self]
  generalize band a (2 ^ N.toNat - 1) = p at *
  generalize band b (2 ^ N.toNat - 1) = q at *
  obtain ⟨o1, o2, o3, o4, o5⟩ := hlaw
  refine capcall rfl hΓ N p l' v' r2 (by omega) hN hN2 rfl rfl rfl (by decide) (by decide) (by decide) (fun M hM => flk _ _ _ rfl (lt0 _ (Mext.refl _)) hM) ?_
  intro x1 x2 m3 hm3
  obtain ⟨r5, r6, r7, r8⟩ := ext0 _ hm3
  simp (decide := true) only [S3_12, S3_5, r7, r8, qv, qvK, EV, step, List.map_cons, List.map_nil, Option.map_some, Option.map_none, if_true, if_false, reduceIte, List.getElem?_cons_zero, List.getElem?_cons_succ, Option.getD_some, List.nil_append, List.append_nil, List.cons_append, List.getElem?_nil, Option.getD_none, true_implies, false_implies, not_true_eq_false, not_false_eq_true, and_true, true_and, decide_true, decide_false, Int.natCast_nonneg, Int.toNat_natCast, Nat.mul_one, List.size_toArray, List.getElem?_toArray, List.length_cons, List.length_nil, Nat.zero_add, Nat.add_zero, List.drop_zero, List.take_succ_cons, List.take_zero, List.drop_succ_cons, List.all_cons, List.all_nil, Bool.and_true, Bool.and_self, and_self]
  refine capcall rfl hΓ N q l' v' r6 (by omega) hN hN2 rfl rfl rfl (by decide) (by decide) (by decide) (fun M hM => flk _ _ _ rfl (lt0 _ hm3) hM) ?_
  intro x3 x4 m4 hm4
  obtain ⟨r9, r10, r11, r12⟩ := ext0 _ (hm3.trans hm4)
  simp (decide := true) only [S3_11, S3_6, r11, r12, bo, qv, qvK, EV, step, List.map_cons, List.map_nil, Option.map_some, Option.map_none, if_true, if_false, reduceIte, List.getElem?_cons_zero, List.getElem?_cons_succ, Option.getD_some, List.nil_append, List.append_nil, List.cons_append, List.getElem?_nil, Option.getD_none, true_implies, false_implies, not_true_eq_false, not_false_eq_true, and_true, true_and, decide_true, decide_false, Int.natCast_nonneg, Int.toNat_natCast, Nat.mul_one, List.size_toArray, List.getElem?_toArray, List.length_cons, List.length_nil, Nat.zero_add, Nat.add_zero, List.drop_zero, List.take_succ_cons, List.take_zero, List.drop_succ_cons, List.all_cons, List.all_nil, Bool.and_true, Bool.and_self, and_self]
  refine capcall rfl hΓ N (bor p q) l' v' r10 (by omega) hN hN2 rfl rfl rfl (by decide) (by decide) (by decide) (fun M hM => flk _ _ _ rfl (lt0 _ (hm3.trans hm4)) hM) ?_
  intro x5 x6 m5 hm5
  obtain ⟨r13, r14, r15, r16⟩ := ext0 _ ((hm3.trans hm4).trans hm5)
  simp (decide := true) only [S3_10, S3_7, r15, r16, ba, qv, qvK, EV, step, List.map_cons, List.map_nil, Option.map_some, Option.map_none, if_true, if_false, reduceIte, List.getElem?_cons_zero, List.getElem?_cons_succ, Option.getD_some, List.nil_append, List.append_nil, List.cons_append, List.getElem?_nil, Option.getD_none, true_implies, false_implies, not_true_eq_false, not_false_eq_true, and_true, true_and, decide_true, decide_false, Int.natCast_nonneg, Int.toNat_natCast, Nat.mul_one, List.size_toArray, List.getElem?_toArray, List.length_cons, List.length_nil, Nat.zero_add, Nat.add_zero, List.drop_zero, List.take_succ_cons, List.take_zero, List.drop_succ_cons, List.all_cons, List.all_nil, Bool.and_true, Bool.and_self, and_self]
  refine capcall rfl hΓ N (band p q) l' v' r14 (by omega) hN hN2 rfl rfl rfl (by decide) (by decide) (by decide) (fun M hM => flk _ _ _ rfl (lt0 _ ((hm3.trans hm4).trans hm5)) hM) ?_
  intro x7 x8 m6 hm6
  obtain ⟨r17, r18, r19, r20⟩ := ext0 _ (((hm3.trans hm4).trans hm5).trans hm6)
  simp (decide := true) only [S3_9, S3_8, o1, o2, o3, o4, o5, qv, qvK, EV, step, List.map_cons, List.map_nil, Option.map_some, Option.map_none, if_true, if_false, reduceIte, List.getElem?_cons_zero, List.getElem?_cons_succ, Option.getD_some, List.nil_append, List.append_nil, List.cons_append, List.getElem?_nil, Option.getD_none, true_implies, false_implies, not_true_eq_false, not_false_eq_true, and_true, true_and, decide_true, decide_false, Int.natCast_nonneg, Int.toNat_natCast, Nat.mul_one, List.size_toArray, List.getElem?_toArray, List.length_cons, List.length_nil, Nat.zero_add, Nat.add_zero, List.drop_zero, List.take_succ_cons, List.take_zero, List.drop_succ_cons, List.all_cons, List.all_nil, Bool.and_true, Bool.and_self, and_self]
  refine callK_fn ((awake12 Γ m6).mono ?_)
  rintro r m7 ⟨rfl, rfl⟩
  refine hQ _ _ _ ⟨.inr rfl, [.bool true], ?_, rfl, r17⟩
  simp [X3, R3, resL, sem, Slot.v]
end Go.Proofs.Ytnhodgonmceojaa.Sh
