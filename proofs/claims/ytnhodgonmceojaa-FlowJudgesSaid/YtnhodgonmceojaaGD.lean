/- Contracts of the reference of flow: bits, Least. Contracts: whether numbers are a flow, by the reference and by the program. Contracts: whether numbers are a flow, by the program. -/
import Derived.Test.YtnhodgonmceojaaGA
import Derived.Test.YtnhodgonmceojaaFP
set_option linter.unusedVariables false
set_option linter.unusedSimpArgs false
namespace Go.Proofs.Ytnhodgonmceojaa.Sh
open Go.RowKit

/-! ### Contracts of the reference of flow: bits, Least. -/
def tb (x f : Nat) : Int := if x.testBit f then 1 else 0
theorem shr_tb (x f : Nat) : ((x : Int).fdiv (2 ^ f)).tmod 2 = tb x f := by
  have h := mem1_nat x f
  unfold mem1 at h
  unfold tb
  have e : ((x : Int).fdiv (2 ^ f)).tmod 2 = 0 ∨ ((x : Int).fdiv (2 ^ f)).tmod 2 = 1 := by
    have h2 : (2 : Int) ^ f = ((2 ^ f : Nat) : Int) := by simp
    rw [h2, Int.fdiv_eq_ediv_of_nonneg _ (Int.natCast_nonneg _), ← Int.natCast_ediv, Int.tmod_eq_emod_of_nonneg (Int.natCast_nonneg _)]
    omega
  by_cases ht : x.testBit f = true
  · rw [ht] at h; simp only [decide_eq_true_eq] at h; rw [h, if_pos ht]
  · have hf : x.testBit f = false := by simpa using ht
    rw [hf] at h; simp only [decide_eq_false_iff_not] at h; rw [if_neg ht]; omega
theorem tb1 {x f : Nat} (h : x.testBit f = true) : tb x f = 1 := by unfold tb; rw [if_pos h]
theorem tb0 {x f : Nat} (h : x.testBit f = false) : tb x f = 0 := by unfold tb; rw [h]; rfl

def cutB (x : Nat) (a : ArcI) : Bool := x.testBit a.f.toNat && !x.testBit a.t.toNat
/-- The capacity of a set that is told by its digits. -/
def bitSum (x : Nat) : List ArcI → Int
  | [] => 0
  | a :: r => (if cutB x a then a.c else 0) + bitSum x r
theorem bitSum_append (x : Nat) : ∀ (l r : List ArcI), bitSum x (l ++ r) = bitSum x l + bitSum x r
  | [], r => by simp [bitSum]
  | a :: l, r => by simp only [List.cons_append, bitSum, bitSum_append x l r]; omega
theorem bitSum_bound (x : Nat) : ∀ (l : List ArcI), (∀ a ∈ l, 0 ≤ a.c ∧ a.c ≤ 1000000000) → 0 ≤ bitSum x l ∧ bitSum x l ≤ (l.length : Int) * 1000000000
  | [], _ => by simp [bitSum]
  | a :: r, h => by
    have ih := bitSum_bound x r fun b hb => h b (by simp [hb])
    have ha := h a (by simp)
    simp only [bitSum, List.length_cons, Int.natCast_add, Int.add_mul]
    split <;> omega

set_option maxRecDepth 100000 in
theorem bits_spec {Γ : YEnv} (hΓ : YMono Γ) (N : Int) (l : List ArcI) (v : Value) (x : Nat) (m : Mem) (h : Arcs m v l) (hok : ∀ a ∈ l, ArcI.ok N a) (hN : N ≤ 24) (hl : l.length ≤ 200) (hx : x < 1000000000) :
    ACalls Try.prog Γ 37 [.agg #[.int .i64 N, v], .int .i64 x] m fun r m' => r = .int .i64 (bitSum x l) ∧ Mext m m' := by
  refine acallsW hΓ fok37 (by simp [X37]) fun Q hQ => ?_
  obtain ⟨ao, c, rfl⟩ := h.len
  simp (decide := true) only [S37_0, S37_1, S37_2, S37_3, S37_4, S37_5, S37_6, S37_7, S37_8, S37_9, S37_10, S37_11, S37_12, S37_13, S37_14, S37_15, S37_16, S37_17, S37_18, S37_19, S37_20, S37_21, S37, X37, G37, EV2, MVn, qv, qvK, List.set_cons_zero, List.set_cons_succ, List.toList_toArray, Int.reduceToNat, Nat.reduceAdd, Nat.reduceMul, Nat.one_mul, Bool.not_true, Bool.not_false, EV, step, List.map_cons, List.map_nil, Option.map_some, Option.map_none, if_true, if_false, reduceIte, List.getElem?_cons_zero, List.getElem?_cons_succ, Option.getD_some, List.nil_append, List.append_nil, List.cons_append, List.getElem?_nil, Option.getD_none, true_implies, false_implies, not_true_eq_false, not_false_eq_true, and_true, true_and, decide_true, decide_false, Int.natCast_nonneg, Int.toNat_natCast, Nat.mul_one, List.size_toArray, List.getElem?_toArray, List.length_cons, List.length_nil, Nat.zero_add, Nat.add_zero, List.drop_zero, List.take_succ_cons, List.take_zero, List.drop_succ_cons, List.all_cons, List.all_nil, Bool.and_true, Bool.and_self, and_self]
  refine W_loop (fun k f m' => ∃ i : Nat, i ≤ l.length ∧ k = l.length - i ∧ m' = m.new (.cells [.int .i64 N, .slice ao l.length c] 24 2) ∧ (f 1).v = .int .i64 x ∧ (f 2).v = .pointer (some ⟨m.next, 0, none⟩) ∧ (f 5).v = .int .i64 (bitSum x (l.take i)) ∧ (f 6).v = .int .i64 i)
    l.length ⟨0, by omega, rfl, rfl, rfl, rfl, rfl, rfl⟩ hΓ ?_
  rintro k f m' ⟨i, hi, rfl, rfl, f1, f2, f5, f6⟩ Q1 hn he hret
  by_cases hlt : i < l.length
  · have hlt' : ((i : Int) < l.length) = True := eq_true (by omega)
    have hw1 : IntKind.wrap .i64 ((i : Int) + 1) = ((i + 1 : Nat) : Int) := by rw [wrap_i64 (by omega) (by omega)]; omega
    obtain ⟨a, rfl, _, ha, _, c0, c1, c2⟩ := h.ld hlt
    have hmem : l[i] ∈ l := List.getElem_mem hlt
    have htake : l.take (i + 1) = l.take i ++ [l[i]] := (List.take_append_getElem hlt).symm
    generalize l[i] = y at hmem htake c0 c1 c2
    obtain ⟨p, q, hp, hq, hpN, hqN, hpq⟩ := ok_nat (hok y hmem)
    have hyc := (hok y hmem).2.2.2
    rw [hp] at c0; rw [hq] at c1
    have na : (a.block = m.next) = False := eq_false (by omega)
    have u1 : IntKind.wrap .u64 (p : Int) = (p : Int) := wrap_u64 (by omega) (by omega)
    have u2 : IntKind.wrap .u64 (q : Int) = (q : Int) := wrap_u64 (by omega) (by omega)
    have k1 : ((p : Int) < 0) = False := eq_false (by omega)
    have k2 : ((q : Int) < 0) = False := eq_false (by omega)
    have k3 : min p 64 = p := by omega
    have k4 : min q 64 = q := by omega
    have hb := bitSum_bound x (l.take i) fun b hb => ⟨(hok b (List.mem_of_mem_take hb)).2.2.2.1, (hok b (List.mem_of_mem_take hb)).2.2.2.2⟩
    have hlen : (l.take i).length ≤ 200 := by rw [List.length_take]; omega
    have hsum : bitSum x (l.take (i + 1)) = bitSum x (l.take i) + (if x.testBit p && !x.testBit q then y.c else 0) := by
      rw [htake, bitSum_append]; simp [bitSum, cutB, hp, hq]
    have hws : IntKind.wrap .i64 (bitSum x (l.take i) + y.c) = bitSum x (l.take i) + y.c := wrap_i64 (by omega) (by omega)
    have fin : ∀ (z : Int) (f2 : Fr), z = bitSum x (l.take (i + 1)) → (f2 1).v = .int .i64 x → (f2 2).v = .pointer (some ⟨m.next, 0, none⟩) → (f2 5).v = .int .i64 z → (f2 6).v = .int .i64 ((i + 1 : Nat) : Int) → Q1 .normal f2 (m.new (.cells [.int .i64 N, .slice (some a) l.length c] 24 2)) := by
      intro z f2 hz g1 g2 g5 g6
      exact hn _ _ _ (by omega) ⟨i + 1, hlt, rfl, rfl, g1, g2, by rw [g5, hz], g6⟩
    cases h1 : x.testBit p with
    | true =>
      cases h2 : x.testBit q with
      | true =>
        simp (decide := true) only [f1, f2, f5, f6, hlt', hw1, na, c0, c1, c2, u1, u2, k1, k2, k3, k4, bits_i64, shr_tb, tb1 h1, tb1 h2, EV2, MVn, qv, qvK, List.set_cons_zero, List.set_cons_succ, List.toList_toArray, Int.reduceToNat, Nat.reduceAdd, Nat.reduceMul, Nat.one_mul, Bool.not_true, Bool.not_false, EV, step, List.map_cons, List.map_nil, Option.map_some, Option.map_none, if_true, if_false, reduceIte, List.getElem?_cons_zero, List.getElem?_cons_succ, Option.getD_some, List.nil_append, List.append_nil, List.cons_append, List.getElem?_nil, Option.getD_none, true_implies, false_implies, not_true_eq_false, not_false_eq_true, and_true, true_and, decide_true, decide_false, Int.natCast_nonneg, Int.toNat_natCast, Nat.mul_one, List.size_toArray, List.getElem?_toArray, List.length_cons, List.length_nil, Nat.zero_add, Nat.add_zero, List.drop_zero, List.take_succ_cons, List.take_zero, List.drop_succ_cons, List.all_cons, List.all_nil, Bool.and_true, Bool.and_self, and_self]
        exact fin (bitSum x (l.take i)) _ (by simp [hsum, h1, h2]) (by simp [sem, f1]) (by simp [sem, f2]) (by simp [sem, f5]) (by simp [sem, Slot.v])
      | false =>
        simp (decide := true) only [f1, f2, f5, f6, hlt', hw1, na, c0, c1, c2, u1, u2, k1, k2, k3, k4, bits_i64, shr_tb, tb1 h1, tb0 h2, hws, EV2, MVn, qv, qvK, List.set_cons_zero, List.set_cons_succ, List.toList_toArray, Int.reduceToNat, Nat.reduceAdd, Nat.reduceMul, Nat.one_mul, Bool.not_true, Bool.not_false, EV, step, List.map_cons, List.map_nil, Option.map_some, Option.map_none, if_true, if_false, reduceIte, List.getElem?_cons_zero, List.getElem?_cons_succ, Option.getD_some, List.nil_append, List.append_nil, List.cons_append, List.getElem?_nil, Option.getD_none, true_implies, false_implies, not_true_eq_false, not_false_eq_true, and_true, true_and, decide_true, decide_false, Int.natCast_nonneg, Int.toNat_natCast, Nat.mul_one, List.size_toArray, List.getElem?_toArray, List.length_cons, List.length_nil, Nat.zero_add, Nat.add_zero, List.drop_zero, List.take_succ_cons, List.take_zero, List.drop_succ_cons, List.all_cons, List.all_nil, Bool.and_true, Bool.and_self, and_self]
        exact fin (bitSum x (l.take i) + y.c) _ (by simp [hsum, h1, h2]) (by simp [sem, f1]) (by simp [sem, f2]) (by simp [sem, Slot.v]) (by simp [sem, Slot.v])
    | false =>
      simp (decide := true) only [f1, f2, f5, f6, hlt', hw1, na, c0, c1, c2, u1, u2, k1, k2, k3, k4, bits_i64, shr_tb, tb0 h1, EV2, MVn, qv, qvK, List.set_cons_zero, List.set_cons_succ, List.toList_toArray, Int.reduceToNat, Nat.reduceAdd, Nat.reduceMul, Nat.one_mul, Bool.not_true, Bool.not_false, EV, step, List.map_cons, List.map_nil, Option.map_some, Option.map_none, if_true, if_false, reduceIte, List.getElem?_cons_zero, List.getElem?_cons_succ, Option.getD_some, List.nil_append, List.append_nil, List.cons_append, List.getElem?_nil, Option.getD_none, true_implies, false_implies, not_true_eq_false, not_false_eq_true, and_true, true_and, decide_true, decide_false, Int.natCast_nonneg, Int.toNat_natCast, Nat.mul_one, List.size_toArray, List.getElem?_toArray, List.length_cons, List.length_nil, Nat.zero_add, Nat.add_zero, List.drop_zero, List.take_succ_cons, List.take_zero, List.drop_succ_cons, List.all_cons, List.all_nil, Bool.and_true, Bool.and_self, and_self]
      exact fin (bitSum x (l.take i)) _ (by simp [hsum, h1]) (by simp [sem, f1]) (by simp [sem, f2]) (by simp [sem, f5]) (by simp [sem, Slot.v])
  · have hlt' : ((i : Int) < l.length) = False := eq_false (by omega)
    simp (decide := true) only [f2, f6, hlt', EV2, MVn, qv, qvK, List.set_cons_zero, List.set_cons_succ, List.toList_toArray, Int.reduceToNat, Nat.reduceAdd, Nat.reduceMul, Nat.one_mul, Bool.not_true, Bool.not_false, EV, step, List.map_cons, List.map_nil, Option.map_some, Option.map_none, if_true, if_false, reduceIte, List.getElem?_cons_zero, List.getElem?_cons_succ, Option.getD_some, List.nil_append, List.append_nil, List.cons_append, List.getElem?_nil, Option.getD_none, true_implies, false_implies, not_true_eq_false, not_false_eq_true, and_true, true_and, decide_true, decide_false, Int.natCast_nonneg, Int.toNat_natCast, Nat.mul_one, List.size_toArray, List.getElem?_toArray, List.length_cons, List.length_nil, Nat.zero_add, Nat.add_zero, List.drop_zero, List.take_succ_cons, List.take_zero, List.drop_succ_cons, List.all_cons, List.all_nil, Bool.and_true, Bool.and_self, and_self]
    refine he _ _ _ ?_
    rw [List.take_of_length_le (by omega)] at f5
    simp (decide := true) only [f5, EV2, MVn, qv, qvK, List.set_cons_zero, List.set_cons_succ, List.toList_toArray, Int.reduceToNat, Nat.reduceAdd, Nat.reduceMul, Nat.one_mul, Bool.not_true, Bool.not_false, EV, step, List.map_cons, List.map_nil, Option.map_some, Option.map_none, if_true, if_false, reduceIte, List.getElem?_cons_zero, List.getElem?_cons_succ, Option.getD_some, List.nil_append, List.append_nil, List.cons_append, List.getElem?_nil, Option.getD_none, true_implies, false_implies, not_true_eq_false, not_false_eq_true, and_true, true_and, decide_true, decide_false, Int.natCast_nonneg, Int.toNat_natCast, Nat.mul_one, List.size_toArray, List.getElem?_toArray, List.length_cons, List.length_nil, Nat.zero_add, Nat.add_zero, List.drop_zero, List.take_succ_cons, List.take_zero, List.drop_succ_cons, List.all_cons, List.all_nil, Bool.and_true, Bool.and_self, and_self]
    exact hQ _ _ _ ⟨.inr rfl, [.int .i64 (bitSum x l)], by simp [X37, R37, resL, sem, Slot.v], rfl, (Mext.refl m).new _⟩

/-! ### Least -/
def isCut (s t x : Nat) : Bool := x.testBit s && !x.testBit t
def lstep (l : List ArcI) (s t : Nat) (st : Int × Nat) (x : Nat) : Int × Nat :=
  if isCut s t x then
    if st.1 < 0 ∨ bitSum x l < st.1 then (bitSum x l, x)
    else if bitSum x l = st.1 then (st.1, st.2 &&& x) else st
  else st
def leastTo (l : List ArcI) (s t : Nat) : Nat → Int × Nat
  | 0 => (-1, 0)
  | n + 1 => lstep l s t (leastTo l s t n) n
theorem leastTo_bound (l : List ArcI) (s t : Nat) (hc : ∀ a ∈ l, 0 ≤ a.c ∧ a.c ≤ 1000000000) (hl : l.length ≤ 200) : ∀ n, (leastTo l s t n).2 ≤ n ∧ -1 ≤ (leastTo l s t n).1 ∧ (leastTo l s t n).1 ≤ 200000000000
  | 0 => by simp [leastTo]
  | n + 1 => by
    have ih := leastTo_bound l s t hc hl n
    have hb := bitSum_bound n l hc
    simp only [leastTo, lstep]
    split
    · split
      · exact ⟨by simp, by simp only; omega, by simp only; omega⟩
      · split
        · exact ⟨Nat.le_trans Nat.and_le_left (by omega), ih.2⟩
        · exact ⟨by omega, ih.2⟩
    · exact ⟨by omega, ih.2⟩

set_option maxRecDepth 100000 in
theorem Least_spec {Γ : YEnv} (hΓ : YMono Γ) (N : Nat) (l : List ArcI) (v : Value) (s t : Nat) (m : Mem) (h : Arcs m v l) (hok : ∀ a ∈ l, ArcI.ok N a) (hN : N ≤ 24) (hl : l.length ≤ 200) (hs : s < N) (ht : t < N) :
    ACalls Try.prog Γ 16 [.agg #[.int .i64 N, v], .int .i64 s, .int .i64 t] m fun r m' => ∃ vc, r = .tuple #[.int .i64 (leastTo l s t (2 ^ N)).1, vc] ∧ Acc m m' vc (intCells (members ((leastTo l s t (2 ^ N)).2 : Int) N)) 3 1 ∧ Mext m m' := by
  refine acallsW hΓ fok16 (by simp [X16]) fun Q hQ => ?_
  obtain ⟨ao, c, rfl⟩ := h.len
  have hcc : ∀ a ∈ l, 0 ≤ a.c ∧ a.c ≤ 1000000000 := fun a ha => ⟨(hok a ha).2.2.2.1, (hok a ha).2.2.2.2⟩
  have hpow : 2 ^ N ≤ 2 ^ 24 := Nat.pow_le_pow_right (by omega) (by omega)
  have hpc : (2 : Int) ^ N = ((2 ^ N : Nat) : Int) := by simp
  have hsh := shl1 (n := (N : Int)) (by omega) (by omega)
  rw [Int.toNat_natCast, hpc] at hsh
  have hu : (IntKind.wrap .u64 (N : Int) < 0) = False := by rw [wrap_u64 (by omega) (by omega)]; exact eq_false (by omega)
  have us : IntKind.wrap .u64 (s : Int) = (s : Int) := wrap_u64 (by omega) (by omega)
  have ut : IntKind.wrap .u64 (t : Int) = (t : Int) := wrap_u64 (by omega) (by omega)
  have k1 : ((s : Int) < 0) = False := eq_false (by omega)
  have k2 : ((t : Int) < 0) = False := eq_false (by omega)
  have k3 : min s 64 = s := by omega
  have k4 : min t 64 = t := by omega
  generalize 2 ^ N = K at *
  simp (decide := true) only [S16_0, S16_1, S16_2, S16_3, S16_4, S16_5, S16_6, S16_7, S16_8, S16_9, S16_10, S16_11, S16_12, S16_13, S16_14, S16_15, S16_16, S16_17, S16_18, S16_19, S16_20, S16_21, S16_22, S16_23, S16_24, S16_25, S16_26, S16_27, S16_28, S16_29, S16_30, S16_31, S16, X16, G16, EV2, MVn, qv, qvK, List.set_cons_zero, List.set_cons_succ, List.toList_toArray, Int.reduceToNat, Nat.reduceAdd, Nat.reduceMul, Nat.one_mul, Bool.not_true, Bool.not_false, EV, step, List.map_cons, List.map_nil, Option.map_some, Option.map_none, if_true, if_false, reduceIte, List.getElem?_cons_zero, List.getElem?_cons_succ, Option.getD_some, List.nil_append, List.append_nil, List.cons_append, List.getElem?_nil, Option.getD_none, true_implies, false_implies, not_true_eq_false, not_false_eq_true, and_true, true_and, decide_true, decide_false, Int.natCast_nonneg, Int.toNat_natCast, Nat.mul_one, List.size_toArray, List.getElem?_toArray, List.length_cons, List.length_nil, Nat.zero_add, Nat.add_zero, List.drop_zero, List.take_succ_cons, List.take_zero, List.drop_succ_cons, List.all_cons, List.all_nil, Bool.and_true, Bool.and_self, and_self]
  refine W_loop (fun k f m' => ∃ i : Nat, i ≤ K ∧ k = K - i ∧ Mext m m' ∧ m.next < m'.next ∧ m'.get m.next = some (.cells [.int .i64 N, .slice ao l.length c] 24 2) ∧ (f 1).v = .int .i64 s ∧ (f 2).v = .int .i64 t ∧ (f 3).v = .pointer (some ⟨m.next, 0, none⟩) ∧
      (f 8).v = .int .i64 (leastTo l s t i).1 ∧ (f 9).v = .int .i64 ((leastTo l s t i).2 : Nat) ∧ (f 10).v = .int .i64 i)
    (K) ⟨0, by omega, rfl, (Mext.refl m).new _, by rw [Mem.next_new]; omega, Mem.get_new _ _, rfl, rfl, rfl, rfl, rfl, rfl⟩ hΓ ?_
  rintro k f m' ⟨i, hi, rfl, hm, hnx, g0, f1, f2, f3, f8, f9, f10⟩ Q1 hn he hret
  have hbd := leastTo_bound l s t hcc hl i
  by_cases hlt : i < K
  · have hlt' : ((i : Int) < ((K : Nat) : Int)) = True := eq_true (by omega)
    have hw1 : IntKind.wrap .i64 ((i : Int) + 1) = ((i + 1 : Nat) : Int) := by rw [wrap_i64 (by omega) (by omega)]; omega
    have skip : isCut s t i = false → ∀ f2 : Fr, (f2 1).v = .int .i64 s → (f2 2).v = .int .i64 t → (f2 3).v = .pointer (some ⟨m.next, 0, none⟩) → (f2 8).v = .int .i64 (leastTo l s t i).1 → (f2 9).v = .int .i64 ((leastTo l s t i).2 : Nat) → (f2 10).v = .int .i64 ((i + 1 : Nat) : Int) → Q1 .normal f2 m' := by
      intro hc f2 g1 g2 g3 g8 g9 g10
      have e : leastTo l s t (i + 1) = leastTo l s t i := by simp only [leastTo, lstep, hc]; rfl
      exact hn _ _ _ (by omega) ⟨i + 1, hlt, rfl, hm, hnx, g0, g1, g2, g3, by rw [e]; exact g8, by rw [e]; exact g9, g10⟩
    cases h1 : i.testBit s with
    | false =>
      simp (decide := true) only [f1, f2, f3, f8, f9, f10, g0, hsh, hu, hlt', hw1, us, ut, k1, k2, k3, k4, bits_i64, shr_tb, tb0 h1, EV2, MVn, qv, qvK, List.set_cons_zero, List.set_cons_succ, List.toList_toArray, Int.reduceToNat, Nat.reduceAdd, Nat.reduceMul, Nat.one_mul, Bool.not_true, Bool.not_false, EV, step, List.map_cons, List.map_nil, Option.map_some, Option.map_none, if_true, if_false, reduceIte, List.getElem?_cons_zero, List.getElem?_cons_succ, Option.getD_some, List.nil_append, List.append_nil, List.cons_append, List.getElem?_nil, Option.getD_none, true_implies, false_implies, not_true_eq_false, not_false_eq_true, and_true, true_and, decide_true, decide_false, Int.natCast_nonneg, Int.toNat_natCast, Nat.mul_one, List.size_toArray, List.getElem?_toArray, List.length_cons, List.length_nil, Nat.zero_add, Nat.add_zero, List.drop_zero, List.take_succ_cons, List.take_zero, List.drop_succ_cons, List.all_cons, List.all_nil, Bool.and_true, Bool.and_self, and_self]
      exact skip (by simp [isCut, h1]) _ (by simp [sem, f1]) (by simp [sem, f2]) (by simp [sem, f3]) (by simp [sem, f8]) (by simp [sem, f9]) (by simp [sem, Slot.v])
    | true =>
      cases h2 : i.testBit t with
      | true =>
        simp (decide := true) only [f1, f2, f3, f8, f9, f10, g0, hsh, hu, hlt', hw1, us, ut, k1, k2, k3, k4, bits_i64, shr_tb, tb1 h1, tb1 h2, EV2, MVn, qv, qvK, List.set_cons_zero, List.set_cons_succ, List.toList_toArray, Int.reduceToNat, Nat.reduceAdd, Nat.reduceMul, Nat.one_mul, Bool.not_true, Bool.not_false, EV, step, List.map_cons, List.map_nil, Option.map_some, Option.map_none, if_true, if_false, reduceIte, List.getElem?_cons_zero, List.getElem?_cons_succ, Option.getD_some, List.nil_append, List.append_nil, List.cons_append, List.getElem?_nil, Option.getD_none, true_implies, false_implies, not_true_eq_false, not_false_eq_true, and_true, true_and, decide_true, decide_false, Int.natCast_nonneg, Int.toNat_natCast, Nat.mul_one, List.size_toArray, List.getElem?_toArray, List.length_cons, List.length_nil, Nat.zero_add, Nat.add_zero, List.drop_zero, List.take_succ_cons, List.take_zero, List.drop_succ_cons, List.all_cons, List.all_nil, Bool.and_true, Bool.and_self, and_self]
        exact skip (by simp [isCut, h1, h2]) _ (by simp [sem, f1]) (by simp [sem, f2]) (by simp [sem, f3]) (by simp [sem, f8]) (by simp [sem, f9]) (by simp [sem, Slot.v])
      | false =>
        simp (decide := true) only [f1, f2, f3, f8, f9, f10, g0, hsh, hu, hlt', hw1, us, ut, k1, k2, k3, k4, bits_i64, shr_tb, tb1 h1, tb0 h2, EV2, MVn, qv, qvK, List.set_cons_zero, List.set_cons_succ, List.toList_toArray, Int.reduceToNat, Nat.reduceAdd, Nat.reduceMul, Nat.one_mul, Bool.not_true, Bool.not_false, EV, step, List.map_cons, List.map_nil, Option.map_some, Option.map_none, if_true, if_false, reduceIte, List.getElem?_cons_zero, List.getElem?_cons_succ, Option.getD_some, List.nil_append, List.append_nil, List.cons_append, List.getElem?_nil, Option.getD_none, true_implies, false_implies, not_true_eq_false, not_false_eq_true, and_true, true_and, decide_true, decide_false, Int.natCast_nonneg, Int.toNat_natCast, Nat.mul_one, List.size_toArray, List.getElem?_toArray, List.length_cons, List.length_nil, Nat.zero_add, Nat.add_zero, List.drop_zero, List.take_succ_cons, List.take_zero, List.drop_succ_cons, List.all_cons, List.all_nil, Bool.and_true, Bool.and_self, and_self]
        refine (bits_spec hΓ N l _ i m' (h.mext hm) hok (by omega) hl (by omega)).mono ?_
        rintro r m2 ⟨rfl, hm2⟩
        have hc : isCut s t i = true := by simp [isCut, h1, h2]
        have e : leastTo l s t (i + 1) = if (leastTo l s t i).1 < 0 ∨ bitSum i l < (leastTo l s t i).1 then (bitSum i l, i) else if bitSum i l = (leastTo l s t i).1 then ((leastTo l s t i).1, (leastTo l s t i).2 &&& i) else leastTo l s t i := by
          simp only [leastTo, lstep, hc, if_true]
        have fin : ∀ (b : Int) (cm : Nat) (f2 : Fr), leastTo l s t (i + 1) = (b, cm) → (f2 1).v = .int .i64 s → (f2 2).v = .int .i64 t → (f2 3).v = .pointer (some ⟨m.next, 0, none⟩) → (f2 8).v = .int .i64 b → (f2 9).v = .int .i64 (cm : Nat) → (f2 10).v = .int .i64 ((i + 1 : Nat) : Int) → Q1 .normal f2 m2 := by
          intro b cm f2 e g1 g2 g3 g8 g9 g10
          exact hn _ _ _ (by omega) ⟨i + 1, hlt, rfl, hm.trans hm2, by have := hm2.next; omega, (hm2.get _ hnx).trans g0, g1, g2, g3, by rw [e]; exact g8, by rw [e]; exact g9, g10⟩
        by_cases hb0 : (leastTo l s t i).1 < 0
        · rw [if_pos (.inl hb0)] at e
          simp (decide := true) only [hb0, f8, f10, hw1, EV2, MVn, qv, qvK, List.set_cons_zero, List.set_cons_succ, List.toList_toArray, Int.reduceToNat, Nat.reduceAdd, Nat.reduceMul, Nat.one_mul, Bool.not_true, Bool.not_false, EV, step, List.map_cons, List.map_nil, Option.map_some, Option.map_none, if_true, if_false, reduceIte, List.getElem?_cons_zero, List.getElem?_cons_succ, Option.getD_some, List.nil_append, List.append_nil, List.cons_append, List.getElem?_nil, Option.getD_none, true_implies, false_implies, not_true_eq_false, not_false_eq_true, and_true, true_and, decide_true, decide_false, Int.natCast_nonneg, Int.toNat_natCast, Nat.mul_one, List.size_toArray, List.getElem?_toArray, List.length_cons, List.length_nil, Nat.zero_add, Nat.add_zero, List.drop_zero, List.take_succ_cons, List.take_zero, List.drop_succ_cons, List.all_cons, List.all_nil, Bool.and_true, Bool.and_self, and_self]
          exact fin _ _ _ e (by simp [sem, f1]) (by simp [sem, f2]) (by simp [sem, f3]) (by simp [sem, Slot.v]) (by simp [sem, Slot.v]) (by simp [sem, Slot.v])
        · by_cases hb1 : bitSum i l < (leastTo l s t i).1
          · rw [if_pos (.inr hb1)] at e
            simp (decide := true) only [hb0, hb1, f8, f10, hw1, EV2, MVn, qv, qvK, List.set_cons_zero, List.set_cons_succ, List.toList_toArray, Int.reduceToNat, Nat.reduceAdd, Nat.reduceMul, Nat.one_mul, Bool.not_true, Bool.not_false, EV, step, List.map_cons, List.map_nil, Option.map_some, Option.map_none, if_true, if_false, reduceIte, List.getElem?_cons_zero, List.getElem?_cons_succ, Option.getD_some, List.nil_append, List.append_nil, List.cons_append, List.getElem?_nil, Option.getD_none, true_implies, false_implies, not_true_eq_false, not_false_eq_true, and_true, true_and, decide_true, decide_false, Int.natCast_nonneg, Int.toNat_natCast, Nat.mul_one, List.size_toArray, List.getElem?_toArray, List.length_cons, List.length_nil, Nat.zero_add, Nat.add_zero, List.drop_zero, List.take_succ_cons, List.take_zero, List.drop_succ_cons, List.all_cons, List.all_nil, Bool.and_true, Bool.and_self, and_self]
            exact fin _ _ _ e (by simp [sem, f1]) (by simp [sem, f2]) (by simp [sem, f3]) (by simp [sem, Slot.v]) (by simp [sem, Slot.v]) (by simp [sem, Slot.v])
          · rw [if_neg (by omega)] at e
            by_cases hb2 : bitSum i l = (leastTo l s t i).1
            · rw [if_pos hb2] at e
              have ba : IntKind.wrap .i64 ((BitVec.ofInt (IntKind.bits .i64) (((leastTo l s t i).2 : Nat) : Int) &&& BitVec.ofInt (IntKind.bits .i64) (i : Int)).toNat : Int) = (((leastTo l s t i).2 &&& i : Nat) : Int) := band_nat (by omega) (by omega)
              simp (decide := true) only [hb0, hb1, eq_true hb2, f8, f9, f10, hw1, ba, EV2, MVn, qv, qvK, List.set_cons_zero, List.set_cons_succ, List.toList_toArray, Int.reduceToNat, Nat.reduceAdd, Nat.reduceMul, Nat.one_mul, Bool.not_true, Bool.not_false, EV, step, List.map_cons, List.map_nil, Option.map_some, Option.map_none, if_true, if_false, reduceIte, List.getElem?_cons_zero, List.getElem?_cons_succ, Option.getD_some, List.nil_append, List.append_nil, List.cons_append, List.getElem?_nil, Option.getD_none, true_implies, false_implies, not_true_eq_false, not_false_eq_true, and_true, true_and, decide_true, decide_false, Int.natCast_nonneg, Int.toNat_natCast, Nat.mul_one, List.size_toArray, List.getElem?_toArray, List.length_cons, List.length_nil, Nat.zero_add, Nat.add_zero, List.drop_zero, List.take_succ_cons, List.take_zero, List.drop_succ_cons, List.all_cons, List.all_nil, Bool.and_true, Bool.and_self, and_self]
              exact fin _ _ _ e (by simp [sem, f1]) (by simp [sem, f2]) (by simp [sem, f3]) (by simp [sem, f8]) (by simp [sem, Slot.v]) (by simp [sem, Slot.v])
            · rw [if_neg hb2] at e
              simp (decide := true) only [hb0, hb1, hb2, f8, f9, f10, hw1, EV2, MVn, qv, qvK, List.set_cons_zero, List.set_cons_succ, List.toList_toArray, Int.reduceToNat, Nat.reduceAdd, Nat.reduceMul, Nat.one_mul, Bool.not_true, Bool.not_false, EV, step, List.map_cons, List.map_nil, Option.map_some, Option.map_none, if_true, if_false, reduceIte, List.getElem?_cons_zero, List.getElem?_cons_succ, Option.getD_some, List.nil_append, List.append_nil, List.cons_append, List.getElem?_nil, Option.getD_none, true_implies, false_implies, not_true_eq_false, not_false_eq_true, and_true, true_and, decide_true, decide_false, Int.natCast_nonneg, Int.toNat_natCast, Nat.mul_one, List.size_toArray, List.getElem?_toArray, List.length_cons, List.length_nil, Nat.zero_add, Nat.add_zero, List.drop_zero, List.take_succ_cons, List.take_zero, List.drop_succ_cons, List.all_cons, List.all_nil, Bool.and_true, Bool.and_self, and_self]
              exact fin _ _ _ e (by simp [sem, f1]) (by simp [sem, f2]) (by simp [sem, f3]) (by simp [sem, f8]) (by simp [sem, f9]) (by simp [sem, Slot.v])
  · have hlt' : ((i : Int) < ((K : Nat) : Int)) = False := eq_false (by omega)
    have : i = K := by omega
    subst this
    simp (decide := true) only [f3, f10, g0, hsh, hu, hlt', bits_i64, EV2, MVn, qv, qvK, List.set_cons_zero, List.set_cons_succ, List.toList_toArray, Int.reduceToNat, Nat.reduceAdd, Nat.reduceMul, Nat.one_mul, Bool.not_true, Bool.not_false, EV, step, List.map_cons, List.map_nil, Option.map_some, Option.map_none, if_true, if_false, reduceIte, List.getElem?_cons_zero, List.getElem?_cons_succ, Option.getD_some, List.nil_append, List.append_nil, List.cons_append, List.getElem?_nil, Option.getD_none, true_implies, false_implies, not_true_eq_false, not_false_eq_true, and_true, true_and, decide_true, decide_false, Int.natCast_nonneg, Int.toNat_natCast, Nat.mul_one, List.size_toArray, List.getElem?_toArray, List.length_cons, List.length_nil, Nat.zero_add, Nat.add_zero, List.drop_zero, List.take_succ_cons, List.take_zero, List.drop_succ_cons, List.all_cons, List.all_nil, Bool.and_true, Bool.and_self, and_self]
    refine he _ _ _ ?_
    simp (decide := true) only [f3, f8, f9, g0, EV2, MVn, qv, qvK, List.set_cons_zero, List.set_cons_succ, List.toList_toArray, Int.reduceToNat, Nat.reduceAdd, Nat.reduceMul, Nat.one_mul, Bool.not_true, Bool.not_false, EV, step, List.map_cons, List.map_nil, Option.map_some, Option.map_none, if_true, if_false, reduceIte, List.getElem?_cons_zero, List.getElem?_cons_succ, Option.getD_some, List.nil_append, List.append_nil, List.cons_append, List.getElem?_nil, Option.getD_none, true_implies, false_implies, not_true_eq_false, not_false_eq_true, and_true, true_and, decide_true, decide_false, Int.natCast_nonneg, Int.toNat_natCast, Nat.mul_one, List.size_toArray, List.getElem?_toArray, List.length_cons, List.length_nil, Nat.zero_add, Nat.add_zero, List.drop_zero, List.take_succ_cons, List.take_zero, List.drop_succ_cons, List.all_cons, List.all_nil, Bool.and_true, Bool.and_self, and_self]
    refine (members_spec hΓ N _ m' hN).mono ?_
    rintro r m2 ⟨hacc, hm2⟩
    exact hQ _ _ _ ⟨.inr rfl, [.int .i64 (leastTo l s t i).1, r], by simp [X16, R16, resL, sem, Slot.v], r, rfl, hacc.base hm.next, hm.trans hm2⟩

/-! ### Contracts: whether numbers are a flow, by the reference and by the program. -/
set_option maxRecDepth 100000 in
theorem rCheck_spec {Γ : YEnv} (hΓ : YMono Γ) (N : Int) (l : List ArcI) (v : Value) (m : Mem) (h : Arcs m v l) (hnet : NetOk N l) :
    ACalls Try.prog Γ 38 [.agg #[.int .i64 N, v]] m fun r m' => r = .int .i64 0 ∧ Mext m m' := by
  refine acallsW hΓ fok38 (by simp [X38]) fun Q hQ => ?_
  obtain ⟨h2, h24, h200, hok⟩ := hnet
  obtain ⟨ao, c, rfl⟩ := h.len
  have q1 : (N < 2) = False := eq_false (by omega)
  have q2 : (24 < N) = False := eq_false (by omega)
  have q3 : ((200 : Int) < l.length) = False := eq_false (by omega)
  simp (decide := true) only [S38_0, S38_1, S38_2, S38_3, S38_4, S38_5, S38_6, S38_7, S38_8, S38_9, S38_10, S38_11, S38_12, S38_13, S38_14, S38_15, S38_16, S38_17, S38_18, S38_19, S38_20, S38_21, S38_22, S38_23, S38_24, S38_25, S38_26, S38_27, S38_28, S38, X38, G38, q1, q2, q3, EV2, MVn, qv, qvK, List.set_cons_zero, List.set_cons_succ, List.toList_toArray, Int.reduceToNat, Nat.reduceAdd, Nat.reduceMul, Nat.one_mul, Bool.not_true, Bool.not_false, EV, step, List.map_cons, List.map_nil, Option.map_some, Option.map_none, if_true, if_false, reduceIte, List.getElem?_cons_zero, List.getElem?_cons_succ, Option.getD_some, List.nil_append, List.append_nil, List.cons_append, List.getElem?_nil, Option.getD_none, true_implies, false_implies, not_true_eq_false, not_false_eq_true, and_true, true_and, decide_true, decide_false, Int.natCast_nonneg, Int.toNat_natCast, Nat.mul_one, List.size_toArray, List.getElem?_toArray, List.length_cons, List.length_nil, Nat.zero_add, Nat.add_zero, List.drop_zero, List.take_succ_cons, List.take_zero, List.drop_succ_cons, List.all_cons, List.all_nil, Bool.and_true, Bool.and_self, and_self]
  refine W_loop (fun k f m' => ∃ i : Nat, i ≤ l.length ∧ k = l.length - i ∧ Mext m m' ∧ m.next < m'.next ∧ m'.get m.next = some (.cells [.int .i64 N, .slice ao l.length c] 24 2) ∧ (f 1).v = .pointer (some ⟨m.next, 0, none⟩) ∧ (f 3).v = .int .i64 i)
    l.length ⟨0, by omega, rfl, (Mext.refl m).new _, by rw [Mem.next_new]; omega, Mem.get_new _ _, rfl, rfl⟩ hΓ ?_
  rintro k f m' ⟨i, hi, rfl, hm, hnx, g0, f1, f3⟩ Q1 hn he hret
  by_cases hlt : i < l.length
  · have hlt' : ((i : Int) < l.length) = True := eq_true (by omega)
    have hw1 : IntKind.wrap .i64 ((i : Int) + 1) = ((i + 1 : Nat) : Int) := by rw [wrap_i64 (by omega) (by omega)]; omega
    obtain ⟨a, rfl, _, ha, hcs, _⟩ := (h.mext hm).ld hlt
    have hy := hok _ (List.getElem_mem hlt)
    generalize l[i] = y at hcs hy
    obtain ⟨y1, y2, y3, y4, y5⟩ := hy
    simp only [ArcI.cells] at hcs
    have r1 : (y.f < 0) = False := eq_false (by omega)
    have r2 : (N ≤ y.f) = False := eq_false (by omega)
    have r3 : (y.t < 0) = False := eq_false (by omega)
    have r4 : (N ≤ y.t) = False := eq_false (by omega)
    have r5 : (y.f = y.t) = False := eq_false y3
    have r6 : (y.c < 0) = False := eq_false (by omega)
    have r7 : (1000000000 < y.c) = False := eq_false (by omega)
    have n0 : (m.next = m'.next) = False := eq_false (by omega)
    simp (decide := true) only [f1, f3, g0, hlt', hw1, hcs, zc55, n0, r1, r2, r3, r4, r5, r6, r7, EV2, MVn, qv, qvK, List.set_cons_zero, List.set_cons_succ, List.toList_toArray, Int.reduceToNat, Nat.reduceAdd, Nat.reduceMul, Nat.one_mul, Bool.not_true, Bool.not_false, EV, step, List.map_cons, List.map_nil, Option.map_some, Option.map_none, if_true, if_false, reduceIte, List.getElem?_cons_zero, List.getElem?_cons_succ, Option.getD_some, List.nil_append, List.append_nil, List.cons_append, List.getElem?_nil, Option.getD_none, true_implies, false_implies, not_true_eq_false, not_false_eq_true, and_true, true_and, decide_true, decide_false, Int.natCast_nonneg, Int.toNat_natCast, Nat.mul_one, List.size_toArray, List.getElem?_toArray, List.length_cons, List.length_nil, Nat.zero_add, Nat.add_zero, List.drop_zero, List.take_succ_cons, List.take_zero, List.drop_succ_cons, List.all_cons, List.all_nil, Bool.and_true, Bool.and_self, and_self]
    have hmA : Mext m' ((m'.new (.cells [.int .i64 0, .int .i64 0, .int .i64 0] 55 3)).set m'.next (.cells [.int .i64 y.f, .int .i64 y.t, .int .i64 y.c] 55 3)) := ((Mext.refl _).new _).set (Nat.le_refl _) _
    exact hn _ _ _ (by omega) ⟨i + 1, hlt, rfl, hm.trans hmA, by have := hmA.next; omega, (hmA.get _ hnx).trans g0, by simp [sem, f1], by simp [sem, Slot.v]⟩
  · have hlt' : ((i : Int) < l.length) = False := eq_false (by omega)
    simp (decide := true) only [f1, f3, g0, hlt', EV2, MVn, qv, qvK, List.set_cons_zero, List.set_cons_succ, List.toList_toArray, Int.reduceToNat, Nat.reduceAdd, Nat.reduceMul, Nat.one_mul, Bool.not_true, Bool.not_false, EV, step, List.map_cons, List.map_nil, Option.map_some, Option.map_none, if_true, if_false, reduceIte, List.getElem?_cons_zero, List.getElem?_cons_succ, Option.getD_some, List.nil_append, List.append_nil, List.cons_append, List.getElem?_nil, Option.getD_none, true_implies, false_implies, not_true_eq_false, not_false_eq_true, and_true, true_and, decide_true, decide_false, Int.natCast_nonneg, Int.toNat_natCast, Nat.mul_one, List.size_toArray, List.getElem?_toArray, List.length_cons, List.length_nil, Nat.zero_add, Nat.add_zero, List.drop_zero, List.take_succ_cons, List.take_zero, List.drop_succ_cons, List.all_cons, List.all_nil, Bool.and_true, Bool.and_self, and_self]
    refine he _ _ _ ?_
    simp (decide := true) only [EV2, MVn, qv, qvK, List.set_cons_zero, List.set_cons_succ, List.toList_toArray, Int.reduceToNat, Nat.reduceAdd, Nat.reduceMul, Nat.one_mul, Bool.not_true, Bool.not_false, EV, step, List.map_cons, List.map_nil, Option.map_some, Option.map_none, if_true, if_false, reduceIte, List.getElem?_cons_zero, List.getElem?_cons_succ, Option.getD_some, List.nil_append, List.append_nil, List.cons_append, List.getElem?_nil, Option.getD_none, true_implies, false_implies, not_true_eq_false, not_false_eq_true, and_true, true_and, decide_true, decide_false, Int.natCast_nonneg, Int.toNat_natCast, Nat.mul_one, List.size_toArray, List.getElem?_toArray, List.length_cons, List.length_nil, Nat.zero_add, Nat.add_zero, List.drop_zero, List.take_succ_cons, List.take_zero, List.drop_succ_cons, List.all_cons, List.all_nil, Bool.and_true, Bool.and_self, and_self]
    exact hQ _ _ _ ⟨.inr rfl, [.int .i64 0], by simp [X38, R38, resL, sem, Slot.v], rfl, hm⟩

def val1 (a : ArcI) (x p : Int) : Int := (if a.f = p then x else 0) - (if a.t = p then x else 0)
theorem val1_bound {a : ArcI} {x p c : Int} (h0 : 0 ≤ x) (h1 : x ≤ c) : -c ≤ val1 a x p ∧ val1 a x p ≤ c := by
  unfold val1
  split <;> split <;> omega
/-- What goes out at a place less what comes in, by the first n arcs. -/
def valN (l : List ArcI) (F : List Int) (p : Int) : Nat → Int
  | 0 => 0
  | n + 1 => valN l F p n + (match l[n]?, F[n]? with
    | some a, some x => val1 a x p
    | _, _ => 0)
def InR (l : List ArcI) (F : List Int) (n : Nat) : Prop := ∀ k, k < n → ∀ a x, l[k]? = some a → F[k]? = some x → 0 ≤ x ∧ x ≤ a.c
theorem valN_bound {N : Int} {l : List ArcI} (hok : ∀ a ∈ l, ArcI.ok N a) {F : List Int} (p : Int) : ∀ n : Nat, InR l F n → -(n : Int) * 1000000000 ≤ valN l F p n ∧ valN l F p n ≤ (n : Int) * 1000000000
  | 0, _ => by simp [valN]
  | n + 1, h => by
    have ih := valN_bound hok p n fun k hk => h k (by omega)
    simp only [valN]
    split
    · rename_i a x ha hx
      have h1 := h n (by omega) a x ha hx
      have h2 := (hok a (List.mem_of_getElem? ha)).2.2.2
      have h3 := val1_bound (a := a) (p := p) h1.1 (Int.le_trans h1.2 h2.2)
      omega
    · omega
theorem valN_step {l : List ArcI} {F : List Int} (p : Int) {n : Nat} (h1 : n < l.length) (h2 : n < F.length) : valN l F p (n + 1) = valN l F p n + ((if l[n].f = p then F[n] else 0) - (if l[n].t = p then F[n] else 0)) := by
  simp only [valN, List.getElem?_eq_getElem h1, List.getElem?_eq_getElem h2, val1]

set_option maxRecDepth 100000 in
theorem rValue_spec {Γ : YEnv} (hΓ : YMono Γ) (N : Int) (l : List ArcI) (v vf : Value) (F : List Int) (p : Int) (m : Mem) (h : Arcs m v l) (hf : Ints m vf F) (hok : ∀ a ∈ l, ArcI.ok N a) (hl : l.length ≤ 200) (hlen : F.length = l.length) (hin : InR l F l.length) :
    ACalls Try.prog Γ 40 [.agg #[.int .i64 N, v], vf, .int .i64 p] m fun r m' => r = .int .i64 (valN l F p l.length) ∧ Mext m m' := by
  refine acallsW hΓ fok40 (by simp [X40]) fun Q hQ => ?_
  obtain ⟨ao, c, rfl⟩ := h.len
  obtain ⟨fo, d, rfl⟩ := hf.len
  simp (decide := true) only [S40_0, S40_1, S40_2, S40_3, S40_4, S40_5, S40_6, S40_7, S40_8, S40_9, S40_10, S40_11, S40_12, S40_13, S40_14, S40_15, S40_16, S40_17, S40_18, S40_19, S40_20, S40_21, S40_22, S40_23, S40_24, S40_25, S40_26, S40, X40, G40, EV2, MVn, qv, qvK, List.set_cons_zero, List.set_cons_succ, List.toList_toArray, Int.reduceToNat, Nat.reduceAdd, Nat.reduceMul, Nat.one_mul, Bool.not_true, Bool.not_false, EV, step, List.map_cons, List.map_nil, Option.map_some, Option.map_none, if_true, if_false, reduceIte, List.getElem?_cons_zero, List.getElem?_cons_succ, Option.getD_some, List.nil_append, List.append_nil, List.cons_append, List.getElem?_nil, Option.getD_none, true_implies, false_implies, not_true_eq_false, not_false_eq_true, and_true, true_and, decide_true, decide_false, Int.natCast_nonneg, Int.toNat_natCast, Nat.mul_one, List.size_toArray, List.getElem?_toArray, List.length_cons, List.length_nil, Nat.zero_add, Nat.add_zero, List.drop_zero, List.take_succ_cons, List.take_zero, List.drop_succ_cons, List.all_cons, List.all_nil, Bool.and_true, Bool.and_self, and_self]
  refine W_loop (fun k f m' => ∃ i : Nat, i ≤ l.length ∧ k = l.length - i ∧ m' = m.new (.cells [.int .i64 N, .slice ao l.length c] 24 2) ∧ (f 1).v = .slice fo F.length d ∧ (f 2).v = .int .i64 p ∧ (f 3).v = .pointer (some ⟨m.next, 0, none⟩) ∧ (f 7).v = .int .i64 (valN l F p i) ∧ (f 8).v = .int .i64 i)
    l.length ⟨0, by omega, rfl, rfl, rfl, rfl, rfl, rfl, rfl⟩ hΓ ?_
  rintro k f m' ⟨i, hi, rfl, rfl, f1, f2, f3, f7, f8⟩ Q1 hn he hret
  by_cases hlt : i < l.length
  · have hlt' : ((i : Int) < l.length) = True := eq_true (by omega)
    have hlt2 : ((i : Int) < F.length) = True := eq_true (by omega)
    have hw1 : IntKind.wrap .i64 ((i : Int) + 1) = ((i + 1 : Nat) : Int) := by rw [wrap_i64 (by omega) (by omega)]; omega
    obtain ⟨a, rfl, _, ha, _, c0, c1, c2⟩ := h.ld hlt
    obtain ⟨b, rfl, _, hb, d0⟩ := hf.ld (j := i) (by omega)
    have hr := hin i hlt _ _ (List.getElem?_eq_getElem hlt) (List.getElem?_eq_getElem (by omega))
    have hy := hok _ (List.getElem_mem hlt)
    have hstep := valN_step p hlt (F := F) (by omega)
    have hbd := valN_bound hok p i fun k hk => hin k (by omega)
    generalize l[i] = y at *
    generalize F[i]'(by omega) = x at *
    obtain ⟨_, _, y3, y4, y5⟩ := hy
    have na : (a.block = m.next) = False := eq_false (by omega)
    have nb : (b.block = m.next) = False := eq_false (by omega)
    have hwa : IntKind.wrap .i64 (valN l F p i + x) = valN l F p i + x := wrap_i64 (by omega) (by omega)
    have hws : IntKind.wrap .i64 (valN l F p i - x) = valN l F p i - x := wrap_i64 (by omega) (by omega)
    have fin : ∀ (z : Int) (f2 : Fr), z = valN l F p (i + 1) → (f2 1).v = .slice (some b) F.length d → (f2 2).v = .int .i64 p → (f2 3).v = .pointer (some ⟨m.next, 0, none⟩) → (f2 7).v = .int .i64 z → (f2 8).v = .int .i64 ((i + 1 : Nat) : Int) → Q1 .normal f2 (m.new (.cells [.int .i64 N, .slice (some a) l.length c] 24 2)) := by
      intro z f2 hz g1 g2 g3 g7 g8
      exact hn _ _ _ (by omega) ⟨i + 1, hlt, rfl, rfl, g1, g2, g3, by rw [g7, hz], g8⟩
    by_cases h1 : y.f = p
    · have h2 : ¬ y.t = p := by omega
      simp (decide := true) only [f1, f2, f3, f7, f8, hlt', hlt2, hw1, na, nb, c0, c1, d0, eq_true h1, h2, hwa, EV2, MVn, qv, qvK, List.set_cons_zero, List.set_cons_succ, List.toList_toArray, Int.reduceToNat, Nat.reduceAdd, Nat.reduceMul, Nat.one_mul, Bool.not_true, Bool.not_false, EV, step, List.map_cons, List.map_nil, Option.map_some, Option.map_none, if_true, if_false, reduceIte, List.getElem?_cons_zero, List.getElem?_cons_succ, Option.getD_some, List.nil_append, List.append_nil, List.cons_append, List.getElem?_nil, Option.getD_none, true_implies, false_implies, not_true_eq_false, not_false_eq_true, and_true, true_and, decide_true, decide_false, Int.natCast_nonneg, Int.toNat_natCast, Nat.mul_one, List.size_toArray, List.getElem?_toArray, List.length_cons, List.length_nil, Nat.zero_add, Nat.add_zero, List.drop_zero, List.take_succ_cons, List.take_zero, List.drop_succ_cons, List.all_cons, List.all_nil, Bool.and_true, Bool.and_self, and_self]
      exact fin (valN l F p i + x) _ (by rw [hstep, if_pos h1, if_neg h2]; omega) (by simp [sem, f1]) (by simp [sem, f2]) (by simp [sem, f3]) (by simp [sem, Slot.v]) (by simp [sem, Slot.v])
    · by_cases h2 : y.t = p
      · simp (decide := true) only [f1, f2, f3, f7, f8, hlt', hlt2, hw1, na, nb, c0, c1, d0, h1, eq_true h2, hws, EV2, MVn, qv, qvK, List.set_cons_zero, List.set_cons_succ, List.toList_toArray, Int.reduceToNat, Nat.reduceAdd, Nat.reduceMul, Nat.one_mul, Bool.not_true, Bool.not_false, EV, step, List.map_cons, List.map_nil, Option.map_some, Option.map_none, if_true, if_false, reduceIte, List.getElem?_cons_zero, List.getElem?_cons_succ, Option.getD_some, List.nil_append, List.append_nil, List.cons_append, List.getElem?_nil, Option.getD_none, true_implies, false_implies, not_true_eq_false, not_false_eq_true, and_true, true_and, decide_true, decide_false, Int.natCast_nonneg, Int.toNat_natCast, Nat.mul_one, List.size_toArray, List.getElem?_toArray, List.length_cons, List.length_nil, Nat.zero_add, Nat.add_zero, List.drop_zero, List.take_succ_cons, List.take_zero, List.drop_succ_cons, List.all_cons, List.all_nil, Bool.and_true, Bool.and_self, and_self]
        exact fin (valN l F p i - x) _ (by rw [hstep, if_neg h1, if_pos h2]; omega) (by simp [sem, f1]) (by simp [sem, f2]) (by simp [sem, f3]) (by simp [sem, Slot.v]) (by simp [sem, Slot.v])
      · simp (decide := true) only [f1, f2, f3, f7, f8, hlt', hlt2, hw1, na, nb, c0, c1, d0, h1, h2, EV2, MVn, qv, qvK, List.set_cons_zero, List.set_cons_succ, List.toList_toArray, Int.reduceToNat, Nat.reduceAdd, Nat.reduceMul, Nat.one_mul, Bool.not_true, Bool.not_false, EV, step, List.map_cons, List.map_nil, Option.map_some, Option.map_none, if_true, if_false, reduceIte, List.getElem?_cons_zero, List.getElem?_cons_succ, Option.getD_some, List.nil_append, List.append_nil, List.cons_append, List.getElem?_nil, Option.getD_none, true_implies, false_implies, not_true_eq_false, not_false_eq_true, and_true, true_and, decide_true, decide_false, Int.natCast_nonneg, Int.toNat_natCast, Nat.mul_one, List.size_toArray, List.getElem?_toArray, List.length_cons, List.length_nil, Nat.zero_add, Nat.add_zero, List.drop_zero, List.take_succ_cons, List.take_zero, List.drop_succ_cons, List.all_cons, List.all_nil, Bool.and_true, Bool.and_self, and_self]
        exact fin (valN l F p i) _ (by rw [hstep, if_neg h1, if_neg h2]; omega) (by simp [sem, f1]) (by simp [sem, f2]) (by simp [sem, f3]) (by simp [sem, f7]) (by simp [sem, Slot.v])
  · have hlt' : ((i : Int) < l.length) = False := eq_false (by omega)
    have : i = l.length := by omega
    subst this
    simp (decide := true) only [f3, f8, hlt', EV2, MVn, qv, qvK, List.set_cons_zero, List.set_cons_succ, List.toList_toArray, Int.reduceToNat, Nat.reduceAdd, Nat.reduceMul, Nat.one_mul, Bool.not_true, Bool.not_false, EV, step, List.map_cons, List.map_nil, Option.map_some, Option.map_none, if_true, if_false, reduceIte, List.getElem?_cons_zero, List.getElem?_cons_succ, Option.getD_some, List.nil_append, List.append_nil, List.cons_append, List.getElem?_nil, Option.getD_none, true_implies, false_implies, not_true_eq_false, not_false_eq_true, and_true, true_and, decide_true, decide_false, Int.natCast_nonneg, Int.toNat_natCast, Nat.mul_one, List.size_toArray, List.getElem?_toArray, List.length_cons, List.length_nil, Nat.zero_add, Nat.add_zero, List.drop_zero, List.take_succ_cons, List.take_zero, List.drop_succ_cons, List.all_cons, List.all_nil, Bool.and_true, Bool.and_self, and_self]
    refine he _ _ _ ?_
    simp (decide := true) only [f7, EV2, MVn, qv, qvK, List.set_cons_zero, List.set_cons_succ, List.toList_toArray, Int.reduceToNat, Nat.reduceAdd, Nat.reduceMul, Nat.one_mul, Bool.not_true, Bool.not_false, EV, step, List.map_cons, List.map_nil, Option.map_some, Option.map_none, if_true, if_false, reduceIte, List.getElem?_cons_zero, List.getElem?_cons_succ, Option.getD_some, List.nil_append, List.append_nil, List.cons_append, List.getElem?_nil, Option.getD_none, true_implies, false_implies, not_true_eq_false, not_false_eq_true, and_true, true_and, decide_true, decide_false, Int.natCast_nonneg, Int.toNat_natCast, Nat.mul_one, List.size_toArray, List.getElem?_toArray, List.length_cons, List.length_nil, Nat.zero_add, Nat.add_zero, List.drop_zero, List.take_succ_cons, List.take_zero, List.drop_succ_cons, List.all_cons, List.all_nil, Bool.and_true, Bool.and_self, and_self]
    exact hQ _ _ _ ⟨.inr rfl, [.int .i64 (valN l F p l.length)], by simp [X40, R40, resL, sem, Slot.v], rfl, (Mext.refl m).new _⟩

/-- Numbers are a flow. -/
def FlowP (N : Nat) (l : List ArcI) (s t : Nat) (F : List Int) : Prop := F.length = l.length ∧ InR l F l.length ∧ ∀ p : Nat, p < N → p ≠ s → p ≠ t → valN l F p l.length = 0
def JudgeP (N : Nat) (l : List ArcI) (s t : Nat) (F : List Int) (r : Value) : Prop :=
  (FlowP N l s t F ∧ r = .tuple #[.int .i64 (valN l F s l.length), .bool true]) ∨ (¬ FlowP N l s t F ∧ r = .tuple #[.int .i64 0, .bool false])

set_option maxRecDepth 100000 in
theorem rIsFlow_spec {Γ : YEnv} (hΓ : YMono Γ) (N : Nat) (l : List ArcI) (v vf : Value) (F : List Int) (s t : Nat) (m : Mem) (h : Arcs m v l) (hf : Ints m vf F) (hnet : NetOk N l) (hs : s < N) (ht : t < N) (hst : s ≠ t) (hF : F.length < 1000000) :
    ACalls Try.prog Γ 17 [.agg #[.int .i64 N, v], .int .i64 s, .int .i64 t, vf] m fun r m' => JudgeP N l s t F r ∧ Mext m m' := by
  refine acallsW hΓ fok17 (by simp [X17]) fun Q hQ => ?_
  have hends : EndsOk N s t := ⟨by omega, by omega, by omega⟩
  obtain ⟨ao, c, rfl⟩ := h.len
  obtain ⟨fo, d, rfl⟩ := hf.len
  have hm1 : Mext m (m.new (.cells [.int .i64 N, .slice ao l.length c] 24 2)) := (Mext.refl m).new _
  have no : ¬ FlowP N l s t F → ∀ e f m', (e = .normal ∨ e = .ret) → (f 8).v = .int .i64 0 → (f 9).v = .bool false → Mext m m' → Q e f m' := fun hno e f m' he h8 h9 hm =>
    hQ _ _ _ ⟨he, [.int .i64 0, .bool false], by simp [X17, R17, resL, h8, h9], .inr ⟨hno, rfl⟩, hm⟩
  simp (decide := true) only [S17_0, S17_1, S17_2, S17_3, S17_4, S17_5, S17_6, S17_7, S17_8, S17_9, S17_10, S17_11, S17_12, S17_13, S17_14, S17_15, S17_16, S17_17, S17_18, S17_19, S17_20, S17_21, S17_22, S17_23, S17_24, S17_25, S17_26, S17_27, S17_28, S17_29, S17_30, S17_31, S17_32, S17_33, S17_34, S17_35, S17_36, S17_37, S17_38, S17_39, S17_40, S17_41, S17_42, S17_43, S17, X17, G17, EV2, MVn, qv, qvK, List.set_cons_zero, List.set_cons_succ, List.toList_toArray, Int.reduceToNat, Nat.reduceAdd, Nat.reduceMul, Nat.one_mul, Bool.not_true, Bool.not_false, EV, step, List.map_cons, List.map_nil, Option.map_some, Option.map_none, if_true, if_false, reduceIte, List.getElem?_cons_zero, List.getElem?_cons_succ, Option.getD_some, List.nil_append, List.append_nil, List.cons_append, List.getElem?_nil, Option.getD_none, true_implies, false_implies, not_true_eq_false, not_false_eq_true, and_true, true_and, decide_true, decide_false, Int.natCast_nonneg, Int.toNat_natCast, Nat.mul_one, List.size_toArray, List.getElem?_toArray, List.length_cons, List.length_nil, Nat.zero_add, Nat.add_zero, List.drop_zero, List.take_succ_cons, List.take_zero, List.drop_succ_cons, List.all_cons, List.all_nil, Bool.and_true, Bool.and_self, and_self]
  refine (rCheck_spec hΓ N l _ _ (h.mext hm1) hnet).mono ?_
  rintro r m2 ⟨rfl, hm2⟩
  have g2 : m2.get m.next = some (.cells [.int .i64 N, .slice ao l.length c] 24 2) := (hm2.get _ (by rw [Mem.next_new]; omega)).trans (Mem.get_new _ _)
  have hn2 := hm2.next
  rw [Mem.next_new] at hn2
  simp (decide := true) only [g2, ne_eq, EV2, MVn, qv, qvK, List.set_cons_zero, List.set_cons_succ, List.toList_toArray, Int.reduceToNat, Nat.reduceAdd, Nat.reduceMul, Nat.one_mul, Bool.not_true, Bool.not_false, EV, step, List.map_cons, List.map_nil, Option.map_some, Option.map_none, if_true, if_false, reduceIte, List.getElem?_cons_zero, List.getElem?_cons_succ, Option.getD_some, List.nil_append, List.append_nil, List.cons_append, List.getElem?_nil, Option.getD_none, true_implies, false_implies, not_true_eq_false, not_false_eq_true, and_true, true_and, decide_true, decide_false, Int.natCast_nonneg, Int.toNat_natCast, Nat.mul_one, List.size_toArray, List.getElem?_toArray, List.length_cons, List.length_nil, Nat.zero_add, Nat.add_zero, List.drop_zero, List.take_succ_cons, List.take_zero, List.drop_succ_cons, List.all_cons, List.all_nil, Bool.and_true, Bool.and_self, and_self]
  refine (rEnds_spec hΓ N s t m2).mono ?_
  rintro r m3 ⟨rfl, rfl⟩
  rw [if_pos hends]
  have hmm := hm1.trans hm2
  by_cases hlen : F.length = l.length
  · have hlen' : ((F.length : Int) = l.length) = True := eq_true (by omega)
    simp (decide := true) only [g2, hlen', ne_eq, EV2, MVn, qv, qvK, List.set_cons_zero, List.set_cons_succ, List.toList_toArray, Int.reduceToNat, Nat.reduceAdd, Nat.reduceMul, Nat.one_mul, Bool.not_true, Bool.not_false, EV, step, List.map_cons, List.map_nil, Option.map_some, Option.map_none, if_true, if_false, reduceIte, List.getElem?_cons_zero, List.getElem?_cons_succ, Option.getD_some, List.nil_append, List.append_nil, List.cons_append, List.getElem?_nil, Option.getD_none, true_implies, false_implies, not_true_eq_false, not_false_eq_true, and_true, true_and, decide_true, decide_false, Int.natCast_nonneg, Int.toNat_natCast, Nat.mul_one, List.size_toArray, List.getElem?_toArray, List.length_cons, List.length_nil, Nat.zero_add, Nat.add_zero, List.drop_zero, List.take_succ_cons, List.take_zero, List.drop_succ_cons, List.all_cons, List.all_nil, Bool.and_true, Bool.and_self, and_self]
    refine W_loop (fun k f m' => ∃ i : Nat, i ≤ l.length ∧ k = l.length - i ∧ m' = m3 ∧ InR l F i ∧ (f 1).v = .int .i64 s ∧ (f 2).v = .int .i64 t ∧ (f 3).v = .slice fo F.length d ∧ (f 4).v = .pointer (some ⟨m.next, 0, none⟩) ∧ (f 10).v = .int .i64 i)
      l.length ⟨0, by omega, rfl, rfl, fun k hk => by omega, rfl, rfl, rfl, rfl, rfl⟩ hΓ ?_
    rintro k f m' ⟨i, hi, rfl, rfl, hin, f1, f2, f3, f4, f10⟩ Q1 hnr he hret
    by_cases hlt : i < l.length
    · have hlt' : ((i : Int) < l.length) = True := eq_true (by omega)
      have hlt2 : ((i : Int) < F.length) = True := eq_true (by omega)
      have hw1 : IntKind.wrap .i64 ((i : Int) + 1) = ((i + 1 : Nat) : Int) := by rw [wrap_i64 (by omega) (by omega)]; omega
      obtain ⟨a, rfl, _, ha, _, c0, c1, c2⟩ := (h.mext hmm).ld hlt
      obtain ⟨b, rfl, _, hb, d0⟩ := (hf.mext hmm).ld (j := i) (by omega)
      have hin1 : (0 ≤ F[i]'(by omega) ∧ F[i]'(by omega) ≤ (l[i]).c) → InR l F (i + 1) := fun hx k hk a x ha hx2 => by
        by_cases e : k = i
        · subst e
          rw [List.getElem?_eq_getElem hlt] at ha; rw [List.getElem?_eq_getElem (by omega)] at hx2
          cases ha; cases hx2; exact hx
        · exact hin k (by omega) a x ha hx2
      have hout : ¬ (0 ≤ F[i]'(by omega) ∧ F[i]'(by omega) ≤ (l[i]).c) → ¬ FlowP N l s t F := fun hx hp => hx (hp.2.1 i hlt _ _ (List.getElem?_eq_getElem hlt) (List.getElem?_eq_getElem (by omega)))
      generalize l[i] = y at *
      generalize F[i]'(by omega) = x at *
      by_cases h1 : x < 0
      · simp (decide := true) only [f3, f4, f10, g2, hlt', hlt2, d0, h1, EV2, MVn, qv, qvK, List.set_cons_zero, List.set_cons_succ, List.toList_toArray, Int.reduceToNat, Nat.reduceAdd, Nat.reduceMul, Nat.one_mul, Bool.not_true, Bool.not_false, EV, step, List.map_cons, List.map_nil, Option.map_some, Option.map_none, if_true, if_false, reduceIte, List.getElem?_cons_zero, List.getElem?_cons_succ, Option.getD_some, List.nil_append, List.append_nil, List.cons_append, List.getElem?_nil, Option.getD_none, true_implies, false_implies, not_true_eq_false, not_false_eq_true, and_true, true_and, decide_true, decide_false, Int.natCast_nonneg, Int.toNat_natCast, Nat.mul_one, List.size_toArray, List.getElem?_toArray, List.length_cons, List.length_nil, Nat.zero_add, Nat.add_zero, List.drop_zero, List.take_succ_cons, List.take_zero, List.drop_succ_cons, List.all_cons, List.all_nil, Bool.and_true, Bool.and_self, and_self]
        refine hret _ _ ?_
        simp (decide := true) only [EV2, MVn, qv, qvK, List.set_cons_zero, List.set_cons_succ, List.toList_toArray, Int.reduceToNat, Nat.reduceAdd, Nat.reduceMul, Nat.one_mul, Bool.not_true, Bool.not_false, EV, step, List.map_cons, List.map_nil, Option.map_some, Option.map_none, if_true, if_false, reduceIte, List.getElem?_cons_zero, List.getElem?_cons_succ, Option.getD_some, List.nil_append, List.append_nil, List.cons_append, List.getElem?_nil, Option.getD_none, true_implies, false_implies, not_true_eq_false, not_false_eq_true, and_true, true_and, decide_true, decide_false, Int.natCast_nonneg, Int.toNat_natCast, Nat.mul_one, List.size_toArray, List.getElem?_toArray, List.length_cons, List.length_nil, Nat.zero_add, Nat.add_zero, List.drop_zero, List.take_succ_cons, List.take_zero, List.drop_succ_cons, List.all_cons, List.all_nil, Bool.and_true, Bool.and_self, and_self]
        exact no (hout (by omega)) _ _ _ (.inr rfl) (by rfl) (by rfl) hmm
      · by_cases h2 : y.c < x
        · simp (decide := true) only [f3, f4, f10, g2, hlt', hlt2, d0, c2, h1, h2, EV2, MVn, qv, qvK, List.set_cons_zero, List.set_cons_succ, List.toList_toArray, Int.reduceToNat, Nat.reduceAdd, Nat.reduceMul, Nat.one_mul, Bool.not_true, Bool.not_false, EV, step, List.map_cons, List.map_nil, Option.map_some, Option.map_none, if_true, if_false, reduceIte, List.getElem?_cons_zero, List.getElem?_cons_succ, Option.getD_some, List.nil_append, List.append_nil, List.cons_append, List.getElem?_nil, Option.getD_none, true_implies, false_implies, not_true_eq_false, not_false_eq_true, and_true, true_and, decide_true, decide_false, Int.natCast_nonneg, Int.toNat_natCast, Nat.mul_one, List.size_toArray, List.getElem?_toArray, List.length_cons, List.length_nil, Nat.zero_add, Nat.add_zero, List.drop_zero, List.take_succ_cons, List.take_zero, List.drop_succ_cons, List.all_cons, List.all_nil, Bool.and_true, Bool.and_self, and_self]
          refine hret _ _ ?_
          simp (decide := true) only [EV2, MVn, qv, qvK, List.set_cons_zero, List.set_cons_succ, List.toList_toArray, Int.reduceToNat, Nat.reduceAdd, Nat.reduceMul, Nat.one_mul, Bool.not_true, Bool.not_false, EV, step, List.map_cons, List.map_nil, Option.map_some, Option.map_none, if_true, if_false, reduceIte, List.getElem?_cons_zero, List.getElem?_cons_succ, Option.getD_some, List.nil_append, List.append_nil, List.cons_append, List.getElem?_nil, Option.getD_none, true_implies, false_implies, not_true_eq_false, not_false_eq_true, and_true, true_and, decide_true, decide_false, Int.natCast_nonneg, Int.toNat_natCast, Nat.mul_one, List.size_toArray, List.getElem?_toArray, List.length_cons, List.length_nil, Nat.zero_add, Nat.add_zero, List.drop_zero, List.take_succ_cons, List.take_zero, List.drop_succ_cons, List.all_cons, List.all_nil, Bool.and_true, Bool.and_self, and_self]
          exact no (hout (by omega)) _ _ _ (.inr rfl) (by rfl) (by rfl) hmm
        · simp (decide := true) only [f3, f4, f10, g2, hlt', hlt2, d0, c2, h1, h2, hw1, EV2, MVn, qv, qvK, List.set_cons_zero, List.set_cons_succ, List.toList_toArray, Int.reduceToNat, Nat.reduceAdd, Nat.reduceMul, Nat.one_mul, Bool.not_true, Bool.not_false, EV, step, List.map_cons, List.map_nil, Option.map_some, Option.map_none, if_true, if_false, reduceIte, List.getElem?_cons_zero, List.getElem?_cons_succ, Option.getD_some, List.nil_append, List.append_nil, List.cons_append, List.getElem?_nil, Option.getD_none, true_implies, false_implies, not_true_eq_false, not_false_eq_true, and_true, true_and, decide_true, decide_false, Int.natCast_nonneg, Int.toNat_natCast, Nat.mul_one, List.size_toArray, List.getElem?_toArray, List.length_cons, List.length_nil, Nat.zero_add, Nat.add_zero, List.drop_zero, List.take_succ_cons, List.take_zero, List.drop_succ_cons, List.all_cons, List.all_nil, Bool.and_true, Bool.and_self, and_self]
          exact hnr _ _ _ (by omega) ⟨i + 1, hlt, rfl, rfl, hin1 (by omega), by simp [sem, f1], by simp [sem, f2], by simp [sem, f3], by simp [sem, f4], by simp [sem, Slot.v]⟩
    · have hlt' : ((i : Int) < F.length) = False := eq_false (by omega)
      have : i = l.length := by omega
      subst this
      simp (decide := true) only [f3, f10, hlt', EV2, MVn, qv, qvK, List.set_cons_zero, List.set_cons_succ, List.toList_toArray, Int.reduceToNat, Nat.reduceAdd, Nat.reduceMul, Nat.one_mul, Bool.not_true, Bool.not_false, EV, step, List.map_cons, List.map_nil, Option.map_some, Option.map_none, if_true, if_false, reduceIte, List.getElem?_cons_zero, List.getElem?_cons_succ, Option.getD_some, List.nil_append, List.append_nil, List.cons_append, List.getElem?_nil, Option.getD_none, true_implies, false_implies, not_true_eq_false, not_false_eq_true, and_true, true_and, decide_true, decide_false, Int.natCast_nonneg, Int.toNat_natCast, Nat.mul_one, List.size_toArray, List.getElem?_toArray, List.length_cons, List.length_nil, Nat.zero_add, Nat.add_zero, List.drop_zero, List.take_succ_cons, List.take_zero, List.drop_succ_cons, List.all_cons, List.all_nil, Bool.and_true, Bool.and_self, and_self]
      refine he _ _ _ ?_
      simp (decide := true) only [EV2, MVn, qv, qvK, List.set_cons_zero, List.set_cons_succ, List.toList_toArray, Int.reduceToNat, Nat.reduceAdd, Nat.reduceMul, Nat.one_mul, Bool.not_true, Bool.not_false, EV, step, List.map_cons, List.map_nil, Option.map_some, Option.map_none, if_true, if_false, reduceIte, List.getElem?_cons_zero, List.getElem?_cons_succ, Option.getD_some, List.nil_append, List.append_nil, List.cons_append, List.getElem?_nil, Option.getD_none, true_implies, false_implies, not_true_eq_false, not_false_eq_true, and_true, true_and, decide_true, decide_false, Int.natCast_nonneg, Int.toNat_natCast, Nat.mul_one, List.size_toArray, List.getElem?_toArray, List.length_cons, List.length_nil, Nat.zero_add, Nat.add_zero, List.drop_zero, List.take_succ_cons, List.take_zero, List.drop_succ_cons, List.all_cons, List.all_nil, Bool.and_true, Bool.and_self, and_self]
      refine W_loop (fun k f m' => ∃ i : Nat, i ≤ N ∧ k = N - i ∧ Mext m m' ∧ m.next < m'.next ∧ m'.get m.next = some (.cells [.int .i64 N, .slice ao l.length c] 24 2) ∧ (∀ p : Nat, p < i → p ≠ s → p ≠ t → valN l F p l.length = 0) ∧ (f 1).v = .int .i64 s ∧ (f 2).v = .int .i64 t ∧ (f 3).v = .slice fo F.length d ∧ (f 4).v = .pointer (some ⟨m.next, 0, none⟩) ∧ (f 11).v = .int .i64 i)
        N ⟨0, by omega, rfl, hmm, by omega, g2, fun p hp => by omega, by simp [sem, f1], by simp [sem, f2], by simp [sem, f3], by simp [sem, f4], rfl⟩ hΓ ?_
      clear f1 f2 f3 f4 f10 hnr he hret Q1 hlt hlt'
      rintro k f m4 ⟨i, hi, rfl, hm4, hnx, g4, hval, f1, f2, f3, f4, f11⟩ Q1 hnr he hret
      by_cases hlt : i < N
      · have hlt' : ((i : Int) < N) = True := eq_true (by omega)
        have hN24 := hnet.2.1
        have hw1 : IntKind.wrap .i64 ((i : Int) + 1) = ((i + 1 : Nat) : Int) := by rw [wrap_i64 (by omega) (by omega)]; omega
        have next : ∀ (m5 : Mem), Mext m4 m5 → (i ≠ s → i ≠ t → valN l F i l.length = 0) → ∀ f2 : Fr, (f2 1).v = .int .i64 s → (f2 2).v = .int .i64 t → (f2 3).v = .slice fo F.length d → (f2 4).v = .pointer (some ⟨m.next, 0, none⟩) → (f2 11).v = .int .i64 ((i + 1 : Nat) : Int) → Q1 .normal f2 m5 := by
          intro m5 hm5 hv f2 q1 q2 q3 q4 q11
          refine hnr _ _ _ (by omega) ⟨i + 1, hlt, rfl, hm4.trans hm5, by have := hm5.next; omega, (hm5.get _ hnx).trans g4, fun p hp h1 h2 => ?_, q1, q2, q3, q4, q11⟩
          by_cases e : p = i
          · subst e; exact hv h1 h2
          · exact hval p (by omega) h1 h2
        by_cases h1 : i = s
        · have h1' : ((i : Int) = s) = True := eq_true (by omega)
          simp (decide := true) only [f1, f2, f3, f4, f11, g4, hlt', h1', hw1, ne_eq, EV2, MVn, qv, qvK, List.set_cons_zero, List.set_cons_succ, List.toList_toArray, Int.reduceToNat, Nat.reduceAdd, Nat.reduceMul, Nat.one_mul, Bool.not_true, Bool.not_false, EV, step, List.map_cons, List.map_nil, Option.map_some, Option.map_none, if_true, if_false, reduceIte, List.getElem?_cons_zero, List.getElem?_cons_succ, Option.getD_some, List.nil_append, List.append_nil, List.cons_append, List.getElem?_nil, Option.getD_none, true_implies, false_implies, not_true_eq_false, not_false_eq_true, and_true, true_and, decide_true, decide_false, Int.natCast_nonneg, Int.toNat_natCast, Nat.mul_one, List.size_toArray, List.getElem?_toArray, List.length_cons, List.length_nil, Nat.zero_add, Nat.add_zero, List.drop_zero, List.take_succ_cons, List.take_zero, List.drop_succ_cons, List.all_cons, List.all_nil, Bool.and_true, Bool.and_self, and_self]
          exact next m4 (Mext.refl _) (fun h => absurd h1 h) _ (by simp [sem, f1]) (by simp [sem, f2]) (by simp [sem, f3]) (by simp [sem, f4]) (by simp [sem, Slot.v])
        · have h1' : ((i : Int) = s) = False := eq_false (by omega)
          by_cases h2 : i = t
          · have h2' : ((i : Int) = t) = True := eq_true (by omega)
            simp (decide := true) only [f1, f2, f3, f4, f11, g4, hlt', h1', h2', hw1, ne_eq, EV2, MVn, qv, qvK, List.set_cons_zero, List.set_cons_succ, List.toList_toArray, Int.reduceToNat, Nat.reduceAdd, Nat.reduceMul, Nat.one_mul, Bool.not_true, Bool.not_false, EV, step, List.map_cons, List.map_nil, Option.map_some, Option.map_none, if_true, if_false, reduceIte, List.getElem?_cons_zero, List.getElem?_cons_succ, Option.getD_some, List.nil_append, List.append_nil, List.cons_append, List.getElem?_nil, Option.getD_none, true_implies, false_implies, not_true_eq_false, not_false_eq_true, and_true, true_and, decide_true, decide_false, Int.natCast_nonneg, Int.toNat_natCast, Nat.mul_one, List.size_toArray, List.getElem?_toArray, List.length_cons, List.length_nil, Nat.zero_add, Nat.add_zero, List.drop_zero, List.take_succ_cons, List.take_zero, List.drop_succ_cons, List.all_cons, List.all_nil, Bool.and_true, Bool.and_self, and_self]
            exact next m4 (Mext.refl _) (fun _ h => absurd h2 h) _ (by simp [sem, f1]) (by simp [sem, f2]) (by simp [sem, f3]) (by simp [sem, f4]) (by simp [sem, Slot.v])
          · have h2' : ((i : Int) = t) = False := eq_false (by omega)
            simp (decide := true) only [f1, f2, f3, f4, f11, g4, hlt', h1', h2', ne_eq, EV2, MVn, qv, qvK, List.set_cons_zero, List.set_cons_succ, List.toList_toArray, Int.reduceToNat, Nat.reduceAdd, Nat.reduceMul, Nat.one_mul, Bool.not_true, Bool.not_false, EV, step, List.map_cons, List.map_nil, Option.map_some, Option.map_none, if_true, if_false, reduceIte, List.getElem?_cons_zero, List.getElem?_cons_succ, Option.getD_some, List.nil_append, List.append_nil, List.cons_append, List.getElem?_nil, Option.getD_none, true_implies, false_implies, not_true_eq_false, not_false_eq_true, and_true, true_and, decide_true, decide_false, Int.natCast_nonneg, Int.toNat_natCast, Nat.mul_one, List.size_toArray, List.getElem?_toArray, List.length_cons, List.length_nil, Nat.zero_add, Nat.add_zero, List.drop_zero, List.take_succ_cons, List.take_zero, List.drop_succ_cons, List.all_cons, List.all_nil, Bool.and_true, Bool.and_self, and_self]
            refine (rValue_spec hΓ N l _ _ F i m4 (h.mext hm4) (hf.mext hm4) hnet.2.2.2 hnet.2.2.1 hlen hin).mono ?_
            rintro r m5 ⟨rfl, hm5⟩
            by_cases h3 : valN l F i l.length = 0
            · simp (decide := true) only [eq_true h3, f11, hw1, ne_eq, EV2, MVn, qv, qvK, List.set_cons_zero, List.set_cons_succ, List.toList_toArray, Int.reduceToNat, Nat.reduceAdd, Nat.reduceMul, Nat.one_mul, Bool.not_true, Bool.not_false, EV, step, List.map_cons, List.map_nil, Option.map_some, Option.map_none, if_true, if_false, reduceIte, List.getElem?_cons_zero, List.getElem?_cons_succ, Option.getD_some, List.nil_append, List.append_nil, List.cons_append, List.getElem?_nil, Option.getD_none, true_implies, false_implies, not_true_eq_false, not_false_eq_true, and_true, true_and, decide_true, decide_false, Int.natCast_nonneg, Int.toNat_natCast, Nat.mul_one, List.size_toArray, List.getElem?_toArray, List.length_cons, List.length_nil, Nat.zero_add, Nat.add_zero, List.drop_zero, List.take_succ_cons, List.take_zero, List.drop_succ_cons, List.all_cons, List.all_nil, Bool.and_true, Bool.and_self, and_self]
              exact next m5 hm5 (fun _ _ => h3) _ (by first | rfl | simp [sem, f1]) (by first | rfl | simp [sem, f2]) (by first | rfl | simp [sem, f3]) (by first | rfl | simp [sem, f4]) (by simp [sem, Slot.v])
            · simp (decide := true) only [h3, ne_eq, EV2, MVn, qv, qvK, List.set_cons_zero, List.set_cons_succ, List.toList_toArray, Int.reduceToNat, Nat.reduceAdd, Nat.reduceMul, Nat.one_mul, Bool.not_true, Bool.not_false, EV, step, List.map_cons, List.map_nil, Option.map_some, Option.map_none, if_true, if_false, reduceIte, List.getElem?_cons_zero, List.getElem?_cons_succ, Option.getD_some, List.nil_append, List.append_nil, List.cons_append, List.getElem?_nil, Option.getD_none, true_implies, false_implies, not_true_eq_false, not_false_eq_true, and_true, true_and, decide_true, decide_false, Int.natCast_nonneg, Int.toNat_natCast, Nat.mul_one, List.size_toArray, List.getElem?_toArray, List.length_cons, List.length_nil, Nat.zero_add, Nat.add_zero, List.drop_zero, List.take_succ_cons, List.take_zero, List.drop_succ_cons, List.all_cons, List.all_nil, Bool.and_true, Bool.and_self, and_self]
              refine hret _ _ ?_
              simp (decide := true) only [EV2, MVn, qv, qvK, List.set_cons_zero, List.set_cons_succ, List.toList_toArray, Int.reduceToNat, Nat.reduceAdd, Nat.reduceMul, Nat.one_mul, Bool.not_true, Bool.not_false, EV, step, List.map_cons, List.map_nil, Option.map_some, Option.map_none, if_true, if_false, reduceIte, List.getElem?_cons_zero, List.getElem?_cons_succ, Option.getD_some, List.nil_append, List.append_nil, List.cons_append, List.getElem?_nil, Option.getD_none, true_implies, false_implies, not_true_eq_false, not_false_eq_true, and_true, true_and, decide_true, decide_false, Int.natCast_nonneg, Int.toNat_natCast, Nat.mul_one, List.size_toArray, List.getElem?_toArray, List.length_cons, List.length_nil, Nat.zero_add, Nat.add_zero, List.drop_zero, List.take_succ_cons, List.take_zero, List.drop_succ_cons, List.all_cons, List.all_nil, Bool.and_true, Bool.and_self, and_self]
              exact no (fun hp => h3 (hp.2.2 i hlt h1 h2)) _ _ _ (.inr rfl) (by rfl) (by rfl) (hm4.trans hm5)
      · have hlt' : ((i : Int) < N) = False := eq_false (by omega)
        have : i = N := by omega
        subst this
        simp (decide := true) only [f4, f11, g4, hlt', EV2, MVn, qv, qvK, List.set_cons_zero, List.set_cons_succ, List.toList_toArray, Int.reduceToNat, Nat.reduceAdd, Nat.reduceMul, Nat.one_mul, Bool.not_true, Bool.not_false, EV, step, List.map_cons, List.map_nil, Option.map_some, Option.map_none, if_true, if_false, reduceIte, List.getElem?_cons_zero, List.getElem?_cons_succ, Option.getD_some, List.nil_append, List.append_nil, List.cons_append, List.getElem?_nil, Option.getD_none, true_implies, false_implies, not_true_eq_false, not_false_eq_true, and_true, true_and, decide_true, decide_false, Int.natCast_nonneg, Int.toNat_natCast, Nat.mul_one, List.size_toArray, List.getElem?_toArray, List.length_cons, List.length_nil, Nat.zero_add, Nat.add_zero, List.drop_zero, List.take_succ_cons, List.take_zero, List.drop_succ_cons, List.all_cons, List.all_nil, Bool.and_true, Bool.and_self, and_self]
        refine he _ _ _ ?_
        simp (decide := true) only [f1, f3, f4, g4, EV2, MVn, qv, qvK, List.set_cons_zero, List.set_cons_succ, List.toList_toArray, Int.reduceToNat, Nat.reduceAdd, Nat.reduceMul, Nat.one_mul, Bool.not_true, Bool.not_false, EV, step, List.map_cons, List.map_nil, Option.map_some, Option.map_none, if_true, if_false, reduceIte, List.getElem?_cons_zero, List.getElem?_cons_succ, Option.getD_some, List.nil_append, List.append_nil, List.cons_append, List.getElem?_nil, Option.getD_none, true_implies, false_implies, not_true_eq_false, not_false_eq_true, and_true, true_and, decide_true, decide_false, Int.natCast_nonneg, Int.toNat_natCast, Nat.mul_one, List.size_toArray, List.getElem?_toArray, List.length_cons, List.length_nil, Nat.zero_add, Nat.add_zero, List.drop_zero, List.take_succ_cons, List.take_zero, List.drop_succ_cons, List.all_cons, List.all_nil, Bool.and_true, Bool.and_self, and_self]
        refine (rValue_spec hΓ i l _ _ F s m4 (h.mext hm4) (hf.mext hm4) hnet.2.2.2 hnet.2.2.1 hlen hin).mono ?_
        rintro r m5 ⟨rfl, hm5⟩
        exact hQ _ _ _ ⟨.inr rfl, [.int .i64 (valN l F s l.length), .bool true], by rfl, .inl ⟨⟨hlen, hin, hval⟩, rfl⟩, hm4.trans hm5⟩
  · have hlen' : ((F.length : Int) = l.length) = False := eq_false (by omega)
    simp (decide := true) only [g2, hlen', ne_eq, EV2, MVn, qv, qvK, List.set_cons_zero, List.set_cons_succ, List.toList_toArray, Int.reduceToNat, Nat.reduceAdd, Nat.reduceMul, Nat.one_mul, Bool.not_true, Bool.not_false, EV, step, List.map_cons, List.map_nil, Option.map_some, Option.map_none, if_true, if_false, reduceIte, List.getElem?_cons_zero, List.getElem?_cons_succ, Option.getD_some, List.nil_append, List.append_nil, List.cons_append, List.getElem?_nil, Option.getD_none, true_implies, false_implies, not_true_eq_false, not_false_eq_true, and_true, true_and, decide_true, decide_false, Int.natCast_nonneg, Int.toNat_natCast, Nat.mul_one, List.size_toArray, List.getElem?_toArray, List.length_cons, List.length_nil, Nat.zero_add, Nat.add_zero, List.drop_zero, List.take_succ_cons, List.take_zero, List.drop_succ_cons, List.all_cons, List.all_nil, Bool.and_true, Bool.and_self, and_self]
    exact no (fun hp => hlen hp.1) _ _ _ (.inr rfl) (by rfl) (by rfl) hmm

/-! ### Contracts: whether numbers are a flow, by the program. -/
theorem zc95 : Zc Try.prog 95 = iv (fun _ => 0) 24 := by kernel_rfl
theorem valN_out {N : Int} {l : List ArcI} (hok : ∀ a ∈ l, ArcI.ok N a) (F : List Int) {p : Int} (hp : N ≤ p) : ∀ n, valN l F p n = 0
  | 0 => rfl
  | n + 1 => by
    simp only [valN]
    rw [valN_out hok F hp n]
    split
    · rename_i a x ha hx
      obtain ⟨_, h1, _⟩ := hok a (List.mem_of_getElem? ha)
      unfold val1
      rw [if_neg (by omega), if_neg (by omega)]; rfl
    · rfl

set_option maxHeartbeats 2000000 in
set_option maxRecDepth 100000 in
theorem isFlow_spec {Γ : YEnv} (hΓ : YMono Γ) (N : Nat) (l : List ArcI) (v vf : Value) (F : List Int) (s t : Nat) (m : Mem) (h : Arcs m v l) (hf : Ints m vf F) (hnet : NetOk N l) (hs : s < N) (ht : t < N) (hst : s ≠ t) (hF : F.length < 1000000) :
    ACalls Try.prog Γ 19 [.agg #[.int .i64 N, v], .int .i64 s, .int .i64 t, vf] m fun r m' => JudgeP N l s t F r ∧ Mext m m' := by
  refine acallsW hΓ fok19 (by simp [X19]) fun Q hQ => ?_
  have hends : EndsOk N s t := ⟨by omega, by omega, by omega⟩
  have h24 := hnet.2.1
  obtain ⟨ao, c, rfl⟩ := h.len
  obtain ⟨fo, d, rfl⟩ := hf.len
  have hm1 : Mext m (m.new (.cells [.int .i64 N, .slice ao l.length c] 32 2)) := (Mext.refl m).new _
  have no : ¬ FlowP N l s t F → ∀ e f m', (e = .normal ∨ e = .ret) → (f 8).v = .int .i64 0 → (f 9).v = .bool false → Mext m m' → Q e f m' := fun hno e f m' he h8 h9 hm =>
    hQ _ _ _ ⟨he, [.int .i64 0, .bool false], by simp [X19, R19, resL, h8, h9], .inr ⟨hno, rfl⟩, hm⟩
  simp (decide := true) only [S19_0, S19_1, S19_2, S19_3, S19_4, S19_5, S19_6, S19_7, S19_8, S19_9, S19_10, S19_11, S19_12, S19_13, S19_14, S19_15, S19_16, S19_17, S19_18, S19_19, S19_20, S19_21, S19_22, S19_23, S19_24, S19_25, S19_26, S19_27, S19_28, S19_29, S19_30, S19_31, S19_32, S19_33, S19_34, S19_35, S19_36, S19_37, S19_38, S19_39, S19_40, S19_41, S19_42, S19_43, S19_44, S19_45, S19_46, S19_47, S19_48, S19_49, S19_50, S19_51, S19_52, S19_53, S19, X19, G19, EV2, MVn, qv, qvK, List.set_cons_zero, List.set_cons_succ, List.toList_toArray, Int.reduceToNat, Nat.reduceAdd, Nat.reduceMul, Nat.one_mul, Bool.not_true, Bool.not_false, EV, step, List.map_cons, List.map_nil, Option.map_some, Option.map_none, if_true, if_false, reduceIte, List.getElem?_cons_zero, List.getElem?_cons_succ, Option.getD_some, List.nil_append, List.append_nil, List.cons_append, List.getElem?_nil, Option.getD_none, true_implies, false_implies, not_true_eq_false, not_false_eq_true, and_true, true_and, decide_true, decide_false, Int.natCast_nonneg, Int.toNat_natCast, Nat.mul_one, List.size_toArray, List.getElem?_toArray, List.length_cons, List.length_nil, Nat.zero_add, Nat.add_zero, List.drop_zero, List.take_succ_cons, List.take_zero, List.drop_succ_cons, List.all_cons, List.all_nil, Bool.and_true, Bool.and_self, and_self]
  refine (check_spec hΓ N l _ _ (h.mext hm1) (by have := hnet.2.2.1; omega)).mono ?_
  rintro r m2 ⟨rfl, hm2⟩
  have g2 : m2.get m.next = some (.cells [.int .i64 N, .slice ao l.length c] 32 2) := (hm2.get _ (by rw [Mem.next_new]; omega)).trans (Mem.get_new _ _)
  have hn2 := hm2.next
  rw [Mem.next_new] at hn2
  simp (decide := true) only [eq_true hnet, g2, ne_eq, EV2, MVn, qv, qvK, List.set_cons_zero, List.set_cons_succ, List.toList_toArray, Int.reduceToNat, Nat.reduceAdd, Nat.reduceMul, Nat.one_mul, Bool.not_true, Bool.not_false, EV, step, List.map_cons, List.map_nil, Option.map_some, Option.map_none, if_true, if_false, reduceIte, List.getElem?_cons_zero, List.getElem?_cons_succ, Option.getD_some, List.nil_append, List.append_nil, List.cons_append, List.getElem?_nil, Option.getD_none, true_implies, false_implies, not_true_eq_false, not_false_eq_true, and_true, true_and, decide_true, decide_false, Int.natCast_nonneg, Int.toNat_natCast, Nat.mul_one, List.size_toArray, List.getElem?_toArray, List.length_cons, List.length_nil, Nat.zero_add, Nat.add_zero, List.drop_zero, List.take_succ_cons, List.take_zero, List.drop_succ_cons, List.all_cons, List.all_nil, Bool.and_true, Bool.and_self, and_self]
  refine (areEnds_spec hΓ N s t m2).mono ?_
  rintro r m3 ⟨rfl, rfl⟩
  have hmm := hm1.trans hm2
  by_cases hlen : F.length = l.length
  · have hlen' : ((F.length : Int) = l.length) = True := eq_true (by omega)
    have n0 : (m.next = m3.next) = False := eq_false (by omega)
    simp (decide := true) only [eq_true hends, g2, hlen', ne_eq, n0, zc95, EV2, MVn, qv, qvK, List.set_cons_zero, List.set_cons_succ, List.toList_toArray, Int.reduceToNat, Nat.reduceAdd, Nat.reduceMul, Nat.one_mul, Bool.not_true, Bool.not_false, EV, step, List.map_cons, List.map_nil, Option.map_some, Option.map_none, if_true, if_false, reduceIte, List.getElem?_cons_zero, List.getElem?_cons_succ, Option.getD_some, List.nil_append, List.append_nil, List.cons_append, List.getElem?_nil, Option.getD_none, true_implies, false_implies, not_true_eq_false, not_false_eq_true, and_true, true_and, decide_true, decide_false, Int.natCast_nonneg, Int.toNat_natCast, Nat.mul_one, List.size_toArray, List.getElem?_toArray, List.length_cons, List.length_nil, Nat.zero_add, Nat.add_zero, List.drop_zero, List.take_succ_cons, List.take_zero, List.drop_succ_cons, List.all_cons, List.all_nil, Bool.and_true, Bool.and_self, and_self]
    refine W_loop (fun k f m' => ∃ i : Nat, i ≤ l.length ∧ k = l.length - i ∧ Mext m m' ∧ Mext m3 m' ∧ m3.next < m'.next ∧ m'.get m3.next = some (.cells (iv (fun p => valN l F p i) 24) 95 24) ∧ InR l F i ∧ (f 1).v = .int .i64 s ∧ (f 2).v = .int .i64 t ∧ (f 3).v = .slice fo F.length d ∧ (f 10).v = .pointer (some ⟨m3.next, 0, none⟩) ∧
        (f 35).v = .slice ao l.length c ∧ (f 36).v = .int .i64 l.length ∧ (f 37).v = .int .i64 i)
      l.length ⟨0, by omega, rfl, hmm.new _, (Mext.refl _).new _, by rw [Mem.next_new]; omega, Mem.get_new _ _, fun k hk => by omega, rfl, rfl, rfl, rfl, rfl, rfl, rfl⟩ hΓ ?_
    rintro k f m4 ⟨i, hi, rfl, hm4, hm34, hnx, g4, hin, f1, f2, f3, f10, f35, f36, f37⟩ Q1 hnr he hret
    by_cases hlt : i < l.length
    · have hlt' : ((i : Int) < l.length) = True := eq_true (by omega)
      have hlt2 : ((i : Int) < F.length) = True := eq_true (by omega)
      have hw1 : IntKind.wrap .i64 ((i : Int) + 1) = ((i + 1 : Nat) : Int) := by rw [wrap_i64 (by omega) (by omega)]; omega
      obtain ⟨a, rfl, _, ha, hcs, _⟩ := (h.mext hm4).ld hlt
      obtain ⟨b, rfl, _, hb, d0⟩ := (hf.mext hm4).ld (j := i) (by omega)
      have hin1 : (0 ≤ F[i]'(by omega) ∧ F[i]'(by omega) ≤ (l[i]).c) → InR l F (i + 1) := fun hx k hk a x ha hx2 => by
        by_cases e : k = i
        · subst e
          rw [List.getElem?_eq_getElem hlt] at ha; rw [List.getElem?_eq_getElem (by omega)] at hx2
          cases ha; cases hx2; exact hx
        · exact hin k (by omega) a x ha hx2
      have hout : ¬ (0 ≤ F[i]'(by omega) ∧ F[i]'(by omega) ≤ (l[i]).c) → ¬ FlowP N l s t F := fun hx hp => hx (hp.2.1 i hlt _ _ (List.getElem?_eq_getElem hlt) (List.getElem?_eq_getElem (by omega)))
      have hok := hnet.2.2.2
      obtain ⟨p, q, hp, hq, hpN, hqN, hpq⟩ := ok_nat (hok _ (List.getElem_mem hlt))
      have hyc := (hok _ (List.getElem_mem hlt)).2.2.2
      have hstep : ∀ z, valN l F z (i + 1) = valN l F z i + ((if (p : Int) = z then F[i]'(by omega) else 0) - (if (q : Int) = z then F[i]'(by omega) else 0)) := fun z => by rw [valN_step z hlt (F := F) (by omega), hp, hq]
      have hbp := valN_bound hok p i hin
      have hbq := valN_bound hok q i hin
      have hl2 := hnet.2.2.1
      simp only [ArcI.cells, hp, hq] at hcs
      generalize l[i] = y at *
      generalize F[i]'(by omega) = x at *
      have na : (a.block = m4.next) = False := eq_false (by omega)
      have nb : (b.block = m4.next) = False := eq_false (by omega)
      have nc : (m3.next = m4.next) = False := eq_false (by omega)
      have nd : (m4.next = m3.next) = False := eq_false (by omega)
      by_cases h1 : x < 0
      · simp (decide := true) only [f3, f10, f35, f36, f37, hlt', hlt2, hcs, zc73, d0, nb, h1, EV2, MVn, qv, qvK, List.set_cons_zero, List.set_cons_succ, List.toList_toArray, Int.reduceToNat, Nat.reduceAdd, Nat.reduceMul, Nat.one_mul, Bool.not_true, Bool.not_false, EV, step, List.map_cons, List.map_nil, Option.map_some, Option.map_none, if_true, if_false, reduceIte, List.getElem?_cons_zero, List.getElem?_cons_succ, Option.getD_some, List.nil_append, List.append_nil, List.cons_append, List.getElem?_nil, Option.getD_none, true_implies, false_implies, not_true_eq_false, not_false_eq_true, and_true, true_and, decide_true, decide_false, Int.natCast_nonneg, Int.toNat_natCast, Nat.mul_one, List.size_toArray, List.getElem?_toArray, List.length_cons, List.length_nil, Nat.zero_add, Nat.add_zero, List.drop_zero, List.take_succ_cons, List.take_zero, List.drop_succ_cons, List.all_cons, List.all_nil, Bool.and_true, Bool.and_self, and_self]
        refine hret _ _ ?_
        simp (decide := true) only [EV2, MVn, qv, qvK, List.set_cons_zero, List.set_cons_succ, List.toList_toArray, Int.reduceToNat, Nat.reduceAdd, Nat.reduceMul, Nat.one_mul, Bool.not_true, Bool.not_false, EV, step, List.map_cons, List.map_nil, Option.map_some, Option.map_none, if_true, if_false, reduceIte, List.getElem?_cons_zero, List.getElem?_cons_succ, Option.getD_some, List.nil_append, List.append_nil, List.cons_append, List.getElem?_nil, Option.getD_none, true_implies, false_implies, not_true_eq_false, not_false_eq_true, and_true, true_and, decide_true, decide_false, Int.natCast_nonneg, Int.toNat_natCast, Nat.mul_one, List.size_toArray, List.getElem?_toArray, List.length_cons, List.length_nil, Nat.zero_add, Nat.add_zero, List.drop_zero, List.take_succ_cons, List.take_zero, List.drop_succ_cons, List.all_cons, List.all_nil, Bool.and_true, Bool.and_self, and_self]
        exact no (hout (by omega)) _ _ _ (.inr rfl) (by rfl) (by rfl) ((hm4.new _).set (by have := hm4.next; omega) _)
      · by_cases h2 : y.c < x
        · simp (decide := true) only [f3, f10, f35, f36, f37, hlt', hlt2, hcs, zc73, d0, nb, h1, h2, EV2, MVn, qv, qvK, List.set_cons_zero, List.set_cons_succ, List.toList_toArray, Int.reduceToNat, Nat.reduceAdd, Nat.reduceMul, Nat.one_mul, Bool.not_true, Bool.not_false, EV, step, List.map_cons, List.map_nil, Option.map_some, Option.map_none, if_true, if_false, reduceIte, List.getElem?_cons_zero, List.getElem?_cons_succ, Option.getD_some, List.nil_append, List.append_nil, List.cons_append, List.getElem?_nil, Option.getD_none, true_implies, false_implies, not_true_eq_false, not_false_eq_true, and_true, true_and, decide_true, decide_false, Int.natCast_nonneg, Int.toNat_natCast, Nat.mul_one, List.size_toArray, List.getElem?_toArray, List.length_cons, List.length_nil, Nat.zero_add, Nat.add_zero, List.drop_zero, List.take_succ_cons, List.take_zero, List.drop_succ_cons, List.all_cons, List.all_nil, Bool.and_true, Bool.and_self, and_self]
          refine hret _ _ ?_
          simp (decide := true) only [EV2, MVn, qv, qvK, List.set_cons_zero, List.set_cons_succ, List.toList_toArray, Int.reduceToNat, Nat.reduceAdd, Nat.reduceMul, Nat.one_mul, Bool.not_true, Bool.not_false, EV, step, List.map_cons, List.map_nil, Option.map_some, Option.map_none, if_true, if_false, reduceIte, List.getElem?_cons_zero, List.getElem?_cons_succ, Option.getD_some, List.nil_append, List.append_nil, List.cons_append, List.getElem?_nil, Option.getD_none, true_implies, false_implies, not_true_eq_false, not_false_eq_true, and_true, true_and, decide_true, decide_false, Int.natCast_nonneg, Int.toNat_natCast, Nat.mul_one, List.size_toArray, List.getElem?_toArray, List.length_cons, List.length_nil, Nat.zero_add, Nat.add_zero, List.drop_zero, List.take_succ_cons, List.take_zero, List.drop_succ_cons, List.all_cons, List.all_nil, Bool.and_true, Bool.and_self, and_self]
          exact no (hout (by omega)) _ _ _ (.inr rfl) (by rfl) (by rfl) ((hm4.new _).set (by have := hm4.next; omega) _)
        · have hp24 : p < 24 := by omega
          have hq24 : q < 24 := by omega
          have hp24' : ((p : Int) < ((24 : Nat) : Int)) = True := eq_true (by omega)
          have hq24' : ((q : Int) < ((24 : Nat) : Int)) = True := eq_true (by omega)
          have hps : (p + 1 ≤ 24) = True := eq_true (by omega)
          have hqs : (q + 1 ≤ 24) = True := eq_true (by omega)
          have hbb : (b.block = m3.next) = False := eq_false (by have := hf.lt _ _ _ rfl; omega)
          have hwa : IntKind.wrap .i64 (valN l F p i + x) = valN l F p i + x := wrap_i64 (by omega) (by omega)
          have hws : IntKind.wrap .i64 (valN l F q i - x) = valN l F q i - x := wrap_i64 (by omega) (by omega)
          have hup : upd (fun z : Nat => valN l F z i) p (valN l F p i + x) q = valN l F q i := upd_ne _ _ (Ne.symm hpq)
          simp (decide := true) only [f3, f10, f35, f36, f37, g4, hlt', hlt2, hcs, zc73, d0, na, nb, nc, nd, hbb, h1, h2, hp24, hq24, hp24', hq24', hps, hqs, iv_get, iv_len, iv_set, hwa, hws, hup, hw1, EV2, MVn, qv, qvK, List.set_cons_zero, List.set_cons_succ, List.toList_toArray, Int.reduceToNat, Nat.reduceAdd, Nat.reduceMul, Nat.one_mul, Bool.not_true, Bool.not_false, EV, step, List.map_cons, List.map_nil, Option.map_some, Option.map_none, if_true, if_false, reduceIte, List.getElem?_cons_zero, List.getElem?_cons_succ, Option.getD_some, List.nil_append, List.append_nil, List.cons_append, List.getElem?_nil, Option.getD_none, true_implies, false_implies, not_true_eq_false, not_false_eq_true, and_true, true_and, decide_true, decide_false, Int.natCast_nonneg, Int.toNat_natCast, Nat.mul_one, List.size_toArray, List.getElem?_toArray, List.length_cons, List.length_nil, Nat.zero_add, Nat.add_zero, List.drop_zero, List.take_succ_cons, List.take_zero, List.drop_succ_cons, List.all_cons, List.all_nil, Bool.and_true, Bool.and_self, and_self]
          refine hnr _ _ _ (by omega) ⟨i + 1, hlt, rfl, (((hm4.new _).set (by have := hm4.next; omega) _).set (by omega) _).set (by omega) _, (((hm34.new _).set (by omega) _).set (Nat.le_refl _) _).set (Nat.le_refl _) _, by simp only [next_set, Mem.next_new]; omega, ?_, hin1 (by omega), by simp [sem, f1], by simp [sem, f2], by simp [sem, f3], by simp [sem, f10], by simp [sem, f35], by simp [sem, f36], by simp [sem, Slot.v]⟩
          rw [Mem.get_set]
          rw [iv_congr (g := fun z => valN l F z (i + 1))]
          intro z hz
          rw [hstep, upd_at, upd_at]
          by_cases e1 : z = q
          · subst e1
            rw [if_pos rfl, if_neg (by omega), if_pos rfl]; omega
          · rw [if_neg e1]
            by_cases e2 : z = p
            · subst e2
              rw [if_pos rfl, if_pos rfl, if_neg (by omega)]; omega
            · rw [if_neg e2, if_neg (by omega), if_neg (by omega)]; omega
    · have hlt' : ((i : Int) < l.length) = False := eq_false (by omega)
      have : i = l.length := by omega
      subst this
      simp (decide := true) only [f36, f37, hlt', EV2, MVn, qv, qvK, List.set_cons_zero, List.set_cons_succ, List.toList_toArray, Int.reduceToNat, Nat.reduceAdd, Nat.reduceMul, Nat.one_mul, Bool.not_true, Bool.not_false, EV, step, List.map_cons, List.map_nil, Option.map_some, Option.map_none, if_true, if_false, reduceIte, List.getElem?_cons_zero, List.getElem?_cons_succ, Option.getD_some, List.nil_append, List.append_nil, List.cons_append, List.getElem?_nil, Option.getD_none, true_implies, false_implies, not_true_eq_false, not_false_eq_true, and_true, true_and, decide_true, decide_false, Int.natCast_nonneg, Int.toNat_natCast, Nat.mul_one, List.size_toArray, List.getElem?_toArray, List.length_cons, List.length_nil, Nat.zero_add, Nat.add_zero, List.drop_zero, List.take_succ_cons, List.take_zero, List.drop_succ_cons, List.all_cons, List.all_nil, Bool.and_true, Bool.and_self, and_self]
      refine he _ _ _ ?_
      simp (decide := true) only [f10, g4, iv_len, iv_take, EV2, MVn, qv, qvK, List.set_cons_zero, List.set_cons_succ, List.toList_toArray, Int.reduceToNat, Nat.reduceAdd, Nat.reduceMul, Nat.one_mul, Bool.not_true, Bool.not_false, EV, step, List.map_cons, List.map_nil, Option.map_some, Option.map_none, if_true, if_false, reduceIte, List.getElem?_cons_zero, List.getElem?_cons_succ, Option.getD_some, List.nil_append, List.append_nil, List.cons_append, List.getElem?_nil, Option.getD_none, true_implies, false_implies, not_true_eq_false, not_false_eq_true, and_true, true_and, decide_true, decide_false, Int.natCast_nonneg, Int.toNat_natCast, Nat.mul_one, List.size_toArray, List.getElem?_toArray, List.length_cons, List.length_nil, Nat.zero_add, Nat.add_zero, List.drop_zero, List.take_succ_cons, List.take_zero, List.drop_succ_cons, List.all_cons, List.all_nil, Bool.and_true, Bool.and_self, and_self]
      refine W_loop (fun k f m' => ∃ i : Nat, i ≤ 24 ∧ k = 24 - i ∧ m' = m4 ∧ (∀ p : Nat, p < i → p ≠ s → p ≠ t → valN l F p l.length = 0) ∧ (f 1).v = .int .i64 s ∧ (f 2).v = .int .i64 t ∧ (f 10).v = .pointer (some ⟨m3.next, 0, none⟩) ∧ (f 77).v = .agg (iv (fun p => valN l F p l.length) 24).toArray ∧ (f 78).v = .int .i64 i)
        24 ⟨0, by omega, rfl, rfl, fun p hp => by omega, by simp [sem, f1], by simp [sem, f2], by simp [sem, f10], by simp [sem, Slot.v], rfl⟩ hΓ ?_
      clear f1 f2 f3 f10 f35 f36 f37 hnr he hret Q1 hlt hlt'
      rintro k f m' ⟨i, hi, rfl, rfl, hval, f1, f2, f10, f77, f78⟩ Q1 hnr he hret
      by_cases hlt : i < 24
      · have hlt' : ((i : Int) < 24) = True := eq_true (by omega)
        have hlt2 : ((i : Int) < ((24 : Nat) : Int)) = True := eq_true (by omega)
        have hw1 : IntKind.wrap .i64 ((i : Int) + 1) = ((i + 1 : Nat) : Int) := by rw [wrap_i64 (by omega) (by omega)]; omega
        have next : (i ≠ s → i ≠ t → valN l F i l.length = 0) → ∀ f2 : Fr, (f2 1).v = .int .i64 s → (f2 2).v = .int .i64 t → (f2 10).v = .pointer (some ⟨m3.next, 0, none⟩) → (f2 77).v = .agg (iv (fun p => valN l F p l.length) 24).toArray → (f2 78).v = .int .i64 ((i + 1 : Nat) : Int) → Q1 .normal f2 m' := by
          intro hv f2 q1 q2 q3 q4 q11
          refine hnr _ _ _ (by omega) ⟨i + 1, hlt, rfl, rfl, fun p hp h1 h2 => ?_, q1, q2, q3, q4, q11⟩
          by_cases e : p = i
          · subst e; exact hv h1 h2
          · exact hval p (by omega) h1 h2
        by_cases h1 : i = s
        · have h1' : ((i : Int) = s) = True := eq_true (by omega)
          simp (decide := true) only [f1, f2, f77, f78, hlt', hlt2, hlt, iv_get, h1', hw1, ne_eq, EV2, MVn, qv, qvK, List.set_cons_zero, List.set_cons_succ, List.toList_toArray, Int.reduceToNat, Nat.reduceAdd, Nat.reduceMul, Nat.one_mul, Bool.not_true, Bool.not_false, EV, step, List.map_cons, List.map_nil, Option.map_some, Option.map_none, if_true, if_false, reduceIte, List.getElem?_cons_zero, List.getElem?_cons_succ, Option.getD_some, List.nil_append, List.append_nil, List.cons_append, List.getElem?_nil, Option.getD_none, true_implies, false_implies, not_true_eq_false, not_false_eq_true, and_true, true_and, decide_true, decide_false, Int.natCast_nonneg, Int.toNat_natCast, Nat.mul_one, List.size_toArray, List.getElem?_toArray, List.length_cons, List.length_nil, Nat.zero_add, Nat.add_zero, List.drop_zero, List.take_succ_cons, List.take_zero, List.drop_succ_cons, List.all_cons, List.all_nil, Bool.and_true, Bool.and_self, and_self]
          exact next (fun h => absurd h1 h) _ (by simp [sem, f1]) (by simp [sem, f2]) (by simp [sem, f10]) (by simp [sem, f77]) (by simp [sem, Slot.v])
        · have h1' : ((i : Int) = s) = False := eq_false (by omega)
          by_cases h2 : i = t
          · have h2' : ((i : Int) = t) = True := eq_true (by omega)
            simp (decide := true) only [f1, f2, f77, f78, hlt', hlt2, hlt, iv_get, h1', h2', hw1, ne_eq, EV2, MVn, qv, qvK, List.set_cons_zero, List.set_cons_succ, List.toList_toArray, Int.reduceToNat, Nat.reduceAdd, Nat.reduceMul, Nat.one_mul, Bool.not_true, Bool.not_false, EV, step, List.map_cons, List.map_nil, Option.map_some, Option.map_none, if_true, if_false, reduceIte, List.getElem?_cons_zero, List.getElem?_cons_succ, Option.getD_some, List.nil_append, List.append_nil, List.cons_append, List.getElem?_nil, Option.getD_none, true_implies, false_implies, not_true_eq_false, not_false_eq_true, and_true, true_and, decide_true, decide_false, Int.natCast_nonneg, Int.toNat_natCast, Nat.mul_one, List.size_toArray, List.getElem?_toArray, List.length_cons, List.length_nil, Nat.zero_add, Nat.add_zero, List.drop_zero, List.take_succ_cons, List.take_zero, List.drop_succ_cons, List.all_cons, List.all_nil, Bool.and_true, Bool.and_self, and_self]
            exact next (fun _ h => absurd h2 h) _ (by simp [sem, f1]) (by simp [sem, f2]) (by simp [sem, f10]) (by simp [sem, f77]) (by simp [sem, Slot.v])
          · have h2' : ((i : Int) = t) = False := eq_false (by omega)
            by_cases h3 : valN l F i l.length = 0
            · simp (decide := true) only [f1, f2, f77, f78, hlt', hlt2, hlt, iv_get, h1', h2', eq_true h3, hw1, ne_eq, EV2, MVn, qv, qvK, List.set_cons_zero, List.set_cons_succ, List.toList_toArray, Int.reduceToNat, Nat.reduceAdd, Nat.reduceMul, Nat.one_mul, Bool.not_true, Bool.not_false, EV, step, List.map_cons, List.map_nil, Option.map_some, Option.map_none, if_true, if_false, reduceIte, List.getElem?_cons_zero, List.getElem?_cons_succ, Option.getD_some, List.nil_append, List.append_nil, List.cons_append, List.getElem?_nil, Option.getD_none, true_implies, false_implies, not_true_eq_false, not_false_eq_true, and_true, true_and, decide_true, decide_false, Int.natCast_nonneg, Int.toNat_natCast, Nat.mul_one, List.size_toArray, List.getElem?_toArray, List.length_cons, List.length_nil, Nat.zero_add, Nat.add_zero, List.drop_zero, List.take_succ_cons, List.take_zero, List.drop_succ_cons, List.all_cons, List.all_nil, Bool.and_true, Bool.and_self, and_self]
              exact next (fun _ _ => h3) _ (by simp [sem, f1]) (by simp [sem, f2]) (by simp [sem, f10]) (by simp [sem, f77]) (by simp [sem, Slot.v])
            · simp (decide := true) only [f1, f2, f77, f78, hlt', hlt2, hlt, iv_get, h1', h2', h3, ne_eq, EV2, MVn, qv, qvK, List.set_cons_zero, List.set_cons_succ, List.toList_toArray, Int.reduceToNat, Nat.reduceAdd, Nat.reduceMul, Nat.one_mul, Bool.not_true, Bool.not_false, EV, step, List.map_cons, List.map_nil, Option.map_some, Option.map_none, if_true, if_false, reduceIte, List.getElem?_cons_zero, List.getElem?_cons_succ, Option.getD_some, List.nil_append, List.append_nil, List.cons_append, List.getElem?_nil, Option.getD_none, true_implies, false_implies, not_true_eq_false, not_false_eq_true, and_true, true_and, decide_true, decide_false, Int.natCast_nonneg, Int.toNat_natCast, Nat.mul_one, List.size_toArray, List.getElem?_toArray, List.length_cons, List.length_nil, Nat.zero_add, Nat.add_zero, List.drop_zero, List.take_succ_cons, List.take_zero, List.drop_succ_cons, List.all_cons, List.all_nil, Bool.and_true, Bool.and_self, and_self]
              refine hret _ _ ?_
              simp (decide := true) only [EV2, MVn, qv, qvK, List.set_cons_zero, List.set_cons_succ, List.toList_toArray, Int.reduceToNat, Nat.reduceAdd, Nat.reduceMul, Nat.one_mul, Bool.not_true, Bool.not_false, EV, step, List.map_cons, List.map_nil, Option.map_some, Option.map_none, if_true, if_false, reduceIte, List.getElem?_cons_zero, List.getElem?_cons_succ, Option.getD_some, List.nil_append, List.append_nil, List.cons_append, List.getElem?_nil, Option.getD_none, true_implies, false_implies, not_true_eq_false, not_false_eq_true, and_true, true_and, decide_true, decide_false, Int.natCast_nonneg, Int.toNat_natCast, Nat.mul_one, List.size_toArray, List.getElem?_toArray, List.length_cons, List.length_nil, Nat.zero_add, Nat.add_zero, List.drop_zero, List.take_succ_cons, List.take_zero, List.drop_succ_cons, List.all_cons, List.all_nil, Bool.and_true, Bool.and_self, and_self]
              refine no (fun hp => h3 ?_) _ _ _ (.inr rfl) (by rfl) (by rfl) hm4
              by_cases hiN : i < N
              · exact hp.2.2 i hiN h1 h2
              · exact valN_out hnet.2.2.2 F (by omega) _
      · have hlt' : ((i : Int) < 24) = False := eq_false (by omega)
        have hs24 : s < 24 := by omega
        have hs24' : ((s : Int) < ((24 : Nat) : Int)) = True := eq_true (by omega)
        simp (decide := true) only [f78, hlt', EV2, MVn, qv, qvK, List.set_cons_zero, List.set_cons_succ, List.toList_toArray, Int.reduceToNat, Nat.reduceAdd, Nat.reduceMul, Nat.one_mul, Bool.not_true, Bool.not_false, EV, step, List.map_cons, List.map_nil, Option.map_some, Option.map_none, if_true, if_false, reduceIte, List.getElem?_cons_zero, List.getElem?_cons_succ, Option.getD_some, List.nil_append, List.append_nil, List.cons_append, List.getElem?_nil, Option.getD_none, true_implies, false_implies, not_true_eq_false, not_false_eq_true, and_true, true_and, decide_true, decide_false, Int.natCast_nonneg, Int.toNat_natCast, Nat.mul_one, List.size_toArray, List.getElem?_toArray, List.length_cons, List.length_nil, Nat.zero_add, Nat.add_zero, List.drop_zero, List.take_succ_cons, List.take_zero, List.drop_succ_cons, List.all_cons, List.all_nil, Bool.and_true, Bool.and_self, and_self]
        refine he _ _ _ ?_
        simp (decide := true) only [f1, f10, g4, hs24, hs24', iv_get, EV2, MVn, qv, qvK, List.set_cons_zero, List.set_cons_succ, List.toList_toArray, Int.reduceToNat, Nat.reduceAdd, Nat.reduceMul, Nat.one_mul, Bool.not_true, Bool.not_false, EV, step, List.map_cons, List.map_nil, Option.map_some, Option.map_none, if_true, if_false, reduceIte, List.getElem?_cons_zero, List.getElem?_cons_succ, Option.getD_some, List.nil_append, List.append_nil, List.cons_append, List.getElem?_nil, Option.getD_none, true_implies, false_implies, not_true_eq_false, not_false_eq_true, and_true, true_and, decide_true, decide_false, Int.natCast_nonneg, Int.toNat_natCast, Nat.mul_one, List.size_toArray, List.getElem?_toArray, List.length_cons, List.length_nil, Nat.zero_add, Nat.add_zero, List.drop_zero, List.take_succ_cons, List.take_zero, List.drop_succ_cons, List.all_cons, List.all_nil, Bool.and_true, Bool.and_self, and_self]
        exact hQ _ _ _ ⟨.inr rfl, [.int .i64 (valN l F s l.length), .bool true], by rfl, .inl ⟨⟨hlen, hin, fun p hp h1 h2 => hval p (by omega) h1 h2⟩, rfl⟩, hm4⟩
  · have hlen' : ((F.length : Int) = l.length) = False := eq_false (by omega)
    simp (decide := true) only [eq_true hends, g2, hlen', ne_eq, EV2, MVn, qv, qvK, List.set_cons_zero, List.set_cons_succ, List.toList_toArray, Int.reduceToNat, Nat.reduceAdd, Nat.reduceMul, Nat.one_mul, Bool.not_true, Bool.not_false, EV, step, List.map_cons, List.map_nil, Option.map_some, Option.map_none, if_true, if_false, reduceIte, List.getElem?_cons_zero, List.getElem?_cons_succ, Option.getD_some, List.nil_append, List.append_nil, List.cons_append, List.getElem?_nil, Option.getD_none, true_implies, false_implies, not_true_eq_false, not_false_eq_true, and_true, true_and, decide_true, decide_false, Int.natCast_nonneg, Int.toNat_natCast, Nat.mul_one, List.size_toArray, List.getElem?_toArray, List.length_cons, List.length_nil, Nat.zero_add, Nat.add_zero, List.drop_zero, List.take_succ_cons, List.take_zero, List.drop_succ_cons, List.all_cons, List.all_nil, Bool.and_true, Bool.and_self, and_self]
    exact no (fun hp => hlen hp.1) _ _ _ (.inr rfl) (by rfl) (by rfl) hmm
end Go.Proofs.Ytnhodgonmceojaa.Sh
